/-
  No cell of these rows narrows 'for every input' (looked for: loops, veiled, ifaces, maps, wideKeys, modest, calm, conditions, laid).
  DERIVED. THE GIVEN ROWS OF THIS SEAT. 7 by the template 'for every input the law returns true; each argument reads behind the call as it read before'; 0 by the template 'total and deterministic' (their statements: YtkdgpdijbobmkaaGreatTotals.lean).
  GIVEN WITH THE SEED: the statements are not yours to turn. If you find one false, say at which input.
  Laid BY PROGRAM, IN A SANDBOX (cutbox-rows.mjs): the forced cells as the released guide's own fill.sh prints them over the translation 61873fa24aebd93a… (all of the seat's roots in one cut). By AI agents, Wed Nov 11 2026. No macro, syntax, notation, axiom, sorry.
-/
import Derived.Test.YtkdgpdijbobmkaaGreatChecked
import GoSem.Claim
import GoSem.ClaimJoined
import GoSem.ClaimMapViews
import Derived.JoinedTies
import Derived.KernelRfl
namespace Go.Proofs.YtkdgpdijbobmkaaGreat
/- THE CELL 'sum', in the pinned program and in every row, IS THE sha256 OF THE DUMP (.gsa) THAT YtkdgpdijbobmkaaGreatProg.lean LOADS. Nothing in Lean hashes anything: it is a label: what it is worth is what the hold of that sum in a sandbox is worth. -/
noncomputable def Tryz.pinned : Pinned := { name := "ytkdgpdijbobmkaagreat", sum := "61873fa24aebd93a6fcc981bfa4555f073982eea640431504f421d7a752cc9c8", checked := Tryz.checked }
namespace Rows
def none {H : Type} : Left H := { results := [], args := [] }

/-- 'pitlaw4.FloorPays': WHATEVER THE INPUT: true; the input reads as it did. -/
def floorPaysSpec : ChangeSpec := { name := "floorPays", fn := fun _ => fun
  | [d1, d2, d3] => { results := [.lit (.bool true)], args := [d1, d2, d3] }
  | _ => none }
def floorPaysRow : OpenClaim := { program := "ytkdgpdijbobmkaagreat", sum := "61873fa24aebd93a6fcc981bfa4555f073982eea640431504f421d7a752cc9c8", func := "pitfloor/pitlaw4.FloorPays", spec := "floorPays", inPlace := ["slices.overlaps[pitfloor/api.Level]"], unfollowed := true, recurses := true, apart := false }
def FloorPaysSaid : Prop := floorPaysRow.holds Tryz.pinned (OpenSpec.ofChange floorPaysSpec)

/-- ITS FALSE NEIGHBOUR: 'it returns false'. Refute it at one input. -/
def floorPaysWrong : ChangeSpec := { name := "floorPays", fn := fun _ => fun
  | [d1, d2, d3] => { results := [.lit (.bool false)], args := [d1, d2, d3] }
  | _ => none }
def FloorPaysWrongFalsely : Prop := floorPaysRow.holds Tryz.pinned (OpenSpec.ofChange floorPaysWrong)

/-- 'pitlaw4.FloorWakes': WHATEVER THE INPUT: true; the input reads as it did. -/
def floorWakesSpec : ChangeSpec := { name := "floorWakes", fn := fun _ => fun
  | [d] => { results := [.lit (.bool true)], args := [d] }
  | _ => none }
def floorWakesRow : OpenClaim := { program := "ytkdgpdijbobmkaagreat", sum := "61873fa24aebd93a6fcc981bfa4555f073982eea640431504f421d7a752cc9c8", func := "pitfloor/pitlaw4.FloorWakes", spec := "floorWakes", inPlace := ["slices.overlaps[pitfloor/api.Level]"], unfollowed := true, recurses := true, apart := false }
def FloorWakesSaid : Prop := floorWakesRow.holds Tryz.pinned (OpenSpec.ofChange floorWakesSpec)

/-- ITS FALSE NEIGHBOUR: 'it returns false'. Refute it at one input. -/
def floorWakesWrong : ChangeSpec := { name := "floorWakes", fn := fun _ => fun
  | [d] => { results := [.lit (.bool false)], args := [d] }
  | _ => none }
def FloorWakesWrongFalsely : Prop := floorWakesRow.holds Tryz.pinned (OpenSpec.ofChange floorWakesWrong)

/-- 'pitlaw2.FloorHolds': WHATEVER THE INPUT: true; the input reads as it did. -/
def floorHoldsSpec : ChangeSpec := { name := "floorHolds", fn := fun _ => fun
  | [d1, d2] => { results := [.lit (.bool true)], args := [d1, d2] }
  | _ => none }
def floorHoldsRow : OpenClaim := { program := "ytkdgpdijbobmkaagreat", sum := "61873fa24aebd93a6fcc981bfa4555f073982eea640431504f421d7a752cc9c8", func := "pitfloor/pitlaw2.FloorHolds", spec := "floorHolds", inPlace := ["slices.overlaps[pitfloor/api.Level]"], unfollowed := true, recurses := true, apart := false }
def FloorHoldsSaid : Prop := floorHoldsRow.holds Tryz.pinned (OpenSpec.ofChange floorHoldsSpec)

/-- ITS FALSE NEIGHBOUR: 'it returns false'. Refute it at one input. -/
def floorHoldsWrong : ChangeSpec := { name := "floorHolds", fn := fun _ => fun
  | [d1, d2] => { results := [.lit (.bool false)], args := [d1, d2] }
  | _ => none }
def FloorHoldsWrongFalsely : Prop := floorHoldsRow.holds Tryz.pinned (OpenSpec.ofChange floorHoldsWrong)

/-- 'pittop.TopCancels': WHATEVER THE INPUT: true; the input reads as it did. -/
def topCancelsSpec : ChangeSpec := { name := "topCancels", fn := fun _ => fun
  | [d1, d2] => { results := [.lit (.bool true)], args := [d1, d2] }
  | _ => none }
def topCancelsRow : OpenClaim := { program := "ytkdgpdijbobmkaagreat", sum := "61873fa24aebd93a6fcc981bfa4555f073982eea640431504f421d7a752cc9c8", func := "pitfloor/pittop.TopCancels", spec := "topCancels", inPlace := ["slices.overlaps[pitfloor/api.Level]"], unfollowed := true, recurses := true, apart := false }
def TopCancelsSaid : Prop := topCancelsRow.holds Tryz.pinned (OpenSpec.ofChange topCancelsSpec)

/-- ITS FALSE NEIGHBOUR: 'it returns false'. Refute it at one input. -/
def topCancelsWrong : ChangeSpec := { name := "topCancels", fn := fun _ => fun
  | [d1, d2] => { results := [.lit (.bool false)], args := [d1, d2] }
  | _ => none }
def TopCancelsWrongFalsely : Prop := topCancelsRow.holds Tryz.pinned (OpenSpec.ofChange topCancelsWrong)

/-- 'pittop.TopBars': WHATEVER THE INPUT: true; the input reads as it did. -/
def topBarsSpec : ChangeSpec := { name := "topBars", fn := fun _ => fun
  | [d1, d2, d3] => { results := [.lit (.bool true)], args := [d1, d2, d3] }
  | _ => none }
def topBarsRow : OpenClaim := { program := "ytkdgpdijbobmkaagreat", sum := "61873fa24aebd93a6fcc981bfa4555f073982eea640431504f421d7a752cc9c8", func := "pitfloor/pittop.TopBars", spec := "topBars", inPlace := ["slices.overlaps[pitfloor/api.Level]"], unfollowed := true, recurses := true, apart := false }
def TopBarsSaid : Prop := topBarsRow.holds Tryz.pinned (OpenSpec.ofChange topBarsSpec)

/-- ITS FALSE NEIGHBOUR: 'it returns false'. Refute it at one input. -/
def topBarsWrong : ChangeSpec := { name := "topBars", fn := fun _ => fun
  | [d1, d2, d3] => { results := [.lit (.bool false)], args := [d1, d2, d3] }
  | _ => none }
def TopBarsWrongFalsely : Prop := topBarsRow.holds Tryz.pinned (OpenSpec.ofChange topBarsWrong)

/-- 'pitlaw4.TwinBack': WHATEVER THE INPUT: true; the input reads as it did. -/
def twinBackSpec : ChangeSpec := { name := "twinBack", fn := fun _ => fun
  | [d] => { results := [.lit (.bool true)], args := [d] }
  | _ => none }
def twinBackRow : OpenClaim := { program := "ytkdgpdijbobmkaagreat", sum := "61873fa24aebd93a6fcc981bfa4555f073982eea640431504f421d7a752cc9c8", func := "pitfloor/pitlaw4.TwinBack", spec := "twinBack", inPlace := ["slices.overlaps[pitfloor/api.Level]"], unfollowed := true, recurses := true, apart := false }
def TwinBackSaid : Prop := twinBackRow.holds Tryz.pinned (OpenSpec.ofChange twinBackSpec)

/-- ITS FALSE NEIGHBOUR: 'it returns false'. Refute it at one input. -/
def twinBackWrong : ChangeSpec := { name := "twinBack", fn := fun _ => fun
  | [d] => { results := [.lit (.bool false)], args := [d] }
  | _ => none }
def TwinBackWrongFalsely : Prop := twinBackRow.holds Tryz.pinned (OpenSpec.ofChange twinBackWrong)

/-- 'pitlaw3.TwinSame': WHATEVER THE INPUT: true; the input reads as it did. -/
def twinSameSpec : ChangeSpec := { name := "twinSame", fn := fun _ => fun
  | [d1, d2, d3] => { results := [.lit (.bool true)], args := [d1, d2, d3] }
  | _ => none }
def twinSameRow : OpenClaim := { program := "ytkdgpdijbobmkaagreat", sum := "61873fa24aebd93a6fcc981bfa4555f073982eea640431504f421d7a752cc9c8", func := "pitfloor/pitlaw3.TwinSame", spec := "twinSame", inPlace := ["slices.overlaps[pitfloor/api.Level]"], unfollowed := true, recurses := true, apart := false }
def TwinSameSaid : Prop := twinSameRow.holds Tryz.pinned (OpenSpec.ofChange twinSameSpec)

/-- ITS FALSE NEIGHBOUR: 'it returns false'. Refute it at one input. -/
def twinSameWrong : ChangeSpec := { name := "twinSame", fn := fun _ => fun
  | [d1, d2, d3] => { results := [.lit (.bool false)], args := [d1, d2, d3] }
  | _ => none }
def TwinSameWrongFalsely : Prop := twinSameRow.holds Tryz.pinned (OpenSpec.ofChange twinSameWrong)

/- THE SECOND FORM. 'bulk': how many values and letters a reading holds, each counted each time it is reached (what is shared counts as often as it is met; a slice's spare places count too). A statement '..UptoSaid' is the law's where the arguments, and the package variables that the reading takes, are together of bulk at most 1048576: NARROWER than '..Said'. Prove '..Said' where nothing that the law and all that it calls make is longer than what came in: it says more and counts as full. Else prove '..UptoSaid'. A law counts once. -/
mutual
def uptoBulk {H : Type} : DataW H → Nat
  | .lit (.string bytes) => bytes.length + 1
  | .lit _ => 1
  | .nil => 1
  | .ptr d => uptoBulk d + 1
  | .slice elems spare => uptoBulkAll elems + uptoBulkAll spare + 1
  | .agg parts => uptoBulkAll parts + 1
  | .iface _ d => uptoBulk d + 1
  | .map entries => uptoBulkEntries entries + 1
  | .held _ => 1
def uptoBulkAll {H : Type} : List (DataW H) → Nat
  | [] => 0
  | d :: r => uptoBulk d + uptoBulkAll r
def uptoBulkEntries {H : Type} : List (Lit × DataW H) → Nat
  | [] => 0
  | x :: r => uptoBulkEntry x + uptoBulkEntries r
def uptoBulkEntry {H : Type} : Lit × DataW H → Nat
  | (.string bytes, d) => bytes.length + uptoBulk d + 1
  | (_, d) => uptoBulk d + 1
 end
def uptoSmall : (H : Type) → List (DataW H) → Bool := fun _ ds => decide (uptoBulkAll ds ≤ 1048576)
def OpenSpec.upto (s : _root_.Go.ChangeSpec) : _root_.Go.OpenSpec := { _root_.Go.OpenSpec.ofChange s with cond := some uptoSmall }

/-- 'pitlaw4.FloorPays', WHERE WHAT IT READS IS OF BULK AT MOST 1048576: true; the input reads as it did. -/
def floorPaysUptoRow : OpenClaim := { program := "ytkdgpdijbobmkaagreat", sum := "61873fa24aebd93a6fcc981bfa4555f073982eea640431504f421d7a752cc9c8", func := "pitfloor/pitlaw4.FloorPays", spec := "floorPays", inPlace := ["slices.overlaps[pitfloor/api.Level]"], unfollowed := true, recurses := true, apart := false, narrowed := true }
def FloorPaysUptoSaid : Prop := floorPaysUptoRow.holds Tryz.pinned (OpenSpec.upto floorPaysSpec)

/-- 'pitlaw4.FloorWakes', WHERE WHAT IT READS IS OF BULK AT MOST 1048576: true; the input reads as it did. -/
def floorWakesUptoRow : OpenClaim := { program := "ytkdgpdijbobmkaagreat", sum := "61873fa24aebd93a6fcc981bfa4555f073982eea640431504f421d7a752cc9c8", func := "pitfloor/pitlaw4.FloorWakes", spec := "floorWakes", inPlace := ["slices.overlaps[pitfloor/api.Level]"], unfollowed := true, recurses := true, apart := false, narrowed := true }
def FloorWakesUptoSaid : Prop := floorWakesUptoRow.holds Tryz.pinned (OpenSpec.upto floorWakesSpec)

/-- 'pitlaw2.FloorHolds', WHERE WHAT IT READS IS OF BULK AT MOST 1048576: true; the input reads as it did. -/
def floorHoldsUptoRow : OpenClaim := { program := "ytkdgpdijbobmkaagreat", sum := "61873fa24aebd93a6fcc981bfa4555f073982eea640431504f421d7a752cc9c8", func := "pitfloor/pitlaw2.FloorHolds", spec := "floorHolds", inPlace := ["slices.overlaps[pitfloor/api.Level]"], unfollowed := true, recurses := true, apart := false, narrowed := true }
def FloorHoldsUptoSaid : Prop := floorHoldsUptoRow.holds Tryz.pinned (OpenSpec.upto floorHoldsSpec)

/-- 'pittop.TopCancels', WHERE WHAT IT READS IS OF BULK AT MOST 1048576: true; the input reads as it did. -/
def topCancelsUptoRow : OpenClaim := { program := "ytkdgpdijbobmkaagreat", sum := "61873fa24aebd93a6fcc981bfa4555f073982eea640431504f421d7a752cc9c8", func := "pitfloor/pittop.TopCancels", spec := "topCancels", inPlace := ["slices.overlaps[pitfloor/api.Level]"], unfollowed := true, recurses := true, apart := false, narrowed := true }
def TopCancelsUptoSaid : Prop := topCancelsUptoRow.holds Tryz.pinned (OpenSpec.upto topCancelsSpec)

/-- 'pittop.TopBars', WHERE WHAT IT READS IS OF BULK AT MOST 1048576: true; the input reads as it did. -/
def topBarsUptoRow : OpenClaim := { program := "ytkdgpdijbobmkaagreat", sum := "61873fa24aebd93a6fcc981bfa4555f073982eea640431504f421d7a752cc9c8", func := "pitfloor/pittop.TopBars", spec := "topBars", inPlace := ["slices.overlaps[pitfloor/api.Level]"], unfollowed := true, recurses := true, apart := false, narrowed := true }
def TopBarsUptoSaid : Prop := topBarsUptoRow.holds Tryz.pinned (OpenSpec.upto topBarsSpec)

/-- 'pitlaw4.TwinBack', WHERE WHAT IT READS IS OF BULK AT MOST 1048576: true; the input reads as it did. -/
def twinBackUptoRow : OpenClaim := { program := "ytkdgpdijbobmkaagreat", sum := "61873fa24aebd93a6fcc981bfa4555f073982eea640431504f421d7a752cc9c8", func := "pitfloor/pitlaw4.TwinBack", spec := "twinBack", inPlace := ["slices.overlaps[pitfloor/api.Level]"], unfollowed := true, recurses := true, apart := false, narrowed := true }
def TwinBackUptoSaid : Prop := twinBackUptoRow.holds Tryz.pinned (OpenSpec.upto twinBackSpec)

/-- 'pitlaw3.TwinSame', WHERE WHAT IT READS IS OF BULK AT MOST 1048576: true; the input reads as it did. -/
def twinSameUptoRow : OpenClaim := { program := "ytkdgpdijbobmkaagreat", sum := "61873fa24aebd93a6fcc981bfa4555f073982eea640431504f421d7a752cc9c8", func := "pitfloor/pitlaw3.TwinSame", spec := "twinSame", inPlace := ["slices.overlaps[pitfloor/api.Level]"], unfollowed := true, recurses := true, apart := false, narrowed := true }
def TwinSameUptoSaid : Prop := twinSameUptoRow.holds Tryz.pinned (OpenSpec.upto twinSameSpec)

end Rows
end Go.Proofs.YtkdgpdijbobmkaaGreat
