/-
  No cell of these rows narrows 'for every input' (looked for: loops, veiled, ifaces, maps, wideKeys, modest, calm, conditions, laid).
  DERIVED. THE GIVEN ROWS OF THIS SEAT. 8 by the template 'for every input the law returns true; each argument reads behind the call as it read before'; 0 by the template 'total and deterministic' (their statements: YtbnjkcgkdpildaaTotals.lean).
  GIVEN WITH THE SEED: the statements are not yours to turn. If you find one false, say at which input.
  Laid BY PROGRAM, IN A SANDBOX (cutbox-rows.mjs): the forced cells as the released guide's own fill.sh prints them over the translation 43721f4f760567de… (all of the seat's roots in one cut). By AI agents, Wed Nov 11 2026. No macro, syntax, notation, axiom, sorry.
-/
import Derived.Test.YtbnjkcgkdpildaaChecked
import GoSem.Claim
import GoSem.ClaimJoined
import GoSem.ClaimMapViews
import Derived.JoinedTies
import Derived.KernelRfl
namespace Go.Proofs.Ytbnjkcgkdpildaa
/- THE CELL 'sum', in the pinned program and in every row, IS THE sha256 OF THE DUMP (.gsa) THAT YtbnjkcgkdpildaaProg.lean LOADS. Nothing in Lean hashes anything: it is a label: what it is worth is what the hold of that sum in a sandbox is worth. -/
noncomputable def Try.pinned : Pinned := { name := "ytbnjkcgkdpildaa", sum := "43721f4f760567de0e90c4ae4e7867af321ccdd017ff3b6c59f82530a54f7d36", checked := Try.checked }
namespace Rows
def none {H : Type} : Left H := { results := [], args := [] }

/-- 'pitlaw4.MeetSweeps': WHATEVER THE INPUT: true; the input reads as it did. -/
def meetSweepsSpec : ChangeSpec := { name := "meetSweeps", fn := fun _ => fun
  | [d1, d2, d3] => { results := [.lit (.bool true)], args := [d1, d2, d3] }
  | _ => none }
def meetSweepsRow : OpenClaim := { program := "ytbnjkcgkdpildaa", sum := "43721f4f760567de0e90c4ae4e7867af321ccdd017ff3b6c59f82530a54f7d36", func := "pitfloor/pitlaw4.MeetSweeps", spec := "meetSweeps", unfollowed := true, recurses := true, apart := false }
def MeetSweepsSaid : Prop := meetSweepsRow.holds Try.pinned (OpenSpec.ofChange meetSweepsSpec)

/-- ITS FALSE NEIGHBOUR: 'it returns false'. Refute it at one input. -/
def meetSweepsWrong : ChangeSpec := { name := "meetSweeps", fn := fun _ => fun
  | [d1, d2, d3] => { results := [.lit (.bool false)], args := [d1, d2, d3] }
  | _ => none }
def MeetSweepsWrongFalsely : Prop := meetSweepsRow.holds Try.pinned (OpenSpec.ofChange meetSweepsWrong)

/-- 'pitlaw1.SideAdds': WHATEVER THE INPUT: true; the input reads as it did. -/
def sideAddsSpec : ChangeSpec := { name := "sideAdds", fn := fun _ => fun
  | [d1, d2, d3, d4] => { results := [.lit (.bool true)], args := [d1, d2, d3, d4] }
  | _ => none }
def sideAddsRow : OpenClaim := { program := "ytbnjkcgkdpildaa", sum := "43721f4f760567de0e90c4ae4e7867af321ccdd017ff3b6c59f82530a54f7d36", func := "pitfloor/pitlaw1.SideAdds", spec := "sideAdds", inPlace := ["slices.overlaps[pitfloor/api.Level]"], unfollowed := true, recurses := true, apart := false }
def SideAddsSaid : Prop := sideAddsRow.holds Try.pinned (OpenSpec.ofChange sideAddsSpec)

/-- ITS FALSE NEIGHBOUR: 'it returns false'. Refute it at one input. -/
def sideAddsWrong : ChangeSpec := { name := "sideAdds", fn := fun _ => fun
  | [d1, d2, d3, d4] => { results := [.lit (.bool false)], args := [d1, d2, d3, d4] }
  | _ => none }
def SideAddsWrongFalsely : Prop := sideAddsRow.holds Try.pinned (OpenSpec.ofChange sideAddsWrong)

/-- 'pitlaw1.MeetFair': WHATEVER THE INPUT: true; the input reads as it did. -/
def meetFairSpec : ChangeSpec := { name := "meetFair", fn := fun _ => fun
  | [d1, d2] => { results := [.lit (.bool true)], args := [d1, d2] }
  | _ => none }
def meetFairRow : OpenClaim := { program := "ytbnjkcgkdpildaa", sum := "43721f4f760567de0e90c4ae4e7867af321ccdd017ff3b6c59f82530a54f7d36", func := "pitfloor/pitlaw1.MeetFair", spec := "meetFair", unfollowed := true, recurses := true, apart := false }
def MeetFairSaid : Prop := meetFairRow.holds Try.pinned (OpenSpec.ofChange meetFairSpec)

/-- ITS FALSE NEIGHBOUR: 'it returns false'. Refute it at one input. -/
def meetFairWrong : ChangeSpec := { name := "meetFair", fn := fun _ => fun
  | [d1, d2] => { results := [.lit (.bool false)], args := [d1, d2] }
  | _ => none }
def MeetFairWrongFalsely : Prop := meetFairRow.holds Try.pinned (OpenSpec.ofChange meetFairWrong)

/-- 'pitlaw1.BookHolds': WHATEVER THE INPUT: true; the input reads as it did. -/
def bookHoldsSpec : ChangeSpec := { name := "bookHolds", fn := fun _ => fun
  | [d1, d2, d3, d4] => { results := [.lit (.bool true)], args := [d1, d2, d3, d4] }
  | _ => none }
def bookHoldsRow : OpenClaim := { program := "ytbnjkcgkdpildaa", sum := "43721f4f760567de0e90c4ae4e7867af321ccdd017ff3b6c59f82530a54f7d36", func := "pitfloor/pitlaw1.BookHolds", spec := "bookHolds", inPlace := ["slices.overlaps[pitfloor/api.Level]"], unfollowed := true, recurses := true, apart := false }
def BookHoldsSaid : Prop := bookHoldsRow.holds Try.pinned (OpenSpec.ofChange bookHoldsSpec)

/-- ITS FALSE NEIGHBOUR: 'it returns false'. Refute it at one input. -/
def bookHoldsWrong : ChangeSpec := { name := "bookHolds", fn := fun _ => fun
  | [d1, d2, d3, d4] => { results := [.lit (.bool false)], args := [d1, d2, d3, d4] }
  | _ => none }
def BookHoldsWrongFalsely : Prop := bookHoldsRow.holds Try.pinned (OpenSpec.ofChange bookHoldsWrong)

/-- 'pitlaw1.KindsKeep': WHATEVER THE INPUT: true; the input reads as it did. -/
def kindsKeepSpec : ChangeSpec := { name := "kindsKeep", fn := fun _ => fun
  | [d1, d2] => { results := [.lit (.bool true)], args := [d1, d2] }
  | _ => none }
def kindsKeepRow : OpenClaim := { program := "ytbnjkcgkdpildaa", sum := "43721f4f760567de0e90c4ae4e7867af321ccdd017ff3b6c59f82530a54f7d36", func := "pitfloor/pitlaw1.KindsKeep", spec := "kindsKeep", inPlace := ["slices.overlaps[pitfloor/api.Level]"], unfollowed := true, recurses := true, apart := false }
def KindsKeepSaid : Prop := kindsKeepRow.holds Try.pinned (OpenSpec.ofChange kindsKeepSpec)

/-- ITS FALSE NEIGHBOUR: 'it returns false'. Refute it at one input. -/
def kindsKeepWrong : ChangeSpec := { name := "kindsKeep", fn := fun _ => fun
  | [d1, d2] => { results := [.lit (.bool false)], args := [d1, d2] }
  | _ => none }
def KindsKeepWrongFalsely : Prop := kindsKeepRow.holds Try.pinned (OpenSpec.ofChange kindsKeepWrong)

/-- 'pitlaw4.SelfGoes': WHATEVER THE INPUT: true; the input reads as it did. -/
def selfGoesSpec : ChangeSpec := { name := "selfGoes", fn := fun _ => fun
  | [d1, d2] => { results := [.lit (.bool true)], args := [d1, d2] }
  | _ => none }
def selfGoesRow : OpenClaim := { program := "ytbnjkcgkdpildaa", sum := "43721f4f760567de0e90c4ae4e7867af321ccdd017ff3b6c59f82530a54f7d36", func := "pitfloor/pitlaw4.SelfGoes", spec := "selfGoes", inPlace := ["slices.overlaps[pitfloor/api.Level]"], unfollowed := true, recurses := true, apart := false }
def SelfGoesSaid : Prop := selfGoesRow.holds Try.pinned (OpenSpec.ofChange selfGoesSpec)

/-- ITS FALSE NEIGHBOUR: 'it returns false'. Refute it at one input. -/
def selfGoesWrong : ChangeSpec := { name := "selfGoes", fn := fun _ => fun
  | [d1, d2] => { results := [.lit (.bool false)], args := [d1, d2] }
  | _ => none }
def SelfGoesWrongFalsely : Prop := selfGoesRow.holds Try.pinned (OpenSpec.ofChange selfGoesWrong)

/-- 'pitlaw1.SelfNever': WHATEVER THE INPUT: true; the input reads as it did. -/
def selfNeverSpec : ChangeSpec := { name := "selfNever", fn := fun _ => fun
  | [d1, d2, d3] => { results := [.lit (.bool true)], args := [d1, d2, d3] }
  | _ => none }
def selfNeverRow : OpenClaim := { program := "ytbnjkcgkdpildaa", sum := "43721f4f760567de0e90c4ae4e7867af321ccdd017ff3b6c59f82530a54f7d36", func := "pitfloor/pitlaw1.SelfNever", spec := "selfNever", inPlace := ["slices.overlaps[pitfloor/api.Level]"], unfollowed := true, recurses := true, apart := false }
def SelfNeverSaid : Prop := selfNeverRow.holds Try.pinned (OpenSpec.ofChange selfNeverSpec)

/-- ITS FALSE NEIGHBOUR: 'it returns false'. Refute it at one input. -/
def selfNeverWrong : ChangeSpec := { name := "selfNever", fn := fun _ => fun
  | [d1, d2, d3] => { results := [.lit (.bool false)], args := [d1, d2, d3] }
  | _ => none }
def SelfNeverWrongFalsely : Prop := selfNeverRow.holds Try.pinned (OpenSpec.ofChange selfNeverWrong)

/-- 'pitlaw2.MarginAdds': WHATEVER THE INPUT: true; the input reads as it did. -/
def marginAddsSpec : ChangeSpec := { name := "marginAdds", fn := fun _ => fun
  | [d1, d2] => { results := [.lit (.bool true)], args := [d1, d2] }
  | _ => none }
def marginAddsRow : OpenClaim := { program := "ytbnjkcgkdpildaa", sum := "43721f4f760567de0e90c4ae4e7867af321ccdd017ff3b6c59f82530a54f7d36", func := "pitfloor/pitlaw2.MarginAdds", spec := "marginAdds", inPlace := ["slices.overlaps[pitfloor/api.Level]"], unfollowed := true, recurses := true, apart := false }
def MarginAddsSaid : Prop := marginAddsRow.holds Try.pinned (OpenSpec.ofChange marginAddsSpec)

/-- ITS FALSE NEIGHBOUR: 'it returns false'. Refute it at one input. -/
def marginAddsWrong : ChangeSpec := { name := "marginAdds", fn := fun _ => fun
  | [d1, d2] => { results := [.lit (.bool false)], args := [d1, d2] }
  | _ => none }
def MarginAddsWrongFalsely : Prop := marginAddsRow.holds Try.pinned (OpenSpec.ofChange marginAddsWrong)

/- THE SECOND FORM. 'bulk': how many values and letters a reading holds, each counted each time it is reached (what is shared counts as often as it is met; a slice's spare places count too). A statement '..UptoSaid' is the law's where the arguments, and the package variables that the reading takes, are together of bulk at most 1048576: NARROWER than '..Said'. Prove '..Said' where nothing that the law and all that it calls make is longer than what came in: it says more and counts as full. Else prove '..UptoSaid'. A law counts once. -/
mutual
def uptoBulk {H : Type} : DataW H → Nat
  | .lit (.string bytes) => bytes.length + 1
  | .lit _ => 1
  | .nil => 1
  | .ptr d => uptoBulk d + 1
  | .slice elems spare => uptoBulkAll elems + uptoBulkAll spare + 1
  | .agg parts => uptoBulkAll parts + 1
  | .iface _ d => uptoBulk d + 1
  | .map entries => uptoBulkEntries entries + 1
  | .held _ => 1
def uptoBulkAll {H : Type} : List (DataW H) → Nat
  | [] => 0
  | d :: r => uptoBulk d + uptoBulkAll r
def uptoBulkEntries {H : Type} : List (Lit × DataW H) → Nat
  | [] => 0
  | x :: r => uptoBulkEntry x + uptoBulkEntries r
def uptoBulkEntry {H : Type} : Lit × DataW H → Nat
  | (.string bytes, d) => bytes.length + uptoBulk d + 1
  | (_, d) => uptoBulk d + 1
 end
def uptoSmall : (H : Type) → List (DataW H) → Bool := fun _ ds => decide (uptoBulkAll ds ≤ 1048576)
def OpenSpec.upto (s : _root_.Go.ChangeSpec) : _root_.Go.OpenSpec := { _root_.Go.OpenSpec.ofChange s with cond := some uptoSmall }

/-- 'pitlaw4.MeetSweeps', WHERE WHAT IT READS IS OF BULK AT MOST 1048576: true; the input reads as it did. -/
def meetSweepsUptoRow : OpenClaim := { program := "ytbnjkcgkdpildaa", sum := "43721f4f760567de0e90c4ae4e7867af321ccdd017ff3b6c59f82530a54f7d36", func := "pitfloor/pitlaw4.MeetSweeps", spec := "meetSweeps", unfollowed := true, recurses := true, apart := false, narrowed := true }
def MeetSweepsUptoSaid : Prop := meetSweepsUptoRow.holds Try.pinned (OpenSpec.upto meetSweepsSpec)

/-- 'pitlaw1.SideAdds', WHERE WHAT IT READS IS OF BULK AT MOST 1048576: true; the input reads as it did. -/
def sideAddsUptoRow : OpenClaim := { program := "ytbnjkcgkdpildaa", sum := "43721f4f760567de0e90c4ae4e7867af321ccdd017ff3b6c59f82530a54f7d36", func := "pitfloor/pitlaw1.SideAdds", spec := "sideAdds", inPlace := ["slices.overlaps[pitfloor/api.Level]"], unfollowed := true, recurses := true, apart := false, narrowed := true }
def SideAddsUptoSaid : Prop := sideAddsUptoRow.holds Try.pinned (OpenSpec.upto sideAddsSpec)

/-- 'pitlaw1.MeetFair', WHERE WHAT IT READS IS OF BULK AT MOST 1048576: true; the input reads as it did. -/
def meetFairUptoRow : OpenClaim := { program := "ytbnjkcgkdpildaa", sum := "43721f4f760567de0e90c4ae4e7867af321ccdd017ff3b6c59f82530a54f7d36", func := "pitfloor/pitlaw1.MeetFair", spec := "meetFair", unfollowed := true, recurses := true, apart := false, narrowed := true }
def MeetFairUptoSaid : Prop := meetFairUptoRow.holds Try.pinned (OpenSpec.upto meetFairSpec)

/-- 'pitlaw1.BookHolds', WHERE WHAT IT READS IS OF BULK AT MOST 1048576: true; the input reads as it did. -/
def bookHoldsUptoRow : OpenClaim := { program := "ytbnjkcgkdpildaa", sum := "43721f4f760567de0e90c4ae4e7867af321ccdd017ff3b6c59f82530a54f7d36", func := "pitfloor/pitlaw1.BookHolds", spec := "bookHolds", inPlace := ["slices.overlaps[pitfloor/api.Level]"], unfollowed := true, recurses := true, apart := false, narrowed := true }
def BookHoldsUptoSaid : Prop := bookHoldsUptoRow.holds Try.pinned (OpenSpec.upto bookHoldsSpec)

/-- 'pitlaw1.KindsKeep', WHERE WHAT IT READS IS OF BULK AT MOST 1048576: true; the input reads as it did. -/
def kindsKeepUptoRow : OpenClaim := { program := "ytbnjkcgkdpildaa", sum := "43721f4f760567de0e90c4ae4e7867af321ccdd017ff3b6c59f82530a54f7d36", func := "pitfloor/pitlaw1.KindsKeep", spec := "kindsKeep", inPlace := ["slices.overlaps[pitfloor/api.Level]"], unfollowed := true, recurses := true, apart := false, narrowed := true }
def KindsKeepUptoSaid : Prop := kindsKeepUptoRow.holds Try.pinned (OpenSpec.upto kindsKeepSpec)

/-- 'pitlaw4.SelfGoes', WHERE WHAT IT READS IS OF BULK AT MOST 1048576: true; the input reads as it did. -/
def selfGoesUptoRow : OpenClaim := { program := "ytbnjkcgkdpildaa", sum := "43721f4f760567de0e90c4ae4e7867af321ccdd017ff3b6c59f82530a54f7d36", func := "pitfloor/pitlaw4.SelfGoes", spec := "selfGoes", inPlace := ["slices.overlaps[pitfloor/api.Level]"], unfollowed := true, recurses := true, apart := false, narrowed := true }
def SelfGoesUptoSaid : Prop := selfGoesUptoRow.holds Try.pinned (OpenSpec.upto selfGoesSpec)

/-- 'pitlaw1.SelfNever', WHERE WHAT IT READS IS OF BULK AT MOST 1048576: true; the input reads as it did. -/
def selfNeverUptoRow : OpenClaim := { program := "ytbnjkcgkdpildaa", sum := "43721f4f760567de0e90c4ae4e7867af321ccdd017ff3b6c59f82530a54f7d36", func := "pitfloor/pitlaw1.SelfNever", spec := "selfNever", inPlace := ["slices.overlaps[pitfloor/api.Level]"], unfollowed := true, recurses := true, apart := false, narrowed := true }
def SelfNeverUptoSaid : Prop := selfNeverUptoRow.holds Try.pinned (OpenSpec.upto selfNeverSpec)

/-- 'pitlaw2.MarginAdds', WHERE WHAT IT READS IS OF BULK AT MOST 1048576: true; the input reads as it did. -/
def marginAddsUptoRow : OpenClaim := { program := "ytbnjkcgkdpildaa", sum := "43721f4f760567de0e90c4ae4e7867af321ccdd017ff3b6c59f82530a54f7d36", func := "pitfloor/pitlaw2.MarginAdds", spec := "marginAdds", inPlace := ["slices.overlaps[pitfloor/api.Level]"], unfollowed := true, recurses := true, apart := false, narrowed := true }
def MarginAddsUptoSaid : Prop := marginAddsUptoRow.holds Try.pinned (OpenSpec.upto marginAddsSpec)

end Rows
end Go.Proofs.Ytbnjkcgkdpildaa
