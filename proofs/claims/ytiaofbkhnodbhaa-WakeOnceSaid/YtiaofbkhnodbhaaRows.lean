/-
  No cell of these rows narrows 'for every input' (looked for: loops, veiled, ifaces, maps, wideKeys, modest, calm, conditions, laid).
  DERIVED. THE GIVEN ROWS OF THIS SEAT. 5 by the template 'for every input the law returns true; each argument reads behind the call as it read before'; 0 by the template 'total and deterministic' (their statements: YtiaofbkhnodbhaaTotals.lean).
  GIVEN WITH THE SEED: the statements are not yours to turn. If you find one false, say at which input.
  Laid BY PROGRAM, IN A SANDBOX (cutbox-rows.mjs): the forced cells as the released guide's own fill.sh prints them over the translation b6a1ca6d5614271b… (all of the seat's roots in one cut). By AI agents, Wed Nov 11 2026. No macro, syntax, notation, axiom, sorry.
-/
import Derived.Test.YtiaofbkhnodbhaaChecked
import GoSem.Claim
import GoSem.ClaimJoined
import GoSem.ClaimMapViews
import Derived.JoinedTies
import Derived.KernelRfl
namespace Go.Proofs.Ytiaofbkhnodbhaa
/- THE CELL 'sum', in the pinned program and in every row, IS THE sha256 OF THE DUMP (.gsa) THAT YtiaofbkhnodbhaaProg.lean LOADS. Nothing in Lean hashes anything: it is a label: what it is worth is what the hold of that sum in a sandbox is worth. -/
noncomputable def Try.pinned : Pinned := { name := "ytiaofbkhnodbhaa", sum := "b6a1ca6d5614271b0425132a0bb9c1e3fb06d6693dcb534fa80efe9aaf3014e9", checked := Try.checked }
namespace Rows
def none {H : Type} : Left H := { results := [], args := [] }

/-- 'pitlaw4.SwapLess': WHATEVER THE INPUT: true; the input reads as it did. -/
def swapLessSpec : ChangeSpec := { name := "swapLess", fn := fun _ => fun
  | [d1, d2] => { results := [.lit (.bool true)], args := [d1, d2] }
  | _ => none }
def swapLessRow : OpenClaim := { program := "ytiaofbkhnodbhaa", sum := "b6a1ca6d5614271b0425132a0bb9c1e3fb06d6693dcb534fa80efe9aaf3014e9", func := "pitfloor/pitlaw4.SwapLess", spec := "swapLess", inPlace := ["slices.overlaps[pitfloor/api.Level]"], unfollowed := true, recurses := true, apart := false }
def SwapLessSaid : Prop := swapLessRow.holds Try.pinned (OpenSpec.ofChange swapLessSpec)

/-- ITS FALSE NEIGHBOUR: 'it returns false'. Refute it at one input. -/
def swapLessWrong : ChangeSpec := { name := "swapLess", fn := fun _ => fun
  | [d1, d2] => { results := [.lit (.bool false)], args := [d1, d2] }
  | _ => none }
def SwapLessWrongFalsely : Prop := swapLessRow.holds Try.pinned (OpenSpec.ofChange swapLessWrong)

/-- 'pitlaw2.SwapKeeps': WHATEVER THE INPUT: true; the input reads as it did. -/
def swapKeepsSpec : ChangeSpec := { name := "swapKeeps", fn := fun _ => fun
  | [d1, d2, d3, d4] => { results := [.lit (.bool true)], args := [d1, d2, d3, d4] }
  | _ => none }
def swapKeepsRow : OpenClaim := { program := "ytiaofbkhnodbhaa", sum := "b6a1ca6d5614271b0425132a0bb9c1e3fb06d6693dcb534fa80efe9aaf3014e9", func := "pitfloor/pitlaw2.SwapKeeps", spec := "swapKeeps", inPlace := ["slices.overlaps[pitfloor/api.Level]"], unfollowed := true, recurses := true, apart := false }
def SwapKeepsSaid : Prop := swapKeepsRow.holds Try.pinned (OpenSpec.ofChange swapKeepsSpec)

/-- ITS FALSE NEIGHBOUR: 'it returns false'. Refute it at one input. -/
def swapKeepsWrong : ChangeSpec := { name := "swapKeeps", fn := fun _ => fun
  | [d1, d2, d3, d4] => { results := [.lit (.bool false)], args := [d1, d2, d3, d4] }
  | _ => none }
def SwapKeepsWrongFalsely : Prop := swapKeepsRow.holds Try.pinned (OpenSpec.ofChange swapKeepsWrong)

/-- 'pitlaw4.WakeOrder': WHATEVER THE INPUT: true; the input reads as it did. -/
def wakeOrderSpec : ChangeSpec := { name := "wakeOrder", fn := fun _ => fun
  | [d] => { results := [.lit (.bool true)], args := [d] }
  | _ => none }
def wakeOrderRow : OpenClaim := { program := "ytiaofbkhnodbhaa", sum := "b6a1ca6d5614271b0425132a0bb9c1e3fb06d6693dcb534fa80efe9aaf3014e9", func := "pitfloor/pitlaw4.WakeOrder", spec := "wakeOrder", unfollowed := true, recurses := true, apart := false }
def WakeOrderSaid : Prop := wakeOrderRow.holds Try.pinned (OpenSpec.ofChange wakeOrderSpec)

/-- ITS FALSE NEIGHBOUR: 'it returns false'. Refute it at one input. -/
def wakeOrderWrong : ChangeSpec := { name := "wakeOrder", fn := fun _ => fun
  | [d] => { results := [.lit (.bool false)], args := [d] }
  | _ => none }
def WakeOrderWrongFalsely : Prop := wakeOrderRow.holds Try.pinned (OpenSpec.ofChange wakeOrderWrong)

/-- 'pitlaw2.WakeOnce': WHATEVER THE INPUT: true; the input reads as it did. -/
def wakeOnceSpec : ChangeSpec := { name := "wakeOnce", fn := fun _ => fun
  | [d1, d2] => { results := [.lit (.bool true)], args := [d1, d2] }
  | _ => none }
def wakeOnceRow : OpenClaim := { program := "ytiaofbkhnodbhaa", sum := "b6a1ca6d5614271b0425132a0bb9c1e3fb06d6693dcb534fa80efe9aaf3014e9", func := "pitfloor/pitlaw2.WakeOnce", spec := "wakeOnce", unfollowed := true, recurses := true, apart := false }
def WakeOnceSaid : Prop := wakeOnceRow.holds Try.pinned (OpenSpec.ofChange wakeOnceSpec)

/-- ITS FALSE NEIGHBOUR: 'it returns false'. Refute it at one input. -/
def wakeOnceWrong : ChangeSpec := { name := "wakeOnce", fn := fun _ => fun
  | [d1, d2] => { results := [.lit (.bool false)], args := [d1, d2] }
  | _ => none }
def WakeOnceWrongFalsely : Prop := wakeOnceRow.holds Try.pinned (OpenSpec.ofChange wakeOnceWrong)

/-- 'pitlaw3.WireBack': WHATEVER THE INPUT: true; the input reads as it did. -/
def wireBackSpec : ChangeSpec := { name := "wireBack", fn := fun _ => fun
  | [d1, d2, d3, d4, d5] => { results := [.lit (.bool true)], args := [d1, d2, d3, d4, d5] }
  | _ => none }
def wireBackRow : OpenClaim := { program := "ytiaofbkhnodbhaa", sum := "b6a1ca6d5614271b0425132a0bb9c1e3fb06d6693dcb534fa80efe9aaf3014e9", func := "pitfloor/pitlaw3.WireBack", spec := "wireBack", apart := false }
def WireBackSaid : Prop := wireBackRow.holds Try.pinned (OpenSpec.ofChange wireBackSpec)

/-- ITS FALSE NEIGHBOUR: 'it returns false'. Refute it at one input. -/
def wireBackWrong : ChangeSpec := { name := "wireBack", fn := fun _ => fun
  | [d1, d2, d3, d4, d5] => { results := [.lit (.bool false)], args := [d1, d2, d3, d4, d5] }
  | _ => none }
def WireBackWrongFalsely : Prop := wireBackRow.holds Try.pinned (OpenSpec.ofChange wireBackWrong)

/- THE SECOND FORM. 'bulk': how many values and letters a reading holds, each counted each time it is reached (what is shared counts as often as it is met; a slice's spare places count too). A statement '..UptoSaid' is the law's where the arguments, and the package variables that the reading takes, are together of bulk at most 1048576: NARROWER than '..Said'. Prove '..Said' where nothing that the law and all that it calls make is longer than what came in: it says more and counts as full. Else prove '..UptoSaid'. A law counts once. -/
mutual
def uptoBulk {H : Type} : DataW H → Nat
  | .lit (.string bytes) => bytes.length + 1
  | .lit _ => 1
  | .nil => 1
  | .ptr d => uptoBulk d + 1
  | .slice elems spare => uptoBulkAll elems + uptoBulkAll spare + 1
  | .agg parts => uptoBulkAll parts + 1
  | .iface _ d => uptoBulk d + 1
  | .map entries => uptoBulkEntries entries + 1
  | .held _ => 1
def uptoBulkAll {H : Type} : List (DataW H) → Nat
  | [] => 0
  | d :: r => uptoBulk d + uptoBulkAll r
def uptoBulkEntries {H : Type} : List (Lit × DataW H) → Nat
  | [] => 0
  | x :: r => uptoBulkEntry x + uptoBulkEntries r
def uptoBulkEntry {H : Type} : Lit × DataW H → Nat
  | (.string bytes, d) => bytes.length + uptoBulk d + 1
  | (_, d) => uptoBulk d + 1
 end
def uptoSmall : (H : Type) → List (DataW H) → Bool := fun _ ds => decide (uptoBulkAll ds ≤ 1048576)
def OpenSpec.upto (s : _root_.Go.ChangeSpec) : _root_.Go.OpenSpec := { _root_.Go.OpenSpec.ofChange s with cond := some uptoSmall }

/-- 'pitlaw4.SwapLess', WHERE WHAT IT READS IS OF BULK AT MOST 1048576: true; the input reads as it did. -/
def swapLessUptoRow : OpenClaim := { program := "ytiaofbkhnodbhaa", sum := "b6a1ca6d5614271b0425132a0bb9c1e3fb06d6693dcb534fa80efe9aaf3014e9", func := "pitfloor/pitlaw4.SwapLess", spec := "swapLess", inPlace := ["slices.overlaps[pitfloor/api.Level]"], unfollowed := true, recurses := true, apart := false, narrowed := true }
def SwapLessUptoSaid : Prop := swapLessUptoRow.holds Try.pinned (OpenSpec.upto swapLessSpec)

/-- 'pitlaw2.SwapKeeps', WHERE WHAT IT READS IS OF BULK AT MOST 1048576: true; the input reads as it did. -/
def swapKeepsUptoRow : OpenClaim := { program := "ytiaofbkhnodbhaa", sum := "b6a1ca6d5614271b0425132a0bb9c1e3fb06d6693dcb534fa80efe9aaf3014e9", func := "pitfloor/pitlaw2.SwapKeeps", spec := "swapKeeps", inPlace := ["slices.overlaps[pitfloor/api.Level]"], unfollowed := true, recurses := true, apart := false, narrowed := true }
def SwapKeepsUptoSaid : Prop := swapKeepsUptoRow.holds Try.pinned (OpenSpec.upto swapKeepsSpec)

/-- 'pitlaw4.WakeOrder', WHERE WHAT IT READS IS OF BULK AT MOST 1048576: true; the input reads as it did. -/
def wakeOrderUptoRow : OpenClaim := { program := "ytiaofbkhnodbhaa", sum := "b6a1ca6d5614271b0425132a0bb9c1e3fb06d6693dcb534fa80efe9aaf3014e9", func := "pitfloor/pitlaw4.WakeOrder", spec := "wakeOrder", unfollowed := true, recurses := true, apart := false, narrowed := true }
def WakeOrderUptoSaid : Prop := wakeOrderUptoRow.holds Try.pinned (OpenSpec.upto wakeOrderSpec)

/-- 'pitlaw2.WakeOnce', WHERE WHAT IT READS IS OF BULK AT MOST 1048576: true; the input reads as it did. -/
def wakeOnceUptoRow : OpenClaim := { program := "ytiaofbkhnodbhaa", sum := "b6a1ca6d5614271b0425132a0bb9c1e3fb06d6693dcb534fa80efe9aaf3014e9", func := "pitfloor/pitlaw2.WakeOnce", spec := "wakeOnce", unfollowed := true, recurses := true, apart := false, narrowed := true }
def WakeOnceUptoSaid : Prop := wakeOnceUptoRow.holds Try.pinned (OpenSpec.upto wakeOnceSpec)

/-- 'pitlaw3.WireBack', WHERE WHAT IT READS IS OF BULK AT MOST 1048576: true; the input reads as it did. -/
def wireBackUptoRow : OpenClaim := { program := "ytiaofbkhnodbhaa", sum := "b6a1ca6d5614271b0425132a0bb9c1e3fb06d6693dcb534fa80efe9aaf3014e9", func := "pitfloor/pitlaw3.WireBack", spec := "wireBack", apart := false, narrowed := true }
def WireBackUptoSaid : Prop := wireBackUptoRow.holds Try.pinned (OpenSpec.upto wireBackSpec)

end Rows
end Go.Proofs.Ytiaofbkhnodbhaa
