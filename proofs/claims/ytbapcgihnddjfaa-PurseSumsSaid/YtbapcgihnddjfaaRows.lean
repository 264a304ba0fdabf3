/-
  No cell of these rows narrows 'for every input' (looked for: loops, veiled, ifaces, maps, wideKeys, modest, calm, conditions, laid).
  DERIVED. THE GIVEN ROWS OF THIS SEAT. 11 by the template 'for every input the law returns true; each argument reads behind the call as it read before'; 0 by the template 'total and deterministic' (their statements: YtbapcgihnddjfaaTotals.lean).
  GIVEN WITH THE SEED: the statements are not yours to turn. If you find one false, say at which input.
  Laid BY PROGRAM, IN A SANDBOX (cutbox-rows.mjs): the forced cells as the released guide's own fill.sh prints them over the translation 488ebcd9e25a497d… (all of the seat's roots in one cut). By AI agents, Wed Nov 11 2026. No macro, syntax, notation, axiom, sorry.
-/
import Derived.Test.YtbapcgihnddjfaaChecked
import GoSem.Claim
import GoSem.ClaimJoined
import GoSem.ClaimMapViews
import Derived.JoinedTies
import Derived.KernelRfl
namespace Go.Proofs.Ytbapcgihnddjfaa
/- THE CELL 'sum', in the pinned program and in every row, IS THE sha256 OF THE DUMP (.gsa) THAT YtbapcgihnddjfaaProg.lean LOADS. Nothing in Lean hashes anything: it is a label: what it is worth is what the hold of that sum in a sandbox is worth. -/
noncomputable def Try.pinned : Pinned := { name := "ytbapcgihnddjfaa", sum := "488ebcd9e25a497d9b5d26c3171b6d06a65adbc1a074b4fcef97a9879e73af19", checked := Try.checked }
namespace Rows
def none {H : Type} : Left H := { results := [], args := [] }

/-- 'pitlaw4.TickBands': WHATEVER THE INPUT: true; the input reads as it did. -/
def tickBandsSpec : ChangeSpec := { name := "tickBands", fn := fun _ => fun
  | [d1, d2, d3, d4] => { results := [.lit (.bool true)], args := [d1, d2, d3, d4] }
  | _ => none }
def tickBandsRow : OpenClaim := { program := "ytbapcgihnddjfaa", sum := "488ebcd9e25a497d9b5d26c3171b6d06a65adbc1a074b4fcef97a9879e73af19", func := "pitfloor/pitlaw4.TickBands", spec := "tickBands", apart := false }
def TickBandsSaid : Prop := tickBandsRow.holds Try.pinned (OpenSpec.ofChange tickBandsSpec)

/-- ITS FALSE NEIGHBOUR: 'it returns false'. Refute it at one input. -/
def tickBandsWrong : ChangeSpec := { name := "tickBands", fn := fun _ => fun
  | [d1, d2, d3, d4] => { results := [.lit (.bool false)], args := [d1, d2, d3, d4] }
  | _ => none }
def TickBandsWrongFalsely : Prop := tickBandsRow.holds Try.pinned (OpenSpec.ofChange tickBandsWrong)

/-- 'pitlaw1.Names': WHATEVER THE INPUT: true; the input reads as it did. -/
def namesSpec : ChangeSpec := { name := "names", fn := fun _ => fun
  | [] => { results := [.lit (.bool true)], args := [] }
  | _ => none }
def namesRow : OpenClaim := { program := "ytbapcgihnddjfaa", sum := "488ebcd9e25a497d9b5d26c3171b6d06a65adbc1a074b4fcef97a9879e73af19", func := "pitfloor/pitlaw1.Names", spec := "names", apart := false }
def NamesSaid : Prop := namesRow.holds Try.pinned (OpenSpec.ofChange namesSpec)

/-- ITS FALSE NEIGHBOUR: 'it returns false'. Refute it at one input. -/
def namesWrong : ChangeSpec := { name := "names", fn := fun _ => fun
  | [] => { results := [.lit (.bool false)], args := [] }
  | _ => none }
def NamesWrongFalsely : Prop := namesRow.holds Try.pinned (OpenSpec.ofChange namesWrong)

/-- 'pitlaw1.TickRounds': WHATEVER THE INPUT: true; the input reads as it did. -/
def tickRoundsSpec : ChangeSpec := { name := "tickRounds", fn := fun _ => fun
  | [d1, d2, d3, d4] => { results := [.lit (.bool true)], args := [d1, d2, d3, d4] }
  | _ => none }
def tickRoundsRow : OpenClaim := { program := "ytbapcgihnddjfaa", sum := "488ebcd9e25a497d9b5d26c3171b6d06a65adbc1a074b4fcef97a9879e73af19", func := "pitfloor/pitlaw1.TickRounds", spec := "tickRounds", apart := false }
def TickRoundsSaid : Prop := tickRoundsRow.holds Try.pinned (OpenSpec.ofChange tickRoundsSpec)

/-- ITS FALSE NEIGHBOUR: 'it returns false'. Refute it at one input. -/
def tickRoundsWrong : ChangeSpec := { name := "tickRounds", fn := fun _ => fun
  | [d1, d2, d3, d4] => { results := [.lit (.bool false)], args := [d1, d2, d3, d4] }
  | _ => none }
def TickRoundsWrongFalsely : Prop := tickRoundsRow.holds Try.pinned (OpenSpec.ofChange tickRoundsWrong)

/-- 'pitlaw4.BarsRise': WHATEVER THE INPUT: true; the input reads as it did. -/
def barsRiseSpec : ChangeSpec := { name := "barsRise", fn := fun _ => fun
  | [d1, d2] => { results := [.lit (.bool true)], args := [d1, d2] }
  | _ => none }
def barsRiseRow : OpenClaim := { program := "ytbapcgihnddjfaa", sum := "488ebcd9e25a497d9b5d26c3171b6d06a65adbc1a074b4fcef97a9879e73af19", func := "pitfloor/pitlaw4.BarsRise", spec := "barsRise", apart := false }
def BarsRiseSaid : Prop := barsRiseRow.holds Try.pinned (OpenSpec.ofChange barsRiseSpec)

/-- ITS FALSE NEIGHBOUR: 'it returns false'. Refute it at one input. -/
def barsRiseWrong : ChangeSpec := { name := "barsRise", fn := fun _ => fun
  | [d1, d2] => { results := [.lit (.bool false)], args := [d1, d2] }
  | _ => none }
def BarsRiseWrongFalsely : Prop := barsRiseRow.holds Try.pinned (OpenSpec.ofChange barsRiseWrong)

/-- 'pitlaw4.MarginMore': WHATEVER THE INPUT: true; the input reads as it did. -/
def marginMoreSpec : ChangeSpec := { name := "marginMore", fn := fun _ => fun
  | [d1, d2, d3, d4] => { results := [.lit (.bool true)], args := [d1, d2, d3, d4] }
  | _ => none }
def marginMoreRow : OpenClaim := { program := "ytbapcgihnddjfaa", sum := "488ebcd9e25a497d9b5d26c3171b6d06a65adbc1a074b4fcef97a9879e73af19", func := "pitfloor/pitlaw4.MarginMore", spec := "marginMore", apart := false }
def MarginMoreSaid : Prop := marginMoreRow.holds Try.pinned (OpenSpec.ofChange marginMoreSpec)

/-- ITS FALSE NEIGHBOUR: 'it returns false'. Refute it at one input. -/
def marginMoreWrong : ChangeSpec := { name := "marginMore", fn := fun _ => fun
  | [d1, d2, d3, d4] => { results := [.lit (.bool false)], args := [d1, d2, d3, d4] }
  | _ => none }
def MarginMoreWrongFalsely : Prop := marginMoreRow.holds Try.pinned (OpenSpec.ofChange marginMoreWrong)

/-- 'pitlaw4.QueueTurns': WHATEVER THE INPUT: true; the input reads as it did. -/
def queueTurnsSpec : ChangeSpec := { name := "queueTurns", fn := fun _ => fun
  | [d1, d2] => { results := [.lit (.bool true)], args := [d1, d2] }
  | _ => none }
def queueTurnsRow : OpenClaim := { program := "ytbapcgihnddjfaa", sum := "488ebcd9e25a497d9b5d26c3171b6d06a65adbc1a074b4fcef97a9879e73af19", func := "pitfloor/pitlaw4.QueueTurns", spec := "queueTurns", unfollowed := true, recurses := true, apart := false }
def QueueTurnsSaid : Prop := queueTurnsRow.holds Try.pinned (OpenSpec.ofChange queueTurnsSpec)

/-- ITS FALSE NEIGHBOUR: 'it returns false'. Refute it at one input. -/
def queueTurnsWrong : ChangeSpec := { name := "queueTurns", fn := fun _ => fun
  | [d1, d2] => { results := [.lit (.bool false)], args := [d1, d2] }
  | _ => none }
def QueueTurnsWrongFalsely : Prop := queueTurnsRow.holds Try.pinned (OpenSpec.ofChange queueTurnsWrong)

/-- 'pitlaw4.WireLong': WHATEVER THE INPUT: true; the input reads as it did. -/
def wireLongSpec : ChangeSpec := { name := "wireLong", fn := fun _ => fun
  | [d] => { results := [.lit (.bool true)], args := [d] }
  | _ => none }
def wireLongRow : OpenClaim := { program := "ytbapcgihnddjfaa", sum := "488ebcd9e25a497d9b5d26c3171b6d06a65adbc1a074b4fcef97a9879e73af19", func := "pitfloor/pitlaw4.WireLong", spec := "wireLong", apart := false }
def WireLongSaid : Prop := wireLongRow.holds Try.pinned (OpenSpec.ofChange wireLongSpec)

/-- ITS FALSE NEIGHBOUR: 'it returns false'. Refute it at one input. -/
def wireLongWrong : ChangeSpec := { name := "wireLong", fn := fun _ => fun
  | [d] => { results := [.lit (.bool false)], args := [d] }
  | _ => none }
def WireLongWrongFalsely : Prop := wireLongRow.holds Try.pinned (OpenSpec.ofChange wireLongWrong)

/-- 'pitlaw3.BarsJoin': WHATEVER THE INPUT: true; the input reads as it did. -/
def barsJoinSpec : ChangeSpec := { name := "barsJoin", fn := fun _ => fun
  | [d1, d2] => { results := [.lit (.bool true)], args := [d1, d2] }
  | _ => none }
def barsJoinRow : OpenClaim := { program := "ytbapcgihnddjfaa", sum := "488ebcd9e25a497d9b5d26c3171b6d06a65adbc1a074b4fcef97a9879e73af19", func := "pitfloor/pitlaw3.BarsJoin", spec := "barsJoin", unfollowed := true, recurses := true, apart := false }
def BarsJoinSaid : Prop := barsJoinRow.holds Try.pinned (OpenSpec.ofChange barsJoinSpec)

/-- ITS FALSE NEIGHBOUR: 'it returns false'. Refute it at one input. -/
def barsJoinWrong : ChangeSpec := { name := "barsJoin", fn := fun _ => fun
  | [d1, d2] => { results := [.lit (.bool false)], args := [d1, d2] }
  | _ => none }
def BarsJoinWrongFalsely : Prop := barsJoinRow.holds Try.pinned (OpenSpec.ofChange barsJoinWrong)

/-- 'pitlaw2.PurseSums': WHATEVER THE INPUT: true; the input reads as it did. -/
def purseSumsSpec : ChangeSpec := { name := "purseSums", fn := fun _ => fun
  | [d] => { results := [.lit (.bool true)], args := [d] }
  | _ => none }
def purseSumsRow : OpenClaim := { program := "ytbapcgihnddjfaa", sum := "488ebcd9e25a497d9b5d26c3171b6d06a65adbc1a074b4fcef97a9879e73af19", func := "pitfloor/pitlaw2.PurseSums", spec := "purseSums", apart := false }
def PurseSumsSaid : Prop := purseSumsRow.holds Try.pinned (OpenSpec.ofChange purseSumsSpec)

/-- ITS FALSE NEIGHBOUR: 'it returns false'. Refute it at one input. -/
def purseSumsWrong : ChangeSpec := { name := "purseSums", fn := fun _ => fun
  | [d] => { results := [.lit (.bool false)], args := [d] }
  | _ => none }
def PurseSumsWrongFalsely : Prop := purseSumsRow.holds Try.pinned (OpenSpec.ofChange purseSumsWrong)

/-- 'pitlaw1.QueueTakes': WHATEVER THE INPUT: true; the input reads as it did. -/
def queueTakesSpec : ChangeSpec := { name := "queueTakes", fn := fun _ => fun
  | [d1, d2, d3] => { results := [.lit (.bool true)], args := [d1, d2, d3] }
  | _ => none }
def queueTakesRow : OpenClaim := { program := "ytbapcgihnddjfaa", sum := "488ebcd9e25a497d9b5d26c3171b6d06a65adbc1a074b4fcef97a9879e73af19", func := "pitfloor/pitlaw1.QueueTakes", spec := "queueTakes", unfollowed := true, recurses := true, apart := false }
def QueueTakesSaid : Prop := queueTakesRow.holds Try.pinned (OpenSpec.ofChange queueTakesSpec)

/-- ITS FALSE NEIGHBOUR: 'it returns false'. Refute it at one input. -/
def queueTakesWrong : ChangeSpec := { name := "queueTakes", fn := fun _ => fun
  | [d1, d2, d3] => { results := [.lit (.bool false)], args := [d1, d2, d3] }
  | _ => none }
def QueueTakesWrongFalsely : Prop := queueTakesRow.holds Try.pinned (OpenSpec.ofChange queueTakesWrong)

/-- 'pitlaw3.WireBack': WHATEVER THE INPUT: true; the input reads as it did. -/
def wireBackSpec : ChangeSpec := { name := "wireBack", fn := fun _ => fun
  | [d1, d2, d3, d4, d5] => { results := [.lit (.bool true)], args := [d1, d2, d3, d4, d5] }
  | _ => none }
def wireBackRow : OpenClaim := { program := "ytbapcgihnddjfaa", sum := "488ebcd9e25a497d9b5d26c3171b6d06a65adbc1a074b4fcef97a9879e73af19", func := "pitfloor/pitlaw3.WireBack", spec := "wireBack", apart := false }
def WireBackSaid : Prop := wireBackRow.holds Try.pinned (OpenSpec.ofChange wireBackSpec)

/-- ITS FALSE NEIGHBOUR: 'it returns false'. Refute it at one input. -/
def wireBackWrong : ChangeSpec := { name := "wireBack", fn := fun _ => fun
  | [d1, d2, d3, d4, d5] => { results := [.lit (.bool false)], args := [d1, d2, d3, d4, d5] }
  | _ => none }
def WireBackWrongFalsely : Prop := wireBackRow.holds Try.pinned (OpenSpec.ofChange wireBackWrong)

/- THE SECOND FORM. 'bulk': how many values and letters a reading holds, each counted each time it is reached (what is shared counts as often as it is met; a slice's spare places count too). A statement '..UptoSaid' is the law's where the arguments, and the package variables that the reading takes, are together of bulk at most 1048576: NARROWER than '..Said'. Prove '..Said' where nothing that the law and all that it calls make is longer than what came in: it says more and counts as full. Else prove '..UptoSaid'. A law counts once. -/
mutual
def uptoBulk {H : Type} : DataW H → Nat
  | .lit (.string bytes) => bytes.length + 1
  | .lit _ => 1
  | .nil => 1
  | .ptr d => uptoBulk d + 1
  | .slice elems spare => uptoBulkAll elems + uptoBulkAll spare + 1
  | .agg parts => uptoBulkAll parts + 1
  | .iface _ d => uptoBulk d + 1
  | .map entries => uptoBulkEntries entries + 1
  | .held _ => 1
def uptoBulkAll {H : Type} : List (DataW H) → Nat
  | [] => 0
  | d :: r => uptoBulk d + uptoBulkAll r
def uptoBulkEntries {H : Type} : List (Lit × DataW H) → Nat
  | [] => 0
  | x :: r => uptoBulkEntry x + uptoBulkEntries r
def uptoBulkEntry {H : Type} : Lit × DataW H → Nat
  | (.string bytes, d) => bytes.length + uptoBulk d + 1
  | (_, d) => uptoBulk d + 1
 end
def uptoSmall : (H : Type) → List (DataW H) → Bool := fun _ ds => decide (uptoBulkAll ds ≤ 1048576)
def OpenSpec.upto (s : _root_.Go.ChangeSpec) : _root_.Go.OpenSpec := { _root_.Go.OpenSpec.ofChange s with cond := some uptoSmall }

/-- 'pitlaw4.TickBands', WHERE WHAT IT READS IS OF BULK AT MOST 1048576: true; the input reads as it did. -/
def tickBandsUptoRow : OpenClaim := { program := "ytbapcgihnddjfaa", sum := "488ebcd9e25a497d9b5d26c3171b6d06a65adbc1a074b4fcef97a9879e73af19", func := "pitfloor/pitlaw4.TickBands", spec := "tickBands", apart := false, narrowed := true }
def TickBandsUptoSaid : Prop := tickBandsUptoRow.holds Try.pinned (OpenSpec.upto tickBandsSpec)

/-- 'pitlaw1.Names', WHERE WHAT IT READS IS OF BULK AT MOST 1048576: true; the input reads as it did. -/
def namesUptoRow : OpenClaim := { program := "ytbapcgihnddjfaa", sum := "488ebcd9e25a497d9b5d26c3171b6d06a65adbc1a074b4fcef97a9879e73af19", func := "pitfloor/pitlaw1.Names", spec := "names", apart := false, narrowed := true }
def NamesUptoSaid : Prop := namesUptoRow.holds Try.pinned (OpenSpec.upto namesSpec)

/-- 'pitlaw1.TickRounds', WHERE WHAT IT READS IS OF BULK AT MOST 1048576: true; the input reads as it did. -/
def tickRoundsUptoRow : OpenClaim := { program := "ytbapcgihnddjfaa", sum := "488ebcd9e25a497d9b5d26c3171b6d06a65adbc1a074b4fcef97a9879e73af19", func := "pitfloor/pitlaw1.TickRounds", spec := "tickRounds", apart := false, narrowed := true }
def TickRoundsUptoSaid : Prop := tickRoundsUptoRow.holds Try.pinned (OpenSpec.upto tickRoundsSpec)

/-- 'pitlaw4.BarsRise', WHERE WHAT IT READS IS OF BULK AT MOST 1048576: true; the input reads as it did. -/
def barsRiseUptoRow : OpenClaim := { program := "ytbapcgihnddjfaa", sum := "488ebcd9e25a497d9b5d26c3171b6d06a65adbc1a074b4fcef97a9879e73af19", func := "pitfloor/pitlaw4.BarsRise", spec := "barsRise", apart := false, narrowed := true }
def BarsRiseUptoSaid : Prop := barsRiseUptoRow.holds Try.pinned (OpenSpec.upto barsRiseSpec)

/-- 'pitlaw4.MarginMore', WHERE WHAT IT READS IS OF BULK AT MOST 1048576: true; the input reads as it did. -/
def marginMoreUptoRow : OpenClaim := { program := "ytbapcgihnddjfaa", sum := "488ebcd9e25a497d9b5d26c3171b6d06a65adbc1a074b4fcef97a9879e73af19", func := "pitfloor/pitlaw4.MarginMore", spec := "marginMore", apart := false, narrowed := true }
def MarginMoreUptoSaid : Prop := marginMoreUptoRow.holds Try.pinned (OpenSpec.upto marginMoreSpec)

/-- 'pitlaw4.QueueTurns', WHERE WHAT IT READS IS OF BULK AT MOST 1048576: true; the input reads as it did. -/
def queueTurnsUptoRow : OpenClaim := { program := "ytbapcgihnddjfaa", sum := "488ebcd9e25a497d9b5d26c3171b6d06a65adbc1a074b4fcef97a9879e73af19", func := "pitfloor/pitlaw4.QueueTurns", spec := "queueTurns", unfollowed := true, recurses := true, apart := false, narrowed := true }
def QueueTurnsUptoSaid : Prop := queueTurnsUptoRow.holds Try.pinned (OpenSpec.upto queueTurnsSpec)

/-- 'pitlaw4.WireLong', WHERE WHAT IT READS IS OF BULK AT MOST 1048576: true; the input reads as it did. -/
def wireLongUptoRow : OpenClaim := { program := "ytbapcgihnddjfaa", sum := "488ebcd9e25a497d9b5d26c3171b6d06a65adbc1a074b4fcef97a9879e73af19", func := "pitfloor/pitlaw4.WireLong", spec := "wireLong", apart := false, narrowed := true }
def WireLongUptoSaid : Prop := wireLongUptoRow.holds Try.pinned (OpenSpec.upto wireLongSpec)

/-- 'pitlaw3.BarsJoin', WHERE WHAT IT READS IS OF BULK AT MOST 1048576: true; the input reads as it did. -/
def barsJoinUptoRow : OpenClaim := { program := "ytbapcgihnddjfaa", sum := "488ebcd9e25a497d9b5d26c3171b6d06a65adbc1a074b4fcef97a9879e73af19", func := "pitfloor/pitlaw3.BarsJoin", spec := "barsJoin", unfollowed := true, recurses := true, apart := false, narrowed := true }
def BarsJoinUptoSaid : Prop := barsJoinUptoRow.holds Try.pinned (OpenSpec.upto barsJoinSpec)

/-- 'pitlaw2.PurseSums', WHERE WHAT IT READS IS OF BULK AT MOST 1048576: true; the input reads as it did. -/
def purseSumsUptoRow : OpenClaim := { program := "ytbapcgihnddjfaa", sum := "488ebcd9e25a497d9b5d26c3171b6d06a65adbc1a074b4fcef97a9879e73af19", func := "pitfloor/pitlaw2.PurseSums", spec := "purseSums", apart := false, narrowed := true }
def PurseSumsUptoSaid : Prop := purseSumsUptoRow.holds Try.pinned (OpenSpec.upto purseSumsSpec)

/-- 'pitlaw1.QueueTakes', WHERE WHAT IT READS IS OF BULK AT MOST 1048576: true; the input reads as it did. -/
def queueTakesUptoRow : OpenClaim := { program := "ytbapcgihnddjfaa", sum := "488ebcd9e25a497d9b5d26c3171b6d06a65adbc1a074b4fcef97a9879e73af19", func := "pitfloor/pitlaw1.QueueTakes", spec := "queueTakes", unfollowed := true, recurses := true, apart := false, narrowed := true }
def QueueTakesUptoSaid : Prop := queueTakesUptoRow.holds Try.pinned (OpenSpec.upto queueTakesSpec)

/-- 'pitlaw3.WireBack', WHERE WHAT IT READS IS OF BULK AT MOST 1048576: true; the input reads as it did. -/
def wireBackUptoRow : OpenClaim := { program := "ytbapcgihnddjfaa", sum := "488ebcd9e25a497d9b5d26c3171b6d06a65adbc1a074b4fcef97a9879e73af19", func := "pitfloor/pitlaw3.WireBack", spec := "wireBack", apart := false, narrowed := true }
def WireBackUptoSaid : Prop := wireBackUptoRow.holds Try.pinned (OpenSpec.upto wireBackSpec)

end Rows
end Go.Proofs.Ytbapcgihnddjfaa
