/-
  NARROWER THAN 'FOR EVERY INPUT', by the rows' own cells (each row's printed sentence says how): FloorPlays: laid · LogRefuses: laid · LogStops: laid · LogKeeps: laid · TwinPlays: laid.
  DERIVED. THE GIVEN ROWS OF THIS SEAT. 5 by the template 'for every input the law returns true; each argument reads behind the call as it read before'; 0 by the template 'total and deterministic' (their statements: YtkdgpdijbobmkaaGreatDoorTotals.lean).
  GIVEN WITH THE SEED: the statements are not yours to turn. If you find one false, say at which input.
  Laid BY PROGRAM, IN A SANDBOX (cutbox-rows.mjs): the forced cells as the released guide's own fill.sh prints them over the translation 54a6d44e2e057358… (all of the seat's roots in one cut). By AI agents, Wed Nov 11 2026. No macro, syntax, notation, axiom, sorry.
-/
import Derived.Test.YtkdgpdijbobmkaaGreatDoorChecked
import GoSem.Claim
import GoSem.ClaimJoined
import GoSem.ClaimMapViews
import Derived.JoinedTies
import Derived.KernelRfl
namespace Go.Proofs.YtkdgpdijbobmkaaGreatDoor
/- THE CELL 'sum', in the pinned program and in every row, IS THE sha256 OF THE DUMP (.gsa) THAT YtkdgpdijbobmkaaGreatDoorProg.lean LOADS. Nothing in Lean hashes anything: it is a label: what it is worth is what the hold of that sum in a sandbox is worth. -/
noncomputable def Tryz.pinned : Pinned := { name := "ytkdgpdijbobmkaagreatdoor", sum := "54a6d44e2e0573589b382441eac8db3426ecaf18d75dd50c5be95ac6f56372cc", checked := Tryz.checked }
namespace Rows
def none {H : Type} : Left H := { results := [], args := [] }

/- WHAT THE LISTED PACKAGE-LEVEL VARIABLES READ AS WHEN THE CALL BEGINS. Each datum BY PROGRAM (the guide's laid-datum.mjs) off the statement by which the dump's own 'gosem.cut.vars' lays the variable. In a bare row this is a premise. The card (YtkdgpdijbobmkaaGreatDoorCards.lean) ties it to the program's text. -/
def laid_errors_errorType {H : Type} : DataW H := .iface "internal/reflectlite.rtype" (.agg [.ptr (.lit (.string [101, 114, 114, 111, 114]))])

/-- 'pitlaw2.FloorPlays': WHATEVER THE INPUT: true; the input reads as it did. -/
def floorPlaysSpec : ChangeSpec := { name := "floorPlays", fn := fun _ => fun
  | [d1, d2, d3] => { results := [.lit (.bool true)], args := [d1, d2, d3] }
  | _ => none }
def floorPlaysRow : OpenClaim := { program := "ytkdgpdijbobmkaagreatdoor", sum := "54a6d44e2e0573589b382441eac8db3426ecaf18d75dd50c5be95ac6f56372cc", func := "pitfloor/pitlaw2.FloorPlays", spec := "floorPlays", inPlace := ["internal/reflectlite.ValueOf", "(internal/reflectlite.Value).Type", "(internal/reflectlite.Value).IsNil", "internal/reflectlite.TypeOf", "(internal/reflectlite.Value).Elem", "(internal/reflectlite.Value).Set", "slices.overlaps[pitfloor/api.Level]"], unfollowed := true, recurses := true, named := ["errors.errorType"], apart := false, laid := [("errors.errorType", laid_errors_errorType)] }
def FloorPlaysSaid : Prop := floorPlaysRow.holds Tryz.pinned (OpenSpec.ofChange floorPlaysSpec)

/-- ITS FALSE NEIGHBOUR: 'it returns false'. Refute it at one input. -/
def floorPlaysWrong : ChangeSpec := { name := "floorPlays", fn := fun _ => fun
  | [d1, d2, d3] => { results := [.lit (.bool false)], args := [d1, d2, d3] }
  | _ => none }
def FloorPlaysWrongFalsely : Prop := floorPlaysRow.holds Tryz.pinned (OpenSpec.ofChange floorPlaysWrong)

/-- 'pitlaw4.LogRefuses': WHATEVER THE INPUT: true; the input reads as it did. -/
def logRefusesSpec : ChangeSpec := { name := "logRefuses", fn := fun _ => fun
  | [d] => { results := [.lit (.bool true)], args := [d] }
  | _ => none }
def logRefusesRow : OpenClaim := { program := "ytkdgpdijbobmkaagreatdoor", sum := "54a6d44e2e0573589b382441eac8db3426ecaf18d75dd50c5be95ac6f56372cc", func := "pitfloor/pitlaw4.LogRefuses", spec := "logRefuses", inPlace := ["slices.overlaps[pitfloor/api.Level]", "internal/reflectlite.ValueOf", "(internal/reflectlite.Value).Type", "(internal/reflectlite.Value).IsNil", "internal/reflectlite.TypeOf", "(internal/reflectlite.Value).Elem", "(internal/reflectlite.Value).Set"], unfollowed := true, recurses := true, named := ["errors.errorType"], apart := false, laid := [("errors.errorType", laid_errors_errorType)] }
def LogRefusesSaid : Prop := logRefusesRow.holds Tryz.pinned (OpenSpec.ofChange logRefusesSpec)

/-- ITS FALSE NEIGHBOUR: 'it returns false'. Refute it at one input. -/
def logRefusesWrong : ChangeSpec := { name := "logRefuses", fn := fun _ => fun
  | [d] => { results := [.lit (.bool false)], args := [d] }
  | _ => none }
def LogRefusesWrongFalsely : Prop := logRefusesRow.holds Tryz.pinned (OpenSpec.ofChange logRefusesWrong)

/-- 'pitlaw3.LogStops': WHATEVER THE INPUT: true; the input reads as it did. -/
def logStopsSpec : ChangeSpec := { name := "logStops", fn := fun _ => fun
  | [d1, d2, d3] => { results := [.lit (.bool true)], args := [d1, d2, d3] }
  | _ => none }
def logStopsRow : OpenClaim := { program := "ytkdgpdijbobmkaagreatdoor", sum := "54a6d44e2e0573589b382441eac8db3426ecaf18d75dd50c5be95ac6f56372cc", func := "pitfloor/pitlaw3.LogStops", spec := "logStops", inPlace := ["slices.overlaps[pitfloor/api.Level]", "internal/reflectlite.ValueOf", "(internal/reflectlite.Value).Type", "(internal/reflectlite.Value).IsNil", "internal/reflectlite.TypeOf", "(internal/reflectlite.Value).Elem", "(internal/reflectlite.Value).Set"], unfollowed := true, recurses := true, named := ["errors.errorType"], apart := false, laid := [("errors.errorType", laid_errors_errorType)] }
def LogStopsSaid : Prop := logStopsRow.holds Tryz.pinned (OpenSpec.ofChange logStopsSpec)

/-- ITS FALSE NEIGHBOUR: 'it returns false'. Refute it at one input. -/
def logStopsWrong : ChangeSpec := { name := "logStops", fn := fun _ => fun
  | [d1, d2, d3] => { results := [.lit (.bool false)], args := [d1, d2, d3] }
  | _ => none }
def LogStopsWrongFalsely : Prop := logStopsRow.holds Tryz.pinned (OpenSpec.ofChange logStopsWrong)

/-- 'pitlaw3.LogKeeps': WHATEVER THE INPUT: true; the input reads as it did. -/
def logKeepsSpec : ChangeSpec := { name := "logKeeps", fn := fun _ => fun
  | [d1, d2, d3, d4, d5] => { results := [.lit (.bool true)], args := [d1, d2, d3, d4, d5] }
  | _ => none }
def logKeepsRow : OpenClaim := { program := "ytkdgpdijbobmkaagreatdoor", sum := "54a6d44e2e0573589b382441eac8db3426ecaf18d75dd50c5be95ac6f56372cc", func := "pitfloor/pitlaw3.LogKeeps", spec := "logKeeps", inPlace := ["slices.overlaps[pitfloor/api.Level]", "internal/reflectlite.ValueOf", "(internal/reflectlite.Value).Type", "(internal/reflectlite.Value).IsNil", "internal/reflectlite.TypeOf", "(internal/reflectlite.Value).Elem", "(internal/reflectlite.Value).Set"], unfollowed := true, recurses := true, named := ["errors.errorType"], apart := false, laid := [("errors.errorType", laid_errors_errorType)] }
def LogKeepsSaid : Prop := logKeepsRow.holds Tryz.pinned (OpenSpec.ofChange logKeepsSpec)

/-- ITS FALSE NEIGHBOUR: 'it returns false'. Refute it at one input. -/
def logKeepsWrong : ChangeSpec := { name := "logKeeps", fn := fun _ => fun
  | [d1, d2, d3, d4, d5] => { results := [.lit (.bool false)], args := [d1, d2, d3, d4, d5] }
  | _ => none }
def LogKeepsWrongFalsely : Prop := logKeepsRow.holds Tryz.pinned (OpenSpec.ofChange logKeepsWrong)

/-- 'pitlaw3.TwinPlays': WHATEVER THE INPUT: true; the input reads as it did. -/
def twinPlaysSpec : ChangeSpec := { name := "twinPlays", fn := fun _ => fun
  | [d1, d2, d3] => { results := [.lit (.bool true)], args := [d1, d2, d3] }
  | _ => none }
def twinPlaysRow : OpenClaim := { program := "ytkdgpdijbobmkaagreatdoor", sum := "54a6d44e2e0573589b382441eac8db3426ecaf18d75dd50c5be95ac6f56372cc", func := "pitfloor/pitlaw3.TwinPlays", spec := "twinPlays", inPlace := ["internal/reflectlite.ValueOf", "(internal/reflectlite.Value).Type", "(internal/reflectlite.Value).IsNil", "internal/reflectlite.TypeOf", "(internal/reflectlite.Value).Elem", "(internal/reflectlite.Value).Set", "slices.overlaps[pitfloor/api.Level]"], unfollowed := true, recurses := true, named := ["errors.errorType"], apart := false, laid := [("errors.errorType", laid_errors_errorType)] }
def TwinPlaysSaid : Prop := twinPlaysRow.holds Tryz.pinned (OpenSpec.ofChange twinPlaysSpec)

/-- ITS FALSE NEIGHBOUR: 'it returns false'. Refute it at one input. -/
def twinPlaysWrong : ChangeSpec := { name := "twinPlays", fn := fun _ => fun
  | [d1, d2, d3] => { results := [.lit (.bool false)], args := [d1, d2, d3] }
  | _ => none }
def TwinPlaysWrongFalsely : Prop := twinPlaysRow.holds Tryz.pinned (OpenSpec.ofChange twinPlaysWrong)

/- THE SECOND FORM. 'bulk': how many values and letters a reading holds, each counted each time it is reached (what is shared counts as often as it is met; a slice's spare places count too). A statement '..UptoSaid' is the law's where the arguments, and the package variables that the reading takes, are together of bulk at most 1048576: NARROWER than '..Said'. Prove '..Said' where nothing that the law and all that it calls make is longer than what came in: it says more and counts as full. Else prove '..UptoSaid'. A law counts once. -/
mutual
def uptoBulk {H : Type} : DataW H → Nat
  | .lit (.string bytes) => bytes.length + 1
  | .lit _ => 1
  | .nil => 1
  | .ptr d => uptoBulk d + 1
  | .slice elems spare => uptoBulkAll elems + uptoBulkAll spare + 1
  | .agg parts => uptoBulkAll parts + 1
  | .iface _ d => uptoBulk d + 1
  | .map entries => uptoBulkEntries entries + 1
  | .held _ => 1
def uptoBulkAll {H : Type} : List (DataW H) → Nat
  | [] => 0
  | d :: r => uptoBulk d + uptoBulkAll r
def uptoBulkEntries {H : Type} : List (Lit × DataW H) → Nat
  | [] => 0
  | x :: r => uptoBulkEntry x + uptoBulkEntries r
def uptoBulkEntry {H : Type} : Lit × DataW H → Nat
  | (.string bytes, d) => bytes.length + uptoBulk d + 1
  | (_, d) => uptoBulk d + 1
 end
def uptoSmall : (H : Type) → List (DataW H) → Bool := fun _ ds => decide (uptoBulkAll ds ≤ 1048576)
def OpenSpec.upto (s : _root_.Go.ChangeSpec) : _root_.Go.OpenSpec := { _root_.Go.OpenSpec.ofChange s with cond := some uptoSmall }

/-- 'pitlaw2.FloorPlays', WHERE WHAT IT READS IS OF BULK AT MOST 1048576: true; the input reads as it did. -/
def floorPlaysUptoRow : OpenClaim := { program := "ytkdgpdijbobmkaagreatdoor", sum := "54a6d44e2e0573589b382441eac8db3426ecaf18d75dd50c5be95ac6f56372cc", func := "pitfloor/pitlaw2.FloorPlays", spec := "floorPlays", inPlace := ["internal/reflectlite.ValueOf", "(internal/reflectlite.Value).Type", "(internal/reflectlite.Value).IsNil", "internal/reflectlite.TypeOf", "(internal/reflectlite.Value).Elem", "(internal/reflectlite.Value).Set", "slices.overlaps[pitfloor/api.Level]"], unfollowed := true, recurses := true, named := ["errors.errorType"], apart := false, laid := [("errors.errorType", laid_errors_errorType)], narrowed := true }
def FloorPlaysUptoSaid : Prop := floorPlaysUptoRow.holds Tryz.pinned (OpenSpec.upto floorPlaysSpec)

/-- 'pitlaw4.LogRefuses', WHERE WHAT IT READS IS OF BULK AT MOST 1048576: true; the input reads as it did. -/
def logRefusesUptoRow : OpenClaim := { program := "ytkdgpdijbobmkaagreatdoor", sum := "54a6d44e2e0573589b382441eac8db3426ecaf18d75dd50c5be95ac6f56372cc", func := "pitfloor/pitlaw4.LogRefuses", spec := "logRefuses", inPlace := ["slices.overlaps[pitfloor/api.Level]", "internal/reflectlite.ValueOf", "(internal/reflectlite.Value).Type", "(internal/reflectlite.Value).IsNil", "internal/reflectlite.TypeOf", "(internal/reflectlite.Value).Elem", "(internal/reflectlite.Value).Set"], unfollowed := true, recurses := true, named := ["errors.errorType"], apart := false, laid := [("errors.errorType", laid_errors_errorType)], narrowed := true }
def LogRefusesUptoSaid : Prop := logRefusesUptoRow.holds Tryz.pinned (OpenSpec.upto logRefusesSpec)

/-- 'pitlaw3.LogStops', WHERE WHAT IT READS IS OF BULK AT MOST 1048576: true; the input reads as it did. -/
def logStopsUptoRow : OpenClaim := { program := "ytkdgpdijbobmkaagreatdoor", sum := "54a6d44e2e0573589b382441eac8db3426ecaf18d75dd50c5be95ac6f56372cc", func := "pitfloor/pitlaw3.LogStops", spec := "logStops", inPlace := ["slices.overlaps[pitfloor/api.Level]", "internal/reflectlite.ValueOf", "(internal/reflectlite.Value).Type", "(internal/reflectlite.Value).IsNil", "internal/reflectlite.TypeOf", "(internal/reflectlite.Value).Elem", "(internal/reflectlite.Value).Set"], unfollowed := true, recurses := true, named := ["errors.errorType"], apart := false, laid := [("errors.errorType", laid_errors_errorType)], narrowed := true }
def LogStopsUptoSaid : Prop := logStopsUptoRow.holds Tryz.pinned (OpenSpec.upto logStopsSpec)

/-- 'pitlaw3.LogKeeps', WHERE WHAT IT READS IS OF BULK AT MOST 1048576: true; the input reads as it did. -/
def logKeepsUptoRow : OpenClaim := { program := "ytkdgpdijbobmkaagreatdoor", sum := "54a6d44e2e0573589b382441eac8db3426ecaf18d75dd50c5be95ac6f56372cc", func := "pitfloor/pitlaw3.LogKeeps", spec := "logKeeps", inPlace := ["slices.overlaps[pitfloor/api.Level]", "internal/reflectlite.ValueOf", "(internal/reflectlite.Value).Type", "(internal/reflectlite.Value).IsNil", "internal/reflectlite.TypeOf", "(internal/reflectlite.Value).Elem", "(internal/reflectlite.Value).Set"], unfollowed := true, recurses := true, named := ["errors.errorType"], apart := false, laid := [("errors.errorType", laid_errors_errorType)], narrowed := true }
def LogKeepsUptoSaid : Prop := logKeepsUptoRow.holds Tryz.pinned (OpenSpec.upto logKeepsSpec)

/-- 'pitlaw3.TwinPlays', WHERE WHAT IT READS IS OF BULK AT MOST 1048576: true; the input reads as it did. -/
def twinPlaysUptoRow : OpenClaim := { program := "ytkdgpdijbobmkaagreatdoor", sum := "54a6d44e2e0573589b382441eac8db3426ecaf18d75dd50c5be95ac6f56372cc", func := "pitfloor/pitlaw3.TwinPlays", spec := "twinPlays", inPlace := ["internal/reflectlite.ValueOf", "(internal/reflectlite.Value).Type", "(internal/reflectlite.Value).IsNil", "internal/reflectlite.TypeOf", "(internal/reflectlite.Value).Elem", "(internal/reflectlite.Value).Set", "slices.overlaps[pitfloor/api.Level]"], unfollowed := true, recurses := true, named := ["errors.errorType"], apart := false, laid := [("errors.errorType", laid_errors_errorType)], narrowed := true }
def TwinPlaysUptoSaid : Prop := twinPlaysUptoRow.holds Tryz.pinned (OpenSpec.upto twinPlaysSpec)

end Rows
end Go.Proofs.YtkdgpdijbobmkaaGreatDoor
