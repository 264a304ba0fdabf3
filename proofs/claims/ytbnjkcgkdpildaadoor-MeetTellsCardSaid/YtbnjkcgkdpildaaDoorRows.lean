/-
  NARROWER THAN 'FOR EVERY INPUT', by the rows' own cells (each row's printed sentence says how): KindsWhole: laid · BookApart: laid · SideSorts: laid · MeetTells: laid.
  DERIVED. THE GIVEN ROWS OF THIS SEAT. 4 by the template 'for every input the law returns true; each argument reads behind the call as it read before'; 0 by the template 'total and deterministic' (their statements: YtbnjkcgkdpildaaDoorTotals.lean).
  GIVEN WITH THE SEED: the statements are not yours to turn. If you find one false, say at which input.
  Laid BY PROGRAM, IN A SANDBOX (cutbox-rows.mjs): the forced cells as the released guide's own fill.sh prints them over the translation c0b37a12c73611c1… (all of the seat's roots in one cut). By AI agents, Wed Nov 11 2026. No macro, syntax, notation, axiom, sorry.
-/
import Derived.Test.YtbnjkcgkdpildaaDoorChecked
import GoSem.Claim
import GoSem.ClaimJoined
import GoSem.ClaimMapViews
import Derived.JoinedTies
import Derived.KernelRfl
namespace Go.Proofs.YtbnjkcgkdpildaaDoor
/- THE CELL 'sum', in the pinned program and in every row, IS THE sha256 OF THE DUMP (.gsa) THAT YtbnjkcgkdpildaaDoorProg.lean LOADS. Nothing in Lean hashes anything: it is a label: what it is worth is what the hold of that sum in a sandbox is worth. -/
noncomputable def Tryd.pinned : Pinned := { name := "ytbnjkcgkdpildaadoor", sum := "c0b37a12c73611c1527dbeee982c6c66169c2003aff80eb2e6a8b20c426a4264", checked := Tryd.checked }
namespace Rows
def none {H : Type} : Left H := { results := [], args := [] }

/- WHAT THE LISTED PACKAGE-LEVEL VARIABLES READ AS WHEN THE CALL BEGINS. Each datum BY PROGRAM (the guide's laid-datum.mjs) off the statement by which the dump's own 'gosem.cut.vars' lays the variable. In a bare row this is a premise. The card (YtbnjkcgkdpildaaDoorCards.lean) ties it to the program's text. -/
def laid_errors_errorType {H : Type} : DataW H := .iface "internal/reflectlite.rtype" (.agg [.ptr (.lit (.string [101, 114, 114, 111, 114]))])

/-- 'pitlaw4.KindsWhole': WHATEVER THE INPUT: true; the input reads as it did. -/
def kindsWholeSpec : ChangeSpec := { name := "kindsWhole", fn := fun _ => fun
  | [d1, d2] => { results := [.lit (.bool true)], args := [d1, d2] }
  | _ => none }
def kindsWholeRow : OpenClaim := { program := "ytbnjkcgkdpildaadoor", sum := "c0b37a12c73611c1527dbeee982c6c66169c2003aff80eb2e6a8b20c426a4264", func := "pitfloor/pitlaw4.KindsWhole", spec := "kindsWhole", inPlace := ["slices.overlaps[pitfloor/api.Level]", "internal/reflectlite.ValueOf", "(internal/reflectlite.Value).Type", "(internal/reflectlite.Value).IsNil", "internal/reflectlite.TypeOf", "(internal/reflectlite.Value).Elem", "(internal/reflectlite.Value).Set"], unfollowed := true, recurses := true, named := ["errors.errorType"], apart := false, laid := [("errors.errorType", laid_errors_errorType)] }
def KindsWholeSaid : Prop := kindsWholeRow.holds Tryd.pinned (OpenSpec.ofChange kindsWholeSpec)

/-- ITS FALSE NEIGHBOUR: 'it returns false'. Refute it at one input. -/
def kindsWholeWrong : ChangeSpec := { name := "kindsWhole", fn := fun _ => fun
  | [d1, d2] => { results := [.lit (.bool false)], args := [d1, d2] }
  | _ => none }
def KindsWholeWrongFalsely : Prop := kindsWholeRow.holds Tryd.pinned (OpenSpec.ofChange kindsWholeWrong)

/-- 'pitlaw4.BookApart': WHATEVER THE INPUT: true; the input reads as it did. -/
def bookApartSpec : ChangeSpec := { name := "bookApart", fn := fun _ => fun
  | [d1, d2] => { results := [.lit (.bool true)], args := [d1, d2] }
  | _ => none }
def bookApartRow : OpenClaim := { program := "ytbnjkcgkdpildaadoor", sum := "c0b37a12c73611c1527dbeee982c6c66169c2003aff80eb2e6a8b20c426a4264", func := "pitfloor/pitlaw4.BookApart", spec := "bookApart", inPlace := ["slices.overlaps[pitfloor/api.Level]", "internal/reflectlite.ValueOf", "(internal/reflectlite.Value).Type", "(internal/reflectlite.Value).IsNil", "internal/reflectlite.TypeOf", "(internal/reflectlite.Value).Elem", "(internal/reflectlite.Value).Set"], unfollowed := true, recurses := true, named := ["errors.errorType"], apart := false, laid := [("errors.errorType", laid_errors_errorType)] }
def BookApartSaid : Prop := bookApartRow.holds Tryd.pinned (OpenSpec.ofChange bookApartSpec)

/-- ITS FALSE NEIGHBOUR: 'it returns false'. Refute it at one input. -/
def bookApartWrong : ChangeSpec := { name := "bookApart", fn := fun _ => fun
  | [d1, d2] => { results := [.lit (.bool false)], args := [d1, d2] }
  | _ => none }
def BookApartWrongFalsely : Prop := bookApartRow.holds Tryd.pinned (OpenSpec.ofChange bookApartWrong)

/-- 'pitlaw4.SideSorts': WHATEVER THE INPUT: true; the input reads as it did. -/
def sideSortsSpec : ChangeSpec := { name := "sideSorts", fn := fun _ => fun
  | [d1, d2] => { results := [.lit (.bool true)], args := [d1, d2] }
  | _ => none }
def sideSortsRow : OpenClaim := { program := "ytbnjkcgkdpildaadoor", sum := "c0b37a12c73611c1527dbeee982c6c66169c2003aff80eb2e6a8b20c426a4264", func := "pitfloor/pitlaw4.SideSorts", spec := "sideSorts", inPlace := ["internal/reflectlite.ValueOf", "(internal/reflectlite.Value).Type", "(internal/reflectlite.Value).IsNil", "internal/reflectlite.TypeOf", "(internal/reflectlite.Value).Elem", "(internal/reflectlite.Value).Set", "slices.overlaps[pitfloor/api.Level]"], unfollowed := true, recurses := true, named := ["errors.errorType"], apart := false, laid := [("errors.errorType", laid_errors_errorType)] }
def SideSortsSaid : Prop := sideSortsRow.holds Tryd.pinned (OpenSpec.ofChange sideSortsSpec)

/-- ITS FALSE NEIGHBOUR: 'it returns false'. Refute it at one input. -/
def sideSortsWrong : ChangeSpec := { name := "sideSorts", fn := fun _ => fun
  | [d1, d2] => { results := [.lit (.bool false)], args := [d1, d2] }
  | _ => none }
def SideSortsWrongFalsely : Prop := sideSortsRow.holds Tryd.pinned (OpenSpec.ofChange sideSortsWrong)

/-- 'pitlaw1.MeetTells': WHATEVER THE INPUT: true; the input reads as it did. -/
def meetTellsSpec : ChangeSpec := { name := "meetTells", fn := fun _ => fun
  | [d1, d2] => { results := [.lit (.bool true)], args := [d1, d2] }
  | _ => none }
def meetTellsRow : OpenClaim := { program := "ytbnjkcgkdpildaadoor", sum := "c0b37a12c73611c1527dbeee982c6c66169c2003aff80eb2e6a8b20c426a4264", func := "pitfloor/pitlaw1.MeetTells", spec := "meetTells", inPlace := ["internal/reflectlite.ValueOf", "(internal/reflectlite.Value).Type", "(internal/reflectlite.Value).IsNil", "internal/reflectlite.TypeOf", "(internal/reflectlite.Value).Elem", "(internal/reflectlite.Value).Set"], unfollowed := true, recurses := true, named := ["errors.errorType"], apart := false, laid := [("errors.errorType", laid_errors_errorType)] }
def MeetTellsSaid : Prop := meetTellsRow.holds Tryd.pinned (OpenSpec.ofChange meetTellsSpec)

/-- ITS FALSE NEIGHBOUR: 'it returns false'. Refute it at one input. -/
def meetTellsWrong : ChangeSpec := { name := "meetTells", fn := fun _ => fun
  | [d1, d2] => { results := [.lit (.bool false)], args := [d1, d2] }
  | _ => none }
def MeetTellsWrongFalsely : Prop := meetTellsRow.holds Tryd.pinned (OpenSpec.ofChange meetTellsWrong)

/- THE SECOND FORM. 'bulk': how many values and letters a reading holds, each counted each time it is reached (what is shared counts as often as it is met; a slice's spare places count too). A statement '..UptoSaid' is the law's where the arguments, and the package variables that the reading takes, are together of bulk at most 1048576: NARROWER than '..Said'. Prove '..Said' where nothing that the law and all that it calls make is longer than what came in: it says more and counts as full. Else prove '..UptoSaid'. A law counts once. -/
mutual
def uptoBulk {H : Type} : DataW H → Nat
  | .lit (.string bytes) => bytes.length + 1
  | .lit _ => 1
  | .nil => 1
  | .ptr d => uptoBulk d + 1
  | .slice elems spare => uptoBulkAll elems + uptoBulkAll spare + 1
  | .agg parts => uptoBulkAll parts + 1
  | .iface _ d => uptoBulk d + 1
  | .map entries => uptoBulkEntries entries + 1
  | .held _ => 1
def uptoBulkAll {H : Type} : List (DataW H) → Nat
  | [] => 0
  | d :: r => uptoBulk d + uptoBulkAll r
def uptoBulkEntries {H : Type} : List (Lit × DataW H) → Nat
  | [] => 0
  | x :: r => uptoBulkEntry x + uptoBulkEntries r
def uptoBulkEntry {H : Type} : Lit × DataW H → Nat
  | (.string bytes, d) => bytes.length + uptoBulk d + 1
  | (_, d) => uptoBulk d + 1
 end
def uptoSmall : (H : Type) → List (DataW H) → Bool := fun _ ds => decide (uptoBulkAll ds ≤ 1048576)
def OpenSpec.upto (s : _root_.Go.ChangeSpec) : _root_.Go.OpenSpec := { _root_.Go.OpenSpec.ofChange s with cond := some uptoSmall }

/-- 'pitlaw4.KindsWhole', WHERE WHAT IT READS IS OF BULK AT MOST 1048576: true; the input reads as it did. -/
def kindsWholeUptoRow : OpenClaim := { program := "ytbnjkcgkdpildaadoor", sum := "c0b37a12c73611c1527dbeee982c6c66169c2003aff80eb2e6a8b20c426a4264", func := "pitfloor/pitlaw4.KindsWhole", spec := "kindsWhole", inPlace := ["slices.overlaps[pitfloor/api.Level]", "internal/reflectlite.ValueOf", "(internal/reflectlite.Value).Type", "(internal/reflectlite.Value).IsNil", "internal/reflectlite.TypeOf", "(internal/reflectlite.Value).Elem", "(internal/reflectlite.Value).Set"], unfollowed := true, recurses := true, named := ["errors.errorType"], apart := false, laid := [("errors.errorType", laid_errors_errorType)], narrowed := true }
def KindsWholeUptoSaid : Prop := kindsWholeUptoRow.holds Tryd.pinned (OpenSpec.upto kindsWholeSpec)

/-- 'pitlaw4.BookApart', WHERE WHAT IT READS IS OF BULK AT MOST 1048576: true; the input reads as it did. -/
def bookApartUptoRow : OpenClaim := { program := "ytbnjkcgkdpildaadoor", sum := "c0b37a12c73611c1527dbeee982c6c66169c2003aff80eb2e6a8b20c426a4264", func := "pitfloor/pitlaw4.BookApart", spec := "bookApart", inPlace := ["slices.overlaps[pitfloor/api.Level]", "internal/reflectlite.ValueOf", "(internal/reflectlite.Value).Type", "(internal/reflectlite.Value).IsNil", "internal/reflectlite.TypeOf", "(internal/reflectlite.Value).Elem", "(internal/reflectlite.Value).Set"], unfollowed := true, recurses := true, named := ["errors.errorType"], apart := false, laid := [("errors.errorType", laid_errors_errorType)], narrowed := true }
def BookApartUptoSaid : Prop := bookApartUptoRow.holds Tryd.pinned (OpenSpec.upto bookApartSpec)

/-- 'pitlaw4.SideSorts', WHERE WHAT IT READS IS OF BULK AT MOST 1048576: true; the input reads as it did. -/
def sideSortsUptoRow : OpenClaim := { program := "ytbnjkcgkdpildaadoor", sum := "c0b37a12c73611c1527dbeee982c6c66169c2003aff80eb2e6a8b20c426a4264", func := "pitfloor/pitlaw4.SideSorts", spec := "sideSorts", inPlace := ["internal/reflectlite.ValueOf", "(internal/reflectlite.Value).Type", "(internal/reflectlite.Value).IsNil", "internal/reflectlite.TypeOf", "(internal/reflectlite.Value).Elem", "(internal/reflectlite.Value).Set", "slices.overlaps[pitfloor/api.Level]"], unfollowed := true, recurses := true, named := ["errors.errorType"], apart := false, laid := [("errors.errorType", laid_errors_errorType)], narrowed := true }
def SideSortsUptoSaid : Prop := sideSortsUptoRow.holds Tryd.pinned (OpenSpec.upto sideSortsSpec)

/-- 'pitlaw1.MeetTells', WHERE WHAT IT READS IS OF BULK AT MOST 1048576: true; the input reads as it did. -/
def meetTellsUptoRow : OpenClaim := { program := "ytbnjkcgkdpildaadoor", sum := "c0b37a12c73611c1527dbeee982c6c66169c2003aff80eb2e6a8b20c426a4264", func := "pitfloor/pitlaw1.MeetTells", spec := "meetTells", inPlace := ["internal/reflectlite.ValueOf", "(internal/reflectlite.Value).Type", "(internal/reflectlite.Value).IsNil", "internal/reflectlite.TypeOf", "(internal/reflectlite.Value).Elem", "(internal/reflectlite.Value).Set"], unfollowed := true, recurses := true, named := ["errors.errorType"], apart := false, laid := [("errors.errorType", laid_errors_errorType)], narrowed := true }
def MeetTellsUptoSaid : Prop := meetTellsUptoRow.holds Tryd.pinned (OpenSpec.upto meetTellsSpec)

end Rows
end Go.Proofs.YtbnjkcgkdpildaaDoor
