/- What all texts of this seat share: how an argument comes in; small lemmas. -/
import Derived.Test.YtbnjkcgkdpildaaDoorChecked
import Derived.WalkKit
import Derived.Below
import Derived.WalkLawsBesides
import Derived.WalkSpells
import Derived.Lib.Hide
import Derived.Outline
import Derived.ProofKit
import Derived.OpenShut
namespace Go.Proofs.YtbnjkcgkdpildaaDoor
set_option linter.all false
open Go.RowKit Go.ChangeShapes Go.WideShapes

theorem ret_bool {a b : Bool} (h : a = b) : Ending.returned (.bool a) = .returned (.bool b) := by rw [h]
theorem ret2_bool {a b : Bool} {v : Value} (h : a = b) : Ending.returned (.tuple #[.bool a, v]) = .returned (.tuple #[.bool b, v]) := by rw [h]
/-- an error of a number above 0 -/
abbrev er (k : Int) : Value := .iface 69 (.int .i64 k)

/-- an argument as it comes in: of its type, and it reads as data -/
structure Arg {H : Type} (enc : TypeId × Value → H) (W : World) (base : Nat) (t : TypeId) (v : Value) (d : DataW H) (p : List MemPlace) : Prop where
  ok : Value.okWide Tryd.prog W .any base t v
  rd : DataW.Trod enc Tryd.prog W 0 (fun _ => true) true t v d p

set_option maxRecDepth 100000 in
theorem Arg.int {H : Type} {enc : TypeId × Value → H} {W : World} {base : Nat} {v : Value} {d : DataW H} {p : List MemPlace} (h : Arg enc W base 3 v d p) :
    ∃ a : Int, v = .int .i64 a ∧ (Lit.int .i64 a).wf = true := by
  obtain ⟨a, h1, _, _, h4⟩ := open_int Tryd.underlying3 h.ok h.rd
  exact ⟨a, h1, h4⟩
end Go.Proofs.YtbnjkcgkdpildaaDoor
