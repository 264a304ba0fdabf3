/- The contracts of package wire: Command, Pay and Give. -/
import Derived.Test.YtkdgpdijbobmkaaGreatWire3
import Derived.Test.YtkdgpdijbobmkaaGreatWireStr
namespace Go.Proofs.YtkdgpdijbobmkaaGreat
set_option linter.all false
open Go.RowKit
theorem byte_info : (Tryz.prog.info? 5).map (fun i => (i.zero, i.size, i.bytes)) = some (some (.int .u8 0), 1, 1) := by kernel_rfl
/-- a command as bytes: what Command ends with -/
def CmdPost (bs : List Int) (w : World) (e : Ending) (w' : World) : Prop :=
  e = .returned (.tuple #[.string (strOf (bs ++ [bs.sum % 251])), .nilIface]) ∧ Below w.heap.size w w'
theorem sum_take {bs : List Int} {q : Nat} {x : Int} (h : bs[q]? = some x) : (bs.take (q + 1)).sum = (bs.take q).sum + x := by
  rw [List.take_add_one, h]; simp
theorem sum_bounds {bs : List Int} (h : ∀ x ∈ bs, 0 ≤ x ∧ x ≤ 255) : 0 ≤ bs.sum ∧ bs.sum ≤ 255 * bs.length := by
  induction bs with
  | nil => simp
  | cons x bs ih =>
    have h1 := ih fun y hy => h y (List.mem_cons_of_mem _ hy)
    have h2 := h x List.mem_cons_self
    rw [List.sum_cons, List.length_cons]
    omega
end Go.Proofs.YtkdgpdijbobmkaaGreat
