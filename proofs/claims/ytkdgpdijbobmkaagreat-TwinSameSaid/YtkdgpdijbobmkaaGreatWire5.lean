/- The contracts of package wire: Command, Place, Cancel and Swap. -/
import Derived.Test.YtkdgpdijbobmkaaGreatWire4
namespace Go.Proofs.YtkdgpdijbobmkaaGreat
set_option linter.all false
open Go.RowKit
theorem Bk.ne_own {w : World} {g base s n : Nat} {t e : TypeId} {cs : Array Value} {v : Value} {xs : List Value} (h : Bk w g t cs) (ho : w.ownsRow base e s v n xs) (hte : t ≠ e) : some g ≠ v.ownBlock := by
  intro he
  rcases ho.2 with ⟨rfl, _⟩ | ⟨g', cap, cur, rfl, _, hh, _⟩
  · cases he
  · cases he
    unfold Bk at h
    rw [h] at hh
    cases hh
    exact hte rfl
/-- the bytes of numbers of two bytes -/
def duo (xs : List Int) : List Int := xs.flatMap fun x => [x / 256, x % 256]
theorem duo_snoc {xs : List Int} {q : Nat} {x : Int} (h : xs[q]? = some x) : duo (xs.take (q + 1)) = duo (xs.take q) ++ [x / 256, x % 256] := by
  rw [List.take_add_one, h]; simp [duo]
theorem duo_len (xs : List Int) : (duo xs).length = 2 * xs.length := by
  induction xs with
  | nil => rfl
  | cons x xs ih => simp only [duo, List.flatMap_cons, List.length_append, List.length_cons, List.length_nil] at *; omega
theorem duo_in {xs : List Int} (h : ∀ x ∈ xs, 0 ≤ x ∧ x ≤ 65535) : ∀ x ∈ duo xs, 0 ≤ x ∧ x ≤ 255 := by
  intro y hy
  obtain ⟨x, hx, hy⟩ := List.mem_flatMap.1 hy
  have := h x hx
  simp only [List.mem_cons, List.not_mem_nil, or_false] at hy
  omega
theorem u8_wrap2 (x : Int) : IntKind.u8.wrap x = x % 256 := by
  first | rfl | simp [IntKind.wrap]
theorem u8_wrap1 {x : Int} (h : 0 ≤ x ∧ x ≤ 65535) : IntKind.u8.wrap (x / 256) = x / 256 := by
  rw [u8_wrap2]; omega
end Go.Proofs.YtkdgpdijbobmkaaGreat
