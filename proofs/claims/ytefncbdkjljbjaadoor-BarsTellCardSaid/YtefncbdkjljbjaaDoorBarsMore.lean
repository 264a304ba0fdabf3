/- The contracts of bars.Join, Mean, Range. -/
import Derived.Test.YtefncbdkjljbjaaDoorBarsMk
import Derived.Test.YtefncbdkjljbjaaDoorBlk
namespace Go.Proofs.YtefncbdkjljbjaaDoor
set_option linter.all false
open Go.RowKit
/-- is a bar? -/
def Bar.okB (b : Bar) : Bool := decide (1 ≤ b.l ∧ b.l ≤ b.h ∧ (b.l ≤ b.o ∧ b.o ≤ b.h) ∧ (b.l ≤ b.c ∧ b.c ≤ b.h) ∧ 1 ≤ b.q ∧ b.q ≤ 4000000)
set_option maxHeartbeats 1000000 in
theorem right_any (b : Bar) (w : World) :
    Calls Tryd.prog 68 #[.agg #[.int .i64 b.o, .int .i64 b.h, .int .i64 b.l, .int .i64 b.c, .int .i64 b.q]] w fun e w' => e = .returned (.bool b.okB) ∧ Below w.heap.size w w' := by
  obtain ⟨o, h, l, c, q⟩ := b
  have hc : l < 1 ∨ (1 ≤ l ∧ h < l) ∨ (1 ≤ l ∧ l ≤ h ∧ o < l) ∨ (1 ≤ l ∧ l ≤ h ∧ l ≤ o ∧ h < o) ∨ (1 ≤ l ∧ l ≤ h ∧ l ≤ o ∧ o ≤ h ∧ c < l) ∨ (1 ≤ l ∧ l ≤ h ∧ l ≤ o ∧ o ≤ h ∧ l ≤ c ∧ h < c) ∨
      (1 ≤ l ∧ l ≤ h ∧ l ≤ o ∧ o ≤ h ∧ l ≤ c ∧ c ≤ h ∧ q < 1) ∨ (1 ≤ l ∧ l ≤ h ∧ l ≤ o ∧ o ≤ h ∧ l ≤ c ∧ c ≤ h ∧ 1 ≤ q ∧ 4000000 < q) ∨ (1 ≤ l ∧ l ≤ h ∧ l ≤ o ∧ o ≤ h ∧ l ≤ c ∧ c ≤ h ∧ 1 ≤ q ∧ q ≤ 4000000) := by omega
  rcases hc with a | ⟨a1, a2⟩ | ⟨a1, a2, a3⟩ | ⟨a1, a2, a3, a4⟩ | ⟨a1, a2, a3, a4, a5⟩ | ⟨a1, a2, a3, a4, a5, a6⟩ | ⟨a1, a2, a3, a4, a5, a6, a7⟩ | ⟨a1, a2, a3, a4, a5, a6, a7, a8⟩ | ⟨a1, a2, a3, a4, a5, a6, a7, a8⟩
  all_goals
    go_enter Tryd.func68, Tryd.ntmps68
    go_wp2
    go_ret
    refine ⟨ret_bool ?_, by (repeat (first | exact Below.refl _ _ | assumption | (refine below_then (by assumption) ?_) | (refine below_then_alloc ?_) | (refine Below.drew ?_)))⟩
    simp only [Bar.okB]
    first | (refine (decide_eq_false ?_).symm; omega) | (refine (decide_eq_true ?_).symm; omega) | (rw [Bool.eq_iff_iff, decide_eq_true_iff, decide_eq_true_iff]; omega)
/-- cell j of bar i -/
def bcellv (l : List Bar) (i j : Nat) : Value := ((l.getD i bar0).vals)[j]?.getD undef
theorem bar_at {l : List Bar} {w : World} {B k : Nat} {A : Option Addr} (hr : Rd w B A l.length 5 (bcellv l)) (hk : k < l.length) :
    ∃ b off t, A = some ⟨b, off, none⟩ ∧ b < B ∧ l[k]? = some t ∧ w.cell? ⟨b, off + k * 5, none⟩ = some (.int .i64 t.o) ∧ w.cell? ⟨b, off + k * 5 + 1, none⟩ = some (.int .i64 t.h) ∧ w.cell? ⟨b, off + k * 5 + 2, none⟩ = some (.int .i64 t.l) ∧ w.cell? ⟨b, off + k * 5 + 3, none⟩ = some (.int .i64 t.c) ∧ w.cell? ⟨b, off + k * 5 + 4, none⟩ = some (.int .i64 t.q) := by
  obtain ⟨b, off, e, hb, hc⟩ := hr (by omega)
  have hg : l.getD k bar0 = l[k] := by simp [hk]
  have h := hc k hk
  have h0 := h 0 (by omega); have h1 := h 1 (by omega); have h2 := h 2 (by omega); have h3 := h 3 (by omega); have h4 := h 4 (by omega)
  simp only [bcellv, hg, Bar.vals] at h0 h1 h2 h3 h4
  exact ⟨b, off, l[k], e, hb, List.getElem?_eq_getElem hk, h0, h1, h2, h3, h4⟩
theorem Rd.bars {base c : Nat} {A : Option Addr} {w : World} {l : List Bar} (h : w.ownsRow base 38 5 (.slice A l.length c) l.length (flatB l)) : Rd w w.heap.size A l.length 5 (bcellv l) := by
  refine Rd.of_own h fun i j hi hj => ?_
  have ht : l[i]? = some (l.getD i bar0) := by simp [hi]
  rw [flatB, flat_get Bar.vals_len ht hj, bcellv]
  match j, hj with
  | 0, _ => rfl
  | 1, _ => rfl
  | 2, _ => rfl
  | 3, _ => rfl
  | 4, _ => rfl
end Go.Proofs.YtefncbdkjljbjaaDoor
