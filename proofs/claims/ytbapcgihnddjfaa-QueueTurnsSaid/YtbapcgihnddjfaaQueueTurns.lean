/- The walk of QueueTurns. -/
import Derived.Test.YtbapcgihnddjfaaTake3
namespace Go.Proofs.Ytbapcgihnddjfaa
open Go Go.RowKit
def alt : Nat → Int → List Fill
  | 0, _ => []
  | m + 1, s => ⟨1, 1, s⟩ :: ⟨2, 2, s⟩ :: alt m s
theorem alt_len (m : Nat) (s : Int) : (alt m s).length = 2 * m := by
  induction m with
  | zero => rfl
  | succ m ih => simp only [alt, List.length_cons, ih]; omega
theorem alt_get (s : Int) : ∀ (m i : Nat), i < 2 * m → (alt m s)[i]? = some ⟨1 + (i : Int) % 2, 1 + (i : Int) % 2, s⟩
  | 0, i, h => by omega
  | m + 1, 0, _ => rfl
  | m + 1, 1, _ => rfl
  | m + 1, i + 2, h => by
    simp only [alt, List.getElem?_cons_succ]
    rw [alt_get s m i (by omega)]
    congr 2 <;> omega
theorem turn_err {k s p : Int} (hk : k = 1 ∨ k = 2) (h1 : 1 ≤ s) (h2 : s ≤ 50) (h3 : 0 ≤ p) (h4 : p ≤ 10000) : Rest.err ⟨k, k, s, p, s⟩ = 0 := by
  refine err_mk ?_ ?_ h1 (by dsimp only; omega) h3 h4 (by dsimp only; omega) (by dsimp only; omega) (fun h => by dsimp only at h; omega) (fun _ => Int.le_refl _)
  · rcases hk with rfl | rfl <;> rfl
  · rcases hk with rfl | rfl <;> rfl
theorem turn_first {k s p n : Int} (x : Rest) (h1 : 1 ≤ s) (h3 : 0 ≤ p) (hn : s ≤ n) : qFirst ⟨k, k, s, p + s, s⟩ [x] n = (⟨k, k, s⟩, [x, ⟨k, k, s, p, s⟩]) := by
  rw [qFirst, if_neg (by dsimp only; omega), if_pos (by dsimp only; omega)]
  dsimp only
  rw [show min s (p + s) = s by omega, show p + s - s = p by omega]
  rfl
theorem turns_law {s : Int} (h1 : 1 ≤ s) (h2 : s ≤ 50) : ∀ m : Nat, m ≤ 50 → qTake [⟨1, 1, s, s * m, s⟩, ⟨2, 2, s, s * m, s⟩] (2 * s * m) = (alt m s, [⟨1, 1, s, 0, s⟩, ⟨2, 2, s, 0, s⟩])
  | 0, _ => by rw [show 2 * s * ((0 : Nat) : Int) = 0 by simp, show s * ((0 : Nat) : Int) = 0 by simp, qTake_le0 (by omega)]; rfl
  | m + 1, hm => by
    have ih := turns_law h1 h2 m (by omega)
    have e1 : s * ((m + 1 : Nat) : Int) = s * m + s := by push_cast; rw [Int.mul_add, Int.mul_one]
    have e2 : 2 * s * ((m + 1 : Nat) : Int) = 2 * (s * m) + 2 * s := by push_cast; rw [Int.mul_add, Int.mul_one, Int.mul_assoc]
    have e3 : 2 * s * (m : Int) = 2 * (s * m) := Int.mul_assoc _ _ _
    have hp0 : 0 ≤ s * (m : Int) := Int.mul_nonneg (by omega) (by omega)
    have hp1 : s * (m : Int) ≤ 50 * 50 := Int.mul_le_mul h2 (by omega) (by omega) (by omega)
    rw [e1, e2]
    rw [e3] at ih
    generalize s * (m : Int) = p at *
    have hs1 : Sound [⟨1, 1, s, p + s, s⟩, ⟨2, 2, s, p + s, s⟩] := by
      intro r hr
      simp only [List.mem_cons, List.not_mem_nil, or_false] at hr
      rcases hr with rfl | rfl
      · exact turn_err (.inl rfl) h1 h2 (by omega) (by omega)
      · exact turn_err (.inr rfl) h1 h2 (by omega) (by omega)
    have hs2 : Sound [⟨2, 2, s, p + s, s⟩, ⟨1, 1, s, p, s⟩] := by
      intro r hr
      simp only [List.mem_cons, List.not_mem_nil, or_false] at hr
      rcases hr with rfl | rfl
      · exact turn_err (.inr rfl) h1 h2 (by omega) (by omega)
      · exact turn_err (.inl rfl) h1 h2 (by omega) (by omega)
    rw [qTake_cons hs1 (by omega), turn_first _ h1 hp0 (by omega)]
    dsimp only
    rw [qTake_cons hs2 (by omega), turn_first _ h1 hp0 (by omega)]
    dsimp only
    rw [show 2 * p + 2 * s - s - s = 2 * p by omega, ih]
    rfl
/-- what QueueTurns has of Take -/
def TurnsPost (s : Int) (m : Nat) (w : World) (e : Ending) (w' : World) : Prop :=
  ∃ g off co b of2 c, e = .returned (.tuple #[.slice (some ⟨g, off, none⟩) (2 * m) co, .slice (some ⟨b, of2, none⟩) 2 c, .nilIface]) ∧ (∀ k, k < 2 * m → w'.cell? ⟨g, off + k * 3, none⟩ = some (.int .i64 (1 + (k : Int) % 2)) ∧ w'.cell? ⟨g, off + k * 3 + 2, none⟩ = some (.int .i64 s)) ∧
    w'.cell? ⟨b, of2, none⟩ = some (.int .i64 1) ∧ w'.cell? ⟨b, of2 + 2, none⟩ = some (.int .i64 s) ∧ w'.cell? ⟨b, of2 + 3, none⟩ = some (.int .i64 0) ∧ Below w.heap.size w w'
theorem turns_post {s : Int} {m : Nat} (hm : 0 < m) {w : World} {e : Ending} {w' : World} (h : TakePost (alt m s) [⟨1, 1, s, 0, s⟩, ⟨2, 2, s, 0, s⟩] w e w') : TurnsPost s m w e w' := by
  obtain ⟨Ao, co, A, c, rfl, oF, oL, hb⟩ := h
  rw [alt_len] at oF ⊢
  obtain ⟨g, off, rfl, _, _, hc, _⟩ := oF.cell (by omega)
  obtain ⟨b, of2, rfl, _, _, hc2, _⟩ := oL.cell (by simp)
  refine ⟨g, off, co, b, of2, c, rfl, fun k hk => ⟨?_, ?_⟩, hc2 0 (by simp), hc2 2 (by simp), hc2 3 (by simp), hb⟩
  · have := flat_get (j := 0) (f := Fill.vals) (s := 3) (fun _ => rfl) (alt_get s m k hk) (by omega)
    rw [hc (k * 3) (by omega), frows]
    exact this
  · rw [Nat.add_assoc, hc (k * 3 + 2) (by omega), frows, flat_get (f := Fill.vals) (s := 3) (fun _ => rfl) (alt_get s m k hk) (by omega)]
    rfl
theorem turns_take {s : Int} {m : Nat} (h1 : 1 ≤ s) (h2 : s ≤ 50) (hm : 0 < m) (hm2 : m ≤ 50) (w : World) {g : Nat} (hk : Bk w g 49 #[.int .i64 1, .int .i64 1, .int .i64 s, .int .i64 (s * m), .int .i64 s, .int .i64 2, .int .i64 2, .int .i64 s, .int .i64 (s * m), .int .i64 s]) :
    Calls Try.prog 22 #[.slice (some ⟨g, 0, none⟩) 2 2, .int .i64 (2 * s * m)] w (TurnsPost s m w) := by
  have hp0 : 1 * 1 ≤ s * (m : Int) := Int.mul_le_mul h1 (by omega) (by omega) (by omega)
  have hp1 : s * (m : Int) ≤ 50 * 50 := Int.mul_le_mul h2 (by omega) (by omega) (by omega)
  have e3 : 2 * s * (m : Int) = 2 * (s * m) := Int.mul_assoc _ _ _
  have ht := turns_law h1 h2 m hm2
  have hr : Rd w w.heap.size (some ⟨g, 0, none⟩) 2 5 (rcell [⟨1, 1, s, s * m, s⟩, ⟨2, 2, s, s * m, s⟩]) := fun _ => ⟨g, 0, rfl, hk.lt, fun i hi j hj => by
    rw [hk.cell]
    match i, hi with
    | 0, _ => match j, hj with
      | 0, _ => rfl
      | 1, _ => rfl
      | 2, _ => rfl
      | 3, _ => rfl
      | 4, _ => rfl
    | 1, _ => match j, hj with
      | 0, _ => rfl
      | 1, _ => rfl
      | 2, _ => rfl
      | 3, _ => rfl
      | 4, _ => rfl⟩
  have hq : qErr [⟨1, 1, s, s * m, s⟩, ⟨2, 2, s, s * m, s⟩] = 0 := by
    have x1 := turn_err (k := 1) (.inl rfl) h1 h2 (show 0 ≤ s * (m : Int) by omega) (by omega)
    have x2 := turn_err (k := 2) (.inr rfl) h1 h2 (show 0 ≤ s * (m : Int) by omega) (by omega)
    refine qErr_none (by simp) fun j hj => ?_
    match j, hj with
    | 0, _ => simp [stepE, x1, findI]
    | 1, _ => simp [stepE, x2, findI]
  have := take_ok [⟨1, 1, s, s * m, s⟩, ⟨2, 2, s, s * m, s⟩] (some ⟨g, 0, none⟩) 2 (2 * s * m) w hr (by simp) (fun h => by cases h) hq (by simp [inb]; omega)
  rw [ht] at this
  exact this.mono fun e w' h => turns_post hm h
set_option maxHeartbeats 2000000 in
theorem queueTurns_in (s : Int) (m : Nat) (h1 : 1 ≤ s) (h2 : s ≤ 50) (hm : 0 < m) (hm2 : m ≤ 50) (w : World) :
    Calls Try.prog 8 #[.int .i64 s, .int .i64 m] w fun e w' => e = .returned (.bool true) ∧ Below w.heap.size w w' := by
  have hp0 : 0 ≤ s * (m : Int) := Int.mul_nonneg (by omega) (by omega)
  have hp1 : s * (m : Int) ≤ 50 * 50 := Int.mul_le_mul h2 (by omega) (by omega) (by omega)
  have e3 : 2 * s * (m : Int) = 2 * (s * m) := Int.mul_assoc _ _ _
  have hp2 : 0 ≤ 2 * s * (m : Int) := by omega
  have hp3 : 2 * s * (m : Int) ≤ 5000 := by omega
  have i1 : (1 : Int) ≤ (m : Int) := by omega
  have i2 : (m : Int) ≤ 50 := by omega
  have TT := Lib.hid (fun w' g => turns_take (w := w') (g := g) h1 h2 hm hm2)
  clear e3
  go_enter Try.func8, Try.ntmps8
  go_wp2_with (go_at_call 22; refine (TT.out _ _ (Bk.at_ (by simp) _ _)).mono ?_; rintro e w1 ⟨g, off, co, b, of2, c, rfl, hc, r0, r2, r3, hb⟩; have HC := Lib.hid hc; clear hc)
  go_loop [9] (fun i => ∃ k : Nat, k ≤ 2 * m ∧ i = .int .i64 k) (fun i => 2 * m - (intOf i).toNat)
  case atStart => exact ⟨0, by omega, rfl⟩
  case round =>
    obtain ⟨k, hk, rfl⟩ := hrel
    by_cases hlt : k < 2 * m
    · obtain ⟨q0, q1⟩ := HC.out k hlt
      have hlt2 : (k : Int) < 2 * (m : Int) := by omega
      go_wp2
      go_round
      case rel => exact ⟨k + 1, by omega, by go_num⟩
      case measure => simp [intOf]; omega
    · obtain rfl : k = 2 * m := by omega
      go_wp2
      go_ret
      refine ⟨rfl, ?_⟩
      (repeat (first | exact Below.refl _ _ | assumption | (refine below_then (by assumption) ?_) | (refine below_then_alloc ?_) | (refine Below.drew ?_)))
theorem queueTurns_law {H : Type} {enc : TypeId × Value → H} {v0 v1 : Value} {d0 d1 : DataW H} {p0 p1 : List MemPlace} {base : Nat} {W : World}
    (h0 : Arg enc W base 3 v0 d0 p0) (h1 : Arg enc W base 3 v1 d1 p1) :
    Calls Try.prog 8 #[v0, v1] W fun e w' => e = .returned (.bool true) ∧ Below W.heap.size W w' := by
  obtain ⟨s, rfl, _⟩ := h0.int
  obtain ⟨t, rfl, _⟩ := h1.int
  by_cases h : 1 ≤ s ∧ s ≤ 50 ∧ 1 ≤ t ∧ t ≤ 50
  · obtain ⟨m, rfl⟩ : ∃ m : Nat, t = m := ⟨t.toNat, by omega⟩
    exact queueTurns_in s m (by omega) (by omega) (by omega) (by omega) W
  · rcases (show s < 1 ∨ (1 ≤ s ∧ 50 < s) ∨ (1 ≤ s ∧ s ≤ 50 ∧ t < 1) ∨ (1 ≤ s ∧ s ≤ 50 ∧ 1 ≤ t ∧ 50 < t) by omega) with a | ⟨a, b⟩ | ⟨a, b, c⟩ | ⟨a, b, c, d⟩
    all_goals
      clear h h0 h1
      go_enter Try.func8, Try.ntmps8
      go_wp2
      go_ret
      exact ⟨rfl, Below.refl _ _⟩
end Go.Proofs.Ytbapcgihnddjfaa
