/- The walk of TickRounds: the call returns true, whatever the four numbers. -/
import Derived.Test.YtbapcgihnddjfaaTick
namespace Go.Proofs.Ytbapcgihnddjfaa
open Go.RowKit

theorem rnd_tick {p n s : Int} (h : okR p n s = true) : rnd p n s % n = 0 := by
  have h' : 1 ≤ p ∧ p ≤ 10000 ∧ 1 ≤ n ∧ n ≤ 100 ∧ 1 ≤ s ∧ s ≤ 2 := by simpa [okR] using h
  have e : p - p % n = n * (p / n) := by have := Int.mul_ediv_add_emod p n; omega
  unfold rnd
  split
  · rw [e, show n * (p / n) + n = n * (p / n + 1) by rw [Int.mul_add]; omega]; exact Int.mul_emod_right _ _
  · rw [e]; exact Int.mul_emod_right _ _
theorem rnd_again {p n s : Int} (h : okR p n s = true) : rnd (rnd p n s) n s = rnd p n s := by
  have e := rnd_tick h
  generalize rnd p n s = k at e ⊢
  simp [rnd, e]
theorem rnd_near {p n s : Int} (h : okR p n s = true) : rnd p n s - p < n ∧ p - rnd p n s < n ∧ (s = 1 → rnd p n s ≤ p) ∧ (s = 2 → p ≤ rnd p n s) := by
  have h' : 1 ≤ p ∧ p ≤ 10000 ∧ 1 ≤ n ∧ n ≤ 100 ∧ 1 ≤ s ∧ s ≤ 2 := by simpa [okR] using h
  have := Int.emod_nonneg p (show n ≠ 0 by omega)
  have := Int.emod_lt_of_pos p (show 0 < n by omega)
  unfold rnd
  split <;> omega
theorem ahd_sym {s a b : Int} (h1 : ahd s a b = true) (h2 : ahd s b a = true) : False := by
  unfold ahd at h1 h2
  split at h1 <;> simp_all <;> omega
theorem ahd_tot {s a b : Int} (h1 : ahd s a b = false) (h2 : ahd s b a = false) : a = b := by
  unfold ahd at h1 h2
  split at h1 <;> simp_all <;> omega
/-- what the first half asks of both comparisons -/
theorem first_half (s p q : Int) : ∃ (a b : Bool) (e : Value), (e = .nilIface ∨ e = er 1) ∧ (e = .nilIface → (a && b || a == b && !(p == q)) = false) ∧
    (∀ w, Calls Try.prog 17 #[.int .i64 s, .int .i64 p, .int .i64 q] w fun e' w' => e' = .returned (.tuple #[.bool a, e]) ∧ w = w') ∧
    (∀ w, Calls Try.prog 17 #[.int .i64 s, .int .i64 q, .int .i64 p] w fun e' w' => e' = .returned (.tuple #[.bool b, e]) ∧ w = w') := by
  have hs : okT s q p = okT s p q := by unfold okT; rw [Bool.eq_iff_iff]; simp; omega
  cases h : okT s p q
  · exact ⟨false, false, er 1, .inr rfl, (fun h => by cases h), fun w => better_bad s p q w h, fun w => better_bad s q p w (by rw [hs, h])⟩
  · refine ⟨ahd s p q, ahd s q p, .nilIface, .inl rfl, fun _ => ?_, fun w => better_ok s p q w h, fun w => better_ok s q p w (by rw [hs, h])⟩
    cases h1 : ahd s p q <;> cases h2 : ahd s q p
    · simp [ahd_tot h1 h2]
    · rfl
    · rfl
    · exact (ahd_sym h1 h2).elim

theorem tickRounds_walk (p q n s : Int) (w : World) :
    Calls Try.prog 5 #[.int .i64 p, .int .i64 q, .int .i64 n, .int .i64 s] w fun e w' => e = .returned (.bool true) ∧ w = w' := by
  have c0 : ∀ w, Calls Try.prog 16 #[.int .i64 17, .int .i64 5, .int .i64 2] w fun e w' => e = .returned (.tuple #[.int .i64 20, .nilIface]) ∧ w = w' := by
    intro w
    refine (round_ok 17 5 2 w (by decide)).mono ?_
    rintro e w' ⟨⟨_, h⟩ | ⟨h, _⟩, rfl⟩
    · exact ⟨h, rfl⟩
    · exact absurd h (by decide)
  obtain ⟨a, b, e, he, hab, cA, cB⟩ := first_half s p q
  rcases round_ex p n s with ⟨ho, hv, cR⟩ | ⟨_, cR⟩
  · have ho' : 1 ≤ p ∧ p ≤ 10000 ∧ 1 ≤ n ∧ n ≤ 100 ∧ 1 ≤ s ∧ s ≤ 2 := by simpa [okR] using ho
    obtain ⟨b1, b2, b3, b4, b5, b6⟩ := ho'
    have h1 := rnd_tick ho
    have h2 := rnd_again ho
    obtain ⟨n1, n2, n3, n4⟩ := rnd_near ho
    have hv' := vp_t hv
    generalize rnd p n s = k at *
    have cO := fun w => on_ok k n w hv'.1 hv'.2 b3 b4
    have hk : (k % n == 0) = true := by simp [h1]
    have cW := fun w => better_ok s p k w (by simp [okT]; omega)
    have hw : ahd s p k = false := by
      unfold ahd
      by_cases e : s = 1
      · simp [e]; omega
      · simp [e]; omega
    have cM : ∀ w, Calls Try.prog 16 #[.int .i64 k, .int .i64 n, .int .i64 s] w fun e w' => e = .returned (.tuple #[.int .i64 k, .nilIface]) ∧ w = w' := by
      intro w
      refine (round_ok k n s w (by simp [okR]; omega)).mono ?_
      rw [h2]
      rintro e w' ⟨⟨_, h⟩ | ⟨h, _⟩, rfl⟩
      · exact ⟨h, rfl⟩
      · rw [hv] at h; cases h
    clear ho hv h1 h2 n3 n4
    rcases he with rfl | rfl
    · have hab' := hab rfl
      clear hab
      cases a <;> cases b <;> simp at hab'
      all_goals
        try subst hab'
        go_enter Try.func5, Try.ntmps5
        go_wp2_with (first | (go_at_call 16; first | ((with_reducible refine (c0 _).mono ?_); rintro e w' ⟨rfl, rfl⟩) | ((with_reducible refine (cR _).mono ?_); rintro e w' ⟨rfl, rfl⟩) | ((with_reducible refine (cM _).mono ?_); rintro e w' ⟨rfl, rfl⟩)) | (go_at_call 17; first | ((with_reducible refine (cA _).mono ?_); rintro e w' ⟨rfl, rfl⟩) | ((with_reducible refine (cB _).mono ?_); rintro e w' ⟨rfl, rfl⟩) | ((with_reducible refine (cW _).mono ?_); rintro e w' ⟨rfl, rfl⟩)) | (go_at_call 18; ((with_reducible refine (cO _).mono ?_); rintro e w' ⟨rfl, rfl⟩)))
        go_ret
        exact ⟨rfl, rfl⟩
    · clear hab
      go_enter Try.func5, Try.ntmps5
      go_wp2_with (first | (go_at_call 16; first | ((with_reducible refine (c0 _).mono ?_); rintro e w' ⟨rfl, rfl⟩) | ((with_reducible refine (cR _).mono ?_); rintro e w' ⟨rfl, rfl⟩) | ((with_reducible refine (cM _).mono ?_); rintro e w' ⟨rfl, rfl⟩)) | (go_at_call 17; first | ((with_reducible refine (cA _).mono ?_); rintro e w' ⟨rfl, rfl⟩) | ((with_reducible refine (cB _).mono ?_); rintro e w' ⟨rfl, rfl⟩) | ((with_reducible refine (cW _).mono ?_); rintro e w' ⟨rfl, rfl⟩)) | (go_at_call 18; ((with_reducible refine (cO _).mono ?_); rintro e w' ⟨rfl, rfl⟩)))
      go_ret
      exact ⟨rfl, rfl⟩
  · rcases he with rfl | rfl
    · have hab' := hab rfl
      clear hab
      cases a <;> cases b <;> simp at hab'
      all_goals
        try subst hab'
        go_enter Try.func5, Try.ntmps5
        go_wp2_with (first | (go_at_call 16; first | ((with_reducible refine (c0 _).mono ?_); rintro e w' ⟨rfl, rfl⟩) | ((with_reducible refine (cR _).mono ?_); rintro e w' ⟨rfl, rfl⟩)) | (go_at_call 17; first | ((with_reducible refine (cA _).mono ?_); rintro e w' ⟨rfl, rfl⟩) | ((with_reducible refine (cB _).mono ?_); rintro e w' ⟨rfl, rfl⟩)))
        go_ret
        exact ⟨rfl, rfl⟩
    · clear hab
      go_enter Try.func5, Try.ntmps5
      go_wp2_with (first | (go_at_call 16; first | ((with_reducible refine (c0 _).mono ?_); rintro e w' ⟨rfl, rfl⟩) | ((with_reducible refine (cR _).mono ?_); rintro e w' ⟨rfl, rfl⟩)) | (go_at_call 17; first | ((with_reducible refine (cA _).mono ?_); rintro e w' ⟨rfl, rfl⟩) | ((with_reducible refine (cB _).mono ?_); rintro e w' ⟨rfl, rfl⟩)))
      go_ret
      exact ⟨rfl, rfl⟩
theorem tickRounds_law {H : Type} {enc : TypeId × Value → H} {v0 v1 v2 v3 : Value} {d0 d1 d2 d3 : DataW H} {p0 p1 p2 p3 : List MemPlace} {base : Nat} {W : World}
    (h0 : Arg enc W base 3 v0 d0 p0) (h1 : Arg enc W base 3 v1 d1 p1) (h2 : Arg enc W base 3 v2 d2 p2) (h3 : Arg enc W base 3 v3 d3 p3) :
    Calls Try.prog 5 #[v0, v1, v2, v3] W fun e w' => e = .returned (.bool true) ∧ Below W.heap.size W w' := by
  obtain ⟨a0, rfl, _⟩ := h0.int
  obtain ⟨a1, rfl, _⟩ := h1.int
  obtain ⟨a2, rfl, _⟩ := h2.int
  obtain ⟨a3, rfl, _⟩ := h3.int
  exact (tickRounds_walk a0 a1 a2 a3 W).mono fun e w' ⟨h, hw⟩ => ⟨h, hw ▸ Below.refl _ _⟩
end Go.Proofs.Ytbapcgihnddjfaa
