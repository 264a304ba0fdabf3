/- The walk of TickBands: the call returns true, whatever the four numbers. -/
import Derived.Test.YtbapcgihnddjfaaTick



namespace Go.Proofs.Ytbapcgihnddjfaa
open Go.RowKit
theorem inB_mono {p q a b : Int} (ha : okB p q a = true) (hab : a ≤ b) (h : inB p q a = true) : inB p q b = true := by
  simp only [okB, decide_eq_true_eq] at ha
  simp only [inB, decide_eq_true_eq] at h ⊢
  have := Int.mul_le_mul_of_nonneg_right hab (show 0 ≤ q by omega)
  omega
theorem tickBands_walk (p q a b : Int) (w : World) :
    Calls Try.prog 3 #[.int .i64 p, .int .i64 q, .int .i64 a, .int .i64 b] w fun e w' => e = .returned (.bool true) ∧ w = w' := by
  have c0 := fun w => band_ok 105 100 5 w (by decide)
  have i0 : inB 105 100 5 = true := by decide
  rcases band_ex p q a with ⟨ha, cA⟩ | ⟨ha, cA⟩ <;> rcases band_ex p q b with ⟨hb, cB⟩ | ⟨hb, cB⟩
  case inl.inl =>
    have H := Lib.hid ha; clear ha hb
    by_cases hab : a ≤ b
    · cases hx : inB p q a
      · go_enter Try.func3, Try.ntmps3
        go_wp2_with (go_at_call 14; first | ((with_reducible refine (c0 _).mono ?_); rintro e w' ⟨rfl, rfl⟩) | ((with_reducible refine (cA _).mono ?_); rintro e w' ⟨rfl, rfl⟩) | ((with_reducible refine (cB _).mono ?_); rintro e w' ⟨rfl, rfl⟩))
        go_ret
        exact ⟨rfl, rfl⟩
      · have hy := inB_mono H.out hab hx
        go_enter Try.func3, Try.ntmps3
        go_wp2_with (go_at_call 14; first | ((with_reducible refine (c0 _).mono ?_); rintro e w' ⟨rfl, rfl⟩) | ((with_reducible refine (cA _).mono ?_); rintro e w' ⟨rfl, rfl⟩) | ((with_reducible refine (cB _).mono ?_); rintro e w' ⟨rfl, rfl⟩))
        go_ret
        exact ⟨rfl, rfl⟩
    · go_enter Try.func3, Try.ntmps3
      go_wp2_with (go_at_call 14; first | ((with_reducible refine (c0 _).mono ?_); rintro e w' ⟨rfl, rfl⟩) | ((with_reducible refine (cA _).mono ?_); rintro e w' ⟨rfl, rfl⟩) | ((with_reducible refine (cB _).mono ?_); rintro e w' ⟨rfl, rfl⟩))
      go_ret
      exact ⟨rfl, rfl⟩
  all_goals
    clear ha hb
    go_enter Try.func3, Try.ntmps3
    go_wp2_with (go_at_call 14; first | ((with_reducible refine (c0 _).mono ?_); rintro e w' ⟨rfl, rfl⟩) | ((with_reducible refine (cA _).mono ?_); rintro e w' ⟨rfl, rfl⟩) | ((with_reducible refine (cB _).mono ?_); rintro e w' ⟨rfl, rfl⟩))
    go_ret
    exact ⟨rfl, rfl⟩
theorem tickBands_law {H : Type} {enc : TypeId × Value → H} {v0 v1 v2 v3 : Value} {d0 d1 d2 d3 : DataW H} {p0 p1 p2 p3 : List MemPlace} {base : Nat} {W : World}
    (h0 : Arg enc W base 3 v0 d0 p0) (h1 : Arg enc W base 3 v1 d1 p1) (h2 : Arg enc W base 3 v2 d2 p2) (h3 : Arg enc W base 3 v3 d3 p3) :
    Calls Try.prog 3 #[v0, v1, v2, v3] W fun e w' => e = .returned (.bool true) ∧ Below W.heap.size W w' := by
  obtain ⟨a0, rfl, _⟩ := h0.int
  obtain ⟨a1, rfl, _⟩ := h1.int
  obtain ⟨a2, rfl, _⟩ := h2.int
  obtain ⟨a3, rfl, _⟩ := h3.int
  exact (tickBands_walk a0 a1 a2 a3 W).mono fun e w' ⟨h, hw⟩ => ⟨h, hw ▸ Below.refl _ _⟩
end Go.Proofs.Ytbapcgihnddjfaa
