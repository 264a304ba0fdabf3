/- The walk of WireLong. -/
import Derived.Test.YtbapcgihnddjfaaWire6
import Derived.Test.YtbapcgihnddjfaaCmdArg
namespace Go.Proofs.Ytbapcgihnddjfaa
open Go.RowKit
/-- Command's outcome where it is none of an error: a text of so many bytes -/
theorem command_str (c : Cmd) (h : c.err = 0) : ∃ s : ByteArray, s.size = c.body.length + 1 ∧ ∀ w, Calls Try.prog 23 #[.agg #[.int .i64 c.what, .int .i64 c.o.id, .int .i64 c.o.who, .int .i64 c.o.side, .int .i64 c.o.kind, .int .i64 c.o.price, .int .i64 c.o.qty, .int .i64 c.o.show_, .int .i64 c.o.stop, .int .i64 c.who, .int .i64 c.n]] w fun e w' => e = .returned (.tuple #[.string s, .nilIface]) ∧ Below w.heap.size w w' :=
  ⟨strOf (c.body ++ [c.body.sum % 251]), by rw [strOf_size, List.length_append]; rfl, fun w => command_ok c h w⟩
theorem Cmd.kind {c : Cmd} (h : c.err = 0) : c.what = 1 ∨ c.what = 2 ∨ c.what = 3 ∨ (c.what = 4 ∨ c.what = 5) := by
  by_cases a1 : c.what = 1
  · exact .inl a1
  by_cases a2 : c.what = 2
  · exact .inr (.inl a2)
  by_cases a3 : c.what = 3
  · exact .inr (.inr (.inl a3))
  by_cases a4 : c.what = 4 ∨ c.what = 5
  · exact .inr (.inr (.inr a4))
  · rw [Cmd.err, if_neg a1, if_neg a2, if_neg a3, if_neg a4] at h
    omega
set_option maxHeartbeats 1000000 in
theorem wireLong_walk (c : Cmd) (w : World) :
    Calls Try.prog 9 #[.agg #[.int .i64 c.what, .int .i64 c.o.id, .int .i64 c.o.who, .int .i64 c.o.side, .int .i64 c.o.kind, .int .i64 c.o.price, .int .i64 c.o.qty, .int .i64 c.o.show_, .int .i64 c.o.stop, .int .i64 c.who, .int .i64 c.n]] w fun e w' => e = .returned (.bool true) ∧ Below w.heap.size w w' := by
  obtain ⟨s0, hs0, k0⟩ := command_str ⟨4, ⟨0, 0, 0, 0, 0, 0, 0, 0⟩, 1, 5⟩ (by simp [Cmd.err, inb])
  rw [body_len] at hs0
  simp at hs0
  dsimp only at k0
  have hs1 : (s0.size : Int) = 7 := by omega
  by_cases h : c.err = 0
  · obtain ⟨s, hs, k1⟩ := command_str c h
    rw [body_len] at hs
    have hk := Cmd.kind h
    clear h
    obtain ⟨k, ⟨id, ow, side, kind, price, qty, show_, stop⟩, who, n⟩ := c
    dsimp only at k1 hs hk ⊢
    rcases hk with rfl | rfl | rfl | rfl | rfl
    all_goals
      simp at hs
      have hl : (s.size : Int) = _ := congrArg Int.ofNat hs
      go_enter Try.func9, Try.ntmps9
      go_wp2_with (go_at_call 23; first | ((with_reducible refine (k0 _).mono ?_); rintro e w1 ⟨rfl, hb1⟩; obtain ⟨z0, z1, z2⟩ := held_new (by simpa using hb1); have e0 := z1 0; have e1 := z1 1; have e2 := z1 2; have e3 := z1 3; have e4 := z1 4; have e5 := z1 5; have e6 := z1 6; have e7 := z1 7; have e8 := z1 8; have e9 := z1 9; have e10 := z1 10) | ((with_reducible refine (k1 _).mono ?_); rintro e w2 ⟨rfl, hb2⟩; have f0 := (hb2.cell (p := ⟨w.heap.size, 0, none⟩) z0).trans e0))
      all_goals
        go_ret
        refine ⟨rfl, ?_⟩
        (repeat (first | exact Below.refl _ _ | assumption | (refine below_then (by assumption) ?_) | (refine below_then_alloc ?_) | (refine Below.drew ?_)))
  · have k1 := wcommand_bad c h
    obtain ⟨k, ⟨id, ow, side, kind, price, qty, show_, stop⟩, who, n⟩ := c
    generalize Cmd.err _ = r at *
    dsimp only at k1 ⊢
    go_enter Try.func9, Try.ntmps9
    go_wp2_with (go_at_call 23; first | ((with_reducible refine (k0 _).mono ?_); rintro e w1 ⟨rfl, hb1⟩; obtain ⟨z0, z1, z2⟩ := held_new (by simpa using hb1); have e0 := z1 0; have e1 := z1 1; have e2 := z1 2; have e3 := z1 3; have e4 := z1 4; have e5 := z1 5; have e6 := z1 6; have e7 := z1 7; have e8 := z1 8; have e9 := z1 9; have e10 := z1 10) | ((with_reducible refine (k1 _).mono ?_); rintro e w2 ⟨rfl, hb2⟩; have f0 := (hb2.cell (p := ⟨w.heap.size, 0, none⟩) z0).trans e0))
    all_goals
      go_ret
      refine ⟨rfl, ?_⟩
      (repeat (first | exact Below.refl _ _ | assumption | (refine below_then (by assumption) ?_) | (refine below_then_alloc ?_) | (refine Below.drew ?_)))
theorem wireLong_law {H : Type} {enc : TypeId × Value → H} {v0 : Value} {d0 : DataW H} {p0 : List MemPlace} {base : Nat} {W : World}
    (h0 : Arg enc W base 57 v0 d0 p0) :
    Calls Try.prog 9 #[v0] W fun e w' => e = .returned (.bool true) ∧ Below W.heap.size W w' := by
  obtain ⟨c, rfl⟩ := h0.cmd
  exact wireLong_walk c W
end Go.Proofs.Ytbapcgihnddjfaa
