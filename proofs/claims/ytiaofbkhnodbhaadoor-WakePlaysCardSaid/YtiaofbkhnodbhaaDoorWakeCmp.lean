/- Who wakes first: the comparison that the stops are sorted by. -/
import Derived.Test.YtiaofbkhnodbhaaDoorWakeStable
import Derived.StillTailTactics
namespace Go.Proofs.YtiaofbkhnodbhaaDoor
set_option linter.all false
open Go Go.RowKit Go.Sort
def cmpI (a b : Int) : Int := if a < b then -1 else if b < a then 1 else 0
theorem isnan_any (a : Int) (w : World) : Calls Tryd.prog 102 #[.int .i64 a] w fun e w' => e = .returned (.bool false) ∧ w = w' := by
  have h : (a != a) = false := by simp
  go_enter Tryd.func102, Tryd.ntmps102
  go_wp2
  go_ret
  exact ⟨rfl, rfl⟩
theorem compare_any (a b : Int) (w : World) : Calls Tryd.prog 74 #[.int .i64 a, .int .i64 b] w fun e w' => e = .returned (.int .i64 (cmpI a b)) ∧ w = w' := by
  have ways : a < b ∨ (¬ a < b ∧ b < a) ∨ (¬ a < b ∧ ¬ b < a) := by omega
  have cN := Lib.hid (fun a w => isnan_any a w)
  rcases ways with h | ⟨h, h2⟩ | ⟨h, h2⟩
  · have e : cmpI a b = -1 := if_pos h
    rw [e]; clear e
    go_enter Tryd.func74, Tryd.ntmps74
    go_wp2_with (go_at_call 102; refine (cN.out _ _).mono ?_; rintro e w' ⟨rfl, rfl⟩)
    go_ret
    exact ⟨rfl, rfl⟩
  · have e : cmpI a b = 1 := by rw [cmpI, if_neg h, if_pos h2]
    rw [e]; clear e
    go_enter Tryd.func74, Tryd.ntmps74
    go_wp2_with (go_at_call 102; refine (cN.out _ _).mono ?_; rintro e w' ⟨rfl, rfl⟩)
    go_ret
    exact ⟨rfl, rfl⟩
  · have e : cmpI a b = 0 := by rw [cmpI, if_neg h, if_neg h2]
    rw [e]; clear e
    go_enter Tryd.func74, Tryd.ntmps74
    go_wp2_with (go_at_call 102; refine (cN.out _ _).mono ?_; rintro e w' ⟨rfl, rfl⟩)
    go_ret
    exact ⟨rfl, rfl⟩
def or2 (x y : Int) : Int := if x = 0 then y else x
theorem or_any (x y : Int) (g : Nat) (w : World) (h0 : w.cell? ⟨g, 0, none⟩ = some (.int .i64 x)) (h1 : w.cell? ⟨g, 1, none⟩ = some (.int .i64 y)) : Calls Tryd.prog 73 #[.slice (some ⟨g, 0, none⟩) 2 2] w fun e w' => e = .returned (.int .i64 (or2 x y)) ∧ w = w' := by
  by_cases hx : x = 0
  · by_cases hy : y = 0
    · subst hx; subst hy
      go_enter Tryd.func73, Tryd.ntmps73
      go_wp2
      refine wp_loop_rounds 3 ?_
      rw [rounds_succ]
      go_wp2
      rw [rounds_succ]
      go_wp2
      rw [rounds_succ]
      go_wp2
      go_ret
      exact ⟨rfl, rfl⟩
    · subst hx
      have e1 : (y != 0) = true := by simpa using hy
      have e : or2 0 y = y := rfl
      rw [e]; clear e hy
      go_enter Tryd.func73, Tryd.ntmps73
      go_wp2
      refine wp_loop_rounds 3 ?_
      rw [rounds_succ]
      go_wp2
      rw [rounds_succ]
      go_wp2
      go_ret
      exact ⟨rfl, rfl⟩
  · have e1 : (x != 0) = true := by simpa using hx
    have e : or2 x y = x := if_neg hx
    rw [e]; clear e hx
    go_enter Tryd.func73, Tryd.ntmps73
    go_wp2
    refine wp_loop_rounds 3 ?_
    rw [rounds_succ]
    go_wp2
    go_ret
    exact ⟨rfl, rfl⟩
/-- who wakes first -/
def wcf (a b : Order) : Int := if a.side = b.side ∧ a.side ≠ 1 then cmpI b.stop a.stop else or2 (cmpI a.side b.side) (cmpI a.stop b.stop)
set_option maxRecDepth 100000 in
theorem wcf_any : CmpO 72 wcf := by
  intro a b w
  show Calls Tryd.prog 72 #[.agg #[.int .i64 a.id, .int .i64 a.who, .int .i64 a.side, .int .i64 a.kind, .int .i64 a.price, .int .i64 a.qty, .int .i64 a.show_, .int .i64 a.stop], .agg #[.int .i64 b.id, .int .i64 b.who, .int .i64 b.side, .int .i64 b.kind, .int .i64 b.price, .int .i64 b.qty, .int .i64 b.show_, .int .i64 b.stop]] w fun e w' => e = .returned (.int .i64 (wcf a b)) ∧ ∃ q os, w' = grow (w.drewN q) os
  have bA := (Bk.new w 58 #[.int .i64 a.id, .int .i64 a.who, .int .i64 a.side, .int .i64 a.kind, .int .i64 a.price, .int .i64 a.qty, .int .i64 a.show_, .int .i64 a.stop]).alloc (.cells #[.int .i64 b.id, .int .i64 b.who, .int .i64 b.side, .int .i64 b.kind, .int .i64 b.price, .int .i64 b.qty, .int .i64 b.show_, .int .i64 b.stop] 58)
  have bB := Bk.at_ (w := w.alloc (.cells #[.int .i64 a.id, .int .i64 a.who, .int .i64 a.side, .int .i64 a.kind, .int .i64 a.price, .int .i64 a.qty, .int .i64 a.show_, .int .i64 a.stop] 58)) (g' := w.heap.size + 1) (by simp) 58 #[.int .i64 b.id, .int .i64 b.who, .int .i64 b.side, .int .i64 b.kind, .int .i64 b.price, .int .i64 b.qty, .int .i64 b.show_, .int .i64 b.stop]
  have HW : Hid ((w.alloc (.cells #[.int .i64 a.id, .int .i64 a.who, .int .i64 a.side, .int .i64 a.kind, .int .i64 a.price, .int .i64 a.qty, .int .i64 a.show_, .int .i64 a.stop] 58)).alloc (.cells #[.int .i64 b.id, .int .i64 b.who, .int .i64 b.side, .int .i64 b.kind, .int .i64 b.price, .int .i64 b.qty, .int .i64 b.show_, .int .i64 b.stop] 58) = grow w #[.cells #[.int .i64 a.id, .int .i64 a.who, .int .i64 a.side, .int .i64 a.kind, .int .i64 a.price, .int .i64 a.qty, .int .i64 a.show_, .int .i64 a.stop] 58, .cells #[.int .i64 b.id, .int .i64 b.who, .int .i64 b.side, .int .i64 b.kind, .int .i64 b.price, .int .i64 b.qty, .int .i64 b.show_, .int .i64 b.stop] 58]) := by rw [alloc_eq_grow, alloc_eq_grow, grow_grow]; exact Lib.hid rfl
  have cC := Lib.hid (fun a b w => compare_any a b w)
  have cE := Lib.hid (fun a b w => (compare_any a b w).mono fun e w' (h : _ ∧ _) => (And.intro h.1 h.2.symm : e = .returned (.int .i64 (cmpI a b)) ∧ w' = w))
  by_cases hs : a.side = b.side ∧ a.side ≠ 1
  · have e1 : (a.side != b.side) = false := by simp [hs.1]
    have e2 : (a.side == 1) = false := by simpa using hs.2
    have HE := Lib.hid (show wcf a b = cmpI b.stop a.stop from if_pos hs)
    clear hs
    go_enter Tryd.func72, Tryd.ntmps72
    go_upto_region 1 with fail
    generalize (w.alloc (.cells #[.int .i64 a.id, .int .i64 a.who, .int .i64 a.side, .int .i64 a.kind, .int .i64 a.price, .int .i64 a.qty, .int .i64 a.show_, .int .i64 a.stop] 58)).alloc (.cells #[.int .i64 b.id, .int .i64 b.who, .int .i64 b.side, .int .i64 b.kind, .int .i64 b.price, .int .i64 b.qty, .int .i64 b.show_, .int .i64 b.stop] 58) = w1 at *
    obtain ⟨a0, a1, a2, a3, a4, a5, a6, a7⟩ := obox bA
    obtain ⟨b0, b1, b2, b3, b4, b5, b6, b7⟩ := obox bB
    clear bA bB
    go_wp2_with (go_at_call 74; refine (cC.out _ _ _).mono ?_; rintro e w' ⟨rfl, rfl⟩)
    go_ret
    exact ⟨by rw [HE.out]; rfl, 0, _, by rw [HW.out]; rfl⟩
  · have HE := Lib.hid (show wcf a b = or2 (cmpI a.side b.side) (cmpI a.stop b.stop) from if_neg hs)
    have e12 : (a.side != b.side) = true ∨ (a.side != b.side) = false ∧ (a.side == 1) = true := by
      by_cases h : a.side = b.side
      · exact .inr ⟨by simp [h], by simpa using (show a.side = 1 by by_cases h1 : a.side = 1; exact h1; exact absurd ⟨h, h1⟩ hs)⟩
      · exact .inl (by simpa using h)
    clear hs
    go_enter Tryd.func72, Tryd.ntmps72
    go_upto_region 1 with fail
    generalize (w.alloc (.cells #[.int .i64 a.id, .int .i64 a.who, .int .i64 a.side, .int .i64 a.kind, .int .i64 a.price, .int .i64 a.qty, .int .i64 a.show_, .int .i64 a.stop] 58)).alloc (.cells #[.int .i64 b.id, .int .i64 b.who, .int .i64 b.side, .int .i64 b.kind, .int .i64 b.price, .int .i64 b.qty, .int .i64 b.show_, .int .i64 b.stop] 58) = w1 at *
    obtain ⟨a0, a1, a2, a3, a4, a5, a6, a7⟩ := obox bA
    obtain ⟨b0, b1, b2, b3, b4, b5, b6, b7⟩ := obox bB
    clear bA bB
    have hreg : True := trivial
    rcases e12 with e1 | ⟨e1, e2⟩
    all_goals
      go_upto_region 2 with fail
      refine wp_region_still_tail 10 (by kernel_rfl) (by kernel_rfl) ?_
      simp only [List.take_succ_cons, List.take_zero, List.drop_succ_cons, List.drop_zero]
      repeat still_step
      still_call (cE.out _ _ _)
      repeat still_step
      still_call (cE.out _ _ _)
      refine wpStill_nil ?_
      change wpList _ _ _ _ _ w1.drew
      have cO := Lib.hid (fun g w h0 h1 => or_any (cmpI a.side b.side) (cmpI a.stop b.stop) g w h0 h1)
      clear cE cC a0 a1 a2 a3 a4 a5 a6 a7 b0 b1 b2 b3 b4 b5 b6 b7
      generalize cmpI a.side b.side = X at *
      generalize cmpI a.stop b.stop = Y at *
      have k := pair2 (Bk.new w1.drew 3 #[.int .i64 X, .int .i64 Y])
      go_wp2_with (go_at_call 73; refine (cO.out _ _ k.1 k.2).mono ?_; rintro e w' ⟨rfl, rfl⟩)
      go_ret
      exact ⟨by rw [HE.out]; rfl, 1, _, by rw [HW.out, alloc_eq_grow]; exact (grow_grow (w.drewN 1) _ _)⟩
end Go.Proofs.YtiaofbkhnodbhaaDoor
