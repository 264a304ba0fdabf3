/- The walk of BarsJoin: the call returns true, whatever the trades and the number. -/
import Derived.Test.YtbapcgihnddjfaaBarsJoinL
import Derived.Test.YtbapcgihnddjfaaOpenTr
namespace Go.Proofs.Ytbapcgihnddjfaa
open Go.RowKit
set_option maxRecDepth 100000 in
theorem bars_bad (l : List Trade) (A : Option Addr) (c : Nat) (n : Int) (w : World) (hr : Rd w w.heap.size A l.length 6 (tcell l)) (h : trErr l ≠ 0) :
    Calls Try.prog 19 #[.slice A l.length c, .int .i64 n] w fun e w' => e = .returned (.tuple #[.slice none 0 0, er (trErr l)]) ∧ Below w.heap.size w w' := by
  have cC := bars_check_any l A c w hr
  rw [show errV (trErr l) = er (trErr l) by simp [errV, h]] at cC
  clear h hr
  go_enter Try.func19, Try.ntmps19
  go_wp2_with (go_at_call 44; refine cC.mono ?_; rintro e w1 ⟨rfl, hb1⟩)
  go_ret2
  exact ⟨rfl, hb1⟩
set_option maxRecDepth 100000 in
theorem bars_badn (l : List Trade) (A : Option Addr) (c : Nat) (n : Int) (w : World) (hr : Rd w w.heap.size A l.length 6 (tcell l)) (h : trErr l = 0) (hn : n < 1 ∨ 400 < n) :
    Calls Try.prog 19 #[.slice A l.length c, .int .i64 n] w fun e w' => e = .returned (.tuple #[.slice none 0 0, er 1]) ∧ Below w.heap.size w w' := by
  have cC := bars_check_any l A c w hr
  rw [h, show errV 0 = .nilIface from rfl] at cC
  clear h hr
  have hn : n < 1 ∨ (1 ≤ n ∧ 400 < n) := by omega
  rcases hn with h | ⟨h, h2⟩
  all_goals
    go_enter Try.func19, Try.ntmps19
    go_wp2_with (go_at_call 44; refine cC.mono ?_; rintro e w1 ⟨rfl, hb1⟩)
    go_ret2
    exact ⟨rfl, hb1⟩
def fact1 : Bar := ⟨2, 4, 1, 3, 5⟩
def fact2 : Bar := ⟨3, 6, 3, 5, 2⟩
/-- the first call of the law: two bars, joined -/
theorem join_fact (w : World) (c : Nat) : Calls Try.prog 24 #[.slice (some ⟨w.heap.size, 0, none⟩) 2 c] (w.alloc (.cells #[.int .i64 2, .int .i64 4, .int .i64 1, .int .i64 3, .int .i64 5, .int .i64 3, .int .i64 6, .int .i64 3, .int .i64 5, .int .i64 2] 41))
    fun e w' => e = .returned (.tuple #[.agg #[.int .i64 2, .int .i64 6, .int .i64 1, .int .i64 5, .int .i64 7], .nilIface]) ∧ Below (w.heap.size + 1) (w.alloc (.cells #[.int .i64 2, .int .i64 4, .int .i64 1, .int .i64 3, .int .i64 5, .int .i64 3, .int .i64 6, .int .i64 3, .int .i64 5, .int .i64 2] 41)) w' := by
  have h := joinl_ok [fact1, fact2] (some ⟨w.heap.size, 0, none⟩) c (w.alloc (.cells #[.int .i64 2, .int .i64 4, .int .i64 1, .int .i64 3, .int .i64 5, .int .i64 3, .int .i64 6, .int .i64 3, .int .i64 5, .int .i64 2] 41)) (fun _ => by
      refine ⟨w.heap.size, 0, rfl, by simp, fun i hi j hj => ?_⟩
      rw [(Bk.new w _ _).cell]
      simp only [List.length_cons, List.length_nil] at hi
      match i, hi, j, hj with
      | 0, _, 0, _ => rfl
      | 0, _, 1, _ => rfl
      | 0, _, 2, _ => rfl
      | 0, _, 3, _ => rfl
      | 0, _, 4, _ => rfl
      | 1, _, 0, _ => rfl
      | 1, _, 1, _ => rfl
      | 1, _, 2, _ => rfl
      | 1, _, 3, _ => rfl
      | 1, _, 4, _ => rfl) (by simp) (by simp) (by intro b hb; simp at hb; rcases hb with rfl | rfl <;> decide)
  refine h.mono fun e w' ⟨h1, h2⟩ => ⟨h1, ?_⟩
  simpa using h2
set_option maxHeartbeats 2000000 in
set_option maxRecDepth 100000 in
theorem barsJoin_walk (l : List Trade) (A : Option Addr) (c : Nat) (n : Int) (w : World) (hr : Rd w w.heap.size A l.length 6 (tcell l)) :
    Calls Try.prog 10 #[.slice A l.length c, .int .i64 n] w fun e w' => e = .returned (.bool true) ∧ Below w.heap.size w w' := by
  by_cases h : trErr l = 0
  case neg =>
    go_enter Try.func10, Try.ntmps10
    go_wp2_with fail
    refine (join_fact w 2).mono ?_
    rintro e w1 ⟨rfl, hb1⟩
    have hbw : Below w.heap.size w w1 := (held_new hb1).2.2
    go_wp2_with (go_at_call 19; refine (bars_bad l A c n _ ((hr.below (below_then_alloc hbw)).more (below_then_alloc hbw).size) h).mono ?_; rintro e w2 ⟨rfl, hb2⟩)
    go_ret
    exact ⟨rfl, below_then hb2 (below_then_alloc hbw)⟩
  case pos =>
  by_cases hn : n < 1 ∨ 400 < n
  · go_enter Try.func10, Try.ntmps10
    go_wp2_with fail
    refine (join_fact w 2).mono ?_
    rintro e w1 ⟨rfl, hb1⟩
    have hbw : Below w.heap.size w w1 := (held_new hb1).2.2
    go_wp2_with (go_at_call 19; refine (bars_badn l A c n _ ((hr.below (below_then_alloc hbw)).more (below_then_alloc hbw).size) h hn).mono ?_; rintro e w2 ⟨rfl, hb2⟩)
    go_ret
    exact ⟨rfl, below_then hb2 (below_then_alloc hbw)⟩
  obtain ⟨N, rfl⟩ := Int.eq_ofNat_of_zero_le (show 0 ≤ n by omega)
  have hN1 : 1 ≤ N := by omega
  have hN2 : N ≤ 400 := by omega
  clear hn
  by_cases h0 : l.length = 0
  · have hl : l = [] := List.eq_nil_of_length_eq_zero h0
    subst hl
    go_enter Try.func10, Try.ntmps10
    go_wp2_with fail
    refine (join_fact w 2).mono ?_
    rintro e w1 ⟨rfl, hb1⟩
    have hbw : Below w.heap.size w w1 := (held_new hb1).2.2
    go_wp2_with fail
    refine (bars_ok [] A c N _ Rd.nil h hN1 hN2).mono ?_
    intro e w2 hp
    obtain ⟨x, he, hx, hb2⟩ := hp
    simp only [List.length_nil, barsTo, flatB, List.flatMap_nil] at hx
    obtain ⟨Ax, cx, hv⟩ : ∃ Ax cx, x = .slice Ax 0 cx := by
      rcases hx.2 with ⟨h, _⟩ | ⟨g, cap, _, h, _⟩
      · exact ⟨_, _, h⟩
      · exact ⟨_, _, h⟩
    rw [he, hv]
    clear he hv hx
    go_wp2
    go_ret
    exact ⟨rfl, below_then hb2 (below_then_alloc hbw)⟩
  · have hok4 : okT4 l := (someErr_ok (l := l) (by simp [someErr, h, h0])).2.2
    have hse : someErr l = 0 := by simp [someErr, h, h0]
    obtain ⟨hl1, hl2, _⟩ := someErr_ok hse
    have hne : ((l.length : Int) == 0) = false := by simpa using h0
    have HOK := Lib.hid hok4
    clear hok4 h0
    go_enter Try.func10, Try.ntmps10
    go_wp2_with fail
    refine (join_fact w 2).mono ?_
    rintro e w1 ⟨rfl, hb1⟩
    have hbw : Below w.heap.size w w1 := (held_new hb1).2.2
    go_wp2_with fail
    have hbo := below_then_alloc (o := .cells #[.int .i64 2, .int .i64 6, .int .i64 1, .int .i64 5, .int .i64 7] 41) hbw
    refine (bars_ok l A c N _ ((hr.below hbo).more hbo.size) h hN1 hN2).mono ?_
    intro e w2 hp
    obtain ⟨x, he, hx, hb2⟩ := hp
    have hbx := below_then hb2 hbo
    have hM1 : 1 ≤ (barsTo N l l.length).length := by
      have := barsTo_ne (n := N) (l := l) (k := l.length - 1) (by omega)
      rw [show l.length - 1 + 1 = l.length by omega] at this
      exact List.length_pos_iff.2 this
    have hM2 := barsTo_le N l l.length
    have hgood := barsTo_good (n := N) HOK.out l.length
    have HF := Lib.hid (fold_barsTo (n := N) HOK.out l.length (Nat.le_refl _))
    generalize barsTo N l l.length = X at *
    obtain ⟨gx, cx, hv⟩ : ∃ g cap, x = .slice (some ⟨g, 0, none⟩) X.length cap := by
      obtain ⟨g, cap, h, _⟩ := hx.form (by omega)
      exact ⟨g, cap, h⟩
    rw [he, hv]
    rw [hv] at hx
    clear he hv
    go_wp2_with fail
    refine (joinl_ok X _ cx _ (Rd.bars hx) hM1 (by omega) (fun b hb => by
      have := hgood b hb
      unfold goodB at this
      simp only [Bar.okB, decide_eq_true_eq]
      omega)).mono ?_
    rintro e w3 ⟨rfl, hb3⟩
    rw [HF.out, List.take_length]
    have hby := below_then hb3 hbx
    go_wp2_with fail
    obtain ⟨b1, b2, b3, b4, b5, b6⟩ := allB_says HOK.out (l.length - 1) (by omega)
    have hone := barsTo_one (l := l) (l.length - 1) (by omega)
    have hmean := mean_in HOK.out hl1
    rw [show l.length - 1 + 1 = l.length by omega, List.take_length] at b1 b2 b3 b4 b5 b6 hone
    have HONE := Lib.hid hone
    clear hone
    generalize allB l = y at *
    have hbo2 := below_then_alloc (o := .cells #[.int .i64 y.o, .int .i64 y.h, .int .i64 y.l, .int .i64 y.c, .int .i64 y.q] 41) hby
    have hky := Bk.new w3 41 #[.int .i64 y.o, .int .i64 y.h, .int .i64 y.l, .int .i64 y.c, .int .i64 y.q]
    refine (bars_ok l A c l.length _ ((hr.below hbo2).more hbo2.size) h (by omega) (by omega)).mono ?_
    intro e w4 hp
    obtain ⟨z, he, hz, hb4⟩ := hp
    rw [HONE.out] at hz
    have hbz := below_then hb4 hbo2
    have hky4 := hky.keep hb4
    obtain ⟨gz, cz, hv⟩ : ∃ g cap, z = .slice (some ⟨g, 0, none⟩) 1 cap := by
      obtain ⟨g, cap, h, _⟩ := hz.form (Nat.zero_lt_one)
      exact ⟨g, cap, h⟩
    rw [he, hv]
    rw [hv] at hz
    clear he hv hky
    simp only [List.length_cons, List.length_nil, Nat.zero_add, flatB, List.flatMap_cons, List.flatMap_nil, List.append_nil, Bar.vals] at hz
    go_wp2_with fail
    refine (mean_ok l A c _ ((hr.below hbz).more hbz.size) hse).mono ?_
    rintro e w5 ⟨rfl, hb5⟩
    have hbm := below_then hb5 hbz
    go_wp2_with fail
    refine (range_ok l A c _ ((hr.below hbm).more hbm.size) hse).mono ?_
    rintro e w6 ⟨rfl, hb6⟩
    have hbr := below_then hb6 hbm
    have hky6 := (hky4.keep hb5).keep hb6
    have hz6 := own_below (own_below hz hb5) hb6
    have y0 := hky6.cell 0; have y1 := hky6.cell 1; have y2 := hky6.cell 2; have y3 := hky6.cell 3; have y4 := hky6.cell 4
    have z0 := hz6.cellAt 0 (by decide); have z1 := hz6.cellAt 1 (by decide); have z2 := hz6.cellAt 2 (by decide); have z3 := hz6.cellAt 3 (by decide); have z4 := hz6.cellAt 4 (by decide)
    simp at y0 y1 y2 y3 y4 z0 z1 z2 z3 z4
    obtain ⟨bl, off, t0, rfl, _, ht0, _, _, _, _, f0, _⟩ := tr_at (k := 0) (hr.below hbr) (by omega)
    obtain ⟨bl', off', t1, e', _, ht1, _, _, _, _, f1, _⟩ := tr_at (k := l.length - 1) (hr.below hbr) (by omega)
    cases e'
    rw [ht0] at b3
    rw [ht1] at b4
    simp only [Option.map_some, Option.some.injEq] at b3 b4
    obtain ⟨yo, yh, yl, yc, yq⟩ := y
    simp only [] at b1 b2 b3 b4 b5
    subst b1 b2 b3 b4 b5
    obtain ⟨L, hL⟩ : ∃ L, l.length = L + 1 := ⟨l.length - 1, by omega⟩
    rw [hL] at f1 hl1 hl2 hne ⊢
    simp only [Nat.add_sub_cancel, Nat.zero_mul, Nat.add_zero] at f0 f1
    clear hL hr HOK HONE hky4 hz hx hgood hM2 hM1 HF ht0 ht1 hse
    obtain ⟨m1, m2⟩ := hmean
    generalize lowOf l = lo at *
    generalize highOf l = hi at *
    generalize worth l / qtys l = me at *
    generalize qtys l = qq at *
    have i1 : (0 : Int) < (L : Int) + 1 := by omega
    have i2 : (L : Int) < (L : Int) + 1 := by omega
    have i3 : (0 : Int) ≤ (L : Int) := by omega
    go_wp2_with fail
    go_quiet (fail)
    go_wp2
    go_ret
    exact ⟨rfl, below_drewN hbr _⟩
theorem barsJoin_law {H : Type} {enc : TypeId × Value → H} {v0 v1 : Value} {d0 d1 : DataW H} {p0 p1 : List MemPlace} {base : Nat} {W : World}
    (h0 : Arg enc W base 34 v0 d0 p0) (h1 : Arg enc W base 3 v1 d1 p1) :
    Calls Try.prog 10 #[v0, v1] W fun e w' => e = .returned (.bool true) ∧ Below W.heap.size W w' := by
  obtain ⟨A, l, c, rfl, hr⟩ := h0.trades
  obtain ⟨n, rfl, _⟩ := h1.int
  exact barsJoin_walk l A c n W hr
end Go.Proofs.Ytbapcgihnddjfaa
