/- The contract of bars.Join, whatever comes. -/
import Derived.Test.YtefncbdkjljbjaaDoorBarsBad
import Derived.Test.YtefncbdkjljbjaaDoorBarOf
namespace Go.Proofs.YtefncbdkjljbjaaDoor
set_option linter.all false
open Go Go.RowKit
def joinE (l : List Bar) : Int := if 400 < l.length then 4 else if l.length = 0 then 5 else if l.all Bar.okB then 0 else 3
def joinV (l : List Bar) : Bar := if joinE l = 0 then foldB l else bar0
def JoinE (b : Bar) (E : Int) (w : World) (e : Ending) (w' : World) : Prop := e = .returned (.tuple #[.agg #[.int .i64 b.o, .int .i64 b.h, .int .i64 b.l, .int .i64 b.c, .int .i64 b.q], errV E]) ∧ Below w.heap.size w w'
theorem join_size (l : List Bar) (A : Option Addr) (c : Nat) (w : World) (h : 400 < l.length ∨ l.length = 0) :
    Calls Tryd.prog 23 #[.slice A l.length c] w (JoinE bar0 (joinE l) w) := by
  by_cases h1 : 400 < l.length
  · rw [show joinE l = 4 from if_pos h1]
    have h2 : (400 : Int) < (l.length : Int) := by omega
    clear h h1
    go_enter Tryd.func23, Tryd.ntmps23
    go_wp2
    refine bodyPost_ret (v := .tuple #[.agg #[.int .i64 0, .int .i64 0, .int .i64 0, .int .i64 0, .int .i64 0], er 4]) (by simp [results, Tryd.results23, go_sem]) rfl ⟨rfl, ?_⟩
    exact (Below.refl _ _).alloc (Nat.le_refl _) _
  · have h0 : l.length = 0 := by omega
    rw [show joinE l = 5 by rw [joinE, if_neg h1, if_pos h0], h0]
    clear h h1 h0
    go_enter Tryd.func23, Tryd.ntmps23
    go_wp2
    refine bodyPost_ret (v := .tuple #[.agg #[.int .i64 0, .int .i64 0, .int .i64 0, .int .i64 0, .int .i64 0], er 5]) (by simp [results, Tryd.results23, go_sem]) rfl ⟨rfl, ?_⟩
    exact (Below.refl _ _).alloc (Nat.le_refl _) _
theorem foldB_q2 {l : List Bar} : ∀ k, k ≤ l.length → (l.take k).all Bar.okB = true → 0 ≤ (foldB (l.take k)).q ∧ (foldB (l.take k)).q ≤ 4000000 * k := by
  intro k hk ha
  have h2 : ∀ b ∈ l.take k, 1 ≤ b.q ∧ b.q ≤ 4000000 := by
    intro b hb
    have := List.all_eq_true.1 ha b hb
    simp only [Bar.okB, decide_eq_true_eq] at this
    omega
  have := foldB_q h2 k (by rw [List.length_take]; omega)
  rwa [List.take_take, Nat.min_self] at this
set_option maxHeartbeats 1000000 in
set_option maxRecDepth 100000 in
theorem joinl_bad (l : List Bar) (A : Option Addr) (c : Nat) (w : World) (hr : Rd w w.heap.size A l.length 5 (bcellv l)) (h0 : 1 ≤ l.length) (h1 : l.length ≤ 400) (hbad : l.all Bar.okB = false) :
    Calls Tryd.prog 23 #[.slice A l.length c] w (JoinE bar0 3 w) := by
  have HBad := Lib.hid hbad
  clear hbad
  have hne : ((l.length : Int) == 0) = false := by simp; rintro rfl; simp at h0
  go_enter Tryd.func23, Tryd.ntmps23
  go_wp2
  go_loopw [21] (fun i wr => ∃ k : Nat, k ≤ l.length ∧ i = .int .i64 k ∧ Below w.heap.size w wr ∧ Bk wr w.heap.size 38 #[.int .i64 0, .int .i64 0, .int .i64 0, .int .i64 0, .int .i64 0] ∧
      Bk wr (w.heap.size + 1) 38 #[.int .i64 (foldB (l.take k)).o, .int .i64 (foldB (l.take k)).h, .int .i64 (foldB (l.take k)).l, .int .i64 (foldB (l.take k)).c, .int .i64 (foldB (l.take k)).q] ∧ Hid ((l.take k).all Bar.okB = true)) (fun i _ => l.length - (intOf i).toNat)
  case atStart => exact ⟨0, by omega, rfl, by (repeat (first | exact Below.refl _ _ | assumption | (refine below_then (by assumption) ?_) | (refine below_then_alloc ?_) | (refine Below.drew ?_))), (Bk.new _ _ _).alloc _, Bk.at_ (by simp) _ _, Lib.hid rfl⟩
  case round =>
    obtain ⟨k, hk, rfl, hb, hk0, hk1, HA⟩ := hrel
    have hfq := foldB_q2 k hk HA.out
    by_cases hlt : k < l.length
    · obtain ⟨b, off, t, rfl, hbl, ht, e0, e1, e2, e3, e4⟩ := bar_at (hr.below hb) hlt
      cases hto : t.okB
      · clear hfq hne ht
        generalize foldB (l.take k) = a at *
        go_wp2_with (go_at_call 68; refine (right_any t _).mono ?_; intro e w2 hp; rw [hto] at hp; obtain ⟨rfl, hb2⟩ := hp; have g0 := (hk0.alloc _).keep hb2; have q0 := box5b g0; have z0 := g0.free 0; have z1 := g0.free 1; have z2 := g0.free 2; have z3 := g0.free 3; have z4 := g0.free 4)
        refine bodyPost_ret (v := .tuple #[.agg #[.int .i64 0, .int .i64 0, .int .i64 0, .int .i64 0, .int .i64 0], er 3]) (by simp [results, Tryd.results23, go_sem, q0]) rfl ⟨rfl, ?_⟩
        have hbx : Below w.heap.size w w2 := below_then hb2 (hb.alloc hb.size _)
        exact ((((hbx.setCell (Nat.le_refl _) _).setCell (Nat.le_refl _) _).setCell (Nat.le_refl _) _).setCell (Nat.le_refl _) _).setCell (Nat.le_refl _) _
      · have htq : 1 ≤ t.q ∧ t.q ≤ 4000000 := by have h1 := hto; simp only [Bar.okB, decide_eq_true_eq] at h1; omega
        have HA2 := Lib.hid (all_take_succ ht HA.out hto)
        have HF := Lib.hid (foldB_snoc ht)
        clear ht hne
        generalize foldB (l.take k) = a at *
        have hkt : Bk (wr.alloc (.cells #[.int .i64 t.o, .int .i64 t.h, .int .i64 t.l, .int .i64 t.c, .int .i64 t.q] 38)) wr.heap.size 38 #[.int .i64 t.o, .int .i64 t.h, .int .i64 t.l, .int .i64 t.c, .int .i64 t.q] := Bk.new _ _ _
        go_wp2_with (first | (go_at_call 68; refine (right_any t _).mono ?_; intro e w2 hp; rw [hto] at hp; obtain ⟨rfl, hb2⟩ := hp; have g1 := (hk1.alloc _).keep hb2; have gt := hkt.keep hb2; have a0 := g1.cell 0; have a1 := g1.cell 1; have a2 := g1.cell 2; have a3 := g1.cell 3; have a4 := g1.cell 4; have d0 := gt.cell 0; have d1 := gt.cell 1; have d2 := gt.cell 2; have d3 := gt.cell 3; have d4 := gt.cell 4; simp at a0 a1 a2 a3 a4 d0 d1 d2 d3 d4) | (go_at_call 66; refine (join_any a t _ (by omega) (by omega) (by omega) (by omega)).mono ?_; rintro e w3 ⟨rfl, hb3⟩; have g2 := g1.keep hb3; have m0 := g2.cell 0; have m1 := g2.cell 1; have m2 := g2.cell 2; have m3 := g2.cell 3; have m4 := g2.cell 4; simp at m0 m1 m2 m3 m4; have z0 := g2.free 0; have z1 := g2.free 1; have z2 := g2.free 2; have z3 := g2.free 3; have z4 := g2.free 4))
        have hbx : Below w.heap.size w w3 := below_then hb3 (below_then hb2 (hb.alloc hb.size _))
        go_roundw
        case rel =>
          refine ⟨k + 1, by omega, by go_num, ?_, ?_, ?_, Lib.hid HA2.out⟩
          · exact ((((hbx.setCell (by simp) _).setCell (by simp) _).setCell (by simp) _).setCell (by simp) _).setCell (by simp) _
          · have h1 := ((hk0.alloc (.cells #[.int .i64 t.o, .int .i64 t.h, .int .i64 t.l, .int .i64 t.c, .int .i64 t.q] 38)).keep hb2).keep hb3
            exact ((((h1.far (by simp) _).far (by simp) _).far (by simp) _).far (by simp) _).far (by simp) _
          · rw [HF.out]
            exact g2.set5 _ _ _ _ _
        case measure => simp [intOf]; omega
    · obtain rfl : k = l.length := by omega
      have := HA.out
      rw [List.take_length, HBad.out] at this
      cases this
theorem join_all (l : List Bar) (A : Option Addr) (c : Nat) (w : World) (hr : Rd w w.heap.size A l.length 5 (bcellv l)) :
    Calls Tryd.prog 23 #[.slice A l.length c] w (JoinE (joinV l) (joinE l) w) := by
  by_cases h : 400 < l.length ∨ l.length = 0
  · have hE : joinE l ≠ 0 := by
      by_cases h1 : 400 < l.length
      · rw [joinE, if_pos h1]; decide
      · rw [joinE, if_neg h1, if_pos (by omega)]; decide
    rw [joinV, if_neg hE]
    exact join_size l A c w h
  · cases ha : l.all Bar.okB
    · have hE : joinE l = 3 := by rw [joinE, if_neg (by omega), if_neg (by omega), ha]; rfl
      rw [joinV, hE, if_neg (by decide)]
      exact joinl_bad l A c w hr (by omega) (by omega) ha
    · have hE : joinE l = 0 := by rw [joinE, if_neg (by omega), if_neg (by omega), ha]; rfl
      rw [joinV, hE, if_pos rfl]
      refine (joinl_ok l A c w hr (by omega) (by omega) (fun b hb => List.all_eq_true.1 ha b hb)).mono ?_
      rintro e w' ⟨he, hb⟩
      exact ⟨he, hb⟩
end Go.Proofs.YtefncbdkjljbjaaDoor
