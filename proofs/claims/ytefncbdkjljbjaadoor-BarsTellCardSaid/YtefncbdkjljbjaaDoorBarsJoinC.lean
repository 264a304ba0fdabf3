/- The contracts of bars.Join, Mean, Range. -/
import Derived.Test.YtefncbdkjljbjaaDoorBarsMore
namespace Go.Proofs.YtefncbdkjljbjaaDoor
set_option linter.all false
open Go.RowKit
def foldB (l : List Bar) : Bar := l.foldl joinB bar0
theorem foldB_snoc {l : List Bar} {k : Nat} {b : Bar} (h : l[k]? = some b) : foldB (l.take (k + 1)) = joinB (foldB (l.take k)) b := by
  rw [List.take_add_one, h]; simp [foldB]
theorem foldB_q {l : List Bar} (hok : ∀ b ∈ l, 1 ≤ b.q ∧ b.q ≤ 4000000) (k : Nat) (hk : k ≤ l.length) : 0 ≤ (foldB (l.take k)).q ∧ (foldB (l.take k)).q ≤ 4000000 * k := by
  induction k with
  | zero => simp [foldB, bar0]
  | succ k ih =>
    have ih := ih (by omega)
    have hb := hok l[k] (List.getElem_mem _)
    rw [foldB_snoc (List.getElem?_eq_getElem (show k < l.length by omega))]
    generalize foldB (l.take k) = a at *
    unfold joinB
    split
    · omega
    · simp only []; omega
/-- how Join ends, of bars that are right -/
def JoinPost (l : List Bar) (w : World) (e : Ending) (w' : World) : Prop :=
  e = .returned (.tuple #[.agg #[.int .i64 (foldB l).o, .int .i64 (foldB l).h, .int .i64 (foldB l).l, .int .i64 (foldB l).c, .int .i64 (foldB l).q], .nilIface]) ∧ Below w.heap.size w w'
set_option maxHeartbeats 1000000 in
set_option maxRecDepth 100000 in
theorem joinl_ok (l : List Bar) (A : Option Addr) (c : Nat) (w : World) (hr : Rd w w.heap.size A l.length 5 (bcellv l)) (h0 : 1 ≤ l.length) (h1 : l.length ≤ 400) (hok : ∀ b ∈ l, b.okB = true) :
    Calls Tryd.prog 23 #[.slice A l.length c] w (JoinPost l w) := by
  have hq : ∀ b ∈ l, 1 ≤ b.q ∧ b.q ≤ 4000000 := by
    intro b hb
    have := hok b hb
    simp only [Bar.okB, decide_eq_true_eq] at this
    omega
  have HOK := Lib.hid hok; clear hok
  have HQ := Lib.hid hq; clear hq
  have hne : ((l.length : Int) == 0) = false := by simp; rintro rfl; simp at h0
  go_enter Tryd.func23, Tryd.ntmps23
  go_wp2
  go_loopw [21] (fun i wr => ∃ k : Nat, k ≤ l.length ∧ i = .int .i64 k ∧ Below w.heap.size w wr ∧ Bk wr w.heap.size 38 #[.int .i64 0, .int .i64 0, .int .i64 0, .int .i64 0, .int .i64 0] ∧
      Bk wr (w.heap.size + 1) 38 #[.int .i64 (foldB (l.take k)).o, .int .i64 (foldB (l.take k)).h, .int .i64 (foldB (l.take k)).l, .int .i64 (foldB (l.take k)).c, .int .i64 (foldB (l.take k)).q]) (fun i _ => l.length - (intOf i).toNat)
  case atStart => exact ⟨0, by omega, rfl, by (repeat (first | exact Below.refl _ _ | assumption | (refine below_then (by assumption) ?_) | (refine below_then_alloc ?_) | (refine Below.drew ?_))), (Bk.new _ _ _).alloc _, Bk.at_ (by simp) _ _⟩
  case round =>
    obtain ⟨k, hk, rfl, hb, hk0, hk1⟩ := hrel
    have hfq := foldB_q HQ.out k hk
    by_cases hlt : k < l.length
    · obtain ⟨b, off, t, rfl, hbl, ht, e0, e1, e2, e3, e4⟩ := bar_at (hr.below hb) hlt
      have hto := HOK.out t (List.mem_of_getElem? ht)
      have htq := HQ.out t (List.mem_of_getElem? ht)
      have HF := Lib.hid (foldB_snoc ht)
      clear ht hr hne
      generalize foldB (l.take k) = a at *
      have hkt : Bk (wr.alloc (.cells #[.int .i64 t.o, .int .i64 t.h, .int .i64 t.l, .int .i64 t.c, .int .i64 t.q] 38)) wr.heap.size 38 #[.int .i64 t.o, .int .i64 t.h, .int .i64 t.l, .int .i64 t.c, .int .i64 t.q] := Bk.new _ _ _
      go_wp2_with (first | (go_at_call 68; refine (right_any t _).mono ?_; intro e w2 hp; rw [hto] at hp; obtain ⟨rfl, hb2⟩ := hp; have g1 := (hk1.alloc _).keep hb2; have gt := hkt.keep hb2; have a0 := g1.cell 0; have a1 := g1.cell 1; have a2 := g1.cell 2; have a3 := g1.cell 3; have a4 := g1.cell 4; have d0 := gt.cell 0; have d1 := gt.cell 1; have d2 := gt.cell 2; have d3 := gt.cell 3; have d4 := gt.cell 4; simp at a0 a1 a2 a3 a4 d0 d1 d2 d3 d4) | (go_at_call 66; refine (join_any a t _ (by omega) (by omega) (by omega) (by omega)).mono ?_; rintro e w3 ⟨rfl, hb3⟩; have g2 := g1.keep hb3; have m0 := g2.cell 0; have m1 := g2.cell 1; have m2 := g2.cell 2; have m3 := g2.cell 3; have m4 := g2.cell 4; simp at m0 m1 m2 m3 m4; have z0 := g2.free 0; have z1 := g2.free 1; have z2 := g2.free 2; have z3 := g2.free 3; have z4 := g2.free 4))
      have hbx : Below w.heap.size w w3 := below_then hb3 (below_then hb2 (hb.alloc hb.size _))
      go_roundw
      case rel =>
        refine ⟨k + 1, by omega, by go_num, ?_, ?_, ?_⟩
        · exact ((((hbx.setCell (by simp) _).setCell (by simp) _).setCell (by simp) _).setCell (by simp) _).setCell (by simp) _
        · have h1 := ((hk0.alloc (.cells #[.int .i64 t.o, .int .i64 t.h, .int .i64 t.l, .int .i64 t.c, .int .i64 t.q] 38)).keep hb2).keep hb3
          exact ((((h1.far (by simp) _).far (by simp) _).far (by simp) _).far (by simp) _).far (by simp) _
        · rw [HF.out]
          exact g2.set5 _ _ _ _ _
      case measure => simp [intOf]; omega
    · obtain rfl : k = l.length := by omega
      rw [List.take_length] at hk1
      have r0 := hk0.cell 0; have r1 := hk0.cell 1; have r2 := hk0.cell 2; have r3 := hk0.cell 3; have r4 := hk0.cell 4
      have a0 := hk1.cell 0; have a1 := hk1.cell 1; have a2 := hk1.cell 2; have a3 := hk1.cell 3; have a4 := hk1.cell 4
      simp at a0 a1 a2 a3 a4 r0 r1 r2 r3 r4
      have z0 := hk0.free 0; have z1 := hk0.free 1; have z2 := hk0.free 2; have z3 := hk0.free 3; have z4 := hk0.free 4
      go_wp2
      have hbx := ((((hb.setCell (p := ⟨w.heap.size, 0, none⟩) (Nat.le_refl _) (.int .i64 (foldB l).o)).setCell (p := ⟨w.heap.size, 1, none⟩) (Nat.le_refl _) (.int .i64 (foldB l).h)).setCell (p := ⟨w.heap.size, 2, none⟩) (Nat.le_refl _) (.int .i64 (foldB l).l)).setCell (p := ⟨w.heap.size, 3, none⟩) (Nat.le_refl _) (.int .i64 (foldB l).c)).setCell (p := ⟨w.heap.size, 4, none⟩) (Nat.le_refl _) (.int .i64 (foldB l).q)
      have hkx := hk0.set5 (.int .i64 (foldB l).o) (.int .i64 (foldB l).h) (.int .i64 (foldB l).l) (.int .i64 (foldB l).c) (.int .i64 (foldB l).q)
      have x0 := hkx.cell 0; have x1 := hkx.cell 1; have x2 := hkx.cell 2; have x3 := hkx.cell 3; have x4 := hkx.cell 4
      simp at x0 x1 x2 x3 x4
      exact bodyPost_ret (v := .tuple #[.agg #[.int .i64 (foldB l).o, .int .i64 (foldB l).h, .int .i64 (foldB l).l, .int .i64 (foldB l).c, .int .i64 (foldB l).q], .nilIface]) (by simp [results, Tryd.results23, go_sem, x0, x1, x2, x3, x4]) rfl ⟨rfl, hbx⟩
end Go.Proofs.YtefncbdkjljbjaaDoor
