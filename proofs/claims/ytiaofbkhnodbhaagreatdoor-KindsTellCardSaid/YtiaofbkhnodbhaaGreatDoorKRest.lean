/- The contract of kinds.Rest. -/
import Derived.Test.YtiaofbkhnodbhaaGreatDoorGrpP
namespace Go.Proofs.YtiaofbkhnodbhaaGreatDoor
set_option linter.all false
open Go Go.RowKit
/-- what is wrong with a rest of an order; the rest -/
def krE (o : Order) (q : Int) : Int := if o.err ≠ 0 then o.err else if 1 ≤ q ∧ q ≤ o.qty then 0 else 1
def krR (o : Order) (q : Int) : Rest := if krE o q = 0 then restOf o q else rest0
def KRestPost (E : Int) (r : Rest) (w : World) (e : Ending) (w' : World) : Prop := e = .returned (.tuple #[.agg #[.int .i64 r.id, .int .i64 r.who, .int .i64 r.qty, .int .i64 r.hidden, .int .i64 r.show_], errV E]) ∧ Below w.heap.size w w'
theorem krR_zero {o : Order} {q : Int} (h : krE o q ≠ 0) : krR o q = ⟨0, 0, 0, 0, 0⟩ := by rw [krR, if_neg h]; rfl
theorem kbox5 {w' : World} {v0 v1 v2 v3 v4 : Value} {g : Nat} {t : TypeId} (h : Bk w' g t #[v0, v1, v2, v3, v4]) : w'.cell? ⟨g, 0, none⟩ = some v0 ∧ w'.cell? ⟨g, 1, none⟩ = some v1 ∧ w'.cell? ⟨g, 2, none⟩ = some v2 ∧ w'.cell? ⟨g, 3, none⟩ = some v3 ∧ w'.cell? ⟨g, 4, none⟩ = some v4 :=
  ⟨h.cell 0, h.cell 1, h.cell 2, h.cell 3, h.cell 4⟩
theorem kfar5 {w : World} {g k : Nat} {t : TypeId} {cs : Array Value} (h : Bk w g t cs) (hg : g ≠ k) (a b c d e : Value) : Bk (((((w.setCell ⟨k, 0, none⟩ a).setCell ⟨k, 1, none⟩ b).setCell ⟨k, 2, none⟩ c).setCell ⟨k, 3, none⟩ d).setCell ⟨k, 4, none⟩ e) g t cs :=
  ((((h.far (p := ⟨k, 0, none⟩) hg a).far (p := ⟨k, 1, none⟩) hg b).far (p := ⟨k, 2, none⟩) hg c).far (p := ⟨k, 3, none⟩) hg d).far (p := ⟨k, 4, none⟩) hg e
theorem below_lo5 {lo : Nat} {w w1 : World} {g : Nat} (h : Below lo w w1) (hg : lo ≤ g) (a b c d e : Value) : Below lo w (((((w1.setCell ⟨g, 0, none⟩ a).setCell ⟨g, 1, none⟩ b).setCell ⟨g, 2, none⟩ c).setCell ⟨g, 3, none⟩ d).setCell ⟨g, 4, none⟩ e) :=
  ((((h.setCell (p := ⟨g, 0, none⟩) hg a).setCell (p := ⟨g, 1, none⟩) hg b).setCell (p := ⟨g, 2, none⟩) hg c).setCell (p := ⟨g, 3, none⟩) hg d).setCell (p := ⟨g, 4, none⟩) hg e
set_option maxRecDepth 100000 in
set_option maxHeartbeats 4000000 in
theorem krest_any (o : Order) (q : Int) (w : World) : Calls Tryz.prog 14 #[.agg #[.int .i64 o.id, .int .i64 o.who, .int .i64 o.side, .int .i64 o.kind, .int .i64 o.price, .int .i64 o.qty, .int .i64 o.show_, .int .i64 o.stop], .int .i64 q] w (KRestPost (krE o q) (krR o q) w) := by
  have cC := Lib.hid (fun w' => check_any o w')
  have hb : Below w.heap.size w ((w.alloc (.cells #[.int .i64 o.id, .int .i64 o.who, .int .i64 o.side, .int .i64 o.kind, .int .i64 o.price, .int .i64 o.qty, .int .i64 o.show_, .int .i64 o.stop] 26)).alloc (.cells #[.int .i64 0, .int .i64 0, .int .i64 0, .int .i64 0, .int .i64 0] 43)) := below_then_alloc ((Below.refl _ _).alloc (Nat.le_refl _) _)
  have bo := (Bk.new w 26 #[.int .i64 o.id, .int .i64 o.who, .int .i64 o.side, .int .i64 o.kind, .int .i64 o.price, .int .i64 o.qty, .int .i64 o.show_, .int .i64 o.stop]).alloc (.cells #[.int .i64 0, .int .i64 0, .int .i64 0, .int .i64 0, .int .i64 0] 43)
  have br := Bk.at_ (w := w.alloc (.cells #[.int .i64 o.id, .int .i64 o.who, .int .i64 o.side, .int .i64 o.kind, .int .i64 o.price, .int .i64 o.qty, .int .i64 o.show_, .int .i64 o.stop] 26)) (g' := w.heap.size + 1) (by simp) 43 #[.int .i64 0, .int .i64 0, .int .i64 0, .int .i64 0, .int .i64 0]
  go_enter Tryz.func14, Tryz.ntmps14
  go_upto_region 1 with fail
  generalize (w.alloc (.cells #[.int .i64 o.id, .int .i64 o.who, .int .i64 o.side, .int .i64 o.kind, .int .i64 o.price, .int .i64 o.qty, .int .i64 o.show_, .int .i64 o.stop] 26)).alloc (.cells #[.int .i64 0, .int .i64 0, .int .i64 0, .int .i64 0, .int .i64 0] 43) = w0 at *
  obtain ⟨b0, b1, b2, b3, b4, b5, b6, b7⟩ := box8o bo
  go_wp2_with fail
  go_at_call 32
  refine (cC.out _).mono ?_
  rintro e w1 ⟨rfl, hw1⟩
  have hb1 : Below w0.heap.size w0 w1 := by rw [hw1]; exact (Below.refl _ _).alloc (Nat.le_refl _) _
  replace bo := bo.keep hb1; replace br := br.keep hb1; replace hb := below_then hb1 hb
  clear hw1 hb1 b0 b1 b2 b3 b4 b5 b6 b7 cC
  have r0 := kbox5 br
  have y0 := br.free 0; have y1 := br.free 1; have y2 := br.free 2; have y3 := br.free 3; have y4 := br.free 4
  have kz := kbox5 (br.set5 (.int .i64 0) (.int .i64 0) (.int .i64 0) (.int .i64 0) (.int .i64 0))
  have HF := Lib.hid (below_lo5 hb (g := w.heap.size + 1) (by omega) (.int .i64 0) (.int .i64 0) (.int .i64 0) (.int .i64 0) (.int .i64 0))
  by_cases he : o.err = 0
  case neg =>
    have HE := Lib.hid (show krE o q = o.err by rw [krE, if_pos he])
    have HR := Lib.hid (krR_zero (o := o) (q := q) (by rw [HE.out]; exact he))
    rw [show errV o.err = er o.err by rw [errV, if_neg he]]
    have HN := Lib.hid he
    clear he bo br hb
    generalize o.err = oe at *
    go_wp2
    exact bodyPost_ret (v := .tuple #[.agg #[.int .i64 0, .int .i64 0, .int .i64 0, .int .i64 0, .int .i64 0], er oe]) (by simp [results, Tryz.results14, go_sem, kz]) rfl ⟨by rw [HE.out, HR.out, errV, if_neg HN.out], HF.out⟩
  rw [he, show errV 0 = .nilIface from rfl]
  have H0 := Lib.hid (Order.err_ok he)
  have hqq := H0.out.2.2.2.2.2.1
  have HKE := Lib.hid (show krE o q = if 1 ≤ q ∧ q ≤ o.qty then 0 else 1 by rw [krE, if_neg (by simpa using he)])
  obtain ⟨b0, b1, b2, b3, b4, b5, b6, b7⟩ := box8o bo
  clear he
  rcases (show q < 1 ∨ (1 ≤ q ∧ o.qty < q) ∨ (1 ≤ q ∧ q ≤ o.qty) by omega) with h | ⟨h, h2⟩ | ⟨h, h2⟩
  · have HE := Lib.hid (show krE o q = 1 by rw [HKE.out, if_neg (by omega)])
    have HR := Lib.hid (krR_zero (o := o) (q := q) (by rw [HE.out]; decide))
    clear bo br hb hqq
    go_wp2
    exact bodyPost_ret (v := .tuple #[.agg #[.int .i64 0, .int .i64 0, .int .i64 0, .int .i64 0, .int .i64 0], er 1]) (by simp [results, Tryz.results14, go_sem, kz]) rfl ⟨by rw [HE.out, HR.out]; rfl, HF.out⟩
  · have HE := Lib.hid (show krE o q = 1 by rw [HKE.out, if_neg (by omega)])
    have HR := Lib.hid (krR_zero (o := o) (q := q) (by rw [HE.out]; decide))
    have h1 : ¬ q < 1 := by omega
    clear bo br hb hqq
    go_wp2
    exact bodyPost_ret (v := .tuple #[.agg #[.int .i64 0, .int .i64 0, .int .i64 0, .int .i64 0, .int .i64 0], er 1]) (by simp [results, Tryz.results14, go_sem, kz]) rfl ⟨by rw [HE.out, HR.out]; rfl, HF.out⟩
  · have HE := Lib.hid (show krE o q = 0 by rw [HKE.out, if_pos ⟨h, h2⟩])
    have HR := Lib.hid (show krR o q = restOf o q by rw [krR, if_pos HE.out])
    have h1 : ¬ q < 1 := by omega
    have h3 : ¬ o.qty < q := by omega
    have d3 : decide (o.qty < q) = false := decide_eq_false h3
    have cR := Lib.hid (fun w => restOf_any o q (by omega) (by omega) H0.out.2.2.2.2.2.2.1.1 (by have := H0.out.2.2.2.2.2.2.1; omega) w)
    clear hqq kz HF
    go_wp2_with fail
    go_at_call 33
    refine (cR.out _).mono ?_
    rintro e w2 ⟨rfl, hb2⟩
    replace br := br.keep hb2; replace hb := below_then hb2 hb
    clear hb2 r0 y0 y1 y2 y3 y4 b0 b1 b2 b3 b4 b5 b6 b7 bo cR
    generalize hx : restOf o q = x at *
    have HX := Lib.hid hx
    clear hx
    have r0 := kbox5 br
    have y0 := br.free 0; have y1 := br.free 1; have y2 := br.free 2; have y3 := br.free 3; have y4 := br.free 4
    have kz := kbox5 (br.set5 (.int .i64 x.id) (.int .i64 x.who) (.int .i64 x.qty) (.int .i64 x.hidden) (.int .i64 x.show_))
    have HF := Lib.hid (below_lo5 hb (g := w.heap.size + 1) (by omega) (.int .i64 x.id) (.int .i64 x.who) (.int .i64 x.qty) (.int .i64 x.hidden) (.int .i64 x.show_))
    clear br hb
    go_wp2
    exact bodyPost_ret (v := .tuple #[.agg #[.int .i64 x.id, .int .i64 x.who, .int .i64 x.qty, .int .i64 x.hidden, .int .i64 x.show_], .nilIface]) (by simp [results, Tryz.results14, go_sem, kz]) rfl ⟨by rw [HE.out, HR.out]; rfl, HF.out⟩
end Go.Proofs.YtiaofbkhnodbhaaGreatDoor
