/- The contract of meet.Do. -/
import Derived.Test.YtbnjkcgkdpildaaDoorMeetRun
namespace Go.Proofs.YtbnjkcgkdpildaaDoor
set_option linter.all false
open Go Go.RowKit
theorem OwnLv.drew {w : World} {base cap : Nat} {A : Option Addr} {L : List Lv} {vs : List (Option Addr × Nat)} (h : OwnLv w base A cap L vs) : OwnLv w.drew base A cap L vs := h.below (Below.refl _ _).drew
/-- how Run ends: R what is met -/
def RunQ (R : Option MSt) (L M : List Lv) (sd : Int) (w : World) (e : Ending) (w' : World) : Prop :=
  (R = none ∧ e = .returned (.tuple #[.agg #[.slice none 0 0, .slice none 0 0, .slice none 0 0, .int .i64 0, .slice none 0 0, .bool false], er 4]) ∧ Below w.heap.size w w') ∨
  ∃ s A1 c1 v1 A2 c2 v2 AT cT AW cW, R = some s ∧ MOk s ∧ e = .returned (.tuple #[.agg #[.slice A1 (pick sd s.L L).length c1, .slice A2 (pick sd M s.L).length c2, .slice AT s.T.length cT, .int .i64 s.left, .slice AW s.W.length cW, .bool s.ends], .nilIface]) ∧
    OwnLv w' w.heap.size A1 c1 (pick sd s.L L) v1 ∧ OwnLv w' w.heap.size A2 c2 (pick sd M s.L) v2 ∧ OwnS w' w.heap.size 6 AT s.T.length cT (trows s.T) ∧ OwnS w' w.heap.size 1 AW s.W.length cW (irows s.W) ∧ Below w.heap.size w w'
theorem run_q {R : Option MSt} {L M : List Lv} {o : Order} {mode : Int} {w w' : World} {e : Ending} (hR : R = met L M o mode) (h : RunPost L M o mode w e w') : RunQ R L M o.side w e w' := by subst hR; exact h
/-- how Do ends: z what is wrong, R what is met -/
def MDoQ (z : Int) (R : Option MSt) (L M : List Lv) (sd : Int) (w : World) (e : Ending) (w' : World) : Prop :=
  (z ≠ 0 ∧ e = .returned (.tuple #[.agg #[.slice none 0 0, .slice none 0 0], .slice none 0 0, .int .i64 0, er z]) ∧ Below w.heap.size w w') ∨
  (z = 0 ∧ R = none ∧ e = .returned (.tuple #[.agg #[.slice none 0 0, .slice none 0 0], .slice none 0 0, .int .i64 0, er 4]) ∧ Below w.heap.size w w') ∨
  (z = 0 ∧ ∃ s A1 c1 v1 A2 c2 v2 AT cT, R = some s ∧ MOk s ∧ e = .returned (.tuple #[.agg #[.slice A1 (pick sd s.L L).length c1, .slice A2 (pick sd M s.L).length c2], .slice AT s.T.length cT, .int .i64 s.left, .nilIface]) ∧
    OwnLv w' w.heap.size A1 c1 (pick sd s.L L) v1 ∧ OwnLv w' w.heap.size A2 c2 (pick sd M s.L) v2 ∧ OwnS w' w.heap.size 6 AT s.T.length cT (trows s.T) ∧ Below w.heap.size w w')
set_option maxRecDepth 100000 in
set_option maxHeartbeats 2000000 in
theorem mdo_any (L M : List Lv) (o : Order) (A1 A2 : Option Addr) (c1 c2 : Nat) (w : World) (h1 : RdLv w w.heap.size A1 L) (h2 : RdLv w w.heap.size A2 M) (hl1 : L.length ≤ maxLen) (hl2 : M.length ≤ maxLen) (hA1 : A1 = none → c1 = 0) (hA2 : A2 = none → c2 = 0) (z : Int) (hz : z = readyE L M o) (R : Option MSt) (hR : R = met L M o 0) :
    Calls Tryd.prog 15 #[.agg #[.slice A1 L.length c1, .slice A2 M.length c2], .agg #[.int .i64 o.id, .int .i64 o.who, .int .i64 o.side, .int .i64 o.kind, .int .i64 o.price, .int .i64 o.qty, .int .i64 o.show_, .int .i64 o.stop]] w (MDoQ z R L M o.side w) := by
  have HL := Lib.hid h1; have HM := Lib.hid h2
  have cR0 := fun w' h h' => ready_any L M o A1 A2 c1 c2 w' h h' hl1 hl2
  rw [← hz] at cR0
  have cR := Lib.hid cR0
  have HZR := Lib.hid hz; have HRR := Lib.hid hR
  have hb : Below w.heap.size w (((w.alloc (.cells #[.slice A1 L.length c1, .slice A2 M.length c2] 29)).alloc (.cells #[.int .i64 o.id, .int .i64 o.who, .int .i64 o.side, .int .i64 o.kind, .int .i64 o.price, .int .i64 o.qty, .int .i64 o.show_, .int .i64 o.stop] 36)).alloc (.cells #[.slice none 0 0, .slice none 0 0] 29)) := below_then_alloc (below_then_alloc ((Below.refl _ _).alloc (Nat.le_refl _) _))
  have bb := ((Bk.new w 29 #[.slice A1 L.length c1, .slice A2 M.length c2]).alloc (.cells #[.int .i64 o.id, .int .i64 o.who, .int .i64 o.side, .int .i64 o.kind, .int .i64 o.price, .int .i64 o.qty, .int .i64 o.show_, .int .i64 o.stop] 36)).alloc (.cells #[.slice none 0 0, .slice none 0 0] 29)
  have bo := (Bk.at_ (w := w.alloc (.cells #[.slice A1 L.length c1, .slice A2 M.length c2] 29)) (g' := w.heap.size + 1) (by simp) 36 #[.int .i64 o.id, .int .i64 o.who, .int .i64 o.side, .int .i64 o.kind, .int .i64 o.price, .int .i64 o.qty, .int .i64 o.show_, .int .i64 o.stop]).alloc (.cells #[.slice none 0 0, .slice none 0 0] 29)
  have br := Bk.at_ (w := (w.alloc (.cells #[.slice A1 L.length c1, .slice A2 M.length c2] 29)).alloc (.cells #[.int .i64 o.id, .int .i64 o.who, .int .i64 o.side, .int .i64 o.kind, .int .i64 o.price, .int .i64 o.qty, .int .i64 o.show_, .int .i64 o.stop] 36)) (g' := w.heap.size + 2) (by simp) 29 #[.slice none 0 0, .slice none 0 0]
  clear h1 h2 hl1 hl2 cR0 hz hR
  go_enter Tryd.func15, Tryd.ntmps15
  go_upto_region 1 with fail
  generalize ((w.alloc (.cells #[.slice A1 L.length c1, .slice A2 M.length c2] 29)).alloc (.cells #[.int .i64 o.id, .int .i64 o.who, .int .i64 o.side, .int .i64 o.kind, .int .i64 o.price, .int .i64 o.qty, .int .i64 o.show_, .int .i64 o.stop] 36)).alloc (.cells #[.slice none 0 0, .slice none 0 0] 29) = w0 at *
  have k8 := box8o bo
  obtain ⟨q0, q1⟩ := box2 bb
  go_wp2_with fail
  go_at_call 23
  refine (cR.out _ (HL.out.on hb) (HM.out.on hb)).mono ?_
  rintro e w1 ⟨rfl, hb1⟩
  replace bb := bb.keep hb1; replace bo := bo.keep hb1; replace br := br.keep hb1; replace hb := below_then hb1 hb
  clear hb1 q0 q1 k8 cR
  by_cases h0 : z = 0
  case neg =>
    have HN := Lib.hid h0
    rw [show errV z = er z by rw [errV, if_neg h0]]
    obtain ⟨r0, r1⟩ := box2 br
    have f0 := br.free 0; have f1 := br.free 1
    have kx := box2 (br.set2 (.slice none 0 0) (.slice none 0 0))
    have HF := Lib.hid ((hb.setCell (p := ⟨w.heap.size + 2, 0, none⟩) (by show w.heap.size ≤ w.heap.size + 2; omega) (.slice none 0 0)).setCell (p := ⟨w.heap.size + 2, 1, none⟩) (by show w.heap.size ≤ w.heap.size + 2; omega) (.slice none 0 0))
    clear h0 bb bo br
    go_wp2
    exact bodyPost_ret (v := .tuple #[.agg #[.slice none 0 0, .slice none 0 0], .slice none 0 0, .int .i64 0, er z]) (by simp [results, Tryd.results15, go_sem, kx]) rfl (.inl ⟨HN.out, rfl, HF.out⟩)
  case pos =>
  have HZ := Lib.hid h0
  have hbk := (readyE_iff.1 (HZR.out.symm.trans h0)).1
  have ho := (readyE_iff.1 (HZR.out.symm.trans h0)).2.1
  have cRun := Lib.hid ((run_any L M o 0 A1 A2 c1 c2 w1 (HL.out.on hb) (HM.out.on hb) hbk ho hA1 hA2).mono fun _ _ h => run_q HRR.out h)
  rw [h0, show errV 0 = .nilIface from rfl]
  have k8 := box8o bo
  obtain ⟨q0, q1⟩ := box2 bb
  clear h0 hbk ho HZR HRR
  go_wp2_with fail
  go_at_call 47
  refine cRun.out.mono ?_
  rintro e w2 (⟨hn, rfl, hb1⟩ | ⟨s, B1, e1, u1, B2, e2, u2, AT, cT, AW, cW, hmet, hok, rfl, o1, o2, ot, ow, hb1⟩)
  · replace br := (br.keep hb1).alloc (.cells #[.slice none 0 0, .slice none 0 0, .slice none 0 0, .int .i64 0, .slice none 0 0, .bool false] 66)
    have hb2 := below_then_alloc (o := .cells #[.slice none 0 0, .slice none 0 0, .slice none 0 0, .int .i64 0, .slice none 0 0, .bool false] 66) (below_then hb1 hb)
    have HN := Lib.hid hn
    obtain ⟨r0, r1⟩ := box2 br
    have f0 := br.free 0; have f1 := br.free 1
    have kx := box2 (br.set2 (.slice none 0 0) (.slice none 0 0))
    have HF := Lib.hid ((hb2.setCell (p := ⟨w.heap.size + 2, 0, none⟩) (by show w.heap.size ≤ w.heap.size + 2; omega) (.slice none 0 0)).setCell (p := ⟨w.heap.size + 2, 1, none⟩) (by show w.heap.size ≤ w.heap.size + 2; omega) (.slice none 0 0))
    clear bb bo br hn hb hb1 hb2 k8 q0 q1 cRun
    go_wp2
    exact bodyPost_ret (v := .tuple #[.agg #[.slice none 0 0, .slice none 0 0], .slice none 0 0, .int .i64 0, er 4]) (by simp [results, Tryd.results15, go_sem, kx]) rfl (.inr (.inl ⟨HZ.out, HN.out, rfl, HF.out⟩))
  · have HMET := Lib.hid hmet; have HOK := Lib.hid hok
    have hlt : w.heap.size + 2 < w1.heap.size := br.lt
    replace br := br.keep hb1
    have hb2 := below_then hb1 hb
    have HO1 := Lib.hid o1; have HO2 := Lib.hid o2; have HOT := Lib.hid ot
    clear bb bo hmet hok hb hb1 k8 q0 q1 cRun o1 o2 ot ow
    generalize hK1 : pick o.side s.L L = K1 at *
    generalize hK2 : pick o.side M s.L = K2 at *
    have HK1 := Lib.hid hK1; have HK2 := Lib.hid hK2
    clear hK1 hK2
    go_upto_region 7 with fail
    have hba : Below w2.heap.size w2 (w2.alloc (.cells #[.slice B1 K1.length e1, .slice B2 K2.length e2, .slice AT s.T.length cT, .int .i64 s.left, .slice AW s.W.length cW, .bool s.ends] 66)) := (Below.refl _ _).alloc (Nat.le_refl _) _
    have bM := Bk.new w2 66 #[.slice B1 K1.length e1, .slice B2 K2.length e2, .slice AT s.T.length cT, .int .i64 s.left, .slice AW s.W.length cW, .bool s.ends]
    generalize w2.alloc (.cells #[.slice B1 K1.length e1, .slice B2 K2.length e2, .slice AT s.T.length cT, .int .i64 s.left, .slice AW s.W.length cW, .bool s.ends] 66) = w3 at *
    have HR := Lib.hid (br.keep hba)
    have hgm : w.heap.size + 2 < w2.heap.size := br.lt
    have HB3 := Lib.hid (below_then hba hb2)
    have HP1 := Lib.hid (HO1.out.below hba)
    have HP2 := Lib.hid (HO2.out.below hba)
    have HPT := Lib.hid (HOT.out.below hba)
    obtain ⟨m0, m1, m2, m3, m4, m5⟩ := box6 bM
    obtain ⟨r0, r1⟩ := box2 HR.out.drew
    have f0 := HR.out.drew.free 0; have f1 := HR.out.drew.free 1
    obtain ⟨r0', r1'⟩ := box2 HR.out
    have f0' := HR.out.free 0; have f1' := HR.out.free 1
    have kx := box2 (HR.out.set2 (.slice B1 K1.length e1) (.slice B2 K2.length e2))
    clear hba hb2 br bM
    go_region_held3 (fun w' => w'.cell? ⟨w2.heap.size, 0, none⟩ = some (.slice B1 K1.length e1) ∧ w'.cell? ⟨w2.heap.size, 1, none⟩ = some (.slice B2 K2.length e2) ∧ w'.cell? ⟨w2.heap.size, 2, none⟩ = some (.slice AT s.T.length cT) ∧ w'.cell? ⟨w2.heap.size, 3, none⟩ = some (.int .i64 s.left))
      ((repeat' apply And.intro) <;> (first | (with_reducible assumption) | (with_reducible exact cell_drew (by assumption)) | (with_reducible exact cell_far2 (by assumption) (by simp; omega)) | (with_reducible exact cell_drew (cell_far2 (by assumption) (by simp; omega))))) (fail)
    have HF := Lib.hid ((HB3.out.setCell (p := ⟨w.heap.size + 2, 0, none⟩) (by show w.heap.size ≤ w.heap.size + 2; omega) (.slice B1 K1.length e1)).setCell (p := ⟨w.heap.size + 2, 1, none⟩) (by show w.heap.size ≤ w.heap.size + 2; omega) (.slice B2 K2.length e2)).drew
    have HX1 := Lib.hid ((HP1.out.far2 (g := w.heap.size + 2) (i := 0) (j := 1) hlt (.slice B1 K1.length e1) (.slice B2 K2.length e2)).lower (b := w.heap.size) (by omega)).drew
    have HX2 := Lib.hid ((HP2.out.far2 (g := w.heap.size + 2) (i := 0) (j := 1) hlt (.slice B1 K1.length e1) (.slice B2 K2.length e2)).lower (b := w.heap.size) (by omega)).drew
    have HXT := Lib.hid (((HPT.out.under (p := ⟨w.heap.size + 2, 0, none⟩) hlt (.slice B1 K1.length e1)).under (p := ⟨w.heap.size + 2, 1, none⟩) hlt (.slice B2 K2.length e2)).lower (b := w.heap.size) (by omega)).drew
    go_wp2
    exact bodyPost_ret (v := .tuple #[.agg #[.slice B1 K1.length e1, .slice B2 K2.length e2], .slice AT s.T.length cT, .int .i64 s.left, .nilIface]) (by simp [results, Tryd.results15, go_sem, kx]) rfl (.inr (.inr ⟨HZ.out, s, B1, e1, u1, B2, e2, u2, AT, cT, HMET.out, HOK.out, by rw [HK1.out, HK2.out]; exact ⟨rfl, HX1.out, HX2.out, HXT.out, HF.out⟩⟩))
end Go.Proofs.YtbnjkcgkdpildaaDoor
