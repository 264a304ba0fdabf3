/- The contract of kinds.Do, given Put's. -/
import Derived.Test.YtbnjkcgkdpildaaKR
namespace Go.Proofs.Ytbnjkcgkdpildaa
set_option linter.all false
open Go Go.RowKit
/-- how kinds.Do ends -/
def KDoQ (y : Int) (R : Option MSt) (k : MSt → Nat) (z : MSt → Int) (o : Order) (L M : List Lv) (w : World) (e : Ending) (w' : World) : Prop :=
  ∃ A1 n1 c1 A2 n2 c2 AT nT cT gone ev, e = .returned (.tuple #[.agg #[.slice A1 n1 c1, .slice A2 n2 c2], .slice AT nT cT, .int .i64 gone, ev]) ∧
    Hid ((y ≠ 0 ∧ ev = er y ∧ nT = 0 ∧ gone = 0 ∧ n1 = 0 ∧ n2 = 0) ∨ (y = 0 ∧ ∃ AW nW cW, KR R k z o L M w.heap.size w' A1 n1 c1 A2 n2 c2 AT nT cT gone AW nW cW ev)) ∧ Below w.heap.size w w'
set_option maxRecDepth 100000 in
set_option maxHeartbeats 4000000 in
theorem kdo_any (L M : List Lv) (o : Order) (A1 A2 : Option Addr) (c1 c2 : Nat) (w : World) (h1 : RdLv w w.heap.size A1 L) (h2 : RdLv w w.heap.size A2 M) (hl1 : L.length ≤ maxLen) (hl2 : M.length ≤ maxLen) (hA1 : A1 = none → c1 = 0) (hA2 : A2 = none → c2 = 0)
    (y : Int) (hy : y = readyE L M o) (R : Option MSt) (hR : R = met L M o 0) (k : MSt → Nat) (hk : k = kOut o (pick o.side L M)) (z : MSt → Int) (hz : z = fun s => putE (kL o.side L s) (kM o.side M s) o.side o.price (restOf o s.left)) (hput : (∃ s, R = some s ∧ k s = 2) → PutCon) :
    Calls Try.prog 28 #[.agg #[.slice A1 L.length c1, .slice A2 M.length c2], .agg #[.int .i64 o.id, .int .i64 o.who, .int .i64 o.side, .int .i64 o.kind, .int .i64 o.price, .int .i64 o.qty, .int .i64 o.show_, .int .i64 o.stop]] w (KDoQ y R k z o L M w) := by
  have HL := Lib.hid h1; have HM := Lib.hid h2
  have cR0 := fun w' h h' => ready_any L M o A1 A2 c1 c2 w' h h' hl1 hl2
  rw [← hy] at cR0
  have cR := Lib.hid cR0
  have HYR := Lib.hid hy
  have cK := Lib.hid (fun w' h h' (hbk : BookOk L M) (ho : o.err = 0) => (krun_any L M o 0 A1 A2 c1 c2 w' h h' hbk ho hA1 hA2 R hR k hk z hz hput).mono fun _ _ h => h.flat)
  have hb : Below w.heap.size w (((w.alloc (.cells #[.slice A1 L.length c1, .slice A2 M.length c2] 24)).alloc (.cells #[.int .i64 o.id, .int .i64 o.who, .int .i64 o.side, .int .i64 o.kind, .int .i64 o.price, .int .i64 o.qty, .int .i64 o.show_, .int .i64 o.stop] 36)).alloc (.cells #[.slice none 0 0, .slice none 0 0] 24)) := below_then_alloc (below_then_alloc ((Below.refl _ _).alloc (Nat.le_refl _) _))
  have bb := ((Bk.new w 24 #[.slice A1 L.length c1, .slice A2 M.length c2]).alloc (.cells #[.int .i64 o.id, .int .i64 o.who, .int .i64 o.side, .int .i64 o.kind, .int .i64 o.price, .int .i64 o.qty, .int .i64 o.show_, .int .i64 o.stop] 36)).alloc (.cells #[.slice none 0 0, .slice none 0 0] 24)
  have bo := (Bk.at_ (w := w.alloc (.cells #[.slice A1 L.length c1, .slice A2 M.length c2] 24)) (g' := w.heap.size + 1) (by simp) 36 #[.int .i64 o.id, .int .i64 o.who, .int .i64 o.side, .int .i64 o.kind, .int .i64 o.price, .int .i64 o.qty, .int .i64 o.show_, .int .i64 o.stop]).alloc (.cells #[.slice none 0 0, .slice none 0 0] 24)
  have br := Bk.at_ (w := (w.alloc (.cells #[.slice A1 L.length c1, .slice A2 M.length c2] 24)).alloc (.cells #[.int .i64 o.id, .int .i64 o.who, .int .i64 o.side, .int .i64 o.kind, .int .i64 o.price, .int .i64 o.qty, .int .i64 o.show_, .int .i64 o.stop] 36)) (g' := w.heap.size + 2) (by simp) 24 #[.slice none 0 0, .slice none 0 0]
  clear h1 h2 hl1 hl2 cR0 hy hR hk hz hput hA1 hA2
  go_enter Try.func28, Try.ntmps28
  go_upto_region 1 with fail
  generalize ((w.alloc (.cells #[.slice A1 L.length c1, .slice A2 M.length c2] 24)).alloc (.cells #[.int .i64 o.id, .int .i64 o.who, .int .i64 o.side, .int .i64 o.kind, .int .i64 o.price, .int .i64 o.qty, .int .i64 o.show_, .int .i64 o.stop] 36)).alloc (.cells #[.slice none 0 0, .slice none 0 0] 24) = w0 at *
  have hgl : w.heap.size + 2 < w0.heap.size := br.lt
  have k8 := box8o bo
  obtain ⟨q0, q1⟩ := box2 bb
  go_wp2_with fail
  go_at_call 36
  refine (cR.out _ (HL.out.on hb) (HM.out.on hb)).mono ?_
  rintro e w1 ⟨rfl, hb1⟩
  have hz1 : w0.heap.size ≤ w1.heap.size := hb1.size
  replace bb := bb.keep hb1; replace bo := bo.keep hb1; replace br := br.keep hb1; replace hb := below_then hb1 hb
  clear hb1 q0 q1 k8 cR
  by_cases h0 : y = 0
  case neg =>
    have HN := Lib.hid h0
    rw [show errV y = er y by rw [errV, if_neg h0]]
    obtain ⟨r0, r1⟩ := box2 br
    have f0 := br.free 0; have f1 := br.free 1
    have kx := box2 (br.set2 (.slice none 0 0) (.slice none 0 0))
    have HF := Lib.hid ((hb.setCell (p := ⟨w.heap.size + 2, 0, none⟩) (by show w.heap.size ≤ w.heap.size + 2; omega) (.slice none 0 0)).setCell (p := ⟨w.heap.size + 2, 1, none⟩) (by show w.heap.size ≤ w.heap.size + 2; omega) (.slice none 0 0))
    clear h0 bb bo br hb
    go_wp2
    exact bodyPost_ret (v := .tuple #[.agg #[.slice none 0 0, .slice none 0 0], .slice none 0 0, .int .i64 0, er y]) (by simp [results, Try.results28, go_sem, kx]) rfl ⟨none, 0, 0, none, 0, 0, none, 0, 0, 0, _, rfl, Lib.hid (.inl ⟨HN.out, rfl, rfl, rfl, rfl, rfl⟩), HF.out⟩
  case pos =>
  have HZ := Lib.hid h0
  have hbk := (readyE_iff.1 (HYR.out.symm.trans h0)).1
  have ho := (readyE_iff.1 (HYR.out.symm.trans h0)).2.1
  have cRun := Lib.hid (cK.out w1 (HL.out.on hb) (HM.out.on hb) hbk ho)
  rw [h0, show errV 0 = .nilIface from rfl]
  have k8 := box8o bo
  obtain ⟨q0, q1⟩ := box2 bb
  clear h0 hbk ho HYR cK
  go_wp2_with fail
  go_at_call 64
  refine cRun.out.mono ?_
  rintro e w2 ⟨B1, m1, e1, B2, m2, e2, AT, nT, cT, left, gone, AW, nW, cW, ends, ev, rfl, hK, hb1⟩
  have hlt : w.heap.size + 2 < w1.heap.size := by omega
  replace br := br.keep hb1
  have hb2 := below_then hb1 hb
  clear bb bo hb hb1 k8 q0 q1 cRun
  go_upto_region 5 with fail
  have hba : Below w2.heap.size w2 (w2.alloc (.cells #[.slice B1 m1 e1, .slice B2 m2 e2, .slice AT nT cT, .int .i64 left, .slice AW nW cW, .bool ends] 80)) := (Below.refl _ _).alloc (Nat.le_refl _) _
  have bM := Bk.new w2 80 #[.slice B1 m1 e1, .slice B2 m2 e2, .slice AT nT cT, .int .i64 left, .slice AW nW cW, .bool ends]
  generalize w2.alloc (.cells #[.slice B1 m1 e1, .slice B2 m2 e2, .slice AT nT cT, .int .i64 left, .slice AW nW cW, .bool ends] 80) = w3 at *
  have HR := Lib.hid (br.keep hba)
  have hgm : w.heap.size + 2 < w2.heap.size := br.lt
  have HB3 := Lib.hid (below_then hba hb2)
  have HK := Lib.hid (hK.out.move (w' := (((w3.setCell ⟨w.heap.size + 2, 0, none⟩ (.slice B1 m1 e1)).setCell ⟨w.heap.size + 2, 1, none⟩ (.slice B2 m2 e2)).drew)) (b := w.heap.size) (fun A c L v h => (((h.below hba).far2 (g := w.heap.size + 2) (i := 0) (j := 1) hlt _ _).lower (by omega)).drew) (fun s A n c xs h => ((((h.below hba).under (p := ⟨w.heap.size + 2, 0, none⟩) hlt _).under (p := ⟨w.heap.size + 2, 1, none⟩) hlt _).lower (by omega)).drew))
  obtain ⟨m0, m1', m2', m3, m4, m5⟩ := box6 bM
  obtain ⟨r0, r1⟩ := box2 HR.out.drew
  have f0 := HR.out.drew.free 0; have f1 := HR.out.drew.free 1
  obtain ⟨r0', r1'⟩ := box2 HR.out
  have f0' := HR.out.free 0; have f1' := HR.out.free 1
  have kx := box2 (HR.out.set2 (.slice B1 m1 e1) (.slice B2 m2 e2))
  clear hba hb2 br bM hK
  go_region_held3 (fun w' => w'.cell? ⟨w2.heap.size, 0, none⟩ = some (.slice B1 m1 e1) ∧ w'.cell? ⟨w2.heap.size, 1, none⟩ = some (.slice B2 m2 e2) ∧ w'.cell? ⟨w2.heap.size, 2, none⟩ = some (.slice AT nT cT))
    ((repeat' apply And.intro) <;> (first | (with_reducible assumption) | (with_reducible exact cell_drew (by assumption)) | (with_reducible exact cell_far2 (by assumption) (by simp; omega)) | (with_reducible exact cell_drew (cell_far2 (by assumption) (by simp; omega))))) (fail)
  have HF := Lib.hid ((HB3.out.setCell (p := ⟨w.heap.size + 2, 0, none⟩) (by show w.heap.size ≤ w.heap.size + 2; omega) (.slice B1 m1 e1)).setCell (p := ⟨w.heap.size + 2, 1, none⟩) (by show w.heap.size ≤ w.heap.size + 2; omega) (.slice B2 m2 e2)).drew
  go_wp2
  exact bodyPost_ret (v := .tuple #[.agg #[.slice B1 m1 e1, .slice B2 m2 e2], .slice AT nT cT, .int .i64 gone, ev]) (by simp [results, Try.results28, go_sem, kx]) rfl ⟨B1, m1, e1, B2, m2, e2, AT, nT, cT, gone, ev, rfl, Lib.hid (.inr ⟨HZ.out, AW, nW, cW, HK.out⟩), HF.out⟩
end Go.Proofs.Ytbnjkcgkdpildaa
