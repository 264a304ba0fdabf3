/- The walk of the reference's Come. -/
import Derived.Test.YtiaofbkhnodbhaaGreatDoorGrpO
namespace Go.Proofs.YtiaofbkhnodbhaaGreatDoor
set_option linter.all false
open Go Go.RowKit
theorem rofp2_any (s : Int) (hs : vs s = true) (L M : List Lv) (A1 A2 : Option Addr) (c1 c2 : Nat) (w : World) :
    Calls Tryz.prog 23 #[.agg #[.slice A1 L.length c1, .slice A2 M.length c2], .int .i64 (3 - s)] w fun e w' => e = .returned (.slice (pick s A1 A2) (pick s L M).length (pick s c1 c2)) ∧ Below w.heap.size w w' := by
  have h := rofm_any s hs (pick s A1 A2) A1 A2 (pick s L.length M.length) L.length M.length (pick s c1 c2) c1 c2 w
  simp only [pick_left, pick_right] at h
  rw [pick_len]
  exact h
set_option maxRecDepth 100000 in
set_option maxHeartbeats 8000000 in
theorem rcome_any (L M : List Lv) (o : Order) (mode E : Int) (P1 P2 : List Lv) (T : List Trade) (gone : Int) (W : List Int) (hko : KO L M o mode E P1 P2 T gone W) (hr : readyE L M o = 0) (A1 A2 : Option Addr) (c1 c2 : Nat) (w : World) (lo : Nat) (hlo : lo ≤ w.heap.size) (h1 : RdLv w lo A1 L) (h2 : RdLv w lo A2 M) (k1 : L.length ≤ c1 ∧ c1 ≤ maxLen) (k2 : M.length ≤ c2 ∧ c2 ≤ maxLen) :
    Calls Tryz.prog 7 #[.agg #[.slice A1 L.length c1, .slice A2 M.length c2], .agg #[.int .i64 o.id, .int .i64 o.who, .int .i64 o.side, .int .i64 o.kind, .int .i64 o.price, .int .i64 o.qty, .int .i64 o.show_, .int .i64 o.stop], .int .i64 mode] w (RComeT lo E P1 P2 T gone W w) := by
  have hbk := (readyE_iff.1 hr).1
  have ho := (readyE_iff.1 hr).2.1
  have hs : vs o.side = true := vs_of (Order.err_ok ho).2.2.1
  have hx0 := vs_t hs
  have hx : IntKind.i64.wrap (3 - o.side) = 3 - o.side := IntWalk.i64_in _ (by omega)
  have HO := Lib.hid (Order.err_ok ho)
  have HKO := Lib.hid hko; have HR := Lib.hid hr; have HLO := Lib.hid hlo
  have HBK := Lib.hid hbk; have HOE := Lib.hid ho
  have HL := Lib.hid h1; have HM := Lib.hid h2
  have HSV := Lib.hid hs
  have cMe := Lib.hid (fun w' (hb : Below w.heap.size w w') => rmeet_any L M o mode A1 A2 c1 c2 w' lo (Nat.le_trans hlo hb.size) (h1.below (hb.mono hlo)) (h2.below (hb.mono hlo)) hbk ho k1 k2)
  have cOf := Lib.hid (fun w => rofp2_any o.side hs L M A1 A2 c1 c2 w)
  have CMAY := Lib.hid (fun p w => rmayB_any o hs p w)
  have hb : Below w.heap.size w (((w.alloc (.cells #[.slice A1 L.length c1, .slice A2 M.length c2] 24)).alloc (.cells #[.int .i64 o.id, .int .i64 o.who, .int .i64 o.side, .int .i64 o.kind, .int .i64 o.price, .int .i64 o.qty, .int .i64 o.show_, .int .i64 o.stop] 26)).alloc (.cells #[.slice none 0 0, .slice none 0 0, .slice none 0 0, .int .i64 0, .int .i64 0, .slice none 0 0, .bool false] 31)) := below_then_alloc (below_then_alloc ((Below.refl _ _).alloc (Nat.le_refl _) _))
  have bb := ((Bk.new w 24 #[.slice A1 L.length c1, .slice A2 M.length c2]).alloc (.cells #[.int .i64 o.id, .int .i64 o.who, .int .i64 o.side, .int .i64 o.kind, .int .i64 o.price, .int .i64 o.qty, .int .i64 o.show_, .int .i64 o.stop] 26)).alloc (.cells #[.slice none 0 0, .slice none 0 0, .slice none 0 0, .int .i64 0, .int .i64 0, .slice none 0 0, .bool false] 31)
  have bo := (Bk.at_ (w := w.alloc (.cells #[.slice A1 L.length c1, .slice A2 M.length c2] 24)) (g' := w.heap.size + 1) (by simp) 26 #[.int .i64 o.id, .int .i64 o.who, .int .i64 o.side, .int .i64 o.kind, .int .i64 o.price, .int .i64 o.qty, .int .i64 o.show_, .int .i64 o.stop]).alloc (.cells #[.slice none 0 0, .slice none 0 0, .slice none 0 0, .int .i64 0, .int .i64 0, .slice none 0 0, .bool false] 31)
  have br := Bk.at_ (w := (w.alloc (.cells #[.slice A1 L.length c1, .slice A2 M.length c2] 24)).alloc (.cells #[.int .i64 o.id, .int .i64 o.who, .int .i64 o.side, .int .i64 o.kind, .int .i64 o.price, .int .i64 o.qty, .int .i64 o.show_, .int .i64 o.stop] 26)) (g' := w.heap.size + 2) (by simp) 31 #[.slice none 0 0, .slice none 0 0, .slice none 0 0, .int .i64 0, .int .i64 0, .slice none 0 0, .bool false]
  clear hko hr hlo hbk ho hs hx0 h1 h2 k1 k2
  go_enter Tryz.func7, Tryz.ntmps7
  go_upto_region 1 with fail
  generalize ((w.alloc (.cells #[.slice A1 L.length c1, .slice A2 M.length c2] 24)).alloc (.cells #[.int .i64 o.id, .int .i64 o.who, .int .i64 o.side, .int .i64 o.kind, .int .i64 o.price, .int .i64 o.qty, .int .i64 o.show_, .int .i64 o.stop] 26)).alloc (.cells #[.slice none 0 0, .slice none 0 0, .slice none 0 0, .int .i64 0, .int .i64 0, .slice none 0 0, .bool false] 31) = w0 at *
  have hgl : w.heap.size + 2 < w0.heap.size := br.lt
  have k8 := box8o bo
  obtain ⟨q0, q1⟩ := box2 bb
  go_wp2_with fail
  go_at_call 22
  refine (cMe.out _ hb).mono ?_
  rintro e w1 (⟨hn, rfl, hb1⟩ | ⟨s, B1, e1, B2, e2, AT, cT, AW, cW, hmet, hok, rfl, o1, o2, l1, l1', l2, l2', ot, ow, hb1⟩)
  · --<full
    replace br := (br.keep hb1).alloc (.cells #[.slice none 0 0, .slice none 0 0, .slice none 0 0, .int .i64 0, .int .i64 0, .slice none 0 0, .bool false] 31)
    have hb2 := below_then_alloc (o := .cells #[.slice none 0 0, .slice none 0 0, .slice none 0 0, .int .i64 0, .int .i64 0, .slice none 0 0, .bool false] 31) (below_then hb1 hb)
    have HN := Lib.hid hn
    have r0 := box7 br
    have y0 := br.free 0; have y1 := br.free 1; have y2 := br.free 2; have y3 := br.free 3; have y4 := br.free 4; have y5 := br.free 5; have y6 := br.free 6
    have kx := box7 (br.set7 (.slice none 0 0) (.slice none 0 0) (.slice none 0 0) (.int .i64 0) (.int .i64 0) (.slice none 0 0) (.bool false))
    have HF := Lib.hid (below_set7 hb2 (g := w.heap.size + 2) (by omega) (.slice none 0 0) (.slice none 0 0) (.slice none 0 0) (.int .i64 0) (.int .i64 0) (.slice none 0 0) (.bool false))
    clear bb bo br hn hb hb1 hb2 k8 q0 q1
    go_wp2
    exact bodyPost_ret (v := .tuple #[.agg #[.slice none 0 0, .slice none 0 0, .slice none 0 0, .int .i64 0, .int .i64 0, .slice none 0 0, .bool false], .int .i64 4]) (by simp [results, Tryz.results7, go_sem, kx]) rfl (HKO.out.bad HR.out HF.out (.inl ⟨HN.out, rfl⟩))
    -->full
  have HMET := Lib.hid hmet; have HOK := Lib.hid hok
  have HS0 := Lib.hid hok.left0; have HS1 := Lib.hid hok.left1
  obtain ⟨K1, hK1⟩ : ∃ K1, K1 = kL o.side L s := ⟨_, rfl⟩
  obtain ⟨K2, hK2⟩ : ∃ K2, K2 = kM o.side M s := ⟨_, rfl⟩
  rw [show pick o.side s.L L = K1 from hK1.symm] at o1 l1 ⊢
  rw [show pick o.side M s.L = K2 from hK2.symm] at o2 l2 ⊢
  have HK1 := Lib.hid hK1; have HK2 := Lib.hid hK2
  have J1 := Lib.hid (show K1.length ≤ e1 ∧ e1 ≤ maxLen from ⟨l1, l1'⟩); have J2 := Lib.hid (show K2.length ≤ e2 ∧ e2 ≤ maxLen from ⟨l2, l2'⟩)
  have hz1 : w0.heap.size ≤ w1.heap.size := hb1.size
  have hba : Below w1.heap.size w1 (w1.alloc (.cells #[.slice B1 K1.length e1, .slice B2 K2.length e2, .slice AT s.T.length cT, .int .i64 s.left, .int .i64 0, .slice AW s.W.length cW, .bool s.ends] 31)) := (Below.refl _ _).alloc (Nat.le_refl _) _
  have HO1 := Lib.hid ((o1.x (Nat.le_refl _)).below hba); have HO2 := Lib.hid ((o2.x (Nat.le_refl _)).below hba); have HAT := Lib.hid (show Ap (rowOf AT cT) (some w1.heap.size) from (Ap.new (n := w1.heap.size) (fun k hk => by cases hk; exact Nat.le_refl _) (fun k hk => (ot.row_lt k hk).2)).symm); have HAW := Lib.hid (show Ap (rowOf AW cW) (some w1.heap.size) from (Ap.new (n := w1.heap.size) (fun k hk => by cases hk; exact Nat.le_refl _) (fun k hk => (ow.row_lt k hk).2)).symm); have HOT := Lib.hid (ot.below hba); have HOW := Lib.hid (ow.below hba)
  replace bb := (bb.keep hb1).keep hba; replace bo := (bo.keep hb1).keep hba; replace br := (br.keep hb1).keep hba; replace hb := below_then hba (below_then hb1 hb)
  have bM := Bk.new w1 31 #[.slice B1 K1.length e1, .slice B2 K2.length e2, .slice AT s.T.length cT, .int .i64 s.left, .int .i64 0, .slice AW s.W.length cW, .bool s.ends]
  clear hb1 hba hmet hok o1 o2 ot ow hK1 hK2 k8 q0 q1 cMe l1 l1' l2 l2'
  go_upto_region 2 with fail
  generalize w1.alloc (.cells #[.slice B1 K1.length e1, .slice B2 K2.length e2, .slice AT s.T.length cT, .int .i64 s.left, .int .i64 0, .slice AW s.W.length cW, .bool s.ends] 31) = w2 at *
  obtain ⟨gm, hgm⟩ : ∃ g, g = w1.heap.size := ⟨_, rfl⟩
  rw [← hgm] at bM hz1 HO1 HO2 HAT HAW ⊢
  have hgm2 : w.heap.size + 2 < gm := by omega
  have HSZ0 := Lib.hid hz1
  clear hgm hz1
  have r0 := box7 br
  obtain ⟨m0, m1, m2, m3, m4, m5, m6⟩ := box7 bM
  have k8 := box8o bo
  go_upto_region 4 with fail
  go_cut [31] from 22 to 94 (fun v wx => v = .bool (decide (o.kind = 4 ∧ 0 < s.left)) ∧ wx = w2)
  case first =>
    --<c31
    obtain ⟨b0, b1, b2, b3, b4, b5, b6, b7⟩ := k8
    by_cases h1 : o.kind = 4
    · have e1 : (o.kind == 4) = true := by simpa using h1
      rcases (show s.left ≤ 0 ∨ 0 < s.left by omega) with h2 | h2
      · have HE := Lib.hid (show decide (o.kind = 4 ∧ 0 < s.left) = false from decide_eq_false (fun h => by omega))
        have hd : decide (0 < s.left) = false := decide_eq_false (by omega)
        clear h1 h2
        go_wp2
        go_meet
        case rel => exact ⟨by rw [HE.out], rfl⟩
      · have HE := Lib.hid (show decide (o.kind = 4 ∧ 0 < s.left) = true from decide_eq_true ⟨h1, h2⟩)
        have hd : decide (0 < s.left) = true := decide_eq_true h2
        clear h1 h2
        go_wp2
        go_meet
        case rel => exact ⟨by rw [HE.out], rfl⟩
    · have e1 : (o.kind == 4) = false := by simpa using h1
      have HE := Lib.hid (show decide (o.kind = 4 ∧ 0 < s.left) = false by simp [h1])
      clear h1
      go_wp2
      go_meet
      case rel => exact ⟨by rw [HE.out], rfl⟩
    -->c31
  case rest =>
  obtain ⟨rfl, rfl⟩ := hcut
  --<r1
  obtain ⟨we, rfl⟩ : ∃ we : World, we = wc := ⟨_, rfl⟩
  by_cases h9 : o.kind = 4 ∧ 0 < s.left
  · --<k9
    rw [decide_eq_true h9]
    have HE := Lib.hid (kOut_9 (K := pick o.side L M) h9)
    have y0 := br.free 0; have y1 := br.free 1; have y2 := br.free 2; have y3 := br.free 3; have y4 := br.free 4; have y5 := br.free 5; have y6 := br.free 6
    have kx := box7 (br.set7 (.slice none 0 0) (.slice none 0 0) (.slice none 0 0) (.int .i64 0) (.int .i64 0) (.slice none 0 0) (.bool false))
    have HF := Lib.hid (below_set7 hb (g := w.heap.size + 2) (by omega) (.slice none 0 0) (.slice none 0 0) (.slice none 0 0) (.int .i64 0) (.int .i64 0) (.slice none 0 0) (.bool false))
    clear h9 bb bo br hb bM m0 m1 m2 m3 m4 m5 m6 k8
    go_wp2
    exact bodyPost_ret (v := .tuple #[.agg #[.slice none 0 0, .slice none 0 0, .slice none 0 0, .int .i64 0, .int .i64 0, .slice none 0 0, .bool false], .int .i64 9]) (by simp [results, Tryz.results7, go_sem, kx]) rfl (HKO.out.bad HR.out HF.out (.inr ⟨s, HMET.out, .inl ⟨.inl HE.out, by rw [HE.out]; rfl⟩⟩))
    -->k9
  rw [decide_eq_false h9]
  have H9 := Lib.hid h9
  obtain ⟨q0, q1⟩ := box2 bb
  clear h9
  go_wp2_with fail
  go_at_call 23
  refine (cOf.out _).mono ?_
  rintro e w3 ⟨rfl, hb3⟩
  replace bo := bo.keep hb3; replace br := br.keep hb3; replace bM := bM.keep hb3; replace hb := below_then hb3 hb
  have HP1 := Lib.hid (HO1.out.below hb3); have HP2 := Lib.hid (HO2.out.below hb3); have HPT := Lib.hid (HOT.out.below hb3); have HPW := Lib.hid (HOW.out.below hb3)
  clear HO1 HO2 HOT HOW q0 q1 k8 m0 m1 m2 m3 m4 m5 m6 r0 hb3 bb
  obtain ⟨K, hKK⟩ : ∃ K, K = pick o.side L M := ⟨_, rfl⟩
  obtain ⟨Ak, hAk⟩ : ∃ X, X = pick o.side A1 A2 := ⟨_, rfl⟩
  obtain ⟨ck, hck⟩ : ∃ X, X = pick o.side c1 c2 := ⟨_, rfl⟩
  have HRK := Lib.hid (show RdLv w3 w3.heap.size Ak K by
    rw [hAk, hKK]
    rcases side_two HSV.out with e | e <;> rw [e]
    · exact (HM.out.below (hb.mono HLO.out)).more (Nat.le_trans HLO.out hb.size)
    · exact (HL.out.below (hb.mono HLO.out)).more (Nat.le_trans HLO.out hb.size))
  have HKK := Lib.hid hKK
  rw [← hKK, ← hAk, ← hck]
  clear hKK hAk hck
  have r0 := box7 br
  obtain ⟨m0, m1, m2, m3, m4, m5, m6⟩ := box7 bM
  have k8 := box8o bo
  go_upto_region 7 with fail
  go_cut [45] from 22 to 94 (fun v wx => v = .bool (decide (o.kind = 5 ∧ 0 < K.length)) ∧ wx = w3)
  case first =>
    --<c45
    obtain ⟨b0, b1, b2, b3, b4, b5, b6, b7⟩ := k8
    by_cases h1 : o.kind = 5
    · have e1 : (o.kind == 5) = true := by simpa using h1
      by_cases h2 : 0 < K.length
      · have HE := Lib.hid (show decide (o.kind = 5 ∧ 0 < K.length) = true from decide_eq_true ⟨h1, h2⟩)
        have hd : decide (0 < K.length) = true := decide_eq_true h2
        clear h1
        go_wp2
        go_meet
        case rel => exact ⟨by rw [HE.out], rfl⟩
      · have HE := Lib.hid (show decide (o.kind = 5 ∧ 0 < K.length) = false from decide_eq_false (fun h => h2 h.2))
        have hd : decide (0 < K.length) = false := decide_eq_false h2
        clear h1
        go_wp2
        go_meet
        case rel => exact ⟨by rw [HE.out], rfl⟩
    · have e1 : (o.kind == 5) = false := by simpa using h1
      have HE := Lib.hid (show decide (o.kind = 5 ∧ 0 < K.length) = false by simp [h1])
      clear h1
      go_wp2
      go_meet
      case rel => exact ⟨by rw [HE.out], rfl⟩
    -->c45
  case rest =>
  obtain ⟨rfl, rfl⟩ := hcut
  obtain ⟨wf, rfl⟩ : ∃ wf : World, wf = wc := ⟨_, rfl⟩
  go_upto_if 45 with fail
  go_cut [] from 11 to 94 (fun wx => ¬ (o.kind = 5 ∧ mayTop o K = true) ∧ Below wf.heap.size wf wx)
  case first =>
    --<k8
    by_cases h5 : o.kind = 5 ∧ 0 < K.length
    · rw [decide_eq_true h5]
      obtain ⟨x, Ls, rfl⟩ : ∃ x Ls, K = x :: Ls := by
        cases K with
        | nil => simp at h5
        | cons x Ls => exact ⟨x, Ls, rfl⟩
      have h5' := h5.1
      have hi : (0 : Int) < ((x :: Ls).length : Int) := by simp only [List.length_cons]; omega
      obtain ⟨gb, off, x', Ar, cr, rfl, hgb, hx', d0, _⟩ := lv_at HRK.out (k := 0) (by simp)
      cases hx'
      simp only [Nat.zero_mul, Nat.add_zero] at d0
      have H5 := Lib.hid h5'
      obtain ⟨b0, b1, b2, b3, b4, b5, b6, b7⟩ := k8
      have bod := bo.drew
      clear h5 h5'
      cases hm : may o x.price
      · have HE := Lib.hid (show ¬ (o.kind = 5 ∧ mayTop o (x :: Ls) = true) by simp [mayTop, hm])
        have CM := Lib.hid (CMAY.out x.price wf.drew)
        rw [hm] at CM
        clear hm
        go_upto_region 8 with fail
        go_region_held3 (fun w' => w'.cell? ⟨w.heap.size + 1, 0, none⟩ = some (.int .i64 o.id) ∧ w'.cell? ⟨w.heap.size + 1, 1, none⟩ = some (.int .i64 o.who) ∧ w'.cell? ⟨w.heap.size + 1, 2, none⟩ = some (.int .i64 o.side) ∧ w'.cell? ⟨w.heap.size + 1, 3, none⟩ = some (.int .i64 o.kind) ∧ w'.cell? ⟨w.heap.size + 1, 4, none⟩ = some (.int .i64 o.price) ∧ w'.cell? ⟨w.heap.size + 1, 5, none⟩ = some (.int .i64 o.qty) ∧ w'.cell? ⟨w.heap.size + 1, 6, none⟩ = some (.int .i64 o.show_) ∧ w'.cell? ⟨w.heap.size + 1, 7, none⟩ = some (.int .i64 o.stop) ∧ w'.cell? ⟨gb, off, none⟩ = some (.int .i64 x.price))
          ((repeat' apply And.intro) <;> (first | (with_reducible assumption) | (with_reducible exact cell_drew (by assumption))))
          ((go_at_call 24; (with_reducible refine CM.out.mono ?_); rintro e w6 ⟨rfl, hb6⟩; have bo6 := bod.keep hb6; obtain ⟨b0, b1, b2, b3, b4, b5, b6, b7⟩ := box8o bo6; have e4' : w6.cell? ⟨gb, off, none⟩ = some (.int .i64 x.price) := (hb6.cell (p := ⟨gb, off, none⟩) (by show gb < wf.drew.heap.size; exact hgb)).trans d0))
        have HB6 := Lib.hid (below_then hb6 (Below.refl wf.heap.size wf).drew)
        clear hb6 bo6
        go_wp2
        go_meet
        case rel => exact ⟨HE.out, HB6.out⟩
      · have HE := Lib.hid (kOut_8 H9.out (show o.kind = 5 ∧ mayTop o (x :: Ls) = true from ⟨H5.out, by simp [mayTop, hm]⟩))
        have CM := Lib.hid (CMAY.out x.price wf.drew)
        rw [hm] at CM
        clear hm
        go_upto_region 8 with fail
        go_region_held3 (fun w' => w'.cell? ⟨w.heap.size + 1, 0, none⟩ = some (.int .i64 o.id) ∧ w'.cell? ⟨w.heap.size + 1, 1, none⟩ = some (.int .i64 o.who) ∧ w'.cell? ⟨w.heap.size + 1, 2, none⟩ = some (.int .i64 o.side) ∧ w'.cell? ⟨w.heap.size + 1, 3, none⟩ = some (.int .i64 o.kind) ∧ w'.cell? ⟨w.heap.size + 1, 4, none⟩ = some (.int .i64 o.price) ∧ w'.cell? ⟨w.heap.size + 1, 5, none⟩ = some (.int .i64 o.qty) ∧ w'.cell? ⟨w.heap.size + 1, 6, none⟩ = some (.int .i64 o.show_) ∧ w'.cell? ⟨w.heap.size + 1, 7, none⟩ = some (.int .i64 o.stop) ∧ w'.cell? ⟨gb, off, none⟩ = some (.int .i64 x.price))
          ((repeat' apply And.intro) <;> (first | (with_reducible assumption) | (with_reducible exact cell_drew (by assumption))))
          ((go_at_call 24; (with_reducible refine CM.out.mono ?_); rintro e w6 ⟨rfl, hb6⟩; have bo6 := bod.keep hb6; obtain ⟨b0, b1, b2, b3, b4, b5, b6, b7⟩ := box8o bo6; have e4' : w6.cell? ⟨gb, off, none⟩ = some (.int .i64 x.price) := (hb6.cell (p := ⟨gb, off, none⟩) (by show gb < wf.drew.heap.size; exact hgb)).trans d0))
        have br6 := br.drew.keep hb6
        have hb7 := below_then hb6 hb.drew
        have r7 := box7 br6
        have y0 := br6.free 0; have y1 := br6.free 1; have y2 := br6.free 2; have y3 := br6.free 3; have y4 := br6.free 4; have y5 := br6.free 5; have y6 := br6.free 6
        have kx := box7 (br6.set7 (.slice none 0 0) (.slice none 0 0) (.slice none 0 0) (.int .i64 0) (.int .i64 0) (.slice none 0 0) (.bool false))
        have HF := Lib.hid (below_set7 hb7 (g := w.heap.size + 2) (by omega) (.slice none 0 0) (.slice none 0 0) (.slice none 0 0) (.int .i64 0) (.int .i64 0) (.slice none 0 0) (.bool false))
        clear hb6 bo6 hb7 br6 br bo bM hb b0 b1 b2 b3 b4 b5 b6 b7 e4' d0 m0 m1 m2 m3 m4 m5 m6 r0
        go_wp2
        exact bodyPost_ret (v := .tuple #[.agg #[.slice none 0 0, .slice none 0 0, .slice none 0 0, .int .i64 0, .int .i64 0, .slice none 0 0, .bool false], .int .i64 8]) (by simp [results, Tryz.results7, go_sem, kx]) rfl (HKO.out.bad HR.out HF.out (.inr ⟨s, HMET.out, .inl ⟨.inr (by rw [← HKK.out]; exact HE.out), by rw [← HKK.out, HE.out]; rfl⟩⟩))
    · rw [decide_eq_false h5]
      have HE := Lib.hid (show ¬ (o.kind = 5 ∧ mayTop o K = true) from fun h => h5 ⟨h.1, by cases K with | nil => simp [mayTop] at h | cons x Ls => simp⟩)
      clear h5
      go_wp2
      go_meet
      case rel => exact ⟨HE.out, Below.refl _ _⟩
    -->k8
  case rest =>
  obtain ⟨h8, hb4⟩ := hcut
  --<tail
  replace bo := bo.keep hb4; replace br := br.keep hb4; replace bM := bM.keep hb4; replace hb := below_then hb4 hb
  replace HP1 := Lib.hid (HP1.out.below hb4); replace HP2 := Lib.hid (HP2.out.below hb4); replace HPT := Lib.hid (HPT.out.below hb4); replace HPW := Lib.hid (HPW.out.below hb4)
  have H8 := Lib.hid h8
  clear hb4 m0 m1 m2 m3 m4 m5 m6 k8 r0 HRK h8
  obtain ⟨wg, rfl⟩ : ∃ wg : World, wg = wc := ⟨_, rfl⟩
  obtain ⟨m0, m1, m2, m3, m4, m5, m6⟩ := box7 bM
  have k8 := box8o bo
  have r0 := box7 br
  have y0 := br.free 0; have y1 := br.free 1; have y2 := br.free 2; have y3 := br.free 3; have y4 := br.free 4; have y5 := br.free 5; have y6 := br.free 6
  by_cases h3 : s.left = 0
  · --<k0
    have HE := Lib.hid (show kOut o (pick o.side L M) s = 0 by rw [← HKK.out]; exact kOut_0 H9.out H8.out h3)
    have e3 : (s.left == 0) = true := by simpa using h3
    have kx := box7 (br.set7 (.slice B1 K1.length e1) (.slice B2 K2.length e2) (.slice AT s.T.length cT) (.int .i64 s.left) (.int .i64 0) (.slice AW s.W.length cW) (.bool s.ends))
    have HF := Lib.hid (below_set7 hb (g := w.heap.size + 2) (by omega) (.slice B1 K1.length e1) (.slice B2 K2.length e2) (.slice AT s.T.length cT) (.int .i64 s.left) (.int .i64 0) (.slice AW s.W.length cW) (.bool s.ends))
    have X1 := Lib.hid ((HP1.out.set7 (q := w.heap.size + 2) (.inl ⟨by have := HLO.out; omega, hgl⟩) (.slice B1 K1.length e1) (.slice B2 K2.length e2) (.slice AT s.T.length cT) (.int .i64 s.left) (.int .i64 0) (.slice AW s.W.length cW) (.bool s.ends)).a.lower (m := w.heap.size) (by omega))
    have X2 := Lib.hid ((HP2.out.set7 (q := w.heap.size + 2) (.inl ⟨by have := HLO.out; omega, hgl⟩) (.slice B1 K1.length e1) (.slice B2 K2.length e2) (.slice AT s.T.length cT) (.int .i64 s.left) (.int .i64 0) (.slice AW s.W.length cW) (.bool s.ends)).a.lower (m := w.heap.size) (by omega))
    have XT := Lib.hid ((HPT.out.under7 (g := w.heap.size + 2) hgl (.slice B1 K1.length e1) (.slice B2 K2.length e2) (.slice AT s.T.length cT) (.int .i64 s.left) (.int .i64 0) (.slice AW s.W.length cW) (.bool s.ends)).lower (b := w.heap.size) (by omega))
    have XW := Lib.hid ((HPW.out.under7 (g := w.heap.size + 2) hgl (.slice B1 K1.length e1) (.slice B2 K2.length e2) (.slice AT s.T.length cT) (.int .i64 s.left) (.int .i64 0) (.slice AW s.W.length cW) (.bool s.ends)).lower (b := w.heap.size) (by omega))
    have HFN := Lib.hid (HKO.out.good HR.out HMET.out (.inl (by rw [HE.out]; omega)))
    clear bo br bM hb h3
    go_wp2
    refine bodyPost_ret (v := .tuple #[.agg #[.slice B1 K1.length e1, .slice B2 K2.length e2, .slice AT s.T.length cT, .int .i64 s.left, .int .i64 0, .slice AW s.W.length cW, .bool s.ends], .int .i64 0]) (by simp [results, Tryz.results7, go_sem, kx]) rfl ?_
    obtain ⟨rfl, rfl, rfl, hg, h1, _⟩ := HFN.out
    obtain ⟨rfl, rfl⟩ := h1 (by rw [HE.out]; omega)
    rw [HE.out, if_neg (by decide)] at hg
    subst hg
    exact ⟨B1, e1, B2, e2, AT, cT, s.left, AW, cW, s.ends, by rw [HK1.out, HK2.out], Lib.hid ⟨by rw [← HK1.out]; exact X1.out, by rw [← HK2.out]; exact X2.out, XT.out, XW.out⟩, HF.out⟩
    -->k0
  have e3 : (s.left == 0) = false := by simpa using h3
  by_cases h4 : s.ends = true ∨ (o.kind ≠ 1 ∧ o.kind ≠ 5)
  · --<k1
    have HE := Lib.hid (show kOut o (pick o.side L M) s = 1 by rw [← HKK.out]; exact kOut_1 H9.out H8.out h3 h4)
    go_upto_region 13 with fail
    go_cut [69] from 22 to 94 (fun v wx => v = .bool true ∧ wx = wg)
    case first =>
      obtain ⟨b0, b1, b2, b3, b4, b5, b6, b7⟩ := k8
      by_cases h5 : s.ends = true
      · rw [h5] at m6
        clear h4 h3
        go_wp2
        go_meet
        case rel => exact ⟨rfl, rfl⟩
      · have h5' : s.ends = false := by simpa using h5
        rw [h5'] at m6
        have h6 : o.kind ≠ 1 ∧ o.kind ≠ 5 := by rcases h4 with h | h; exact absurd h h5; exact h
        have e6 : (o.kind != 1) = true := by simpa using h6.1
        have e7 : (o.kind != 5) = true := by simpa using h6.2
        clear h4 h3 h5 h6
        go_wp2
        go_meet
        case rel => exact ⟨rfl, rfl⟩
    case rest =>
      obtain ⟨rfl, rfl⟩ := hcut
      obtain ⟨wh, rfl⟩ : ∃ wh : World, wh = wc := ⟨_, rfl⟩
      have f4 := bM.free 4
      have hgg : ¬ w.heap.size + 2 = gm := by omega
      have hgg2 : ¬ gm = w.heap.size + 2 := by omega
      have bM2 : Bk (wh.setCell ⟨gm, 4, none⟩ (.int .i64 s.left)) gm 31 #[.slice B1 K1.length e1, .slice B2 K2.length e2, .slice AT s.T.length cT, .int .i64 s.left, .int .i64 s.left, .slice AW s.W.length cW, .bool s.ends] := bM.set_ 4 (.int .i64 s.left)
      have br2 := br.far (p := ⟨gm, 4, none⟩) hgg (.int .i64 s.left)
      have hb2 := hb.setCell (p := ⟨gm, 4, none⟩) (by show w.heap.size ≤ gm; omega) (.int .i64 s.left)
      have Y1 := HP1.out.far (p := ⟨gm, 4, none⟩) (.inr rfl) (.int .i64 s.left)
      have Y2 := HP2.out.far (p := ⟨gm, 4, none⟩) (.inr rfl) (.int .i64 s.left)
      have YT := HPT.out.apart (grown_set wh ⟨gm, 4, none⟩ (.int .i64 s.left)) HAT.out
      have YW := HPW.out.apart (grown_set wh ⟨gm, 4, none⟩ (.int .i64 s.left)) HAW.out
      have HY := Lib.hid (show _ ∧ _ ∧ _ ∧ _ from ⟨Y1, Y2, YT, YW⟩)
      clear Y1 Y2 YT YW hb br bM bo h3 h4 y0 y1 y2 y3 y4 y5 y6 r0 k8
      go_upto_region 15 with fail
      generalize wh.setCell ⟨gm, 4, none⟩ (.int .i64 s.left) = wi at *
      clear f4 m0 m1 m2 m3 m4 m5 m6
      obtain ⟨m0, m1, m2, m3, m4, m5, m6⟩ := box7 bM2
      have r0 := box7 br2
      have y0 := br2.free 0; have y1 := br2.free 1; have y2 := br2.free 2; have y3 := br2.free 3; have y4 := br2.free 4; have y5 := br2.free 5; have y6 := br2.free 6
      have kx := box7 (br2.set7 (.slice B1 K1.length e1) (.slice B2 K2.length e2) (.slice AT s.T.length cT) (.int .i64 s.left) (.int .i64 s.left) (.slice AW s.W.length cW) (.bool s.ends))
      have HF := Lib.hid (below_set7 hb2 (g := w.heap.size + 2) (by omega) (.slice B1 K1.length e1) (.slice B2 K2.length e2) (.slice AT s.T.length cT) (.int .i64 s.left) (.int .i64 s.left) (.slice AW s.W.length cW) (.bool s.ends))
      have X1 := Lib.hid ((HY.out.1.set7 (q := w.heap.size + 2) (.inl ⟨by have := HLO.out; omega, hgl⟩) (.slice B1 K1.length e1) (.slice B2 K2.length e2) (.slice AT s.T.length cT) (.int .i64 s.left) (.int .i64 s.left) (.slice AW s.W.length cW) (.bool s.ends)).a.lower (m := w.heap.size) (by omega))
      have X2 := Lib.hid ((HY.out.2.1.set7 (q := w.heap.size + 2) (.inl ⟨by have := HLO.out; omega, hgl⟩) (.slice B1 K1.length e1) (.slice B2 K2.length e2) (.slice AT s.T.length cT) (.int .i64 s.left) (.int .i64 s.left) (.slice AW s.W.length cW) (.bool s.ends)).a.lower (m := w.heap.size) (by omega))
      have XT := Lib.hid ((HY.out.2.2.1.under7 (g := w.heap.size + 2) hgl (.slice B1 K1.length e1) (.slice B2 K2.length e2) (.slice AT s.T.length cT) (.int .i64 s.left) (.int .i64 s.left) (.slice AW s.W.length cW) (.bool s.ends)).lower (b := w.heap.size) (by omega))
      have XW := Lib.hid ((HY.out.2.2.2.under7 (g := w.heap.size + 2) hgl (.slice B1 K1.length e1) (.slice B2 K2.length e2) (.slice AT s.T.length cT) (.int .i64 s.left) (.int .i64 s.left) (.slice AW s.W.length cW) (.bool s.ends)).lower (b := w.heap.size) (by omega))
      have HFN := Lib.hid (HKO.out.good HR.out HMET.out (.inl (by rw [HE.out]; omega)))
      clear br2 bM2 hb2
      go_wp2
      refine bodyPost_ret (v := .tuple #[.agg #[.slice B1 K1.length e1, .slice B2 K2.length e2, .slice AT s.T.length cT, .int .i64 s.left, .int .i64 s.left, .slice AW s.W.length cW, .bool s.ends], .int .i64 0]) (by simp [results, Tryz.results7, go_sem, kx]) rfl ?_
      obtain ⟨rfl, rfl, rfl, hg, h1, _⟩ := HFN.out
      obtain ⟨rfl, rfl⟩ := h1 (by rw [HE.out]; omega)
      rw [HE.out, if_pos rfl] at hg
      subst hg
      exact ⟨B1, e1, B2, e2, AT, cT, s.left, AW, cW, s.ends, by rw [HK1.out, HK2.out], Lib.hid ⟨by rw [← HK1.out]; exact X1.out, by rw [← HK2.out]; exact X2.out, XT.out, XW.out⟩, HF.out⟩
    -->k1
  --<k2
  have HE := Lib.hid (show kOut o (pick o.side L M) s = 2 by rw [← HKK.out]; exact kOut_2 H9.out H8.out h3 h4)
  have h5' : s.ends = false := by cases h : s.ends; rfl; exact absurd (.inl h) h4
  rw [h5'] at m6
  have hkk : o.kind = 1 ∨ o.kind = 5 := by
    by_cases h : o.kind = 1
    · exact .inl h
    · by_cases h' : o.kind = 5
      · exact .inr h'
      · exact absurd (.inr ⟨h, h'⟩) h4
  go_upto_region 13 with fail
  go_cut [69] from 22 to 94 (fun v wx => v = .bool false ∧ wx = wg)
  case first =>
    obtain ⟨b0, b1, b2, b3, b4, b5, b6, b7⟩ := k8
    rcases hkk with h | h
    · have e6 : (o.kind != 1) = false := by simp [h]
      clear h h3 h4
      go_wp2
      go_meet
      case rel => exact ⟨rfl, rfl⟩
    · have e6 : (o.kind != 1) = true := by simp [h]
      have e7 : (o.kind != 5) = false := by simp [h]
      clear h h3 h4
      go_wp2
      go_meet
      case rel => exact ⟨rfl, rfl⟩
  case rest =>
  obtain ⟨rfl, rfl⟩ := hcut
  obtain ⟨wd, rfl⟩ : ∃ wd : World, wd = wc := ⟨_, rfl⟩
  have hle := HS0.out; have hle1 := HS1.out
  have hsh := HO.out.2.2.2.2.2.2.1; have hqq := HO.out.2.2.2.2.2.1
  have cRest := Lib.hid (fun w => rkept_any o s.left hle hle1 hsh.1 (by omega) w)
  obtain ⟨rr, hrr⟩ : ∃ rr, rr = restOf o s.left := ⟨_, rfl⟩
  rw [← hrr] at cRest
  obtain ⟨L', hL'⟩ : ∃ L', L' = putL o.side o.price rr K1 := ⟨_, rfl⟩
  obtain ⟨M', hM'⟩ : ∃ M', M' = putM o.side o.price rr K2 := ⟨_, rfl⟩
  obtain ⟨zz, hzz'⟩ : ∃ zz, zz = joinE K1 K2 o.side o.price rr := ⟨_, rfl⟩
  have hbok : bookE K1 K2 = 0 := by rw [HK1.out, HK2.out]; exact bookE_iff.2 (met_book HBK.out HOE.out HMET.out)
  have hgd : gm < wd.heap.size := bM.lt
  have hn0 : w0.heap.size ≤ gm ∨ gm < w0.heap.size := by omega
  have hnd : w0.heap.size ≤ wd.heap.size ∨ wd.heap.size < w0.heap.size := by omega
  have HSZ := Lib.hid (show w0.heap.size ≤ wd.heap.size by have := HSZ0.out; omega)
  have cJ := Lib.hid (fun G w' (hG : G < w'.heap.size) (hs : wd.heap.size ≤ w'.heap.size) (a : LvY lo w0.heap.size gm G w' B1 K1) (b : LvY lo w0.heap.size gm G w' B2 K2) => rjoin_any (fun k => (k < lo ∨ w0.heap.size ≤ k) ∧ k ≠ gm ∧ k ≠ G) o.side o.price rr HSV.out K1 K2 B1 B2 e1 e2 w' (fun k hk => ⟨.inr (by have := HSZ.out; omega), by omega, by omega⟩) a b hbok J1.out J2.out)
  rw [← hL', ← hM', ← hzz'] at cJ
  have HLL := Lib.hid (show L' = putL o.side o.price (restOf o s.left) (kL o.side L s) by rw [hL', hrr, HK1.out])
  have HMM := Lib.hid (show M' = putM o.side o.price (restOf o s.left) (kM o.side M s) by rw [hM', hrr, HK2.out])
  have HZZ := Lib.hid (show putE (kL o.side L s) (kM o.side M s) o.side o.price (restOf o s.left) = zz by rw [hzz', hrr, HK1.out, HK2.out]; exact putE_join (by rw [← HK1.out, ← HK2.out]; exact hbok) HSV.out)
  clear hrr hL' hM' hzz' hkk h3 h4 hle hle1 hsh hqq hbok hn0 hnd h5'
  go_upto_region 16 with fail
  go_cut [9, 12] from 22 to 94 (fun ev p wx => (zz ≠ 0 ∧ ev = .int .i64 zz ∧ Below wd.heap.size wd wx) ∨ (zz = 0 ∧ ev = .int .i64 0 ∧ ∃ gB D1 f1 D2 f2, p = .pointer (some ⟨gB, 0, none⟩) ∧ Bk wx gB 24 #[.slice D1 L'.length f1, .slice D2 M'.length f2] ∧ LvX lo w0.heap.size gm wx D1 L' ∧ LvX lo w0.heap.size gm wx D2 M' ∧ wd.heap.size ≤ gB ∧ Below wd.heap.size wd wx))
  case first =>
    --<k16
    obtain ⟨b0, b1, b2, b3, b4, b5, b6, b7⟩ := k8
    have bZ0 := (Bk.new wd 24 #[.slice none 0 0, .slice none 0 0]).drew
    go_region_held3 (fun w' => w'.cell? ⟨w.heap.size + 1, 0, none⟩ = some (.int .i64 o.id) ∧ w'.cell? ⟨w.heap.size + 1, 1, none⟩ = some (.int .i64 o.who) ∧ w'.cell? ⟨w.heap.size + 1, 2, none⟩ = some (.int .i64 o.side) ∧ w'.cell? ⟨w.heap.size + 1, 3, none⟩ = some (.int .i64 o.kind) ∧ w'.cell? ⟨w.heap.size + 1, 4, none⟩ = some (.int .i64 o.price) ∧ w'.cell? ⟨w.heap.size + 1, 5, none⟩ = some (.int .i64 o.qty) ∧ w'.cell? ⟨w.heap.size + 1, 6, none⟩ = some (.int .i64 o.show_) ∧ w'.cell? ⟨w.heap.size + 1, 7, none⟩ = some (.int .i64 o.stop) ∧ w'.cell? ⟨gm, 0, none⟩ = some (.slice B1 K1.length e1) ∧ w'.cell? ⟨gm, 1, none⟩ = some (.slice B2 K2.length e2) ∧ w'.cell? ⟨gm, 3, none⟩ = some (.int .i64 s.left))
      ((repeat' apply And.intro) <;> (first | (with_reducible assumption) | (with_reducible exact cell_drew (by assumption)) | (with_reducible exact cell_alloc (by assumption) _) | (with_reducible exact cell_alloc_drew (by assumption) _) | (with_reducible exact cell_far2 (by assumption) (by simp; omega))))
      (first
        | (go_at_call 13; (with_reducible refine (cRest.out (wd.alloc (.cells #[.slice none 0 0, .slice none 0 0] 24)).drew).mono ?_); rintro e wr ⟨rfl, hbr⟩; have hbw1 : Below wd.heap.size wd wr := (by (repeat (first | exact Below.refl _ _ | assumption | (refine below_then (by assumption) ?_) | (refine below_then_alloc ?_) | (refine Below.drew ?_)))); have hsr := hbw1.size; have bo1 : Bk wr (w.heap.size + 1) 26 #[.int .i64 o.id, .int .i64 o.who, .int .i64 o.side, .int .i64 o.kind, .int .i64 o.price, .int .i64 o.qty, .int .i64 o.show_, .int .i64 o.stop] := (bo.alloc _).drew.keep hbr; have bM1 : Bk wr gm 31 #[.slice B1 K1.length e1, .slice B2 K2.length e2, .slice AT s.T.length cT, .int .i64 s.left, .int .i64 0, .slice AW s.W.length cW, .bool s.ends] := (bM.alloc _).drew.keep hbr; obtain ⟨b0, b1, b2, b3, b4, b5, b6, b7⟩ := box8o bo1; obtain ⟨n0, n1, n2, n3, n4, n5, n6⟩ := box7 bM1; have bZ1 : Bk wr wd.heap.size 24 #[.slice none 0 0, .slice none 0 0] := bZ0.keep hbr; obtain ⟨t0, t1⟩ := box2 bZ1)
        | (go_at_call 13; (with_reducible refine (cRest.out wd.drew).mono ?_); rintro e wr ⟨rfl, hbr⟩; have hbw1 : Below wd.heap.size wd wr := (by (repeat (first | exact Below.refl _ _ | assumption | (refine below_then (by assumption) ?_) | (refine below_then_alloc ?_) | (refine Below.drew ?_)))); have hsr := hbw1.size; have bo1 : Bk wr (w.heap.size + 1) 26 #[.int .i64 o.id, .int .i64 o.who, .int .i64 o.side, .int .i64 o.kind, .int .i64 o.price, .int .i64 o.qty, .int .i64 o.show_, .int .i64 o.stop] := bo.drew.keep hbr; have bM1 : Bk wr gm 31 #[.slice B1 K1.length e1, .slice B2 K2.length e2, .slice AT s.T.length cT, .int .i64 s.left, .int .i64 0, .slice AW s.W.length cW, .bool s.ends] := bM.drew.keep hbr; obtain ⟨b0, b1, b2, b3, b4, b5, b6, b7⟩ := box8o bo1; obtain ⟨n0, n1, n2, n3, n4, n5, n6⟩ := box7 bM1)
        | (go_at_call 25; (with_reducible refine (cJ.out wd.heap.size wr bZ1.lt hsr (HP1.out.y (.inl (Nat.le_refl _)) hbw1) (HP2.out.y (.inl (Nat.le_refl _)) hbw1)).mono ?_); rintro e wp ⟨D1, m1, f1, D2, m2, f2, rfl, hR, hbp⟩; have hbw2 : Below wd.heap.size wd wp := (by (repeat (first | exact Below.refl _ _ | assumption | (refine below_then (by assumption) ?_) | (refine below_then_alloc ?_) | (refine Below.drew ?_)))); have hsp := hbw2.size; have bo2 : Bk wp (w.heap.size + 1) 26 #[.int .i64 o.id, .int .i64 o.who, .int .i64 o.side, .int .i64 o.kind, .int .i64 o.price, .int .i64 o.qty, .int .i64 o.show_, .int .i64 o.stop] := bo1.keep hbp; have bM2 : Bk wp gm 31 #[.slice B1 K1.length e1, .slice B2 K2.length e2, .slice AT s.T.length cT, .int .i64 s.left, .int .i64 0, .slice AW s.W.length cW, .bool s.ends] := bM1.keep hbp; obtain ⟨b0, b1, b2, b3, b4, b5, b6, b7⟩ := box8o bo2; obtain ⟨n0, n1, n2, n3, n4, n5, n6⟩ := box7 bM2; have bZ2 : Bk wp wd.heap.size 24 #[.slice none 0 0, .slice none 0 0] := bZ1.keep hbp; obtain ⟨t0, t1⟩ := box2 bZ2; have g0 := bZ2.free 0; have g1 := bZ2.free 1)
        | (go_at_call 25; (with_reducible refine (cJ.out wr.heap.size (wr.alloc (.cells #[.slice none 0 0, .slice none 0 0] 24)) (by simp) (by simp; omega) (HP1.out.y (.inl hsr) (by (repeat (first | exact Below.refl _ _ | assumption | (refine below_then (by assumption) ?_) | (refine below_then_alloc ?_) | (refine Below.drew ?_))))) (HP2.out.y (.inl hsr) (by (repeat (first | exact Below.refl _ _ | assumption | (refine below_then (by assumption) ?_) | (refine below_then_alloc ?_) | (refine Below.drew ?_)))))).mono ?_); rintro e wp ⟨D1, m1, f1, D2, m2, f2, rfl, hR, hbp⟩; have hbw2 : Below wd.heap.size wd wp := (by (repeat (first | exact Below.refl _ _ | assumption | (refine below_then (by assumption) ?_) | (refine below_then_alloc ?_) | (refine Below.drew ?_)))); have hsp := hbw2.size; have bo2 : Bk wp (w.heap.size + 1) 26 #[.int .i64 o.id, .int .i64 o.who, .int .i64 o.side, .int .i64 o.kind, .int .i64 o.price, .int .i64 o.qty, .int .i64 o.show_, .int .i64 o.stop] := (bo1.alloc _).keep hbp; have bM2 : Bk wp gm 31 #[.slice B1 K1.length e1, .slice B2 K2.length e2, .slice AT s.T.length cT, .int .i64 s.left, .int .i64 0, .slice AW s.W.length cW, .bool s.ends] := (bM1.alloc _).keep hbp; obtain ⟨b0, b1, b2, b3, b4, b5, b6, b7⟩ := box8o bo2; obtain ⟨n0, n1, n2, n3, n4, n5, n6⟩ := box7 bM2; have bZ2 : Bk wp wr.heap.size 24 #[.slice none 0 0, .slice none 0 0] := (Bk.new wr 24 #[.slice none 0 0, .slice none 0 0]).keep hbp; obtain ⟨t0, t1⟩ := box2 bZ2; have g0 := bZ2.free 0; have g1 := bZ2.free 1)
        | (go_at_call 25; (with_reducible refine (cJ.out gm wr bM1.lt hsr (HP1.out.y (.inr rfl) hbw1) (HP2.out.y (.inr rfl) hbw1)).mono ?_); rintro e wp ⟨D1, m1, f1, D2, m2, f2, rfl, hR, hbp⟩; have hbw2 : Below wd.heap.size wd wp := (by (repeat (first | exact Below.refl _ _ | assumption | (refine below_then (by assumption) ?_) | (refine below_then_alloc ?_) | (refine Below.drew ?_)))); have hsp := hbw2.size; have bo2 : Bk wp (w.heap.size + 1) 26 #[.int .i64 o.id, .int .i64 o.who, .int .i64 o.side, .int .i64 o.kind, .int .i64 o.price, .int .i64 o.qty, .int .i64 o.show_, .int .i64 o.stop] := bo1.keep hbp; have bM2 : Bk wp gm 31 #[.slice B1 K1.length e1, .slice B2 K2.length e2, .slice AT s.T.length cT, .int .i64 s.left, .int .i64 0, .slice AW s.W.length cW, .bool s.ends] := bM1.keep hbp; obtain ⟨b0, b1, b2, b3, b4, b5, b6, b7⟩ := box8o bo2; obtain ⟨n0, n1, n2, n3, n4, n5, n6⟩ := box7 bM2))
    · have HB := Lib.hid (show Below wd.heap.size wd (wp.alloc (.cells #[.slice D1 m1 f1, .slice D2 m2 f2] 24)) from below_then_alloc hbw2)
      have HZ2 := Lib.hid (Bk.new wp 24 #[.slice D1 m1 f1, .slice D2 m2 f2])
      have HRR := Lib.hid (show zz = 0 → _ ∧ _ ∧ _ ∧ _ from fun h => ⟨(hR.out h).1, (hR.out h).2.1, LvY.al (hR.out h).2.2.1 (.cells #[.slice D1 m1 f1, .slice D2 m2 f2] 24), LvY.al (hR.out h).2.2.2 (.cells #[.slice D1 m1 f1, .slice D2 m2 f2] 24)⟩)
      clear hR bo1 bo2 bM1 bM2 hbp hbr
      go_wp2
      go_meet
      case rel =>
        by_cases hz : zz = 0
        · obtain ⟨rfl, rfl, o1, o2⟩ := HRR.out hz
          exact .inr ⟨hz, by rw [hz], _, _, _, _, _, rfl, HZ2.out, o1, o2, hsp, HB.out⟩
        · exact .inl ⟨hz, rfl, HB.out⟩
    · have HB := Lib.hid (show Below wd.heap.size wd ((wp.setCell ⟨wr.heap.size, 0, none⟩ (.slice D1 m1 f1)).setCell ⟨wr.heap.size, 1, none⟩ (.slice D2 m2 f2)) from (hbw2.setCell (p := ⟨wr.heap.size, 0, none⟩) hsr _).setCell (p := ⟨wr.heap.size, 1, none⟩) hsr _)
      have HZ2 := Lib.hid (bZ2.set2 (.slice D1 m1 f1) (.slice D2 m2 f2))
      have HRR := Lib.hid (show zz = 0 → _ ∧ _ ∧ _ ∧ _ from fun h => ⟨(hR.out h).1, (hR.out h).2.1, LvY.x2 (hR.out h).2.2.1 (.slice D1 m1 f1) (.slice D2 m2 f2), LvY.x2 (hR.out h).2.2.2 (.slice D1 m1 f1) (.slice D2 m2 f2)⟩)
      clear hR bZ2 bo1 bo2 bM1 bM2 hbp hbr
      go_wp2
      go_meet
      case rel =>
        by_cases hz : zz = 0
        · obtain ⟨rfl, rfl, o1, o2⟩ := HRR.out hz
          exact .inr ⟨hz, by rw [hz], _, _, _, _, _, rfl, HZ2.out, o1, o2, hsr, HB.out⟩
        · exact .inl ⟨hz, rfl, HB.out⟩
    · have HB := Lib.hid (show Below wd.heap.size wd ((wp.setCell ⟨wd.heap.size, 0, none⟩ (.slice D1 m1 f1)).setCell ⟨wd.heap.size, 1, none⟩ (.slice D2 m2 f2)) from (hbw2.setCell (p := ⟨wd.heap.size, 0, none⟩) (Nat.le_refl _) _).setCell (p := ⟨wd.heap.size, 1, none⟩) (Nat.le_refl _) _)
      have HZ2 := Lib.hid (bZ2.set2 (.slice D1 m1 f1) (.slice D2 m2 f2))
      have HRR := Lib.hid (show zz = 0 → _ ∧ _ ∧ _ ∧ _ from fun h => ⟨(hR.out h).1, (hR.out h).2.1, LvY.x2 (hR.out h).2.2.1 (.slice D1 m1 f1) (.slice D2 m2 f2), LvY.x2 (hR.out h).2.2.2 (.slice D1 m1 f1) (.slice D2 m2 f2)⟩)
      clear hR bZ1 bZ2 bo1 bo2 bM1 bM2 hbp hbr
      go_wp2
      go_meet
      case rel =>
        by_cases hz : zz = 0
        · obtain ⟨rfl, rfl, o1, o2⟩ := HRR.out hz
          exact .inr ⟨hz, by rw [hz], _, _, _, _, _, rfl, HZ2.out, o1, o2, Nat.le_refl _, HB.out⟩
        · exact .inl ⟨hz, rfl, HB.out⟩
    -->k16
  case rest =>
  --<k17
  rcases hcut with ⟨hz0, rfl, hb5⟩ | ⟨hz0, rfl, gB, D1, f1, D2, f2, rfl, bB, p1, p2, hgB, hb5⟩
  · have HZ0 := Lib.hid hz0
    have e9 : (zz != 0) = true := by simpa using hz0
    replace br := br.keep hb5
    have hb6 := below_then hb5 hb
    clear r0 y0 y1 y2 y3 y4 y5 y6
    have r0 := box7 br
    have y0 := br.free 0; have y1 := br.free 1; have y2 := br.free 2; have y3 := br.free 3; have y4 := br.free 4; have y5 := br.free 5; have y6 := br.free 6
    have kx := box7 (br.set7 (.slice none 0 0) (.slice none 0 0) (.slice none 0 0) (.int .i64 0) (.int .i64 0) (.slice none 0 0) (.bool false))
    have HF := Lib.hid (below_set7 hb6 (g := w.heap.size + 2) (by omega) (.slice none 0 0) (.slice none 0 0) (.slice none 0 0) (.int .i64 0) (.int .i64 0) (.slice none 0 0) (.bool false))
    clear bo br hb bM hb5 hb6 hz0 m0 m1 m2 m3 m4 m5 m6 k8
    go_wp2
    exact bodyPost_ret (v := .tuple #[.agg #[.slice none 0 0, .slice none 0 0, .slice none 0 0, .int .i64 0, .int .i64 0, .slice none 0 0, .bool false], .int .i64 zz]) (by simp [results, Tryz.results7, go_sem, kx]) rfl (HKO.out.bad HR.out HF.out (.inr ⟨s, HMET.out, .inr ⟨HE.out, HZ0.out, HZZ.out.symm⟩⟩))
  · have HZ0 := Lib.hid hz0
    obtain ⟨wy, rfl⟩ : ∃ wy : World, wy = wc := ⟨_, rfl⟩
    have hgg : ¬ w.heap.size + 2 = gm := by omega
    have hgg2 : ¬ gm = w.heap.size + 2 := by omega
    have hgb : ¬ gB = gm := by omega
    have hgb2 : ¬ gm = gB := by omega
    have bMy := bM.keep hb5
    have f0 := bMy.free 0; have f1' := bMy.free 1
    obtain ⟨n0, n1, n2, n3, n4, n5, n6⟩ := box7 bMy
    obtain ⟨o0, o1⟩ := box2 bB
    have bM2 : Bk ((wy.setCell ⟨gm, 0, none⟩ (.slice D1 L'.length f1)).setCell ⟨gm, 1, none⟩ (.slice D2 M'.length f2)) gm 31 #[.slice D1 L'.length f1, .slice D2 M'.length f2, .slice AT s.T.length cT, .int .i64 s.left, .int .i64 0, .slice AW s.W.length cW, .bool s.ends] := (bMy.set_ 0 (.slice D1 L'.length f1)).set_ 1 (.slice D2 M'.length f2)
    have br2 := ((br.keep hb5).far (p := ⟨gm, 0, none⟩) hgg (.slice D1 L'.length f1)).far (p := ⟨gm, 1, none⟩) hgg (.slice D2 M'.length f2)
    have hb2 := ((below_then hb5 hb).setCell (p := ⟨gm, 0, none⟩) (by show w.heap.size ≤ gm; omega) (.slice D1 L'.length f1)).setCell (p := ⟨gm, 1, none⟩) (by show w.heap.size ≤ gm; omega) (.slice D2 M'.length f2)
    have Y1 := (p1.far (p := ⟨gm, 0, none⟩) (.inr rfl) (.slice D1 L'.length f1)).far (p := ⟨gm, 1, none⟩) (.inr rfl) (.slice D2 M'.length f2)
    have Y2 := (p2.far (p := ⟨gm, 0, none⟩) (.inr rfl) (.slice D1 L'.length f1)).far (p := ⟨gm, 1, none⟩) (.inr rfl) (.slice D2 M'.length f2)
    have YT := ((HPT.out.below hb5).apart (grown_set wy ⟨gm, 0, none⟩ (.slice D1 L'.length f1)) HAT.out).apart (grown_set _ ⟨gm, 1, none⟩ (.slice D2 M'.length f2)) HAT.out
    have YW := ((HPW.out.below hb5).apart (grown_set wy ⟨gm, 0, none⟩ (.slice D1 L'.length f1)) HAW.out).apart (grown_set _ ⟨gm, 1, none⟩ (.slice D2 M'.length f2)) HAW.out
    have HY := Lib.hid (show _ ∧ _ ∧ _ ∧ _ from ⟨Y1, Y2, YT, YW⟩)
    clear Y1 Y2 YT YW hb br bM bo hb5 p1 p2 bB bMy y0 y1 y2 y3 y4 y5 y6 r0 k8 m0 m1 m2 m3 m4 m5 m6
    go_upto_region 20 with fail
    generalize (wy.setCell ⟨gm, 0, none⟩ (.slice D1 L'.length f1)).setCell ⟨gm, 1, none⟩ (.slice D2 M'.length f2) = wi at *
    clear n0 n1 n2 n3 n4 n5 n6 o0 o1 f0 f1'
    obtain ⟨m0, m1, m2, m3, m4, m5, m6⟩ := box7 bM2
    have r0 := box7 br2
    have y0 := br2.free 0; have y1 := br2.free 1; have y2 := br2.free 2; have y3 := br2.free 3; have y4 := br2.free 4; have y5 := br2.free 5; have y6 := br2.free 6
    have kx := box7 (br2.set7 (.slice D1 L'.length f1) (.slice D2 M'.length f2) (.slice AT s.T.length cT) (.int .i64 s.left) (.int .i64 0) (.slice AW s.W.length cW) (.bool s.ends))
    have HF := Lib.hid (below_set7 hb2 (g := w.heap.size + 2) (by omega) (.slice D1 L'.length f1) (.slice D2 M'.length f2) (.slice AT s.T.length cT) (.int .i64 s.left) (.int .i64 0) (.slice AW s.W.length cW) (.bool s.ends))
    have X1 := Lib.hid ((HY.out.1.set7 (q := w.heap.size + 2) (.inl ⟨by have := HLO.out; omega, hgl⟩) (.slice D1 L'.length f1) (.slice D2 M'.length f2) (.slice AT s.T.length cT) (.int .i64 s.left) (.int .i64 0) (.slice AW s.W.length cW) (.bool s.ends)).a.lower (m := w.heap.size) (by omega))
    have X2 := Lib.hid ((HY.out.2.1.set7 (q := w.heap.size + 2) (.inl ⟨by have := HLO.out; omega, hgl⟩) (.slice D1 L'.length f1) (.slice D2 M'.length f2) (.slice AT s.T.length cT) (.int .i64 s.left) (.int .i64 0) (.slice AW s.W.length cW) (.bool s.ends)).a.lower (m := w.heap.size) (by omega))
    have XT := Lib.hid ((HY.out.2.2.1.under7 (g := w.heap.size + 2) hgl (.slice D1 L'.length f1) (.slice D2 M'.length f2) (.slice AT s.T.length cT) (.int .i64 s.left) (.int .i64 0) (.slice AW s.W.length cW) (.bool s.ends)).lower (b := w.heap.size) (by omega))
    have XW := Lib.hid ((HY.out.2.2.2.under7 (g := w.heap.size + 2) hgl (.slice D1 L'.length f1) (.slice D2 M'.length f2) (.slice AT s.T.length cT) (.int .i64 s.left) (.int .i64 0) (.slice AW s.W.length cW) (.bool s.ends)).lower (b := w.heap.size) (by omega))
    have HFN := Lib.hid (HKO.out.good HR.out HMET.out (.inr ⟨HE.out, by rw [HZZ.out]; exact HZ0.out⟩))
    clear br2 bM2 hb2 hz0
    go_wp2
    refine bodyPost_ret (v := .tuple #[.agg #[.slice D1 L'.length f1, .slice D2 M'.length f2, .slice AT s.T.length cT, .int .i64 s.left, .int .i64 0, .slice AW s.W.length cW, .bool s.ends], .int .i64 0]) (by simp [results, Tryz.results7, go_sem, kx]) rfl ?_
    obtain ⟨rfl, rfl, rfl, hg, _, h1⟩ := HFN.out
    obtain ⟨rfl, rfl⟩ := h1 HE.out
    rw [HE.out, if_neg (by decide)] at hg
    subst hg
    exact ⟨D1, f1, D2, f2, AT, cT, s.left, AW, cW, s.ends, by rw [HLL.out, HMM.out], Lib.hid ⟨by rw [← HLL.out]; exact X1.out, by rw [← HMM.out]; exact X2.out, XT.out, XW.out⟩, HF.out⟩
  -->k17
  -->k2
  -->tail
  -->r1
end Go.Proofs.YtiaofbkhnodbhaaGreatDoor
