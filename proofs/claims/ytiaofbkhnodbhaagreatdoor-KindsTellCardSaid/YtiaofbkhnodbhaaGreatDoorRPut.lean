/- The contract of the reference's Put. -/
import Derived.Test.YtiaofbkhnodbhaaGreatDoorGrpJ
import Derived.Test.YtiaofbkhnodbhaaGreatDoorGrpM
import Derived.Test.YtiaofbkhnodbhaaGreatDoorSidePut
import Derived.Test.YtiaofbkhnodbhaaGreatDoorGrpL
namespace Go.Proofs.YtiaofbkhnodbhaaGreatDoor
set_option linter.all false
open Go Go.RowKit
theorem take_at {L : List Lv} {k : Nat} {x : Lv} (h : L[k]? = some x) (y : Lv) : L.set k y = L.take k ++ y :: L.drop (k + 1) := by
  have hk := (List.getElem?_eq_some_iff.1 h).1
  rw [List.set_eq_take_append_cons_drop, if_pos hk]
theorem ins_set {L : List Lv} {k : Nat} (hk : k ≤ L.length) (x y : Lv) : (insAt L k x).set k y = L.take k ++ y :: L.drop k := by
  unfold insAt
  rw [List.set_append_right _ _ (by rw [List.length_take]; omega)]
  simp [List.length_take, Nat.min_eq_left hk]
/-- where a rest comes: behind k levels; those behind from j on; with the rests that stand there -/
structure PAt (s p : Int) (r : Rest) (L : List Lv) (k j : Nat) (rs : List Rest) : Prop where
  k1 : k ≤ j
  k2 : j ≤ L.length
  add : addL s p r L = L.take k ++ ⟨p, rs ++ [r]⟩ :: L.drop j
  few : rs.length ≤ 1000
set_option maxRecDepth 100000 in
set_option maxHeartbeats 4000000 in
theorem rput_any (P : Nat → Prop) (s p : Int) (r : Rest) (hs : vs s = true) (L : List Lv) (A : Option Addr) (c : Nat) (xs : List Value) (w : World) (h : LP P w A L xs) (hP : ∀ k, w.heap.size ≤ k → P k) (hcap : L.length ≤ c) (hmx : c ≤ maxLen) (hL : L.length ≤ 1000) (hr : ∀ x ∈ L, x.rs.length ≤ 1000) :
    Calls Tryz.prog 67 #[.int .i64 s, .slice A L.length c, .int .i64 p, .agg #[.int .i64 r.id, .int .i64 r.who, .int .i64 r.qty, .int .i64 r.hidden, .int .i64 r.show_]] w (NewLv P (addL s p r L) w) := by
  have cA := Lib.hid (fun a b w => by have := rahead_any (3 - s) a b w; rwa [rahd_s hs] at this)
  have hbw : Below w.heap.size w (w.alloc (.cells #[.int .i64 r.id, .int .i64 r.who, .int .i64 r.qty, .int .i64 r.hidden, .int .i64 r.show_] 43)) := (Below.refl _ _).alloc (Nat.le_refl _) _
  have B0 := Lib.hid (Bk.new w 43 #[.int .i64 r.id, .int .i64 r.who, .int .i64 r.qty, .int .i64 r.hidden, .int .i64 r.show_])
  have HP := Lib.hid hP
  have HR := Lib.hid hr
  have H0 := Lib.hid (h.on (Kp.below hbw))
  have hx0 := vs_t hs
  have hx : IntKind.i64.wrap (3 - s) = 3 - s := IntWalk.i64_in _ (by omega)
  unfold maxLen at hmx
  clear h hP hr hs hx0
  go_enter Tryz.func67, Tryz.ntmps67
  go_upto_region 1 with fail
  generalize w.alloc (.cells #[.int .i64 r.id, .int .i64 r.who, .int .i64 r.qty, .int .i64 r.hidden, .int .i64 r.show_] 43) = w0 at *
  go_upto_block 0 with fail
  go_cut [9] (fun iv wx => ∃ k : Nat, k ≤ L.length ∧ iv = .int .i64 k ∧ wx = w0 ∧ Hid ((∀ j y, j < k → L[j]? = some y → sAhd s y.price p = true) ∧ ∀ x, L[k]? = some x → sAhd s x.price p = false))
  case first =>
    --<loop
    go_wp2_with fail
    go_loopw [9] (fun iv wr => ∃ k : Nat, k ≤ L.length ∧ iv = .int .i64 k ∧ wr = w0 ∧ Hid (∀ j y, j < k → L[j]? = some y → sAhd s y.price p = true)) (fun iv _ => L.length - (intOf iv).toNat)
    case atStart => exact ⟨0, by omega, rfl, rfl, Lib.hid (fun j y hj => by omega)⟩
    case round =>
      obtain ⟨k, hk, rfl, rfl, hall⟩ := hrel
      by_cases hlt : k < L.length
      · have hx := lv_get hlt
        generalize hxx : L[k] = x at hx
        clear hxx
        obtain ⟨g, off, _, _, rfl, _, _, d0, _⟩ := H0.out.at_ hx
        have hlt' : (k : Int) < (L.length : Int) := by omega
        have HX := Lib.hid hx
        clear hx
        cases hA : sAhd s x.price p
        · have hc := cA.out x.price p
          rw [hA] at hc
          have HA := Lib.hid hA
          clear hA
          go_wp2_with (go_at_call 58; refine (hc _).mono ?_; rintro e w' ⟨rfl, rfl⟩)
          go_meet
          case rel => exact ⟨k, hk, rfl, by trivial, Lib.hid ⟨hall.out, fun y hy => by rw [HX.out] at hy; cases hy; exact HA.out⟩⟩
        · have hc := cA.out x.price p
          rw [hA] at hc
          have HA := Lib.hid hA
          clear hA
          go_wp2_with (go_at_call 58; refine (hc _).mono ?_; rintro e w' ⟨rfl, rfl⟩)
          go_roundw
          case rel =>
            refine ⟨k + 1, by omega, by go_num, by trivial, Lib.hid (fun j y hj hy => ?_)⟩
            rcases Nat.lt_or_ge j k with h | h
            · exact hall.out j y h hy
            · obtain rfl : j = k := by omega
              rw [HX.out] at hy; cases hy; exact HA.out
          case measure => simp [intOf]; omega
      · obtain rfl : k = L.length := by omega
        go_wp2
        go_meet
        case rel => exact ⟨L.length, Nat.le_refl _, rfl, rfl, Lib.hid ⟨hall.out, fun y hy => by rw [List.getElem?_eq_none (Nat.le_refl _)] at hy; cases hy⟩⟩
    -->loop
  case rest =>
  obtain ⟨k, hk, rfl, rfl, hall⟩ := hcut
  obtain ⟨wd, rfl⟩ : ∃ wd : World, wd = wc := ⟨_, rfl⟩
  obtain ⟨i0, hi0, hz0, hz1, hz2⟩ := info_parts info_lv
  have HI := Lib.hid hi0; have I0 := Lib.hid hz0; have I1 := Lib.hid hz1; have I2 := Lib.hid hz2
  obtain ⟨i1, hi1, hy0, hy1, hy2⟩ := info_parts info_rest
  have JI := Lib.hid hi1; have J0 := Lib.hid hy0; have J1 := Lib.hid hy1; have J2 := Lib.hid hy2
  clear hi0 hz0 hz1 hz2 hi1 hy0 hy1 hy2
  have f1 : (0 : Int) ≤ (k : Int) := by omega
  have f2 : (k : Int) ≤ (c : Int) := by omega
  have hgs : w.heap.size ≤ wd.heap.size := hbw.size
  have S1 := Lib.hid (H0.out.src_take (c := c) hk Tryz.underlying22)
  go_upto_region 7 with (at_builtin; go_loud (refine wpList_append_S (base := wd.heap.size) (s := 2) (n := 0) (xs := []) rfl _ _ _ _ rfl 66 i0 _ 32 Tryz.underlying22 HI.out I0.out I1.out I2.out rfl rfl (OwnS.nil _ _ _ _) (Nat.le_refl _) _ rfl k (xs.take (k * 2)) S1.out (by unfold maxLen; omega) (by omega) ?_); intro A1 c1 w1 gr1)
  have own1 := gr1.own
  have hb1 := grown_none gr1.grown
  simp only [Nat.zero_add, List.nil_append] at own1 ⊢
  have O1 := Lib.hid own1
  have H1 := Lib.hid (H0.out.on (Kp.below hb1))
  have B1 := Lib.hid (B0.out.keep hb1)
  have hb01 := below_then hb1 hbw
  have hgd : wd.heap.size ≤ w1.heap.size := hb1.size
  have hbd1 := hb1
  clear gr1 own1 S1
  obtain ⟨nb, hnb⟩ : ∃ nb, nb = isNew L k p := ⟨_, rfl⟩
  have HNB := Lib.hid hnb
  clear hnb hb1
  go_cut [46] from 12 to 70 (fun v wx => v = .bool (!nb) ∧ wx = w1)
  case first =>
    --<guard
    by_cases hlt : k < L.length
    · have hx := lv_get hlt
      generalize hxx : L[k] = x at hx
      clear hxx
      obtain ⟨g, off, _, _, rfl, _, _, d0, _⟩ := H1.out.at_ hx
      have hlt' : (k : Int) < (L.length : Int) := by omega
      by_cases hp : x.price = p
      · have HE := Lib.hid (show (!nb) = true by rw [HNB.out, isNew, hx]; simp [hp])
        have e1 : (x.price == p) = true := by simp [hp]
        clear hp hx
        go_wp2
        go_meet
        case rel => exact ⟨by rw [HE.out], rfl⟩
      · have HE := Lib.hid (show (!nb) = false by rw [HNB.out, isNew, hx]; simp [hp])
        have e1 : (x.price == p) = false := by simp [hp]
        clear hp hx
        go_wp2
        go_meet
        case rel => exact ⟨by rw [HE.out], rfl⟩
    · obtain rfl : k = L.length := by omega
      have HE := Lib.hid (show (!nb) = false by rw [HNB.out, isNew, List.getElem?_eq_none (Nat.le_refl _)]; rfl)
      clear hlt
      go_wp2
      go_meet
      case rel => exact ⟨by rw [HE.out], rfl⟩
    -->guard
  case rest =>
  obtain ⟨rfl, rfl⟩ := hcut
  obtain ⟨we, rfl⟩ : ∃ we : World, we = wc := ⟨_, rfl⟩
  go_upto_if 46 with fail
  go_cut [9, 11] from 12 to 70 (fun iv rv wx => ∃ (j : Nat) (rs : List Rest) (Ar : Option Addr) (cr : Nat), iv = .int .i64 j ∧ rv = .slice Ar rs.length cr ∧ Hid (PAt s p r L k j rs) ∧ OwnS wx we.heap.size 5 Ar rs.length cr (rows rs) ∧ Below we.heap.size we wx)
  case first =>
    --<rests
    cases hnb : nb
    · have hlt : k < L.length := by
        rcases Nat.lt_or_ge k L.length with h | h
        · exact h
        · have := HNB.out; rw [hnb, isNew, List.getElem?_eq_none h] at this; cases this
      have hx := lv_get hlt
      generalize hxx : L[k] = x at hx
      have hpx : x.price = p := by have := HNB.out; rw [hnb, isNew, hx] at this; simpa using this.symm
      have hfew := HR.out x (List.mem_of_getElem? hx)
      obtain ⟨g, off, Ar, cr, rfl, _, _, d0, d1, g1, g2, g3⟩ := H1.out.at_ hx
      have HPA := Lib.hid (show PAt s p r L k (k + 1) x.rs from ⟨by omega, hlt, by rw [addL_at hx hall.out.1 (hall.out.2 x hx) hpx, take_at hx, hpx], hfew⟩)
      have S2 := Lib.hid (src_rests (c := cr) g3.rd (fun e => by
        rcases Nat.eq_zero_or_pos x.rs.length with h | h
        · exact h
        · obtain ⟨_, _, e2, _⟩ := g3 h; rw [e] at e2; cases e2))
      have hlt' : (k : Int) < (L.length : Int) := by omega
      clear hx hxx hpx g1 g2 g3 d0
      go_wp2_with (at_builtin; go_loud (refine wpList_append_S (base := we.heap.size) (s := 5) (n := 0) (xs := []) rfl _ _ _ _ rfl 43 i1 _ 40 Tryz.underlying64 JI.out J0.out J1.out J2.out rfl rfl (OwnS.nil _ _ _ _) (Nat.le_refl _) _ rfl x.rs.length (rows x.rs) S2.out (by unfold maxLen; omega) (by omega) ?_); intro A2 c2 w2 gr2)
      have own2 := gr2.own
      simp only [Nat.zero_add, List.nil_append] at own2 ⊢
      have O2 := Lib.hid own2
      have hb2 := grown_none gr2.grown
      clear gr2 own2
      go_wp2
      go_meet
      case rel => exact ⟨k + 1, x.rs, A2, c2, by go_num, rfl, HPA, O2.out, hb2⟩
    · have HPA := Lib.hid (show PAt s p r L k k [] from ⟨Nat.le_refl _, hk, by
        rw [addL_new hk hall.out.1 (fun x hx => ⟨hall.out.2 x hx, by have := HNB.out; rw [hnb, isNew, hx] at this; simpa using this.symm⟩), ins_set hk], by simp⟩)
      go_wp2
      go_meet
      case rel => exact ⟨k, [], none, 0, rfl, rfl, HPA, OwnS.nil _ _ _ _, Below.refl _ _⟩
    -->rests
  case rest =>
  obtain ⟨j, rs, Ar, cr, rfl, rfl, hpa, ownr, hbr⟩ := hcut
  --<tail
  obtain ⟨wf, rfl⟩ : ∃ wf : World, wf = wc := ⟨_, rfl⟩
  have bx := B1.out.keep hbr
  obtain ⟨b0, b1, b2, b3, b4⟩ := box5 bx
  have hfew := hpa.out.few; have hj1 := hpa.out.k1; have hj2 := hpa.out.k2
  have OR := Lib.hid ownr
  have O1' := Lib.hid (O1.out.below hbr)
  have HR1 := Lib.hid (fun q hq => (O1.out.row_lt q hq).2)
  have hgr := hbr.size
  have hbd := below_then hbr hbd1
  have HPA := Lib.hid hpa.out
  have hbf := hbd.size
  clear ownr bx hpa hbr hb01 hbd1
  --<rapp
  go_upto_region 11 with (at_builtin; go_loud (refine wpList_append_S (base := we.heap.size) (s := 5) (n := rs.length) (xs := rows rs) rfl _ _ _ _ rfl 43 i1 _ 40 Tryz.underlying64 JI.out J0.out J1.out J2.out rfl rfl (OR.out.alloc _) (by simp; omega) _ rfl 1 r.vals (src_block (m := 1) (Bk.at_ (w := wf) (g' := wf.heap.size) rfl 43 #[.int .i64 r.id, .int .i64 r.who, .int .i64 r.qty, .int .i64 r.hidden, .int .i64 r.show_]) Tryz.underlying64 rfl (rest_one _ _ _ _ _) 1) (by unfold maxLen; omega) (by omega) ?_); intro Ar2 cr2 w3 gr3)
  have hba : Below wf.heap.size wf (wf.alloc (.cells #[.int .i64 r.id, .int .i64 r.who, .int .i64 r.qty, .int .i64 r.hidden, .int .i64 r.show_] 43)) := (Below.refl _ _).alloc (Nat.le_refl _) _
  have hb3 : Below wd.heap.size wd w3 := (below_then hba hbd).grown gr3.grown (by simp; omega) (fun q hq => by have := (OR.out.row_lt q hq).1; omega)
  have O3 := Lib.hid (show OwnS w3 we.heap.size 5 Ar2 (rs ++ [r]).length cr2 (rows (rs ++ [r])) by
    have := gr3.own
    rw [List.length_append, List.length_singleton, show rows (rs ++ [r]) = rows rs ++ r.vals by simp [rows]]; exact this)
  have O1b := Lib.hid ((O1'.out.alloc (.cells #[.int .i64 r.id, .int .i64 r.who, .int .i64 r.qty, .int .i64 r.hidden, .int .i64 r.show_] 43)).apart gr3.grown ((Ap.new (n := we.heap.size) (fun q hq => (OR.out.row_lt q hq).1) (fun q hq => HR1.out q hq)).symm))
  have hg3 := gr3.grown.size
  simp at hg3
  clear gr3 hba OR O1' b0 b1 b2 b3 b4 hbd
  rw [show rs.length + 1 = (rs ++ [r]).length by simp]
  generalize hrr : rs ++ [r] = rr at *
  have HRR := Lib.hid hrr
  clear hrr
  go_upto_region 12 with (at_builtin; go_loud (refine wpList_append_S (base := wd.heap.size) (s := 2) (n := k) (xs := xs.take (k * 2)) rfl _ _ _ _ rfl 66 i0 _ 32 Tryz.underlying22 HI.out I0.out I1.out I2.out rfl rfl (O1b.out.alloc _) (by simp; omega) _ rfl 1 [.int .i64 p, .slice Ar2 rr.length cr2] (src_block (m := 1) (Bk.at_ (w := w3) (g' := w3.heap.size) rfl 66 #[.int .i64 p, .slice Ar2 rr.length cr2]) Tryz.underlying22 rfl (lvc_one _ _ _ _) 1) (by unfold maxLen; omega) (by omega) ?_); intro A4 c4 w4 gr4)
  have hba : Below w3.heap.size w3 (w3.alloc (.cells #[.int .i64 p, .slice Ar2 rr.length cr2] 66)) := (Below.refl _ _).alloc (Nat.le_refl _) _
  have hb4 : Below wd.heap.size wd w4 := (below_then hba hb3).grown gr4.grown (by simp; omega) (fun q hq => (O1b.out.row_lt q hq).1)
  have O4 := Lib.hid (show OwnS w4 wd.heap.size 2 A4 (k + 1) c4 (xs.take (k * 2) ++ [.int .i64 p, .slice Ar2 rr.length cr2]) from gr4.own)
  have O3b := Lib.hid ((O3.out.alloc (.cells #[.int .i64 p, .slice Ar2 rr.length cr2] 66)).apart gr4.grown (Ap.new (n := we.heap.size) (fun q hq => (O3.out.row_lt q hq).1) (fun q hq => HR1.out q hq)))
  have HAp := Lib.hid (show Ap (rowOf Ar2 cr2) (rowOf A4 c4) by
    rcases gr4.row with e | e
    · rw [e]; exact Ap.new (n := we.heap.size) (fun q hq => (O3.out.row_lt q hq).1) (fun q hq => HR1.out q hq)
    · rw [e]; exact (Ap.new (n := w3.heap.size) (fun q hq => by cases hq; simp) (fun q hq => (O3.out.row_lt q hq).2)).symm)
  have hg4 := gr4.grown.size
  simp at hg4
  clear gr4 hba O3 O1b hb3
  -->rapp
  have HADD := Lib.hid (show addL s p r L = (L.take k ++ [⟨p, rr⟩]) ++ L.drop j by rw [HPA.out.add, HRR.out]; simp)
  have HFIN : Hid (∀ A9 c9 w9, Grew w4 wd.heap.size 2 A4 c4 (k + 1 + (L.length - j)) ((xs.take (k * 2) ++ [.int .i64 p, .slice Ar2 rr.length cr2]) ++ xs.drop (j * 2)) A9 c9 w9 → NewLv P (addL s p r L) w (.returned (.slice A9 (k + 1 + (L.length - j)) c9)) w9) := Lib.hid (fun A9 c9 w9 gr => by
    have hb9 : Below wd.heap.size wd w9 := hb4.grown gr.grown (by omega) (fun q hq => (O4.out.row_lt q hq).1)
    have o9 := O3b.out.apart gr.grown HAp.out
    have hPw : ∀ q, wd.heap.size ≤ q → P q := fun q hq => HP.out q (by omega)
    have hlen : (addL s p r L).length = k + 1 + (L.length - j) := by rw [HADD.out]; simp [Nat.min_eq_left hk]; omega
    have hlc : LC P w9 (addL s p r L) ((xs.take (k * 2) ++ [.int .i64 p, .slice Ar2 rr.length cr2]) ++ xs.drop (j * 2)) := by
      rw [HADD.out]
      exact LC.app (LC.app ((H0.out.c.take k).on (Kp.below hb9)) (LC.new (x := ⟨p, rr⟩) o9.le o9.max (RP.of_own o9 (fun q hq => hPw q (by omega))))) ((H0.out.c.drop j).on (Kp.below hb9))
    exact ⟨A9, c9, _, by rw [hlen], LP.of_own gr.own hlc hlen.symm hPw, by rw [hlen]; exact gr.own.le, gr.own.max, below_then (hb9.mono (by omega)) hbw⟩)
  have HH4 := Lib.hid (H0.out.on (Kp.below hb4))
  have g1 : (0 : Int) ≤ (j : Int) := by omega
  have g2 : (j : Int) ≤ (L.length : Int) := by omega
  have g3 : (L.length : Int) ≤ (c : Int) := by omega
  have hs4 := hb4.size
  by_cases hjl : j = L.length
  · have hdr : xs.drop (j * 2) = [] := List.drop_eq_nil_of_le (by have := H0.out.c.len; omega)
    have hF := HFIN.out
    rw [hdr, hjl, Nat.sub_self] at hF
    have HF := Lib.hid hF
    subst hjl
    clear hF hdr HFIN
    by_cases hcj : c = L.length
    · have hj0 : ((L.length : Int) == (c : Int)) = true := by simp; omega
      subst hcj
      go_wp2_with (at_builtin; go_loud (refine wpList_append_S (base := wd.heap.size) (s := 2) (n := k + 1) (xs := xs.take (k * 2) ++ [.int .i64 p, .slice Ar2 rr.length cr2]) rfl _ _ _ _ rfl 66 i0 _ 32 Tryz.underlying22 HI.out I0.out I1.out I2.out rfl rfl O4.out hs4 _ rfl 0 [] (src_none Tryz.underlying22 (fun _ => trivial)) (by unfold maxLen; omega) (by omega) ?_); intro A9 c9 w9 gr)
      go_ret
      exact HF.out _ _ _ (by simpa using gr)
    · have hcc : (L.length : Int) < (c : Int) := by omega
      rcases A with _ | a
      all_goals
        go_wp2_with (at_builtin; go_loud (refine wpList_append_S (base := wd.heap.size) (s := 2) (n := k + 1) (xs := xs.take (k * 2) ++ [.int .i64 p, .slice Ar2 rr.length cr2]) rfl _ _ _ _ rfl 66 i0 _ 32 Tryz.underlying22 HI.out I0.out I1.out I2.out rfl rfl O4.out hs4 _ rfl 0 [] (src_none Tryz.underlying22 (fun _ => trivial)) (by unfold maxLen; omega) (by omega) ?_); intro A9 c9 w9 gr)
        go_ret
        exact HF.out _ _ _ (by simpa using gr)
  · obtain ⟨b, off, rfl⟩ : ∃ b off, A = some ⟨b, off, none⟩ := by
      obtain ⟨b, off, e, _⟩ := H0.out.rd (by omega)
      exact ⟨b, off, e⟩
    have hcc : (j : Int) < (c : Int) := by omega
    have S4 := Lib.hid (HH4.out.src_drop (c := c - j) hj2 Tryz.underlying22)
    go_wp2_with (at_builtin; go_loud (refine wpList_append_S (base := wd.heap.size) (s := 2) (n := k + 1) (xs := xs.take (k * 2) ++ [.int .i64 p, .slice Ar2 rr.length cr2]) rfl _ _ _ _ rfl 66 i0 _ 32 Tryz.underlying22 HI.out I0.out I1.out I2.out rfl rfl O4.out hs4 _ rfl (L.length - j) (xs.drop (j * 2)) S4.out (by unfold maxLen; omega) (by omega) ?_); intro A9 c9 w9 gr)
    go_ret
    exact HFIN.out _ _ _ gr
  -->tail
end Go.Proofs.YtiaofbkhnodbhaaGreatDoor
