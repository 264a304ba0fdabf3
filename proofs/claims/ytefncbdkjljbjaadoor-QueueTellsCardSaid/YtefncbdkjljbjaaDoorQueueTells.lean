/- The walk of QueueTells. -/
import Derived.Test.YtefncbdkjljbjaaDoorQTells
import Derived.Deep.DeepCutAuto
import Derived.Deep.CutBlock
namespace Go.Proofs.YtefncbdkjljbjaaDoor
set_option linter.all false
open Go Go.RowKit
def f1E (l : List Rest) (r : Rest) : Int := if qErr l ≠ 0 then qErr l else r.err
def f2E (l : List Rest) (r : Rest) : Int := if f1E l r ≠ 0 then f1E l r else if 0 ≤ findI l r.id then 7 else 0
theorem push_f2 (l : List Rest) (r : Rest) : pushE l r = if f2E l r ≠ 0 then f2E l r else if 60 ≤ l.length then 4 else 0 := by
  unfold pushE f2E f1E
  by_cases h0 : qErr l = 0
  · by_cases h1 : r.err = 0
    · by_cases h2 : 0 ≤ findI l r.id
      · simp [h0, h1, h2]
      · simp [h0, h1, h2]
    · simp [h0, h1]
  · simp [h0]
def totQ (l : List Rest) : Int := if qErr l = 0 then allQ l else 0
theorem total_all (l : List Rest) (A : Option Addr) (c : Nat) (w : World) (hr : Rd w w.heap.size A l.length 5 (rcell l)) (hcap : l.length ≤ c) :
    Calls Tryd.prog 45 #[.slice A l.length c] w fun e w' => e = .returned (.tuple #[.int .i64 (totQ l), errV (qErr l)]) ∧ Below w.heap.size w w' := total_any l A c w hr hcap
/-- a slice of fills that reads -/
def SlF (L : List Fill) (v : Value) (w : World) : Prop := ∃ A c, v = .slice A L.length c ∧ Rd w w.heap.size A L.length 3 (fcell L)
/-- a slice of rests that reads -/
def SlR (L : List Rest) (v : Value) (w : World) : Prop := ∃ A c, v = .slice A L.length c ∧ Rd w w.heap.size A L.length 5 (rcell L)
theorem SlR.below {L : List Rest} {v : Value} {w w' : World} (h : SlR L v w) (hb : Below w.heap.size w w') : SlR L v w' := by
  obtain ⟨A, c, e, hr⟩ := h
  exact ⟨A, c, e, rdm hr hb⟩
theorem push_len (l : List Rest) (r : Rest) (h : qErr l = 0 → l.length ≤ 60) : (pushL l r).length ≤ 1000 := by
  by_cases h0 : pushE l r = 0
  · rw [pushL, if_pos h0]
    have hq0 : qErr l = 0 := by
      by_cases hq : qErr l = 0
      · exact hq
      · rw [pushE, if_pos hq] at h0; exact absurd h0 hq
    have := h hq0
    simp; omega
  · rw [pushL, if_neg h0]; simp
theorem drop_len (l : List Rest) (id : Int) (h : qErr l = 0 → l.length ≤ 60) : (dropL l id).length ≤ 1000 := by
  by_cases h0 : dropE l id = 0
  · rw [dropL, if_pos h0]
    have := h (dropE_0 h0).1
    have := List.length_eraseIdx_le l (findI l id).toNat
    omega
  · rw [dropL, if_neg h0]; simp
theorem rests_same (L : List Rest) (A B : Option Addr) (c d : Nat) (w : World) (hr : Rd w w.heap.size A L.length 5 (rcell L)) (hs : Rd w w.heap.size B L.length 5 (rcell L)) (hl : L.length ≤ 1000) :
    Calls Tryd.prog 47 #[.slice A L.length c, .slice B L.length d] w fun e w' => e = .returned (.bool true) ∧ Below w.heap.size w w' :=
  (rests_any L L A B c d w hr hs hl hl).mono fun e w' ⟨h1, h2⟩ => ⟨by rw [h1]; simp, h2⟩
theorem fills_same (L : List Fill) (A B : Option Addr) (c d : Nat) (w : World) (hr : Rd w w.heap.size A L.length 3 (fcell L)) (hs : Rd w w.heap.size B L.length 3 (fcell L)) (hl : L.length ≤ 100000) :
    Calls Tryd.prog 51 #[.slice A L.length c, .slice B L.length d] w fun e w' => e = .returned (.bool true) ∧ Below w.heap.size w w' :=
  (fills_any L L A B c d w hr hs hl hl).mono fun e w' ⟨h1, h2⟩ => ⟨by rw [h1]; simp, h2⟩
set_option maxRecDepth 100000 in
set_option maxHeartbeats 8000000 in
theorem qt_walk (l : List Rest) (A : Option Addr) (c : Nat) (r : Rest) (id n : Int) (w : World) (hr : Rd w w.heap.size A l.length 5 (rcell l)) (hcap : l.length ≤ c) (hmx : c ≤ maxLen) (hA : A = none → l.length = 0 ∧ c = 0) (hl : Laid w) :
    Calls Tryd.prog 8 #[.slice A l.length c, .agg #[.int .i64 r.id, .int .i64 r.who, .int .i64 r.qty, .int .i64 r.hidden, .int .i64 r.show_], .int .i64 id, .int .i64 n] w fun e w' => e = .returned (.bool true) ∧ Below w.heap.size w w' := by
  have hlm : l.length ≤ maxLen := Nat.le_trans hcap hmx
  have hb0 : Below w.heap.size w (w.alloc (.cells #[.int .i64 r.id, .int .i64 r.who, .int .i64 r.qty, .int .i64 r.hidden, .int .i64 r.show_] 70)) := (Below.refl _ _).alloc (Nat.le_refl _) _
  have hR0 := rdm hr hb0
  have hL0 := Laid.below hl hb0
  have hB0 := Bk.new w 70 #[.int .i64 r.id, .int .i64 r.who, .int .i64 r.qty, .int .i64 r.hidden, .int .i64 r.show_]
  have hlm' := hlm
  unfold maxLen at hlm'
  have HQ := Lib.hid (show qErr l = 0 → l.length ≤ 60 from fun h => (qErr_iff.1 h).1)
  have HSd := Lib.hid (show qErr l = 0 → Sound l from fun h => (qErr_iff.1 h).2.1)
  have CQ := Lib.hid (fun w' hr' => rqueue_any l A c w' hr' hcap)
  have CC := Lib.hid (fun w' hr' => qcheck_any l A c w' hr' hcap)
  have CT := Lib.hid (fun w' hr' => total_all l A c w' hr' hcap)
  have CI := Lib.hid (fun id w' hr' => rin_any l A c id w' hr' hlm)
  have CP := Lib.hid (fun w' hr' => push_all l A c r w' hr' hcap hA)
  have CD := Lib.hid (fun w' hr' => drop_all l A c id w' hr' hcap hA)
  have CK := Lib.hid (fun w' hr' => take_all l A c n w' hr' hcap hA)
  have CR := Lib.hid (fun w => rrest_any r w)
  have HA := Lib.hid hA
  have HM := Lib.hid hmx
  have HC := Lib.hid hcap
  clear hr hl hA hmx hlm
  go_enter Tryd.func8, Tryd.ntmps8
  go_upto_region 1 with fail
  generalize w.alloc (.cells #[.int .i64 r.id, .int .i64 r.who, .int .i64 r.qty, .int .i64 r.hidden, .int .i64 r.show_] 70) = W0 at *
  have BO := Lib.hid hB0; have HR := Lib.hid hR0; have HL := Lib.hid hL0; have HbW := Lib.hid hb0
  clear hB0 hR0 hL0 hb0
  go_wp2_with fail
  go_at_call 42
  refine (CQ.out _ HR.out).mono ?_
  rintro e w' ⟨rfl, hB⟩
  go_wp2_with fail
  go_at_call 43
  refine (CC.out _ (rdm HR.out hB)).mono ?_
  rintro e w' ⟨rfl, hb⟩
  replace hB := below_then hb hB
  clear hb
  go_wp2_with fail
  go_at_call 14
  refine (same_told _ _ (Laid.below HL.out hB)).mono ?_
  rintro e w' ⟨rfl, hb⟩
  replace hB := below_then hb hB
  clear hb
  go_upto_if 37 with fail
  go_cut [11] (fun t wx => t = .int .i64 (totQ l) ∧ Below W0.heap.size W0 wx)
  case first =>
    as_aux_lemma =>
    by_cases h0 : qErr l = 0
    · have cTo := Lib.hid (fun w' hr' => rtotal_any l A c w' hr' (by have := HQ.out h0; omega) (HSd.out h0))
      have hif := Lib.hid (show totQ l = allQ l from if_pos h0)
      have h1 : (qErr l == 0) = true := by simpa using h0
      clear h0
      go_wp2_with (go_at_call 44; refine (cTo.out _ (rdm HR.out hB)).mono ?_; rintro e w' ⟨rfl, hb⟩)
      go_meet
      case rel => exact ⟨by rw [hif.out], below_then hb hB⟩
    · have hif := Lib.hid (show totQ l = 0 from if_neg h0)
      have h1 : (qErr l == 0) = false := by simpa using h0
      clear h0
      go_wp2
      go_meet
      case rel => exact ⟨by rw [hif.out], hB⟩
  clear hB
  obtain ⟨rfl, hB⟩ := hcut
  as_aux_lemma =>
  go_wp2_with fail
  go_at_call 45
  refine (CT.out _ (rdm HR.out hB)).mono ?_
  rintro e w' ⟨rfl, hb⟩
  replace hB := below_then hb hB
  clear hb
  go_wp2_with fail
  go_at_call 14
  refine (same_told _ _ (Laid.below HL.out hB)).mono ?_
  rintro e w' ⟨rfl, hb⟩
  replace hB := below_then hb hB
  clear hb
  go_upto_if 50 with fail
  go_cut [15] (fun t wx => t = .int .i64 (f1E l r) ∧ Below W0.heap.size W0 wx)
  case first =>
    as_aux_lemma =>
    by_cases h0 : qErr l = 0
    · have hif := Lib.hid (show f1E l r = r.err from if_neg (by simpa using h0))
      have h1 : (qErr l == 0) = true := by simpa using h0
      have qo := box5 (BO.out.keep hB)
      clear h0
      go_wp2_with (go_at_call 35; refine (CR.out _).mono ?_; rintro e w' ⟨rfl, rfl⟩)
      go_meet
      case rel => exact ⟨by rw [hif.out], below_then_alloc hB⟩
    · have hif := Lib.hid (show f1E l r = qErr l from if_pos h0)
      have h1 : (qErr l == 0) = false := by simpa using h0
      clear h0
      go_wp2
      go_meet
      case rel => exact ⟨by rw [hif.out], hB⟩
  clear hB
  obtain ⟨rfl, hB⟩ := hcut
  as_aux_lemma =>
  go_upto_region 11 with fail
  go_cut [61] (fun t wx => t = .bool (decide (f1E l r = 0 ∧ 0 ≤ findI l r.id)) ∧ Below W0.heap.size W0 wx)
  case first =>
    as_aux_lemma =>
    by_cases h0 : f1E l r = 0
    · have h1 : (f1E l r == 0) = true := by simpa using h0
      have cI := CI.out r.id
      have qo := box5 (BO.out.keep hB)
      by_cases h2 : 0 ≤ findI l r.id
      · have hif := Lib.hid (show decide (f1E l r = 0 ∧ 0 ≤ findI l r.id) = true by simp [h0, h2])
        have CIr := Lib.hid cI
        clear cI h0
        generalize findI l r.id = fi at *
        go_wp2_with (go_at_call 46; refine (CIr.out _ (rdm HR.out hB)).mono ?_; rintro e w' ⟨rfl, rfl⟩)
        go_meet
        case rel => exact ⟨by rw [hif.out]; try (simp; omega), hB⟩
      · have hif := Lib.hid (show decide (f1E l r = 0 ∧ 0 ≤ findI l r.id) = false by simp [h2])
        have h3 : findI l r.id < 0 := by omega
        have CIr := Lib.hid cI
        clear cI h2 h0
        generalize findI l r.id = fi at *
        go_wp2_with (go_at_call 46; refine (CIr.out _ (rdm HR.out hB)).mono ?_; rintro e w' ⟨rfl, rfl⟩)
        go_meet
        case rel => exact ⟨by rw [hif.out]; try (simp; omega), hB⟩
    · have h1 : (f1E l r == 0) = false := by simpa using h0
      have hif := Lib.hid (show decide (f1E l r = 0 ∧ 0 ≤ findI l r.id) = false by simp [h0])
      clear h0
      go_wp2
      go_meet
      case rel => exact ⟨by rw [hif.out]; try (simp; omega), hB⟩
  clear hB
  obtain ⟨rfl, hB⟩ := hcut
  as_aux_lemma =>
  go_upto_if 61 with fail
  go_cut [15] (fun t wx => t = .int .i64 (f2E l r) ∧ Below W0.heap.size W0 wx)
  case first =>
    as_aux_lemma =>
    by_cases h0 : f1E l r = 0 ∧ 0 ≤ findI l r.id
    · have hif := Lib.hid (show f2E l r = 7 by rw [f2E, if_neg (by simpa using h0.1), if_pos h0.2])
      have h1 : decide (f1E l r = 0 ∧ 0 ≤ findI l r.id) = true := by simpa using h0
      generalize decide (f1E l r = 0 ∧ 0 ≤ findI l r.id) = d at *
      subst h1
      clear h0
      go_wp2
      go_meet
      case rel => exact ⟨by rw [hif.out]; try (simp; omega), hB⟩
    · have hif := Lib.hid (show f2E l r = f1E l r by
        by_cases h1 : f1E l r = 0
        · rw [f2E, if_neg (by simpa using h1), if_neg (fun h => h0 ⟨h1, h⟩), h1]
        · rw [f2E, if_pos h1])
      have h1 : decide (f1E l r = 0 ∧ 0 ≤ findI l r.id) = false := by simpa using h0
      generalize decide (f1E l r = 0 ∧ 0 ≤ findI l r.id) = d at *
      subst h1
      clear h0
      go_wp2
      go_meet
      case rel => exact ⟨by rw [hif.out]; try (simp; omega), hB⟩
  clear hB
  obtain ⟨rfl, hB⟩ := hcut
  as_aux_lemma =>
  go_upto_region 13 with fail
  go_cut [68] (fun t wx => t = .bool (decide (f2E l r = 0 ∧ 60 ≤ l.length)) ∧ Below W0.heap.size W0 wx)
  case first =>
    as_aux_lemma =>
    by_cases h0 : f2E l r = 0
    · have h1 : (f2E l r == 0) = true := by simpa using h0
      by_cases h2 : 60 ≤ l.length
      · have hif := Lib.hid (show decide (f2E l r = 0 ∧ 60 ≤ l.length) = true by simp [h0, h2])
        have h3 : (60 : Int) ≤ (l.length : Int) := by omega
        clear h0
        go_wp2
        go_meet
        case rel => exact ⟨by rw [hif.out]; try (simp; omega), hB⟩
      · have hif := Lib.hid (show decide (f2E l r = 0 ∧ 60 ≤ l.length) = false by simp [h2])
        have h3 : (l.length : Int) < 60 := by omega
        clear h0
        go_wp2
        go_meet
        case rel => exact ⟨by rw [hif.out]; try (simp; omega), hB⟩
    · have h1 : (f2E l r == 0) = false := by simpa using h0
      have hif := Lib.hid (show decide (f2E l r = 0 ∧ 60 ≤ l.length) = false by simp [h0])
      clear h0
      go_wp2
      go_meet
      case rel => exact ⟨by rw [hif.out]; try (simp; omega), hB⟩
  clear hB
  obtain ⟨rfl, hB⟩ := hcut
  as_aux_lemma =>
  go_upto_if 68 with fail
  go_cut [15] (fun t wx => t = .int .i64 (pushE l r) ∧ Below W0.heap.size W0 wx)
  case first =>
    as_aux_lemma =>
    have hpf := Lib.hid (push_f2 l r)
    by_cases h0 : f2E l r = 0 ∧ 60 ≤ l.length
    · have hif := Lib.hid (hpf.out.trans ((if_neg (by simpa using h0.1)).trans (if_pos h0.2)))
      have h1 : decide (f2E l r = 0 ∧ 60 ≤ l.length) = true := by simpa using h0
      generalize decide (f2E l r = 0 ∧ 60 ≤ l.length) = d at *
      subst h1
      clear h0
      go_wp2
      go_meet
      case rel => exact ⟨by rw [hif.out]; try (simp; omega), hB⟩
    · have hif := Lib.hid (show pushE l r = f2E l r by
        rw [hpf.out]
        by_cases h1 : f2E l r = 0
        · rw [if_neg (by simpa using h1), if_neg (fun h => h0 ⟨h1, h⟩), h1]
        · rw [if_pos h1])
      have h1 : decide (f2E l r = 0 ∧ 60 ≤ l.length) = false := by simpa using h0
      generalize decide (f2E l r = 0 ∧ 60 ≤ l.length) = d at *
      subst h1
      clear h0
      go_wp2
      go_meet
      case rel => exact ⟨by rw [hif.out]; try (simp; omega), hB⟩
  clear hB
  obtain ⟨rfl, hB⟩ := hcut
  as_aux_lemma =>
  go_upto_if 70 with fail
  go_cut [16] (fun t wx => SlR (pushL l r) t wx ∧ Below W0.heap.size W0 wx)
  case first =>
    as_aux_lemma =>
    by_cases h0 : pushE l r = 0
    · have h1 : (pushE l r == 0) = true := by simpa using h0
      have hif := Lib.hid (show pushL l r = l ++ [r] from if_pos h0)
      have hq0 : qErr l = 0 := by
        by_cases hq : qErr l = 0
        · exact hq
        · rw [pushE, if_pos hq] at h0; exact absurd h0 hq
      have hl60 := HQ.out hq0
      have qo := box5 (BO.out.keep hB)
      have hRw := Lib.hid (rdm HR.out hB)
      have hBz := hB.size
      obtain ⟨i0, hi0, hz0, hz1, hz2⟩ := info_parts info_rest
      have HI := Lib.hid hi0; have H0 := Lib.hid hz0; have H1 := Lib.hid hz1; have H2 := Lib.hid hz2
      clear h0 hq0 hi0 hz0 hz1 hz2
      go_wp2_with (at_builtin; go_loud (refine wpList_append_S (base := W0.heap.size) (s := 5) (n := 0) (A := none) (cap := 0) (xs := []) rfl _ _ _ _ rfl 70 i0 _ 40 Tryd.underlying82 HI.out H0.out H1.out H2.out rfl rfl (OwnS.nil _ _ _ _) hBz _ rfl l.length (rows l) (src_rests hRw.out (fun h => (HA.out h).1)) (by unfold maxLen; omega) (by omega) ?_); intro A1 c1 w1 gr1; (have hb1 := grown_none gr1.grown); (have own1 := gr1.own); simp only [Nat.zero_add, List.nil_append] at own1 ⊢; clear gr1; have hB1 := below_then hb1 hB; have qo1 := box5 (BO.out.keep hB1); have hz1 := hB1.size; go_wp2_with (at_builtin; go_loud (refine wpList_append_S (base := W0.heap.size) (s := 5) (n := l.length) rfl _ _ _ _ rfl 70 i0 _ 40 Tryd.underlying82 HI.out H0.out H1.out H2.out rfl rfl (own1.alloc _) (by simp; omega) _ rfl 1 (Rest.vals r) (src_block (m := 1) (Bk.at_ (by simp) 70 #[.int .i64 r.id, .int .i64 r.who, .int .i64 r.qty, .int .i64 r.hidden, .int .i64 r.show_]) Tryd.underlying82 rfl (rest_one _ _ _ _ _) 1) (by unfold maxLen; omega) (by omega) ?_); intro A2 c2 w2 gr2))
      go_meet
      case rel =>
        refine ⟨?_, (below_then_alloc hB1).grown gr2.grown (by simp; omega) (fun k hk => (own1.row_lt k hk).1)⟩
        rw [hif.out]
        refine ⟨A2, c2, by simp, ?_⟩
        have o2 := gr2.own
        rw [List.length_append, List.length_singleton]
        refine o2.rd (fun i j hi hj => ?_)
        rw [show rows l ++ r.vals = rows (l ++ [r]) by rw [rows_app]; rfl]
        exact rows_get (by simpa using hi) hj
    · have h1 : (pushE l r == 0) = false := by simpa using h0
      have hif := Lib.hid (show pushL l r = [] from if_neg h0)
      clear h0
      go_wp2
      go_meet
      case rel => exact ⟨by rw [hif.out]; exact ⟨none, 0, rfl, Rd.nil⟩, hB⟩
  clear hB
  obtain ⟨⟨Aw, cw, rfl, hw⟩, hB⟩ := hcut
  as_aux_lemma =>
  have HPL := Lib.hid (push_len l r HQ.out)
  have qo := box5 (BO.out.keep hB)
  go_wp2_with fail
  go_at_call 40
  refine (CP.out _ (rdm HR.out hB)).mono ?_
  rintro e w' ⟨Ag, cg, rfl, hg, hb⟩
  clear qo
  replace hB := below_then hb hB
  replace hw := rdm hw hb
  clear hb
  go_wp2_with fail
  go_at_call 14
  refine (same_told _ _ (Laid.below HL.out hB)).mono ?_
  rintro e w' ⟨rfl, hb⟩
  replace hB := below_then hb hB
  replace hw := rdm hw hb
  replace hg := rdm hg hb
  clear hb
  go_wp2_with fail
  go_at_call 47
  refine (rests_same (pushL l r) _ _ _ _ _ hg hw HPL.out).mono ?_
  rintro e w' ⟨rfl, hb⟩
  replace hB := below_then hb hB
  clear hb hw hg HPL
  obtain ⟨fi, hfi⟩ : ∃ fi, fi = findI l id := ⟨_, rfl⟩
  have cIi := CI.out id
  rw [← hfi] at cIi
  have CIi := Lib.hid cIi
  have HF := Lib.hid hfi
  clear cIi hfi
  go_upto_region 25 with fail
  have b20 := Bk.new w' 70 #[.int .i64 0, .int .i64 0, .int .i64 0, .int .i64 0, .int .i64 0]
  have hg20 : W0.heap.size ≤ w'.heap.size := hB.size
  replace hB := below_then_alloc (o := .cells #[.int .i64 0, .int .i64 0, .int .i64 0, .int .i64 0, .int .i64 0] 70) hB
  generalize w'.heap.size = g20 at *
  generalize w'.alloc (.cells #[.int .i64 0, .int .i64 0, .int .i64 0, .int .i64 0, .int .i64 0] 70) = w7 at *
  have b20 := Lib.hid b20
  go_wp2_with fail
  go_at_call 46
  refine (CIi.out _ (rdm HR.out hB)).mono ?_
  rintro e w' ⟨rfl, rfl⟩
  go_upto_region 26 with fail
  go_cut [99] (fun t wx => t = .bool (decide (qErr l = 0 ∧ fi < 0)) ∧ w7 = wx)
  case first =>
    as_aux_lemma =>
    by_cases h0 : qErr l = 0
    · have h1 : (qErr l == 0) = true := by simpa using h0
      by_cases h2 : fi < 0
      · have hif := Lib.hid (show decide (qErr l = 0 ∧ fi < 0) = true by simp [h0, h2])
        clear h0
        go_wp2
        go_meet
        case rel => exact ⟨by rw [hif.out]; try (simp; omega), rfl⟩
      · have hif := Lib.hid (show decide (qErr l = 0 ∧ fi < 0) = false by simp [h2])
        have h3 : 0 ≤ fi := by omega
        clear h0 h2
        go_wp2
        go_meet
        case rel => exact ⟨by rw [hif.out]; try (simp; omega), rfl⟩
    · have h1 : (qErr l == 0) = false := by simpa using h0
      have hif := Lib.hid (show decide (qErr l = 0 ∧ fi < 0) = false by simp [h0])
      clear h0
      go_wp2
      go_meet
      case rel => exact ⟨by rw [hif.out], rfl⟩
  obtain ⟨rfl, rfl⟩ := hcut
  as_aux_lemma =>
  go_upto_if 99 with fail
  go_cut [15, 16] (fun t s wx => t = .int .i64 (dropE l id) ∧ SlR (dropL l id) s wx ∧ Bk wx g20 70 #[.int .i64 (dropX l id).id, .int .i64 (dropX l id).who, .int .i64 (dropX l id).qty, .int .i64 (dropX l id).hidden, .int .i64 (dropX l id).show_] ∧ Below W0.heap.size W0 wx)
  case first =>
    as_aux_lemma =>
    by_cases h0 : qErr l = 0
    · by_cases h2 : fi < 0
      · have hd := Lib.hid (show dropE l id = 5 by rw [dropE, if_neg (by simpa using h0), if_pos (by rw [← HF.out]; exact h2)])
        have h1 : decide (qErr l = 0 ∧ fi < 0) = true := by simp [h0, h2]
        generalize decide (qErr l = 0 ∧ fi < 0) = d at *
        subst h1
        clear h0 h2
        go_wp2
        go_meet
        case rel =>
          have e1 : dropL l id = [] := by rw [dropL, if_neg (by rw [hd.out]; decide)]
          have e2 : dropX l id = rest0 := by rw [dropX, if_neg (by rw [hd.out]; decide)]
          rw [hd.out, e1, e2]
          exact ⟨rfl, ⟨none, 0, rfl, Rd.nil⟩, b20.out, hB⟩
      · have h1 : decide (qErr l = 0 ∧ fi < 0) = false := by simp [h2]
        generalize decide (qErr l = 0 ∧ fi < 0) = d at *
        subst h1
        have h3 : (qErr l == 0) = true := by simpa using h0
        have hd := Lib.hid (show dropE l id = 0 by rw [dropE, if_neg (by simpa using h0), if_neg (by rw [← HF.out]; exact h2)])
        have hl60 := HQ.out h0
        have hq0 := Lib.hid h0
        obtain ⟨k, rfl⟩ := Int.eq_ofNat_of_zero_le (show 0 ≤ fi by omega)
        have hkl : k < l.length := findI_lt HF.out.symm
        have hn := Lib.hid (show l.length = k + 1 + (l.length - (k + 1)) by omega)
        have cW := Lib.hid (fun w' hr' => rwithout_any l A c k (l.length - (k + 1)) w' hr' hn.out (by omega) hcap HM.out)
        have k0 : (0 : Int) ≤ (k : Int) := by omega
        have k1 : (k : Int) < (l.length : Int) := by omega
        have hE := Lib.hid (show dropL l id = l.eraseIdx k by rw [dropL, if_pos hd.out, ← HF.out, Int.toNat_natCast])
        have hX := Lib.hid (show dropX l id = l[k] by rw [dropX, if_pos hd.out, ← HF.out, Int.toNat_natCast]; simp [hkl])
        clear h0 h2
        go_wp2_with fail
        go_at_call 48
        refine (cW.out _ (rdm HR.out hB)).mono ?_
        rintro e w8 ⟨A8, c8, rfl, own8, hb8⟩
        have hB8 := below_then hb8 hB
        obtain ⟨bb, off, tt, rfl, hbb, ht, e0, e1, e2, e3, e4⟩ := rest_at (rdm HR.out hB8) hkl
        have HT := Lib.hid (show tt = l[k] by rw [List.getElem?_eq_getElem hkl] at ht; exact (Option.some.inj ht).symm)
        have b28 := b20.out.keep hb8
        have q8 := box5 b28
        have z0 := b28.free 0; have z1 := b28.free 1; have z2 := b28.free 2; have z3 := b28.free 3; have z4 := b28.free 4
        have n8 : rowOf A8 c8 ≠ some g20 := fun e => by have h1 := (own8.row_lt _ e).1; have h2 := b20.out.lt; omega
        have h1' := Lib.hid (b28.set5 (.int .i64 tt.id) (.int .i64 tt.who) (.int .i64 tt.qty) (.int .i64 tt.hidden) (.int .i64 tt.show_))
        clear ht b28
        go_wp2
        go_meet
        case rel =>
          refine ⟨by rw [hd.out, hq0.out], ?_, ?_, ?_⟩
          · rw [hE.out]
            exact ⟨A8, c8, rfl, (((((own8.far n8 _).far n8 _).far n8 _).far n8 _).far n8 _).rd (fun i j hi hj => rows_get hi hj)⟩
          · rw [hX.out, ← HT.out]; exact h1'.out
          · exact ((((hB8.setCell hg20 _).setCell hg20 _).setCell hg20 _).setCell hg20 _).setCell hg20 _
    · have h1 : decide (qErr l = 0 ∧ fi < 0) = false := by simp [h0]
      generalize decide (qErr l = 0 ∧ fi < 0) = d at *
      subst h1
      have h3 : (qErr l == 0) = false := by simpa using h0
      have hd := Lib.hid (show dropE l id = qErr l by rw [dropE, if_pos h0])
      have hne := Lib.hid h0
      clear h0
      go_wp2
      go_meet
      case rel =>
        have e1 : dropL l id = [] := by rw [dropL, if_neg (by rw [hd.out]; exact hne.out)]
        have e2 : dropX l id = rest0 := by rw [dropX, if_neg (by rw [hd.out]; exact hne.out)]
        rw [hd.out, e1, e2]
        exact ⟨rfl, ⟨none, 0, rfl, Rd.nil⟩, b20.out, hB⟩
  clear hB b20
  obtain ⟨rfl, ⟨Aw, cw, rfl, hw⟩, b20, hB⟩ := hcut
  as_aux_lemma =>
  have HDL := Lib.hid (drop_len l id HQ.out)
  go_wp2_with fail
  go_at_call 49
  refine (CD.out _ (rdm HR.out hB)).mono ?_
  rintro e w' ⟨Ag, cg, rfl, hg, hb⟩
  replace hB := below_then hb hB
  replace hw := rdm hw hb
  replace b20 := b20.keep hb
  clear hb
  go_upto_region 32 with fail
  have hb : Below w'.heap.size w' (w'.alloc (.cells #[.int .i64 (dropX l id).id, .int .i64 (dropX l id).who, .int .i64 (dropX l id).qty, .int .i64 (dropX l id).hidden, .int .i64 (dropX l id).show_] 70)) := (Below.refl _ _).alloc (Nat.le_refl _) _
  have b22 := Bk.new w' 70 #[.int .i64 (dropX l id).id, .int .i64 (dropX l id).who, .int .i64 (dropX l id).qty, .int .i64 (dropX l id).hidden, .int .i64 (dropX l id).show_]
  generalize w'.heap.size = g22 at b22
  generalize w'.alloc (.cells #[.int .i64 (dropX l id).id, .int .i64 (dropX l id).who, .int .i64 (dropX l id).qty, .int .i64 (dropX l id).hidden, .int .i64 (dropX l id).show_] 70) = w9 at *
  replace hB := below_then hb hB
  replace hw := rdm hw hb
  replace hg := rdm hg hb
  replace b20 := b20.keep hb
  clear hb
  go_wp2_with fail
  go_at_call 14
  refine (same_told _ _ (Laid.below HL.out hB)).mono ?_
  rintro e w' ⟨rfl, hb⟩
  replace hB := below_then hb hB
  replace hw := rdm hw hb
  replace hg := rdm hg hb
  replace b20 := b20.keep hb
  replace b22 := b22.keep hb
  clear hb
  go_wp2_with fail
  go_at_call 47
  refine (rests_same (dropL l id) _ _ _ _ _ hg hw HDL.out).mono ?_
  rintro e w' ⟨rfl, hb⟩
  replace hB := below_then hb hB
  replace b20 := b20.keep hb
  replace b22 := b22.keep hb
  clear hb hw hg HDL
  go_upto_region 34 with fail
  go_cut [131] (fun t wx => t = .bool (decide (qErr l = 0 ∧ inb n 1 10000 = false)) ∧ w' = wx)
  case first =>
    as_aux_lemma =>
    by_cases h0 : qErr l = 0
    · have h1 : (qErr l == 0) = true := by simpa using h0
      rcases (show n < 1 ∨ (1 ≤ n ∧ 10000 < n) ∨ (1 ≤ n ∧ n ≤ 10000) by omega) with h2 | ⟨h2, h3⟩ | ⟨h2, h3⟩
      · have hif := Lib.hid (show decide (qErr l = 0 ∧ inb n 1 10000 = false) = true by simp [h0, inb_n (show n < 1 ∨ 10000 < n by omega)])
        clear h0
        go_wp2
        go_meet
        case rel => exact ⟨by rw [hif.out]; try (simp; omega), rfl⟩
      · have hif := Lib.hid (show decide (qErr l = 0 ∧ inb n 1 10000 = false) = true by simp [h0, inb_n (show n < 1 ∨ 10000 < n by omega)])
        clear h0
        go_wp2
        go_meet
        case rel => exact ⟨by rw [hif.out]; try (simp; omega), rfl⟩
      · have hif := Lib.hid (show decide (qErr l = 0 ∧ inb n 1 10000 = false) = false by simp [inb_y (show 1 ≤ n ∧ n ≤ 10000 from ⟨h2, h3⟩)])
        clear h0
        go_wp2
        go_meet
        case rel => exact ⟨by rw [hif.out]; try (simp; omega), rfl⟩
    · have h1 : (qErr l == 0) = false := by simpa using h0
      have hif := Lib.hid (show decide (qErr l = 0 ∧ inb n 1 10000 = false) = false by simp [h0])
      clear h0
      go_wp2
      go_meet
      case rel => exact ⟨by rw [hif.out]; try (simp; omega), rfl⟩
  obtain ⟨rfl, rfl⟩ := hcut
  as_aux_lemma =>
  go_upto_if 131 with fail
  go_cut [9] (fun t wx => t = .int .i64 (takeE l n) ∧ w' = wx)
  case first =>
    as_aux_lemma =>
    by_cases h0 : qErr l = 0 ∧ inb n 1 10000 = false
    · have hif := Lib.hid (show takeE l n = 1 by rw [takeE, if_neg (by simpa using h0.1), h0.2]; rfl)
      have h1 : decide (qErr l = 0 ∧ inb n 1 10000 = false) = true := by simpa using h0
      generalize decide (qErr l = 0 ∧ inb n 1 10000 = false) = d at *
      subst h1
      clear h0
      go_wp2
      go_meet
      case rel => exact ⟨by rw [hif.out], rfl⟩
    · have hif := Lib.hid (show takeE l n = qErr l by
        by_cases h1 : qErr l = 0
        · rw [takeE, if_neg (by simpa using h1)]
          cases h2 : inb n 1 10000
          · exact absurd ⟨h1, h2⟩ h0
          · rw [if_pos rfl, h1]
        · rw [takeE, if_pos h1])
      have h1 : decide (qErr l = 0 ∧ inb n 1 10000 = false) = false := decide_eq_false h0
      generalize decide (qErr l = 0 ∧ inb n 1 10000 = false) = d at *
      subst h1
      clear h0
      go_wp2
      go_meet
      case rel => exact ⟨by rw [hif.out], rfl⟩
  obtain ⟨rfl, rfl⟩ := hcut
  as_aux_lemma =>
  have HTL := Lib.hid (take_lens l n HQ.out)
  go_upto_if 133 with fail
  go_cut [25, 16] (fun f s wx => SlF (takeFL l n).1 f wx ∧ SlR (takeFL l n).2 s wx ∧ Below w'.heap.size w' wx)
  case first =>
    as_aux_lemma =>
    by_cases h0 : takeE l n = 0
    · have h1 : (takeE l n == 0) = true := by simpa using h0
      obtain ⟨hq, hn⟩ := takeE_0 h0
      have hn' : 1 ≤ n ∧ n ≤ 10000 := by simpa [inb] using hn
      have cT := Lib.hid (fun w' hr' => rtake_any l A c n w' hr' hcap HM.out (HSd.out hq) (HQ.out hq) (by omega) hn'.2)
      have hE := Lib.hid (show takeFL l n = qTake l n from if_pos h0)
      clear h0 hq hn
      go_wp2_with fail
      go_at_call 50
      refine (cT.out _ (rdm HR.out hB)).mono ?_
      rintro e w8 ⟨Ao, co, A8, c8, rfl, ho, hr8, hb8⟩
      go_wp2
      go_meet
      case rel =>
        rw [hE.out]
        exact ⟨⟨Ao, co, rfl, ho.rd (fun i j hi hj => frows_get hi hj)⟩, ⟨A8, c8, rfl, hr8⟩, hb8⟩
    · have h1 : (takeE l n == 0) = false := by simpa using h0
      have hE := Lib.hid (show takeFL l n = ([], []) from if_neg h0)
      clear h0
      go_wp2
      go_meet
      case rel =>
        rw [hE.out]
        exact ⟨⟨none, 0, rfl, Rd.nil⟩, ⟨none, 0, rfl, Rd.nil⟩, Below.refl _ _⟩
  obtain ⟨⟨Af, cf, rfl, hf⟩, ⟨Aw, cw, rfl, hw⟩, hb⟩ := hcut
  as_aux_lemma =>
  replace hB := below_then hb hB
  replace b20 := b20.keep hb
  replace b22 := b22.keep hb
  clear hb
  go_wp2_with fail
  go_at_call 41
  refine (CK.out _ (rdm HR.out hB)).mono ?_
  rintro e w' ⟨Az, cz, Ag, cg, rfl, hz, hg, hb⟩
  replace hB := below_then hb hB
  replace hw := rdm hw hb
  replace hf := rdm hf hb
  replace b20 := b20.keep hb
  replace b22 := b22.keep hb
  clear hb
  go_wp2_with fail
  go_at_call 14
  refine (same_told _ _ (Laid.below HL.out hB)).mono ?_
  rintro e w' ⟨rfl, hb⟩
  replace hB := below_then hb hB
  replace hw := rdm hw hb
  replace hf := rdm hf hb
  replace hg := rdm hg hb
  replace hz := rdm hz hb
  replace b20 := b20.keep hb
  replace b22 := b22.keep hb
  clear hb
  go_wp2_with fail
  go_at_call 47
  refine (rests_same (takeFL l n).2 _ _ _ _ _ hg hw (by have := HTL.out.2; omega)).mono ?_
  rintro e w' ⟨rfl, hb⟩
  replace hB := below_then hb hB
  replace hf := rdm hf hb
  replace hz := rdm hz hb
  replace b20 := b20.keep hb
  replace b22 := b22.keep hb
  clear hb
  go_wp2_with fail
  go_at_call 51
  refine (fills_same (takeFL l n).1 _ _ _ _ _ hz hf (by have := HTL.out.1; omega)).mono ?_
  rintro e w' ⟨rfl, hb⟩
  replace hB := below_then hb hB
  replace b20 := b20.keep hb
  replace b22 := b22.keep hb
  clear hb
  have q20 := box5 b20
  have q22 := box5 b22
  go_wp2
  go_ret
  exact ⟨rfl, HbW.out.trans (hB.mono HbW.out.size)⟩
theorem queueTells_law {H : Type} {enc : TypeId × Value → H} {v0 v1 v2 v3 : Value} {d0 d1 d2 d3 : DataW H} {p0 p1 p2 p3 : List MemPlace} {base : Nat} {W : World}
    (h0 : Arg enc W base 82 v0 d0 p0) (h1 : Arg enc W base 70 v1 d1 p1) (h2 : Arg enc W base 3 v2 d2 p2) (h3 : Arg enc W base 3 v3 d3 p3) (hl : Laid W) :
    Calls Tryd.prog 8 #[v0, v1, v2, v3] W fun e w' => e = .returned (.bool true) ∧ Below W.heap.size W w' := by
  obtain ⟨A, l, c, rfl, hcap, hA, hr⟩ := h0.rests
  obtain ⟨r, rfl⟩ := h1.rest
  obtain ⟨id, rfl, _⟩ := h2.int
  obtain ⟨n, rfl, _⟩ := h3.int
  exact qt_walk l A c r id n W hr hcap (arg_max Tryd.underlying82 h0).2.1 hA hl
end Go.Proofs.YtefncbdkjljbjaaDoor
