/- The contracts of the reference's At, Find, Whole, Book, Comes. -/
import Derived.Test.YtbnjkcgkdpildaaDoorRLevels
import Derived.Test.YtbnjkcgkdpildaaDoorGrpG
import Derived.Test.YtbnjkcgkdpildaaDoorGrpB
namespace Go.Proofs.YtbnjkcgkdpildaaDoor
set_option linter.all false
open Go Go.RowKit
set_option maxHeartbeats 1000000 in
theorem rat_any (L : List Lv) (A : Option Addr) (c : Nat) (id : Int) (w : World) (hr : RdLv w w.heap.size A L) (hL : L.length ≤ maxLen) (heach : ∀ x ∈ L, x.rs.length ≤ maxLen) :
    Calls Tryd.prog 70 #[.slice A L.length c, .int .i64 id] w fun e w' => e = .returned (.tuple #[.int .i64 (whereL L id).1, .int .i64 (whereL L id).2]) ∧ w = w' := by
  have HR := Lib.hid hr; have HE := Lib.hid heach
  unfold maxLen at hL
  clear hr heach
  go_enter Tryd.func70, Tryd.ntmps70
  go_wp2
  go_loopw [6] (fun i wr => ∃ k : Nat, k ≤ L.length ∧ i = .int .i64 k ∧ wr = w ∧ Hid (∀ j, j < k → findI ((L.getD j ⟨0, []⟩).rs) id < 0)) (fun i _ => L.length - (intOf i).toNat)
  case atStart => exact ⟨0, by omega, rfl, rfl, Lib.hid (fun j hj => absurd hj (by omega))⟩
  case round =>
    obtain ⟨k, hk, rfl, rfl, hno⟩ := hrel
    by_cases hlt : k < L.length
    · obtain ⟨b, off, x, Ar, cr, rfl, hbl, hx, e0, e1, g1, g2, hrr⟩ := lv_at HR.out hlt
      have j0 : (0 : Int) ≤ (k : Int) := by omega
      have j1 : (k : Int) < (L.length : Int) := by omega
      have cI := Lib.hid (rin_any x.rs Ar cr id wr hrr (HE.out x (List.mem_of_getElem? hx)))
      have HX := Lib.hid hx
      clear hx hrr
      go_wp2_with fail
      go_at_call 90
      refine cI.out.mono ?_
      rintro e w2 ⟨rfl, rfl⟩
      by_cases hf : 0 ≤ findI x.rs id
      · have H := Lib.hid (whereL_hit HX.out hno.out hf)
        generalize findI x.rs id = z at *
        go_wp2
        go_ret2
        exact ⟨by rw [H.out]; rfl, rfl⟩
      · have hf' : findI x.rs id < 0 := by omega
        have HF := Lib.hid hf'
        have HXL := Lib.hid (show (L.getD k ⟨0, []⟩).rs = x.rs by rw [List.getD_eq_getElem?_getD, HX.out]; rfl)
        generalize hz : findI x.rs id = z at *
        have HZ := Lib.hid hz
        clear hz
        go_wp2
        go_roundw
        case rel =>
          refine ⟨k + 1, by omega, by go_num, by trivial, Lib.hid (fun j hj => ?_)⟩
          rcases Nat.lt_or_ge j k with h | h
          · exact hno.out j h
          · obtain rfl : j = k := by omega
            rw [HXL.out, HZ.out]; exact HF.out
        case measure => simp [intOf]; omega
    · obtain rfl : k = L.length := by omega
      have H := Lib.hid (whereL_none hno.out)
      go_wp2
      go_ret2
      exact ⟨by rw [H.out]; rfl, rfl⟩
set_option maxRecDepth 100000 in
set_option maxHeartbeats 2000000 in
theorem rfind_any (L M : List Lv) (A1 A2 : Option Addr) (c1 c2 : Nat) (id : Int) (w : World) (h1 : RdLv w w.heap.size A1 L) (h2 : RdLv w w.heap.size A2 M) (k1 : L.length ≤ maxLen ∧ ∀ x ∈ L, x.rs.length ≤ maxLen) (k2 : M.length ≤ maxLen ∧ ∀ x ∈ M, x.rs.length ≤ maxLen) :
    Calls Tryd.prog 43 #[.agg #[.slice A1 L.length c1, .slice A2 M.length c2], .int .i64 id] w fun e w' => e = .returned (.tuple #[.int .i64 (whereB L M id).1, .int .i64 (whereB L M id).2.1, .int .i64 (whereB L M id).2.2]) ∧ Below w.heap.size w w' := by
  have HL := Lib.hid h1; have HM := Lib.hid h2
  have cA1 := Lib.hid (fun w' h => rat_any L A1 c1 id w' h k1.1 k1.2)
  have cA2 := Lib.hid (fun w' h => rat_any M A2 c2 id w' h k2.1 k2.2)
  have cO1 := Lib.hid (fun w => rof_any .nilIface .nilIface 1 A1 A2 L.length M.length c1 c2 w)
  have cO2 := Lib.hid (fun w => rof_any .nilIface .nilIface 2 A1 A2 L.length M.length c1 c2 w)
  rw [if_pos rfl] at cO1
  rw [if_neg (by decide)] at cO2
  have hb : Below w.heap.size w (w.alloc (.cells #[.slice A1 L.length c1, .slice A2 M.length c2] 29)) := (Below.refl _ _).alloc (Nat.le_refl _) _
  have bb := Bk.new w 29 #[.slice A1 L.length c1, .slice A2 M.length c2]
  clear h1 h2 k1 k2
  go_enter Tryd.func43, Tryd.ntmps43
  go_upto_region 1 with fail
  generalize w.alloc (.cells #[.slice A1 L.length c1, .slice A2 M.length c2] 29) = w0 at *
  go_wp2_with fail
  go_loopw [7] (fun i wr => (i = .int .i64 1 ∨ (i = .int .i64 2 ∧ Hid ((whereL L id).1 < 0)) ∨ (i = .int .i64 3 ∧ Hid ((whereL L id).1 < 0 ∧ (whereL M id).1 < 0))) ∧ Below w0.heap.size w0 wr) (fun i _ => 3 - (intOf i).toNat)
  case atStart => exact ⟨.inl rfl, Below.refl _ _⟩
  case round =>
    obtain ⟨hrel, hbl⟩ := hrel
    have bb2 := bb.keep hbl
    have hb2 := below_then hbl hb
    obtain ⟨q0, q1⟩ := box2 bb2
    rcases hrel with rfl | ⟨rfl, hE⟩ | ⟨rfl, hE⟩
    · go_wp2_with fail
      go_at_call 19
      refine (cO1.out wr).mono ?_
      rintro e w2 ⟨rfl, hb3⟩
      have cA := Lib.hid (cA1.out w2 (HL.out.on (below_then hb3 hb2)))
      have hbl3 := below_then hb3 hbl
      clear q0 q1
      go_wp2_with fail
      go_at_call 70
      refine cA.out.mono ?_
      rintro e w3 ⟨rfl, rfl⟩
      by_cases h0 : 0 ≤ (whereL L id).1
      · have H := Lib.hid (show whereB L M id = (1, (whereL L id).1, (whereL L id).2) from if_pos h0)
        generalize (whereL L id).1 = z at *
        generalize (whereL L id).2 = y at *
        go_wp2
        exact bodyPost_ret (v := .tuple #[.int .i64 1, .int .i64 z, .int .i64 y]) (by simp [results, Tryd.results43, go_sem]) rfl ⟨by rw [H.out], below_then hb3 hb2⟩
      · have h0' : (whereL L id).1 < 0 := by omega
        have H0 := Lib.hid h0'
        clear h0
        go_wp2
        go_roundw
        case rel => exact ⟨.inr (.inl ⟨by go_num, H0⟩), hbl3⟩
        case measure => simp [intOf]
    · go_wp2_with fail
      go_at_call 19
      refine (cO2.out wr).mono ?_
      rintro e w2 ⟨rfl, hb3⟩
      have cA := Lib.hid (cA2.out w2 (HM.out.on (below_then hb3 hb2)))
      have hbl3 := below_then hb3 hbl
      clear q0 q1
      go_wp2_with fail
      go_at_call 70
      refine cA.out.mono ?_
      rintro e w3 ⟨rfl, rfl⟩
      by_cases h0 : 0 ≤ (whereL M id).1
      · have H := Lib.hid (show whereB L M id = (2, (whereL M id).1, (whereL M id).2) by rw [whereB, if_neg (by have := hE.out; omega), if_pos h0])
        clear hE
        generalize (whereL M id).1 = z at *
        generalize (whereL M id).2 = y at *
        go_wp2
        exact bodyPost_ret (v := .tuple #[.int .i64 2, .int .i64 z, .int .i64 y]) (by simp [results, Tryd.results43, go_sem]) rfl ⟨by rw [H.out], below_then hb3 hb2⟩
      · have h0' : (whereL M id).1 < 0 := by omega
        have H0 := Lib.hid (And.intro hE.out h0')
        clear h0 hE
        go_wp2
        go_roundw
        case rel => exact ⟨.inr (.inr ⟨by go_num, H0⟩), hbl3⟩
        case measure => simp [intOf]
    · have H := Lib.hid (show whereB L M id = (0, 0, 0) by rw [whereB, if_neg (by have := hE.out.1; omega), if_neg (by have := hE.out.2; omega)])
      clear hE q0 q1
      go_wp2
      exact bodyPost_ret (v := .tuple #[.int .i64 0, .int .i64 0, .int .i64 0]) (by simp [results, Tryd.results43, go_sem]) rfl ⟨by rw [H.out], hb2⟩
set_option maxRecDepth 100000 in
set_option maxHeartbeats 4000000 in
theorem rwhole_any (L M : List Lv) (A1 A2 : Option Addr) (c1 c2 : Nat) (w : World) (h1 : RdLv w w.heap.size A1 L) (h2 : RdLv w w.heap.size A2 M) (hl1 : L.length ≤ 100000) (hl2 : M.length ≤ 100000) (hc1 : cnt L ≤ 10000) (hc2 : cnt M ≤ 10000) :
    Calls Tryd.prog 67 #[.agg #[.slice A1 L.length c1, .slice A2 M.length c2]] w fun e w' => e = .returned (.int .i64 (wholeE L M)) ∧ Below w.heap.size w w' := by
  have HL := Lib.hid h1; have HM := Lib.hid h2
  have cF1 := Lib.hid (fun w' h => rflat_any L A1 c1 w' h (by unfold maxLen; omega) (by omega))
  have cF2 := Lib.hid (fun w' h => rflat_any M A2 c2 w' h (by unfold maxLen; omega) (by omega))
  have hb : Below w.heap.size w (w.alloc (.cells #[.slice A1 L.length c1, .slice A2 M.length c2] 29)) := (Below.refl _ _).alloc (Nat.le_refl _) _
  have bb := Bk.new w 29 #[.slice A1 L.length c1, .slice A2 M.length c2]
  have HF1 := Lib.hid (flatL_len L); have HF2 := Lib.hid (flatL_len M)
  have HI := Lib.hid (show (flatL L ++ flatL M).map Rest.id = ids (L ++ M) by rw [List.map_append, flatL_ids, flatL_ids, ids_app])
  have hX : crossB L M = true ∨ crossB L M = false := by cases crossB L M <;> simp
  clear h1 h2
  go_enter Tryd.func67, Tryd.ntmps67
  go_upto_region 1 with fail
  generalize w.alloc (.cells #[.slice A1 L.length c1, .slice A2 M.length c2] 29) = w0 at *
  go_cut [27] (fun t wx => t = .bool (crossB L M) ∧ Bk wx w.heap.size 29 #[.slice A1 L.length c1, .slice A2 M.length c2] ∧ Below w.heap.size w wx)
  case first =>
    have q0 := bb.cell 0; have q1 := bb.cell 1
    simp at q0 q1
    have BB := Lib.hid bb
    have HB := Lib.hid hb
    clear bb hb
    rcases Nat.eq_zero_or_pos L.length with l0 | l0
    · have HC := Lib.hid (show crossB L M = false by rw [crossB, List.getElem?_eq_none (by omega)])
      have hg : decide (0 < L.length) = false := decide_eq_false (by omega)
      clear l0
      go_wp2
      go_quiet (fail)
      go_wp2
      go_meet
      case rel => exact ⟨by rw [HC.out], BB.out.drewN _, below_drewN HB.out _⟩
    · rcases Nat.eq_zero_or_pos M.length with m0 | m0
      · have HC := Lib.hid (show crossB L M = false by rw [crossB, List.getElem?_eq_none (l := M) (by omega)]; cases L[0]? <;> rfl)
        have hg : decide (0 < L.length) = true := decide_eq_true l0
        have hg2 : decide (0 < M.length) = false := decide_eq_false (by omega)
        clear l0 m0
        go_wp2
        go_quiet (fail)
        go_wp2
        go_meet
        case rel => exact ⟨by rw [HC.out], BB.out.drewN _, below_drewN HB.out _⟩
      · obtain ⟨b, off, x, Ar, cr, rfl, hbl, hx, e0, _⟩ := lv_at (HL.out.below HB.out) l0
        obtain ⟨b', off', y, Ar', cr', rfl, hbl', hy, f0, _⟩ := lv_at (HM.out.below HB.out) m0
        have HC := Lib.hid (show crossB L M = decide (y.price ≤ x.price) by rw [crossB, hx, hy])
        have hg : decide (0 < L.length) = true := decide_eq_true l0
        have hg2 : decide (0 < M.length) = true := decide_eq_true m0
        have hg3 : (0 : Int) < (L.length : Int) := by omega
        have hg4 : (0 : Int) < (M.length : Int) := by omega
        simp only [Nat.zero_mul, Nat.add_zero] at e0 f0
        clear hx hy l0 m0
        go_wp2
        go_quiet (fail)
        go_wp2
        go_meet
        case rel => exact ⟨by rw [HC.out], BB.out.drewN _, below_drewN HB.out _⟩
  clear hb bb
  obtain ⟨rfl, bb, hb⟩ := hcut
  cases hc : crossB L M
  · have HE := Lib.hid (show wholeE L M = if twice [] (ids (L ++ M)) then 7 else if 60 < cnt L + cnt M then 4 else 0 by rw [wholeE, hc]; rfl)
    clear hc hX
    obtain ⟨q0, q1⟩ := box2 bb
    go_wp2_with fail
    go_at_call 89
    refine (cF1.out wc (HL.out.on hb)).mono ?_
    rintro e w2 ⟨Af, cf, rfl, of_, hb2⟩
    have hb0 := hb.size
    replace bb := bb.keep hb2; replace hb := below_then hb2 hb
    have HO1 := Lib.hid of_
    have hw2 := hb2.size
    clear q0 q1 of_ hb2
    obtain ⟨q0, q1⟩ := box2 bb
    go_wp2_with fail
    go_at_call 89
    refine (cF2.out w2 (HM.out.on hb)).mono ?_
    rintro e w3 ⟨Ag, cg, rfl, og, hb3⟩
    have hw3 := hb3.size
    have hb' := below_then hb3 hb
    have HO2 := Lib.hid ((HO1.out.below hb3).lower hb0)
    have HS2 := Lib.hid (src_rests (c := cg) (og.rd (fun i j hi hj => rows_get hi hj)) (fun h => (og.none_cap h).1))
    have HL1 : (flatL L).length ≤ 10000 := by rw [HF1.out]; exact hc1
    have HL2 : (flatL M).length ≤ 10000 := by rw [HF2.out]; exact hc2
    have HE2 := Lib.hid (show wholeE L M = if twice [] ((flatL L ++ flatL M).map Rest.id) then 7 else if 60 < (flatL L).length + (flatL M).length then 4 else 0 by rw [HE.out, HI.out, HF1.out, HF2.out])
    have HRW := Lib.hid (rows_app (flatL L) (flatL M))
    clear q0 q1 hb3 og bb HE HI HF1 HF2 HO1 hc1 hc2 cF1 cF2 hl1 hl2
    generalize flatL L = fl at *
    generalize flatL M = fm at *
    obtain ⟨i0, hi0, hz0, hz1, hz2⟩ := info_parts info_rest
    have HI := Lib.hid hi0; have H0 := Lib.hid hz0; have H1 := Lib.hid hz1; have H2 := Lib.hid hz2
    clear hi0 hz0 hz1 hz2
    go_upto_region 5 with (at_builtin; go_loud (refine wpList_append_S (base := w.heap.size) (s := 5) (n := fl.length) (xs := rows fl) rfl _ _ _ _ rfl 23 i0 _ 40 Tryd.underlying24 HI.out H0.out H1.out H2.out rfl rfl HO2.out hb'.size _ rfl fm.length (rows fm) HS2.out (by unfold maxLen; omega) (by omega) ?_); intro A4 c4 w4 gr)
    have ow := gr.own
    rw [← HRW.out, show fl.length + fm.length = (fl ++ fm).length from (List.length_append ..).symm] at ow
    have cT := rtwice_any (fl ++ fm) A4 c4 w4 ((ow.rd (fun i j hi hj => rows_get hi hj))) (by rw [List.length_append]; omega) ow.le
    rw [List.length_append] at cT
    have CT := Lib.hid cT
    have hb4 := hb'.grown gr.grown hb'.size (fun k hk => (HO2.out.row_lt k hk).1)
    clear cT ow gr HS2 HO2
    go_wp2_with fail
    go_at_call 88
    refine CT.out.mono ?_
    rintro e w5 ⟨rfl, hb5⟩
    have hb6 := below_then hb5 hb4
    clear CT
    generalize twice [] ((fl ++ fm).map Rest.id) = tw at *
    cases tw
    · rcases Nat.lt_or_ge 60 (fl.length + fm.length) with h60 | h60
      · have hg : (60 : Int) < ((fl.length + fm.length : Nat) : Int) := by omega
        have HH := Lib.hid (show wholeE L M = 4 by rw [HE2.out, if_neg (by decide), if_pos h60])
        clear HE2
        go_wp2
        go_ret
        exact ⟨by rw [HH.out]; rfl, hb6⟩
      · have hg : ¬ (60 : Int) < ((fl.length + fm.length : Nat) : Int) := by omega
        have HH := Lib.hid (show wholeE L M = 0 by rw [HE2.out, if_neg (by decide), if_neg (by omega)])
        clear HE2
        go_wp2
        go_ret
        exact ⟨by rw [HH.out]; rfl, hb6⟩
    · have HH := Lib.hid (show wholeE L M = 7 by rw [HE2.out, if_pos rfl])
      clear HE2
      go_wp2
      go_ret
      exact ⟨by rw [HH.out]; rfl, hb6⟩
  · have HH := Lib.hid (show wholeE L M = 8 by rw [wholeE, hc]; rfl)
    clear hc
    go_wp2
    go_ret
    exact ⟨by rw [HH.out]; rfl, hb⟩
end Go.Proofs.YtbnjkcgkdpildaaDoor
