/- The contracts of the reference's Book, Comes, With, Out. -/
import Derived.Test.YtbnjkcgkdpildaaDoorRBook
import Derived.Test.YtbnjkcgkdpildaaDoorGrpG
namespace Go.Proofs.YtbnjkcgkdpildaaDoor
set_option linter.all false
open Go Go.RowKit
theorem side_cnt {s : Int} {L : List Lv} (h : sideE s L = 0) : L.length ≤ 60 ∧ cnt L ≤ 60 := by
  have h := sideE_iff.1 h
  have h1 := full_len h.full
  have h2 := h.few
  omega
set_option maxRecDepth 100000 in
set_option maxHeartbeats 4000000 in
theorem rbook_any (L M : List Lv) (A1 A2 : Option Addr) (c1 c2 : Nat) (w : World) (h1 : RdLv w w.heap.size A1 L) (h2 : RdLv w w.heap.size A2 M) (k1 : L.length ≤ maxLen) (k2 : M.length ≤ maxLen) :
    Calls Tryd.prog 41 #[.agg #[.slice A1 L.length c1, .slice A2 M.length c2]] w fun e w' => e = .returned (.int .i64 (bookE L M)) ∧ Below w.heap.size w w' := by
  have HL := Lib.hid h1; have HM := Lib.hid h2
  have cL1 := Lib.hid (fun w' h => rlevels_any 1 L A1 c1 w' h k1)
  have cL2 := Lib.hid (fun w' h => rlevels_any 2 M A2 c2 w' h k2)
  have cW := Lib.hid (fun (a : sideE 1 L = 0) (b : sideE 2 M = 0) w' h h' => rwhole_any L M A1 A2 c1 c2 w' h h' (by have := side_cnt a; omega) (by have := side_cnt b; omega) (by have := side_cnt a; omega) (by have := side_cnt b; omega))
  have hb : Below w.heap.size w (w.alloc (.cells #[.slice A1 L.length c1, .slice A2 M.length c2] 29)) := (Below.refl _ _).alloc (Nat.le_refl _) _
  have bb := Bk.new w 29 #[.slice A1 L.length c1, .slice A2 M.length c2]
  clear h1 h2 k1 k2
  go_enter Tryd.func41, Tryd.ntmps41
  go_upto_region 1 with fail
  generalize w.alloc (.cells #[.slice A1 L.length c1, .slice A2 M.length c2] 29) = w0 at *
  obtain ⟨q0, q1⟩ := box2 bb
  have c1' := Lib.hid (cL1.out w0 (HL.out.on hb))
  clear cL1
  go_wp2_with fail
  go_at_call 66
  refine c1'.out.mono ?_
  rintro e w2 ⟨rfl, hb2⟩
  replace bb := bb.keep hb2; replace hb := below_then hb2 hb
  clear q0 q1 hb2 c1'
  obtain ⟨q0, q1⟩ := box2 bb
  by_cases h0 : sideE 1 L = 0
  · have H0 := Lib.hid h0
    rw [h0]
    clear h0
    have c2' := Lib.hid (cL2.out w2 (HM.out.on hb))
    clear cL2
    go_wp2_with fail
    go_at_call 66
    refine c2'.out.mono ?_
    rintro e w3 ⟨rfl, hb2⟩
    replace bb := bb.keep hb2; replace hb := below_then hb2 hb
    clear q0 q1 hb2 c2'
    obtain ⟨q0, q1⟩ := box2 bb
    by_cases h0 : sideE 2 M = 0
    · have HW := Lib.hid (cW.out H0.out h0 w3 (HL.out.on hb) (HM.out.on hb))
      have HE := Lib.hid (show bookE L M = wholeE L M by rw [bookE, if_neg (by simp [H0.out]), if_neg (by simp [h0])])
      rw [h0]
      clear h0 cW H0
      go_wp2_with fail
      go_at_call 67
      refine HW.out.mono ?_
      rintro e w4 ⟨rfl, hb2⟩
      replace hb := below_then hb2 hb
      go_wp2
      go_ret
      exact ⟨by (rw [HE.out]) <;> rfl, hb⟩
    · have HE := Lib.hid (show bookE L M = sideE 2 M by rw [bookE, if_neg (by simp [H0.out]), if_pos h0])
      have e1 : (sideE 2 M == 0) = false := by simpa using h0
      clear h0 cW H0
      generalize sideE 2 M = z at *
      go_wp2
      go_ret
      exact ⟨by (rw [HE.out]) <;> rfl, hb⟩
  · have HE := Lib.hid (show bookE L M = sideE 1 L by rw [bookE, if_pos h0])
    have e1 : (sideE 1 L == 0) = false := by simpa using h0
    clear h0 cW
    generalize sideE 1 L = z at *
    go_wp2
    go_ret
    exact ⟨by (rw [HE.out]) <;> rfl, hb⟩
set_option maxRecDepth 100000 in
set_option maxHeartbeats 4000000 in
theorem rcomes_any (L M : List Lv) (o : Order) (A1 A2 : Option Addr) (c1 c2 : Nat) (w : World) (h1 : RdLv w w.heap.size A1 L) (h2 : RdLv w w.heap.size A2 M) (k1 : L.length ≤ maxLen) (k2 : M.length ≤ maxLen) :
    Calls Tryd.prog 13 #[.agg #[.slice A1 L.length c1, .slice A2 M.length c2], .agg #[.int .i64 o.id, .int .i64 o.who, .int .i64 o.side, .int .i64 o.kind, .int .i64 o.price, .int .i64 o.qty, .int .i64 o.show_, .int .i64 o.stop]] w fun e w' => e = .returned (.int .i64 (readyE L M o)) ∧ Below w.heap.size w w' := by
  have HL := Lib.hid h1; have HM := Lib.hid h2
  have cB := Lib.hid (fun w' h h' => rbook_any L M A1 A2 c1 c2 w' h h' k1 k2)
  have cF := Lib.hid (fun (a : bookE L M = 0) w' h h' => rfind_any L M A1 A2 c1 c2 o.id w' h h' ⟨k1, fun x hx => by have a := bookE_iff.1 a; have := len_cnt hx; have := a.buys.few; unfold maxLen; omega⟩ ⟨k2, fun x hx => by have a := bookE_iff.1 a; have := len_cnt hx; have := a.sells.few; unfold maxLen; omega⟩)
  have hb : Below w.heap.size w ((w.alloc (.cells #[.slice A1 L.length c1, .slice A2 M.length c2] 29)).alloc (.cells #[.int .i64 o.id, .int .i64 o.who, .int .i64 o.side, .int .i64 o.kind, .int .i64 o.price, .int .i64 o.qty, .int .i64 o.show_, .int .i64 o.stop] 36)) := below_then_alloc ((Below.refl _ _).alloc (Nat.le_refl _) _)
  have bb := (Bk.new w 29 #[.slice A1 L.length c1, .slice A2 M.length c2]).alloc (.cells #[.int .i64 o.id, .int .i64 o.who, .int .i64 o.side, .int .i64 o.kind, .int .i64 o.price, .int .i64 o.qty, .int .i64 o.show_, .int .i64 o.stop] 36)
  have bo := Bk.at_ (w := w.alloc (.cells #[.slice A1 L.length c1, .slice A2 M.length c2] 29)) (g' := w.heap.size + 1) (by simp) 36 #[.int .i64 o.id, .int .i64 o.who, .int .i64 o.side, .int .i64 o.kind, .int .i64 o.price, .int .i64 o.qty, .int .i64 o.show_, .int .i64 o.stop]
  clear h1 h2 k1 k2
  go_enter Tryd.func13, Tryd.ntmps13
  go_upto_region 1 with fail
  generalize (w.alloc (.cells #[.slice A1 L.length c1, .slice A2 M.length c2] 29)).alloc (.cells #[.int .i64 o.id, .int .i64 o.who, .int .i64 o.side, .int .i64 o.kind, .int .i64 o.price, .int .i64 o.qty, .int .i64 o.show_, .int .i64 o.stop] 36) = w0 at *
  obtain ⟨q0, q1⟩ := box2 bb
  have c1' := Lib.hid (cB.out w0 (HL.out.on hb) (HM.out.on hb))
  clear cB
  go_wp2_with fail
  go_at_call 41
  refine c1'.out.mono ?_
  rintro e w2 ⟨rfl, hb2⟩
  replace bb := bb.keep hb2; replace bo := bo.keep hb2; replace hb := below_then hb2 hb
  clear q0 q1 hb2 c1'
  obtain ⟨o0, o1, o2, o3, o4, o5, o6, o7⟩ := box8o bo
  by_cases h0 : bookE L M = 0
  · have H0 := Lib.hid h0
    rw [h0]
    have cF' := Lib.hid (cF.out h0)
    have cO := Lib.hid (rorder_any o)
    clear h0 cF
    go_wp2_with fail
    go_at_call 42
    refine (cO.out w2).mono ?_
    rintro e w3 ⟨rfl, rfl⟩
    replace bb := bb.alloc (.cells #[.int .i64 o.id, .int .i64 o.who, .int .i64 o.side, .int .i64 o.kind, .int .i64 o.price, .int .i64 o.qty, .int .i64 o.show_, .int .i64 o.stop] 36); replace bo := bo.alloc (.cells #[.int .i64 o.id, .int .i64 o.who, .int .i64 o.side, .int .i64 o.kind, .int .i64 o.price, .int .i64 o.qty, .int .i64 o.show_, .int .i64 o.stop] 36); replace hb := below_then_alloc (o := .cells #[.int .i64 o.id, .int .i64 o.who, .int .i64 o.side, .int .i64 o.kind, .int .i64 o.price, .int .i64 o.qty, .int .i64 o.show_, .int .i64 o.stop] 36) hb
    generalize w2.alloc (.cells #[.int .i64 o.id, .int .i64 o.who, .int .i64 o.side, .int .i64 o.kind, .int .i64 o.price, .int .i64 o.qty, .int .i64 o.show_, .int .i64 o.stop] 36) = w3 at *
    clear o0 o1 o2 o3 o4 o5 o6 o7 cO
    obtain ⟨o0, o1, o2, o3, o4, o5, o6, o7⟩ := box8o bo
    obtain ⟨q0, q1⟩ := box2 bb
    by_cases h1 : o.err = 0
    · have H1 := Lib.hid h1
      rw [h1]
      clear h1
      by_cases h2 : o.stop = 0
      · have HE := Lib.hid (show readyE L M o = if (whereB L M o.id).1 ≠ 0 then 7 else 0 by rw [readyE, if_neg (by simp [H0.out]), if_neg (by simp [H1.out]), if_neg (by simp [h2])])
        have e2 : (o.stop != 0) = false := by simpa using h2
        have HF := Lib.hid (cF'.out w3 (HL.out.on hb) (HM.out.on hb))
        clear h2 cF' H0 H1
        go_wp2_with fail
        go_at_call 43
        refine HF.out.mono ?_
        rintro e w4 ⟨rfl, hb2⟩
        replace hb := below_then hb2 hb
        clear HF
        generalize whereB L M o.id = z at *
        obtain ⟨z1, z2, z3⟩ := z
        dsimp only at *
        by_cases h3 : z1 = 0
        · have HH := Lib.hid (show readyE L M o = 0 by rw [HE.out, if_neg (by simp [h3])])
          have e3 : (z1 != 0) = false := by simpa using h3
          clear h3 HE
          go_wp2
          go_ret
          exact ⟨by (rw [HH.out]) <;> rfl, hb⟩
        · have HH := Lib.hid (show readyE L M o = 7 by rw [HE.out, if_pos h3])
          have e3 : (z1 != 0) = true := by simpa using h3
          clear h3 HE
          go_wp2
          go_ret
          exact ⟨by (rw [HH.out]) <;> rfl, hb⟩
      · have HE := Lib.hid (show readyE L M o = 6 by rw [readyE, if_neg (by simp [H0.out]), if_neg (by simp [H1.out]), if_pos h2])
        have e2 : (o.stop != 0) = true := by simpa using h2
        clear h2 cF' H0 H1
        go_wp2
        go_ret
        exact ⟨by (rw [HE.out]) <;> rfl, hb⟩
    · have HE := Lib.hid (show readyE L M o = o.err by rw [readyE, if_neg (by simp [H0.out]), if_pos h1])
      have e2 : (o.err != 0) = true := by simpa using h1
      clear h1 cF' H0
      generalize o.err = z at *
      go_wp2
      go_ret
      exact ⟨by (rw [HE.out]) <;> rfl, hb⟩
  · have HE := Lib.hid (show readyE L M o = bookE L M by rw [readyE, if_pos h0])
    have e1 : (bookE L M == 0) = false := by simpa using h0
    have e2 : (bookE L M != 0) = true := by simpa using h0
    clear h0 cF
    generalize bookE L M = z at *
    go_wp2
    go_ret
    exact ⟨by (rw [HE.out]) <;> rfl, hb⟩
end Go.Proofs.YtbnjkcgkdpildaaDoor
