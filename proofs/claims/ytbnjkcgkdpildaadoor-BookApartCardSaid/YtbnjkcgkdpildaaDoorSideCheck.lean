/- The contract of side.Check. -/
import Derived.Test.YtbnjkcgkdpildaaDoorSideErr
import Derived.BigQuiet
import Derived.Deep.QuietTactic
namespace Go.Proofs.YtbnjkcgkdpildaaDoor
set_option linter.all false
open Go Go.RowKit
theorem other_any (s : Int) (hs : vs s = true) (w : World) : Calls Tryd.prog 49 #[.int .i64 s] w fun e w' => e = .returned (.int .i64 (3 - s)) ∧ w = w' := by
  have h := vs_t hs
  have x1 : IntKind.i64.wrap (3 - s) = 3 - s := IntWalk.i64_in _ (by omega)
  clear hs
  go_enter Tryd.func49, Tryd.ntmps49
  go_wp2
  go_ret
  exact ⟨rfl, rfl⟩
theorem sahead_any (s a b : Int) (hs : vs s = true) (w : World) : Calls Tryd.prog 34 #[.int .i64 s, .int .i64 a, .int .i64 b] w fun e w' => e = .returned (.bool (sAhd s a b)) ∧ w' = w := by
  have cO := fun w => other_any s hs w
  have cA := fun w => ahead_any (3 - s) a b w
  have HD := Lib.hid (show sAhd s a b = ahd' (3 - s) a b from rfl)
  clear hs
  generalize (3 : Int) - s = o at *
  go_enter Tryd.func34, Tryd.ntmps34
  go_wp2_with (first | (go_at_call 49; ((with_reducible refine (cO _).mono ?_); rintro e w' ⟨rfl, rfl⟩)) | (go_at_call 59; ((with_reducible refine (cA _).mono ?_); rintro e w' ⟨rfl, rfl⟩)))
  go_ret
  exact ⟨by rw [HD.out]; rfl, rfl⟩
theorem sprice_any (p : Int) (w : World) : Calls Tryd.prog 32 #[.int .i64 p] w fun e w' => e = .returned (errV (if vp p = true then 0 else 1)) ∧ w = w' := by
  cases h : vp p
  · go_enter Tryd.func32, Tryd.ntmps32
    go_wp2_with (go_at_call 57; refine (valid_any _ _).mono ?_; rintro e w' ⟨rfl, rfl⟩)
    go_ret
    exact ⟨rfl, rfl⟩
  · go_enter Tryd.func32, Tryd.ntmps32
    go_wp2_with (go_at_call 57; refine (valid_any _ _).mono ?_; rintro e w' ⟨rfl, rfl⟩)
    go_ret
    exact ⟨rfl, rfl⟩
theorem retE {a k : Int} (h : a = k) (h0 : k ≠ 0) : Ending.returned (er k) = .returned (errV a) := by rw [h, errV, if_neg h0]
theorem retE0 {a : Int} (h : a = 0) : Ending.returned .nilIface = .returned (errV a) := by rw [h]; rfl
set_option maxRecDepth 100000 in
set_option maxHeartbeats 2000000 in
theorem scheck_any (s : Int) (L : List Lv) (A : Option Addr) (c : Nat) (w : World) (hr : RdLv w w.heap.size A L) (hL : L.length ≤ maxLen) :
    Calls Tryd.prog 10 #[.int .i64 s, .slice A L.length c] w fun e w' => e = .returned (errV (sideE s L)) ∧ Below w.heap.size w w' := by
  unfold maxLen at hL
  cases hvs : vs s
  · have H := Lib.hid (show sideE s L = 1 by rw [sideE, if_pos hvs])
    go_enter Tryd.func10, Tryd.ntmps10
    go_wp2_with (go_at_call 27; refine (side_any _ _).mono ?_; rintro e w' ⟨rfl, rfl⟩)
    go_ret
    exact ⟨retE H.out (by omega), Below.refl _ _⟩
  have HV := Lib.hid hvs
  have HR := Lib.hid hr
  have HE := Lib.hid (show sideE s L = if lvErr s L ≠ 0 then lvErr s L else if 60 < cnt L then 4 else if twice [] (ids L) then 7 else 0 by rw [sideE, if_neg (by rw [hvs]; decide)])
  clear hr
  go_enter Tryd.func10, Tryd.ntmps10
  go_wp2_with (go_at_call 27; refine (side_any _ _).mono ?_; rintro e w' ⟨rfl, rfl⟩)
  clear hvs
  go_loopw [15] (fun i wr => ∃ k : Nat, k ≤ L.length ∧ i = .int .i64 k ∧ Below w.heap.size w wr ∧ Hid (∀ j, j < k → stepL s L j = 0)) (fun i _ => L.length - (intOf i).toNat)
  case atStart => exact ⟨0, by omega, rfl, Below.refl _ _, Lib.hid (fun j hj => absurd hj (by omega))⟩
  case round =>
    obtain ⟨k, hk, rfl, hb, hno⟩ := hrel
    by_cases hlt : k < L.length
    · obtain ⟨b, off, x, Ar, cr, rfl, hbl, hx, e0, e1, g1, g2, hrr⟩ := lv_at HR.out hlt
      have d0 := (hb.cell (p := ⟨b, _, none⟩) hbl).trans e0
      have d1 := (hb.cell (p := ⟨b, _, none⟩) hbl).trans e1
      clear e0 e1
      have HX := Lib.hid hx
      have HRR := Lib.hid hrr
      have G1 := Lib.hid g1
      have cP := fun w => sprice_any x.price w
      have hit : ∀ z, stepL s L k = z → z ≠ 0 → sideE s L = z := fun z hz h0 => by
        rw [HE.out, lvErr_hit hlt hno.out (by rw [hz]; exact h0), hz, if_pos h0]
      have HIT := Lib.hid hit
      have hst : stepL s L k = if vp x.price = false then 1 else if x.rs.length = 0 then 3 else if qErr x.rs ≠ 0 then qErr x.rs else if k = 0 then 0 else match L[k - 1]? with | none => 0 | some y => if sAhd s y.price x.price then 0 else 7 := by
        simp only [stepL, hx]; rfl
      have HS := Lib.hid hst
      clear hx hrr g1 g2 hit hst
      cases hvp : vp x.price
      · rw [hvp, show errV (if (false : Bool) = true then 0 else 1) = er 1 from rfl] at cP
        have H := HIT.out 1 (by rw [HS.out, if_pos hvp]) (by omega)
        clear hvp
        have H := Lib.hid H
        go_wp2_with (go_at_call 32; ((with_reducible refine (cP _).mono ?_); rintro e w' ⟨rfl, rfl⟩))
        go_ret
        exact ⟨retE H.out (by omega), below_then_alloc hb⟩
      rw [hvp, show errV (if (true : Bool) = true then 0 else 1) = .nilIface from rfl] at cP
      have HS2 := HS.out
      rw [if_neg (by rw [hvp]; decide)] at HS2
      clear HS hvp
      by_cases hl0 : x.rs.length = 0
      · have H := Lib.hid (HIT.out 3 (by rw [HS2, if_pos hl0]) (by omega))
        have hz : ((x.rs.length : Int) == 0) = true := by rw [beq_iff_eq]; omega
        clear hl0 HS2
        generalize x.rs.length = m at *
        go_wp2_with (go_at_call 32; ((with_reducible refine (cP _).mono ?_); rintro e w' ⟨rfl, rfl⟩))
        go_ret
        exact ⟨retE H.out (by omega), below_then_alloc hb⟩
      rw [if_neg hl0] at HS2
      have hz : ((x.rs.length : Int) == 0) = false := beq_eq_false_iff_ne.2 (by omega)
      clear hl0
      have HS2 := Lib.hid HS2
      go_wp2_with (go_at_call 32; ((with_reducible refine (cP _).mono ?_); rintro e w' ⟨rfl, rfl⟩))
      go_at_call 33
      have hb1 := below_then_alloc (o := .cells #[.int .i64 x.price, .slice Ar x.rs.length cr] 26) hb
      have bx := Bk.new wr 26 #[.int .i64 x.price, .slice Ar x.rs.length cr]
      generalize wr.alloc (.cells #[.int .i64 x.price, .slice Ar x.rs.length cr] 26) = w1 at *
      generalize wr.heap.size = gx at *
      refine (qcheck_any x.rs Ar cr w1 ((HRR.out.below hb1).more hb1.size) G1.out).mono ?_
      rintro e w2 ⟨rfl, hb2⟩
      have hb3 := below_then hb2 hb1
      replace bx := bx.keep hb2
      by_cases hq : qErr x.rs = 0
      · rw [hq, show errV 0 = .nilIface from rfl]
        have HS3 := HS2.out
        rw [if_neg (by rw [hq]; decide)] at HS3
        clear hq
        by_cases hk0 : k = 0
        · have H0 := Lib.hid (show stepL s L k = 0 by rw [HS3, if_pos hk0])
          have hg : decide ((0 : Int) < (k : Int)) = false := by simp; omega
          subst hk0
          clear HS3
          go_wp2
          go_quiet (fail)
          go_wp2
          go_roundw
          case rel =>
            refine ⟨0 + 1, by omega, by go_num, below_drewN hb3 _, Lib.hid (fun j hj => ?_)⟩
            obtain rfl : j = 0 := by omega
            exact H0.out
          case measure => simp [intOf]; omega
        · rw [if_neg hk0] at HS3
          obtain ⟨b', off', y, Ay, cy, he, hbl', hy, f0, _, _, _, _⟩ := lv_at (HR.out.below hb3) (k := k - 1) (by omega)
          cases he
          rw [hy] at HS3
          simp only at HS3
          have hg : (0 : Int) < (k : Int) := by omega
          obtain ⟨m, rfl⟩ : ∃ m, k = m + 1 := ⟨k - 1, by omega⟩
          simp only [Nat.add_sub_cancel] at f0 hy
          have x1 : IntKind.i64.wrap (((m + 1 : Nat) : Int) - 1) = (m : Int) := by rw [show ((m + 1 : Nat) : Int) - 1 = (m : Int) by omega]; exact IntWalk.i64_in _ (by omega)
          have hm0 : (0 : Int) ≤ (m : Int) := by omega
          have hm1 : (m : Int) < (L.length : Int) := by omega
          have q0 := bx.cell 0
          simp at q0
          have cA := fun w => sahead_any s y.price x.price HV.out w
          have HB3 := Lib.hid hb3
          clear hy hk0 d0 d1
          cases ha : sAhd s y.price x.price
          · rw [ha] at cA HS3
            have H := Lib.hid (HIT.out 7 (by rw [HS3]; rfl) (by omega))
            clear ha HS3
            have CA := Lib.hid cA
            clear cA
            go_wp2
            go_quiet ((go_at_call 34; exact Calls.quiet_of_same (CA.out _)))
            go_wp2
            go_ret
            exact ⟨retE H.out (by omega), below_drewN HB3.out _⟩
          · rw [ha] at cA HS3
            have H0 := Lib.hid (show stepL s L (m + 1) = 0 by rw [HS3]; rfl)
            clear ha HS3
            have CA := Lib.hid cA
            clear cA
            go_wp2
            go_quiet ((go_at_call 34; exact Calls.quiet_of_same (CA.out _)))
            go_wp2
            go_roundw
            case rel =>
              refine ⟨m + 1 + 1, by omega, by go_num, below_drewN HB3.out _, Lib.hid (fun j hj => ?_)⟩
              by_cases hj2 : j < m + 1
              · exact hno.out j hj2
              · obtain rfl : j = m + 1 := by omega
                exact H0.out
            case measure => simp [intOf]; omega
      · have H := Lib.hid (HIT.out (qErr x.rs) (by rw [HS2.out, if_pos hq]) hq)
        have HQ := Lib.hid hq
        rw [show errV (qErr x.rs) = er (qErr x.rs) by rw [errV, if_neg hq]]
        clear hq
        generalize qErr x.rs = z at *
        go_wp2
        go_ret
        exact ⟨retE H.out HQ.out, hb3⟩
    · obtain rfl : k = L.length := by omega
      have hl0 : lvErr s L = 0 := lvErr_none hno.out
      obtain ⟨hf1, hf2, hf3, hf4⟩ := lv_ok HV.out hl0
      have HE2 := HE.out
      rw [if_neg (by rw [hl0]; decide)] at HE2
      have cC := fun w' hr' => count_any L A c w' hr' (by unfold maxLen; omega) (by unfold maxLen; omega)
      have cT := fun w' hr' => twice_any L A c w' hr' (by unfold maxLen; omega) (by unfold maxLen; omega) hf4 (fun x hx => Nat.le_trans (hf2 x hx) (by unfold maxLen; omega))
      have CT := Lib.hid cT
      clear hl0 hf1 hf2 hf3 hf4 cT HE
      go_wp2_with fail
      go_at_call 35
      refine (cC _ (HR.out.on hb)).mono ?_
      rintro e w2 ⟨rfl, hb2⟩
      replace hb2 := below_then hb2 hb
      clear cC
      by_cases hc : 60 < cnt L
      · rw [if_pos hc] at HE2
        have hc' : (60 : Int) < (cnt L : Int) := by omega
        have H := Lib.hid HE2
        clear hc HE2
        generalize cnt L = n at *
        go_wp2
        go_ret
        exact ⟨retE H.out (by omega), hb2⟩
      · rw [if_neg hc] at HE2
        have hc' : (cnt L : Int) ≤ 60 := by omega
        clear hc
        generalize cnt L = n at *
        cases ht : twice [] (ids L)
        · rw [ht] at HE2 CT
          have H := Lib.hid HE2
          clear HE2 ht
          go_wp2_with fail
          go_at_call 36
          refine (CT.out _ (HR.out.on hb2)).mono ?_
          rintro e w3 ⟨rfl, hb3⟩
          go_wp2
          go_ret
          exact ⟨retE0 H.out, below_then hb3 hb2⟩
        · rw [ht] at HE2 CT
          have H := Lib.hid HE2
          clear HE2 ht
          go_wp2_with fail
          go_at_call 36
          refine (CT.out _ (HR.out.on hb2)).mono ?_
          rintro e w3 ⟨rfl, hb3⟩
          go_wp2
          go_ret
          exact ⟨retE (k := 7) H.out (by omega), below_then hb3 hb2⟩
end Go.Proofs.YtbnjkcgkdpildaaDoor
