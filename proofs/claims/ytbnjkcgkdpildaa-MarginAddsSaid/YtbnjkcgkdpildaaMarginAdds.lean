/- MarginAdds holds: for all arguments the law's function returns true. No condition. -/
import Derived.Test.YtbnjkcgkdpildaaMadLaw
import Derived.Test.YtbnjkcgkdpildaaBookFind
import Derived.Test.YtbnjkcgkdpildaaBookArg
import Derived.Test.YtbnjkcgkdpildaaStructArg
namespace Go.Proofs.Ytbnjkcgkdpildaa
set_option linter.all false
open Go Go.RowKit Go.ChangeShapes Go.WideShapes
def maO : Order := ⟨2, 2, 1, 1, 100, 7, 0, 0⟩
theorem ma_for (w : World) : Calls Try.prog 33 #[.agg #[.int .i64 2, .int .i64 2, .int .i64 1, .int .i64 1, .int .i64 100, .int .i64 7, .int .i64 0, .int .i64 0]] w fun e w' => e = .returned (.tuple #[.int .i64 700, .int .i64 0, .nilIface]) ∧ Below w.heap.size w w' := for_ok maO (by decide) w
set_option maxRecDepth 100000 in
set_option maxHeartbeats 4000000 in
theorem marginAdds_any (L M : List Lv) (o : Order) (A1 A2 : Option Addr) (c1 c2 : Nat) (w : World) (h1 : RdLv w w.heap.size A1 L) (h2 : RdLv w w.heap.size A2 M) (hl1 : L.length ≤ maxLen) (hl2 : M.length ≤ maxLen) (hA1 : A1 = none → c1 = 0) (hA2 : A2 = none → c2 = 0) :
    Calls Try.prog 10 #[.agg #[.slice A1 L.length c1, .slice A2 M.length c2], .agg #[.int .i64 o.id, .int .i64 o.who, .int .i64 o.side, .int .i64 o.kind, .int .i64 o.price, .int .i64 o.qty, .int .i64 o.show_, .int .i64 o.stop]] w fun e w' => e = .returned (.bool true) ∧ Below w.heap.size w w' := by
  have HL := Lib.hid h1; have HM := Lib.hid h2
  have cF := Lib.hid (fun w => ma_for w)
  have cP := Lib.hid (fun w' h h' => kdo_law L M o A1 A2 c1 c2 w' h h' hl1 hl2 hA1 hA2)
  have hb : Below w.heap.size w ((w.alloc (.cells #[.slice A1 L.length c1, .slice A2 M.length c2] 24)).alloc (.cells #[.int .i64 o.id, .int .i64 o.who, .int .i64 o.side, .int .i64 o.kind, .int .i64 o.price, .int .i64 o.qty, .int .i64 o.show_, .int .i64 o.stop] 36)) := below_then_alloc ((Below.refl _ _).alloc (Nat.le_refl _) _)
  have bb := (Bk.new w 24 #[.slice A1 L.length c1, .slice A2 M.length c2]).alloc (.cells #[.int .i64 o.id, .int .i64 o.who, .int .i64 o.side, .int .i64 o.kind, .int .i64 o.price, .int .i64 o.qty, .int .i64 o.show_, .int .i64 o.stop] 36)
  have bo := Bk.at_ (w := w.alloc (.cells #[.slice A1 L.length c1, .slice A2 M.length c2] 24)) (g' := w.heap.size + 1) (by simp) 36 #[.int .i64 o.id, .int .i64 o.who, .int .i64 o.side, .int .i64 o.kind, .int .i64 o.price, .int .i64 o.qty, .int .i64 o.show_, .int .i64 o.stop]
  clear h1 h2 hA1 hA2
  go_enter Try.func10, Try.ntmps10
  go_upto_region 1 with fail
  generalize (w.alloc (.cells #[.slice A1 L.length c1, .slice A2 M.length c2] 24)).alloc (.cells #[.int .i64 o.id, .int .i64 o.who, .int .i64 o.side, .int .i64 o.kind, .int .i64 o.price, .int .i64 o.qty, .int .i64 o.show_, .int .i64 o.stop] 36) = w0 at *
  go_wp2_with fail
  go_at_call 33
  refine (cF.out _).mono ?_
  rintro e w1 ⟨rfl, hb1⟩
  replace bb := bb.keep hb1; replace bo := bo.keep hb1; replace hb := below_then hb1 hb
  clear hb1 cF
  obtain ⟨q0, q1⟩ := box2 bb
  have k8 := box8o bo
  have cP2 := Lib.hid (cP.out w1 (HL.out.on hb) (HM.out.on hb))
  clear cP
  go_wp2_with fail
  go_at_call 28
  refine cP2.out.mono ?_
  rintro e w3 ⟨X1, n1, e1', X2, n2, e2', AT', nT, cT', gone, ev, rfl, hK, hb3⟩
  replace bo := bo.keep hb3; replace hb := below_then hb3 hb
  clear cP2 bb q0 q1 k8
  rcases hK.out with ⟨z, hz, rfl⟩ | ⟨rfl, hr, T, rests, L', M', v1, v2, hk, rfl, rfl, rfl, o1, o2, ot⟩
  · have HN := Lib.hid hz
    clear hz hb3 hK
    go_wp2
    go_ret
    exact ⟨rfl, below_then_alloc hb⟩
  go_upto_region 5 with fail
  have by_ := Bk.new w3 24 #[.slice X1 L'.length e1', .slice X2 M'.length e2']
  have hba : Below w3.heap.size w3 (w3.alloc (.cells #[.slice X1 L'.length e1', .slice X2 M'.length e2'] 24)) := (Below.refl _ _).alloc (Nat.le_refl _) _
  replace bo := bo.keep hba; replace hb := below_then hba hb
  have HX := Lib.hid (o1.rd.on hba); have HY := Lib.hid (o2.rd.on hba)
  have HT := Lib.hid (((ot.rd (fun i j hi hj => trows_get hi hj)).below hba).more hba.size)
  have ho := (readyE_iff.1 hr).2.1
  have HO := Lib.hid ho
  have HQ := Lib.hid (Order.err_ok ho)
  have HT2 := Lib.hid (show ∀ t ∈ T, (1 ≤ t.price ∧ t.price ≤ 10000) ∧ 1 ≤ t.qty ∧ t.qty ≤ 10000 from fun t ht => ⟨vp_t (hk.tr t ht).price, (hk.tr t ht).q1, by have := (hk.tr t ht).q2; have := HQ.out.2.2.2.2.2.1; omega⟩)
  have hTl : T.length ≤ maxLen := Nat.le_trans ot.le ot.max
  have hTn : T.length ≤ 10000 := by
    have h1 := sumT_len (fun t ht => (hk.tr t ht).q1 : ∀ t ∈ T, 1 ≤ t.qty)
    have h2 := hk.sum; have h3 := hk.gone0; have h4 := hk.rests0; have h5 := HQ.out.2.2.2.2.2.1
    omega
  have hMad := mad ho hk
  have S1 := Lib.hid hk.ok.sizes
  have HKK := Lib.hid hk
  have cFo := Lib.hid (fun w => for_ok o ho w)
  have cBa := Lib.hid (fun w' h => mback_any o T AT' cT' gone w' h hTl)
  rw [if_neg (show ¬ o.err ≠ 0 by simpa using ho), hMad.back] at cBa
  have HMC := Lib.hid hMad.c; have HMD := Lib.hid hMad.d; have HCB := Lib.hid hMad.cb; have HDB := Lib.hid hMad.db
  have hFq := prod_bd (lim_bd ho).1 (lim_bd ho).2 (by have := HQ.out.2.2.2.2.2.1; omega : (0 : Int) ≤ o.qty) (by have := HQ.out.2.2.2.2.2.1; omega)
  have HFC := Lib.hid (show 0 ≤ mcash o.side o.lim o.qty ∧ mcash o.side o.lim o.qty ≤ 100000000 by unfold mcash; split <;> omega)
  have HFS := Lib.hid (show 0 ≤ mstock o.side o.qty ∧ mstock o.side o.qty ≤ 10000 by have := HQ.out.2.2.2.2.2.1; unfold mstock; split <;> omega)
  clear hba o1 o2 ot hK hb3 hr hk ho hMad hFq
  generalize w3.alloc (.cells #[.slice X1 L'.length e1', .slice X2 M'.length e2'] 24) = w4 at *
  generalize backC o T gone = BC at *
  generalize mstock o.side gone = BS at *
  generalize mcash o.side o.lim o.qty = FC at *
  generalize mstock o.side o.qty = FS at *
  have k8 := box8o bo
  go_wp2_with fail
  go_at_call 33
  refine (cFo.out _).mono ?_
  rintro e w5 ⟨rfl, hb5⟩
  replace bo := bo.keep hb5; replace by_ := by_.keep hb5; replace hb := below_then hb5 hb
  have HX5 := Lib.hid (HX.out.on hb5); have HY5 := Lib.hid (HY.out.on hb5)
  have HT5 := Lib.hid ((HT.out.below hb5).more hb5.size)
  clear hb5 k8 cFo HX HY HT
  have k8 := box8o bo
  go_wp2_with fail
  go_at_call 34
  refine (cBa.out _ HT5.out).mono ?_
  rintro e w6 ⟨rfl, hb6⟩
  dsimp only
  rw [show errV 0 = .nilIface from rfl]
  replace bo := bo.keep hb6; replace by_ := by_.keep hb6; replace hb := below_then hb6 hb
  have HX6 := Lib.hid (HX5.out.on hb6); have HY6 := Lib.hid (HY5.out.on hb6)
  have HT6 := Lib.hid ((HT5.out.below hb6).more hb6.size)
  clear hb6 k8 cBa HX5 HY5 HT5
  go_wp2_with fail
  go_loopw [15, 16, 18] (fun c d i wr => ∃ k : Nat, k ≤ T.length ∧ i = .int .i64 k ∧ c = .int .i64 (cAt o BC T k) ∧ d = .int .i64 (dAt o BS T k) ∧ Below w6.heap.size w6 wr) (fun _ _ i _ => T.length - (intOf i).toNat)
  case atStart => exact ⟨0, by omega, rfl, by rw [cAt_zero], by rw [dAt_zero], Below.refl _ _⟩
  case round =>
    obtain ⟨k, hk, rfl, rfl, rfl, hbl⟩ := hrel
    by_cases hlt : k < T.length
    · obtain ⟨b, off, t, rfl, hbt, ht, e0, e1, e2, e3, e4, e5⟩ := tr_at (HT6.out.below hbl) hlt
      have hj1 : (k : Int) < (T.length : Int) := by omega
      have hj0 : (0 : Int) ≤ (k : Int) := by omega
      have hq1 := HT2.out t (List.mem_of_getElem? ht)
      have hC := HCB.out k; have hD := HDB.out k
      have hC2 := HCB.out (k + 1); have hD2 := HDB.out (k + 1)
      rw [cAt_next ht] at hC2
      rw [dAt_next ht] at hD2
      have HC := Lib.hid (cAt_next (o := o) (c := BC) ht); have HD := Lib.hid (dAt_next (o := o) (d := BS) ht)
      obtain ⟨y0, y1, y2, y3, y4, y5, y6, y7⟩ := box8o (bo.keep hbl)
      have l1 : ¬ t.price < 1 := by omega
      have l2 : ¬ (10000 : Int) < t.price := by omega
      have l3 : ¬ t.qty < 1 := by omega
      have l4 : ¬ (10000 : Int) < t.qty := by omega
      have hpr := prod_bd (a := t.price) (b := t.qty) (by omega) (by omega) (by omega) (by omega)
      have x4 : IntKind.i64.wrap (t.price * t.qty) = t.price * t.qty := IntWalk.i64_in _ (by omega)
      have x3 : IntKind.i64.wrap (cAt o BC T k + t.price * t.qty) = cAt o BC T k + t.price * t.qty := IntWalk.i64_in _ (by omega)
      have x5 : IntKind.i64.wrap (dAt o BS T k + t.qty) = dAt o BS T k + t.qty := IntWalk.i64_in _ (by omega)
      by_cases hs : o.side = 1
      · have s1 : (o.side == 1) = true := by simpa using hs
        have HC2 := Lib.hid (HC.out.trans (if_pos hs)); have HD2 := Lib.hid (HD.out.trans (if_pos hs))
        clear ht hC hC2 hD hD2 hq1 hbt hs HC HD
        generalize cAt o BC T k = S at *
        generalize dAt o BS T k = D at *
        go_wp2_with fail
        go_quiet (fail)
        go_wp2
        go_roundw
        case rel => exact ⟨k + 1, by omega, by go_num, by rw [HC2.out], by rw [HD2.out], below_drewN hbl _⟩
        case measure => simp [intOf]; omega
      · have s1 : (o.side == 1) = false := by simpa using hs
        have HC2 := Lib.hid (HC.out.trans (if_neg hs)); have HD2 := Lib.hid (HD.out.trans (if_neg hs))
        clear ht hC hC2 hD hD2 hq1 hbt hs HC HD
        generalize cAt o BC T k = S at *
        generalize dAt o BS T k = D at *
        go_wp2
        go_roundw
        case rel => exact ⟨k + 1, by omega, by go_num, by rw [HC2.out], by rw [HD2.out], hbl⟩
        case measure => simp [intOf]; omega
    · obtain rfl : k = T.length := by omega
      replace bo := bo.keep hbl; replace by_ := by_.keep hbl; replace hb := below_then hbl hb
      have HX7 := Lib.hid (HX6.out.on hbl); have HY7 := Lib.hid (HY6.out.on hbl)
      have hmd := HKK.out.find
      have hbE : bookE L' M' = 0 := bookE_iff.2 HKK.out.ok
      have HBE := Lib.hid hbE
      have HRO := Lib.hid (restOf_sum o rests)
      have HR0 := Lib.hid HKK.out.rests0
      have hC := HCB.out T.length; have hD := HDB.out T.length
      have hmc := HMC.out; have hmd2 := HMD.out
      have HBO := Lib.hid HKK.out.ok
      clear hbl hlt HX6 HY6 HT6 HT2 HMC HMD HCB HDB hbE HKK
      generalize cAt o BC T T.length = C at *
      generalize dAt o BS T T.length = D at *
      obtain ⟨y0, y1, y2, y3, y4, y5, y6, y7⟩ := box8o bo
      obtain ⟨x0, x1⟩ := box2 by_
      rcases hmd with ⟨rfl, hno⟩ | ⟨hpos, hyes, hat⟩
      · have hz : bfE L' M' o.id = 5 := by rw [bfE, HBE.out, if_neg (by simp), if_pos hno]
        have cFi := Lib.hid (bfind_any L' M' X1 X2 e1' e2' o.id wr HX7.out HY7.out S1.out.1.1 S1.out.2.1 5 hz.symm)
        have m0 : mcash o.side o.price 0 = 0 := by unfold mcash; split <;> simp
        have m1 : mstock o.side 0 = 0 := by unfold mstock; split <;> simp
        rw [m0] at hmc
        rw [m1] at hmd2
        have p1 : (C == FC) = true := by simp; omega
        have p2 : (D == FS) = true := by simp; omega
        clear hz hno m0 m1 hmc hmd2
        go_wp2_with fail
        go_at_call 23
        refine cFi.out.mono ?_
        rintro e w7 ⟨a5, p5, g0, g1, g2, g3, g4, ev5, rfl, h5, hb5⟩
        rcases h5.out with ⟨_, rfl, rfl, rfl, hq5⟩ | ⟨h, _⟩
        case inr => exact absurd h (by decide)
        replace hb := below_then hb5 hb
        clear h5 hb5 cFi HX7 HY7 x0 x1 y0 y1 y2 y3 y4 y5 y6 y7 hq5 by_ bo
        go_wp2
        go_ret
        exact ⟨rfl, below_then_alloc hb⟩
      · have hz : bfE L' M' o.id = 0 := by rw [bfE, HBE.out, if_neg (by simp), if_neg hyes]
        have cFi := Lib.hid (bfind_any L' M' X1 X2 e1' e2' o.id wr HX7.out HY7.out S1.out.1.1 S1.out.2.1 0 hz.symm)
        have HAT := Lib.hid hat
        have HMC := Lib.hid hmc; have HMD := Lib.hid hmd2
        clear hz hyes hat hmc hmd2
        go_wp2_with fail
        go_at_call 23
        refine cFi.out.mono ?_
        rintro e w7 ⟨a5, p5, g0, g1, g2, g3, g4, ev5, rfl, h5, hb5⟩
        rcases h5.out with ⟨h, _⟩ | ⟨_, rfl, s', i', k', x', q', hat, rfl, rfl, hq5⟩
        case inl => exact absurd rfl h
        obtain ⟨rfl, hpx, hqr⟩ := HAT.out _ _ _ _ _ hat
        have hxm : x' ∈ sidL o.side L' M' := List.mem_of_getElem? hat.at_.lv
        have hqm : q' ∈ x'.rs := List.mem_of_getElem? hat.at_.rest
        have herr : q'.err = 0 ∧ vp x'.price = true ∧ vs o.side = true := by
          refine ⟨?_, ?_, hat.side⟩
          · rcases side_two hat.side with h | h
            · rw [h] at hxm; exact HBO.out.buys.sound x' hxm q' hqm
            · rw [h] at hxm; exact HBO.out.sells.sound x' hxm q' hqm
          · rcases side_two hat.side with h | h
            · rw [h] at hxm; exact HBO.out.buys.price x' hxm
            · rw [h] at hxm; exact HBO.out.sells.price x' hxm
        rw [hpx] at herr ⊢
        have hlE : leftE q' o.side o.price = 0 := by rw [leftE, herr.1, herr.2.1, herr.2.2]; rfl
        rw [← hq5] at hlE
        have cLe := Lib.hid (fun w => left_ok ⟨g0, g1, g2, g3, g4⟩ o.side o.price w hlE)
        have hR := HRO.out.1
        rw [← hqr, ← hq5] at hR
        dsimp only at hR cLe
        rw [hR] at cLe
        replace hb := below_then hb5 hb
        clear h5 hb5 cFi HX7 HY7 x0 x1 y0 y1 y2 y3 y4 y5 y6 y7 hq5 hqr hpx hat HRO hR hlE herr hxm hqm by_ bo
        go_upto_region 20 with fail
        have br := Bk.new w7 26 #[.int .i64 g0, .int .i64 g1, .int .i64 g2, .int .i64 g3, .int .i64 g4]
        replace hb := below_then_alloc (o := .cells #[.int .i64 g0, .int .i64 g1, .int .i64 g2, .int .i64 g3, .int .i64 g4] 26) hb
        generalize w7.alloc (.cells #[.int .i64 g0, .int .i64 g1, .int .i64 g2, .int .i64 g3, .int .i64 g4] 26) = w8 at *
        obtain ⟨z0, z1, z2, z3, z4⟩ := pbox5 br
        go_wp2_with fail
        go_at_call 35
        refine (cLe.out _).mono ?_
        rintro e w9 ⟨rfl, hb9⟩
        replace hb := below_then hb9 hb
        have hmc := HMC.out; have hmd2 := HMD.out
        clear hb9 cLe z0 z1 z2 z3 z4 br HMC HMD
        generalize mcash o.side o.price rests = LC at *
        generalize mstock o.side rests = LS at *
        have hFC := HFC.out; have hFS := HFS.out
        have j1 : IntKind.i64.wrap (C + LC) = C + LC := IntWalk.i64_in _ (by omega)
        have j2 : IntKind.i64.wrap (D + LS) = D + LS := IntWalk.i64_in _ (by omega)
        have p1 : (C + LC == FC) = true := by simp; omega
        have p2 : (D + LS == FS) = true := by simp; omega
        clear hmc hmd2
        go_wp2
        go_ret
        exact ⟨rfl, hb⟩
theorem marginAdds_law {H : Type} {enc : TypeId × Value → H} {v0 v1 : Value} {d0 d1 : DataW H} {p0 p1 : List MemPlace} {base : Nat} {W : World}
    (h0 : Arg enc W base 24 v0 d0 p0) (h1 : Arg enc W base 36 v1 d1 p1) :
    Calls Try.prog 10 #[v0, v1] W fun e w' => e = .returned (.bool true) ∧ Below W.heap.size W w' := by
  obtain ⟨A1, L, c1, A2, M, c2, rfl, hl1, hl2, hA1, hA2, hr1, hr2⟩ := h0.book
  obtain ⟨o, rfl⟩ := h1.order
  exact marginAdds_any L M o A1 A2 c1 c2 W hr1 hr2 hl1 hl2 hA1 hA2
end Go.Proofs.Ytbnjkcgkdpildaa
