/- KindsKeep holds: for all arguments the law's function returns true. No condition. -/
import Derived.Test.YtbnjkcgkdpildaaKDoLaw
import Derived.Test.YtbnjkcgkdpildaaBookFind
import Derived.Test.YtbnjkcgkdpildaaBookArg
import Derived.Test.YtbnjkcgkdpildaaStructArg
namespace Go.Proofs.Ytbnjkcgkdpildaa
set_option linter.all false
open Go Go.RowKit Go.ChangeShapes Go.WideShapes
def kkO : Order := ⟨2, 2, 1, 1, 101, 7, 3, 0⟩
def kkL : List Lv := [⟨101, [⟨2, 2, 3, 4, 3⟩]⟩]
def KkPost (w : World) (e : Ending) (w' : World) : Prop :=
  ∃ A1 c1 A2 c2 AT cT, e = .returned (.tuple #[.agg #[.slice A1 1 c1, .slice A2 0 c2], .slice AT 0 cT, .int .i64 0, .nilIface]) ∧ Hid (RdLv w' w'.heap.size A1 kkL) ∧ Below w.heap.size w w'
theorem kk_do (w : World) : Calls Try.prog 28 #[.agg #[.slice none 0 0, .slice none 0 0], .agg #[.int .i64 2, .int .i64 2, .int .i64 1, .int .i64 1, .int .i64 101, .int .i64 7, .int .i64 3, .int .i64 0]] w (KkPost w) := by
  have hm : met [] [] kkO 0 = some ⟨[], 7, [], [], false⟩ := mRun_stop (by decide)
  have hk : kOut kkO (pick kkO.side ([] : List Lv) []) ⟨[], 7, [], [], false⟩ = 2 := by decide
  have hz : putE (kL kkO.side [] ⟨[], 7, [], [], false⟩) (kM kkO.side [] ⟨[], 7, [], [], false⟩) kkO.side kkO.price (restOf kkO 7) = 0 := by decide
  refine (kdo_any [] [] kkO none none 0 0 w RdLv.nil RdLv.nil (by decide) (by decide) (fun _ => rfl) (fun _ => rfl) 0 (by decide) (some ⟨[], 7, [], [], false⟩) hm.symm _ rfl _ rfl (fun _ => putCon)).mono ?_
  rintro e w' ⟨B1, n1, d1, B2, n2, d2, AT, nT, cT, gone, ev, rfl, hK, hb⟩
  rcases hK.out with ⟨hy, _⟩ | ⟨_, AW, nW, cW, hK⟩
  · exact absurd rfl hy
  rcases hK with ⟨_, h, _⟩ | ⟨s, hs, hok, ⟨h0, _⟩ | ⟨_, h0, _⟩ | ⟨rfl, v1, v2, L', M', hw, rfl, rfl, rfl, rfl, rfl, o1, o2, ot, _⟩⟩
  · cases h
  · cases hs
    rw [hk] at h0
    rcases h0 with h | h <;> exact absurd h (by decide)
  · cases hs
    exact absurd hz h0
  · cases hs
    rw [hk] at hw
    rcases hw with ⟨h, _⟩ | ⟨_, _, rfl, rfl⟩
    · exact absurd h (by decide)
    · rw [hk]
      exact ⟨_, _, _, _, _, _, rfl, Lib.hid o1.rd, hb⟩
set_option maxRecDepth 100000 in
set_option maxHeartbeats 4000000 in
theorem kindsKeep_any (L M : List Lv) (o : Order) (A1 A2 : Option Addr) (c1 c2 : Nat) (w : World) (h1 : RdLv w w.heap.size A1 L) (h2 : RdLv w w.heap.size A2 M) (hl1 : L.length ≤ maxLen) (hl2 : M.length ≤ maxLen) (hA1 : A1 = none → c1 = 0) (hA2 : A2 = none → c2 = 0) :
    Calls Try.prog 7 #[.agg #[.slice A1 L.length c1, .slice A2 M.length c2], .agg #[.int .i64 o.id, .int .i64 o.who, .int .i64 o.side, .int .i64 o.kind, .int .i64 o.price, .int .i64 o.qty, .int .i64 o.show_, .int .i64 o.stop]] w fun e w' => e = .returned (.bool true) ∧ Below w.heap.size w w' := by
  have HL := Lib.hid h1; have HM := Lib.hid h2
  have cF := Lib.hid (fun w => kk_do w)
  have cP := Lib.hid (fun w' h h' => kdo_law L M o A1 A2 c1 c2 w' h h' hl1 hl2 hA1 hA2)
  have hb : Below w.heap.size w ((w.alloc (.cells #[.slice A1 L.length c1, .slice A2 M.length c2] 24)).alloc (.cells #[.int .i64 o.id, .int .i64 o.who, .int .i64 o.side, .int .i64 o.kind, .int .i64 o.price, .int .i64 o.qty, .int .i64 o.show_, .int .i64 o.stop] 36)) := below_then_alloc ((Below.refl _ _).alloc (Nat.le_refl _) _)
  have bb := (Bk.new w 24 #[.slice A1 L.length c1, .slice A2 M.length c2]).alloc (.cells #[.int .i64 o.id, .int .i64 o.who, .int .i64 o.side, .int .i64 o.kind, .int .i64 o.price, .int .i64 o.qty, .int .i64 o.show_, .int .i64 o.stop] 36)
  have bo := Bk.at_ (w := w.alloc (.cells #[.slice A1 L.length c1, .slice A2 M.length c2] 24)) (g' := w.heap.size + 1) (by simp) 36 #[.int .i64 o.id, .int .i64 o.who, .int .i64 o.side, .int .i64 o.kind, .int .i64 o.price, .int .i64 o.qty, .int .i64 o.show_, .int .i64 o.stop]
  clear h1 h2 hA1 hA2
  go_enter Try.func7, Try.ntmps7
  go_upto_region 1 with fail
  generalize (w.alloc (.cells #[.slice A1 L.length c1, .slice A2 M.length c2] 24)).alloc (.cells #[.int .i64 o.id, .int .i64 o.who, .int .i64 o.side, .int .i64 o.kind, .int .i64 o.price, .int .i64 o.qty, .int .i64 o.show_, .int .i64 o.stop] 36) = w0 at *
  go_wp2_with fail
  go_at_call 28
  refine (cF.out _).mono ?_
  rintro e w1 ⟨B1, d1, B2, d2, AT, cT, rfl, hrd, hb1⟩
  replace bb := bb.keep hb1; replace bo := bo.keep hb1; replace hb := below_then hb1 hb
  clear hb1 cF
  go_upto_region 2 with fail
  have bf := Bk.new w1 24 #[.slice B1 1 d1, .slice B2 0 d2]
  have hba : Below w1.heap.size w1 (w1.alloc (.cells #[.slice B1 1 d1, .slice B2 0 d2] 24)) := (Below.refl _ _).alloc (Nat.le_refl _) _
  replace bb := bb.keep hba; replace bo := bo.keep hba; replace hb := below_then hba hb
  have HRD := Lib.hid (hrd.out.below hba)
  clear hba hrd
  generalize w1.alloc (.cells #[.slice B1 1 d1, .slice B2 0 d2] 24) = w2 at *
  obtain ⟨f0, f1⟩ := box2 bf
  obtain ⟨q0, q1⟩ := box2 bb
  have k8 := box8o bo
  obtain ⟨b, off, x, Ar, cr, rfl, hbl, hx, e0, e1, _, _, g3⟩ := lv_at HRD.out (k := 0) (by decide)
  cases hx
  obtain ⟨b', off', t, rfl, hbl', ht, g0, g1, g2, g4, g5⟩ := rest_at (l := [⟨2, 2, 3, 4, 3⟩]) g3 (k := 0) (by decide)
  cases ht
  simp only [Nat.zero_mul, Nat.add_zero, List.length_singleton] at e0 e1 g0 g1 g2 g4 g5
  have cP2 := Lib.hid (cP.out w2 (HL.out.on hb) (HM.out.on hb))
  clear cP
  go_wp2_with fail
  go_at_call 28
  refine cP2.out.mono ?_
  rintro e w3 ⟨X1, n1, e1', X2, n2, e2', AT', nT, cT', gone, ev, rfl, hK, hb3⟩
  replace bo := bo.keep hb3; replace hb := below_then hb3 hb
  clear cP2 bb bf q0 q1 k8 f0 f1 e0 e1 g0 g1 g2 g4 g5 g3 HRD hbl hbl'
  rcases hK.out with ⟨z, hz, rfl⟩ | ⟨rfl, hr, T, rests, L', M', v1, v2, hk, rfl, rfl, rfl, o1, o2, ot⟩
  · have HN := Lib.hid hz
    clear hz hb3 hK
    go_wp2
    go_ret
    exact ⟨rfl, below_then_alloc hb⟩
  go_upto_region 5 with fail
  have by_ := Bk.new w3 24 #[.slice X1 L'.length e1', .slice X2 M'.length e2']
  have hba : Below w3.heap.size w3 (w3.alloc (.cells #[.slice X1 L'.length e1', .slice X2 M'.length e2'] 24)) := (Below.refl _ _).alloc (Nat.le_refl _) _
  replace bo := bo.keep hba; replace hb := below_then hba hb
  have HX := Lib.hid (o1.rd.on hba); have HY := Lib.hid (o2.rd.on hba)
  have HT := Lib.hid (((ot.rd (fun i j hi hj => trows_get hi hj)).below hba).more hba.size)
  have ho := (readyE_iff.1 hr).2.1
  have hq := (Order.err_ok ho).2.2.2.2.2.1
  have hside := (Order.err_ok ho).2.2.1
  have hT1 : ∀ t ∈ T, 1 ≤ t.qty := fun t ht => (hk.tr t ht).q1
  have HT2 := Lib.hid (show ∀ t ∈ T, 1 ≤ t.qty ∧ t.qty ≤ o.qty from fun t ht => ⟨(hk.tr t ht).q1, (hk.tr t ht).q2⟩)
  have hsum := hk.sum; have hg0 := hk.gone0; have hr0 := hk.rests0
  have hlen := sumT_len hT1
  have HTK := Lib.hid (sumT_take_le hT1)
  have S1 := Lib.hid hk.ok.sizes
  have HKK := Lib.hid hk
  clear hba o1 o2 ot hK hb3 hr hk ho hT1
  generalize w3.alloc (.cells #[.slice X1 L'.length e1', .slice X2 M'.length e2'] 24) = w4 at *
  have k8 := box8o bo
  go_wp2_with fail
  go_loopw [13, 14] (fun n i wr => ∃ k : Nat, k ≤ T.length ∧ i = .int .i64 k ∧ n = .int .i64 (sumT (T.take k)) ∧ Below w4.heap.size w4 wr) (fun _ i _ => T.length - (intOf i).toNat)
  case atStart => exact ⟨0, by omega, rfl, rfl, Below.refl _ _⟩
  case round =>
    obtain ⟨k, hk, rfl, rfl, hbl⟩ := hrel
    by_cases hlt : k < T.length
    · obtain ⟨b, off, t, rfl, hbt, ht, e0, e1, e2, e3, e4, e5⟩ := tr_at (HT.out.below hbl) hlt
      have hj1 : (k : Int) < (T.length : Int) := by omega
      have hj0 : (0 : Int) ≤ (k : Int) := by omega
      have hq1 := HT2.out t (List.mem_of_getElem? ht)
      have hS := HTK.out k
      have hS2 := HTK.out (k + 1)
      rw [sumT_take ht] at hS2
      have HS := Lib.hid (sumT_take ht)
      have x3 : IntKind.i64.wrap (sumT (T.take k) + t.qty) = sumT (T.take k) + t.qty := IntWalk.i64_in _ (by omega)
      have k8' := box8o (bo.keep hbl)
      obtain ⟨y0, y1, y2, y3, y4, y5, y6, y7⟩ := k8'
      have l1 : ¬ t.qty < 1 := by omega
      have l2 : ¬ o.qty < t.qty := by omega
      have l3 : decide (t.qty < 1) = false := decide_eq_false l1
      have l4 : decide (o.qty < t.qty) = false := decide_eq_false l2
      clear ht hS hS2 hq1 k8 hbt
      generalize sumT (T.take k) = S at *
      go_wp2
      go_quiet (fail)
      go_wp2
      go_roundw
      case rel => exact ⟨k + 1, by omega, by go_num, by rw [HS.out], below_drewN hbl _⟩
      case measure => simp [intOf]; omega
    · obtain rfl : k = T.length := by omega
      rw [List.take_length]
      replace bo := bo.keep hbl; replace by_ := by_.keep hbl; replace hb := below_then hbl hb
      have HX5 := Lib.hid (HX.out.on hbl); have HY5 := Lib.hid (HY.out.on hbl)
      clear hlt hbl HX HY HT HTK HT2 k8
      generalize hSS : sumT T = S at *
      have HSS := Lib.hid hSS
      clear hSS
      obtain ⟨y0, y1, y2, y3, y4, y5, y6, y7⟩ := box8o bo
      obtain ⟨x0, x1⟩ := box2 by_
      have hmd := HKK.out.find
      have hwh := HKK.out.whole; have hpo := HKK.out.post; have hli : o.kind = 1 → gone = 0 := fun h => HKK.out.limit h rfl; have hot := HKK.out.other
      rw [HSS.out] at hwh
      have hbE : bookE L' M' = 0 := bookE_iff.2 HKK.out.ok
      have cC := Lib.hid (fun w' h h' => bcheck_any L' M' X1 X2 e1' e2' w' h h' S1.out.1.1 S1.out.2.1)
      rw [hbE, show errV 0 = .nilIface from rfl] at cC
      have HBE := Lib.hid hbE
      have HRO := Lib.hid (restOf_sum o rests)
      have s1 : IntKind.i64.wrap (S + gone) = S + gone := IntWalk.i64_in _ (by omega)
      clear hbE HKK HSS HL HM
      rcases hmd with ⟨rfl, hno⟩ | ⟨hpos, hyes, hat⟩
      · have hz : bfE L' M' o.id = 5 := by rw [bfE, HBE.out, if_neg (by simp), if_pos hno]
        have cFi := Lib.hid (bfind_any L' M' X1 X2 e1' e2' o.id wr HX5.out HY5.out S1.out.1.1 S1.out.2.1 5 hz.symm)
        have p1 : (S + gone == o.qty) = true := by simp; omega
        have p1' : (S + gone != o.qty) = false := by simp [bne, p1]
        have HWH := Lib.hid hwh; have HLI := Lib.hid hli
        have hk5 : o.kind ≠ 5 := fun h => by have := hpo h; omega
        clear hz hno hwh hpo hli hot hsum
        go_wp2_with fail
        go_at_call 23
        refine cFi.out.mono ?_
        rintro e w5 ⟨a5, p5, g0, g1, g2, g3, g4, ev5, rfl, h5, hb5⟩
        rcases h5.out with ⟨_, rfl, rfl, rfl, hq5⟩ | ⟨h, _⟩
        case inr => exact absurd h (by decide)
        replace bo := bo.keep hb5; replace by_ := by_.keep hb5; replace hb := below_then hb5 hb
        have HX6 := Lib.hid (HX5.out.on hb5); have HY6 := Lib.hid (HY5.out.on hb5)
        clear h5 hb5 cFi HX5 HY5 x0 x1 y0 y1 y2 y3 y4 y5 y6 y7 hq5
        go_upto_region 16 with fail
        have hba : Below w5.heap.size w5 (w5.alloc (.cells #[.int .i64 g0, .int .i64 g1, .int .i64 g2, .int .i64 g3, .int .i64 g4] 26)) := (Below.refl _ _).alloc (Nat.le_refl _) _
        replace bo := bo.keep hba; replace by_ := by_.keep hba; replace hb := below_then hba hb
        have HX7 := Lib.hid (HX6.out.on hba); have HY7 := Lib.hid (HY6.out.on hba)
        clear hba HX6 HY6
        generalize w5.alloc (.cells #[.int .i64 g0, .int .i64 g1, .int .i64 g2, .int .i64 g3, .int .i64 g4] 26) = w6 at *
        obtain ⟨y0, y1, y2, y3, y4, y5, y6, y7⟩ := box8o bo
        obtain ⟨x0, x1⟩ := box2 by_
        go_wp2_with fail
        go_at_call 20
        refine (cC.out _ HX7.out HY7.out).mono ?_
        rintro e w7 ⟨rfl, hb7⟩
        replace bo := bo.keep hb7; replace hb := below_then hb7 hb
        clear hb7 cC HX7 HY7 x0 x1 y0 y1 y2 y3 y4 y5 y6 y7 by_
        obtain ⟨y0, y1, y2, y3, y4, y5, y6, y7⟩ := box8o bo
        rcases (show o.kind = 4 ∨ o.kind = 1 ∨ (o.kind ≠ 4 ∧ o.kind ≠ 1) by omega) with hk | hk | ⟨hk, hk1⟩
        · have k4 : (o.kind == 4) = true := by simpa using hk
          have p2 : (S == o.qty) = true := by simpa using HWH.out hk
          clear hk hk5
          go_wp2
          go_ret
          exact ⟨rfl, hb⟩
        · have k4 : (o.kind == 4) = false := by simp; omega
          have k5 : (o.kind == 5) = false := by simp; omega
          have k1 : (o.kind == 1) = true := by simpa using hk
          have p2 : (gone == 0) = true := by simpa using HLI.out hk
          clear hk hk5
          go_wp2
          go_ret
          exact ⟨rfl, hb⟩
        · have k4 : (o.kind == 4) = false := by simpa using hk
          have k5 : (o.kind == 5) = false := by simpa using hk5
          have k1 : (o.kind == 1) = false := by simpa using hk1
          clear hk hk1 hk5
          go_wp2
          go_ret
          exact ⟨rfl, hb⟩
      · have hz : bfE L' M' o.id = 0 := by rw [bfE, HBE.out, if_neg (by simp), if_neg hyes]
        have cFi := Lib.hid (bfind_any L' M' X1 X2 e1' e2' o.id wr HX5.out HY5.out S1.out.1.1 S1.out.2.1 0 hz.symm)
        have p1 : (S + gone + rests == o.qty) = true := by simp; omega
        have p1' : (S + gone + rests != o.qty) = false := by simp [bne, p1]
        have s2 : IntKind.i64.wrap (S + gone + rests) = S + gone + rests := IntWalk.i64_in _ (by omega)
        have s3 : IntKind.i64.wrap rests = rests := IntWalk.i64_in _ (by omega)
        have hk4 : o.kind ≠ 4 := fun h => by have := hwh h; omega
        have hk15 : o.kind = 1 ∨ o.kind = 5 := by
          by_cases h1 : o.kind = 1
          · exact .inl h1
          · by_cases h5 : o.kind = 5
            · exact .inr h5
            · have := hot h1 h5; omega
        have HPO := Lib.hid hpo; have HLI := Lib.hid hli; have HAT := Lib.hid hat
        clear hz hyes hwh hpo hli hot hsum hat
        go_wp2_with fail
        go_at_call 23
        refine cFi.out.mono ?_
        rintro e w5 ⟨a5, p5, g0, g1, g2, g3, g4, ev5, rfl, h5, hb5⟩
        rcases h5.out with ⟨h, _⟩ | ⟨_, rfl, s', i', k', x', q', hat, rfl, rfl, hq5⟩
        case inl => exact absurd rfl h
        obtain ⟨rfl, hpx, hqr⟩ := HAT.out _ _ _ _ _ hat
        rw [hpx]
        have hR := HRO.out
        rw [← hqr, ← hq5] at hR
        dsimp only at hR
        obtain ⟨hR1, rfl, rfl⟩ := hR
        have HR1 := Lib.hid hR1
        have s4 : IntKind.i64.wrap (g2 + g3) = rests := by rw [HR1.out]; exact s3
        replace bo := bo.keep hb5; replace by_ := by_.keep hb5; replace hb := below_then hb5 hb
        have HX6 := Lib.hid (HX5.out.on hb5); have HY6 := Lib.hid (HY5.out.on hb5)
        clear h5 hb5 cFi HX5 HY5 x0 x1 y0 y1 y2 y3 y4 y5 y6 y7 hq5 hR1 hqr hpx hat HRO
        go_upto_region 16 with fail
        have br := Bk.new w5 26 #[.int .i64 o.id, .int .i64 o.who, .int .i64 g2, .int .i64 g3, .int .i64 g4]
        have hba : Below w5.heap.size w5 (w5.alloc (.cells #[.int .i64 o.id, .int .i64 o.who, .int .i64 g2, .int .i64 g3, .int .i64 g4] 26)) := (Below.refl _ _).alloc (Nat.le_refl _) _
        replace bo := bo.keep hba; replace by_ := by_.keep hba; replace hb := below_then hba hb
        have HX7 := Lib.hid (HX6.out.on hba); have HY7 := Lib.hid (HY6.out.on hba)
        clear hba HX6 HY6
        generalize w5.alloc (.cells #[.int .i64 o.id, .int .i64 o.who, .int .i64 g2, .int .i64 g3, .int .i64 g4] 26) = w6 at *
        obtain ⟨y0, y1, y2, y3, y4, y5, y6, y7⟩ := box8o bo
        obtain ⟨x0, x1⟩ := box2 by_
        obtain ⟨z0, z1, z2, z3, z4⟩ := pbox5 br
        go_wp2_with fail
        go_at_call 20
        refine (cC.out _ HX7.out HY7.out).mono ?_
        rintro e w7 ⟨rfl, hb7⟩
        replace bo := bo.keep hb7; replace hb := below_then hb7 hb
        clear hb7 cC HX7 HY7 x0 x1 y0 y1 y2 y3 y4 y5 y6 y7 by_ z0 z1 z2 z3 z4 br
        obtain ⟨y0, y1, y2, y3, y4, y5, y6, y7⟩ := box8o bo
        have k4 : (o.kind == 4) = false := by simpa using hk4
        rcases hk15 with hk | hk
        · have k5 : (o.kind == 5) = false := by simp; omega
          have k1 : (o.kind == 1) = true := by simpa using hk
          have p2 : (gone == 0) = true := by simpa using HLI.out hk
          clear hk hk4
          go_wp2
          go_ret
          exact ⟨rfl, hb⟩
        · have k5 : (o.kind == 5) = true := by simpa using hk
          have p2 : (rests == o.qty) = true := by simpa using HPO.out hk
          clear hk hk4
          go_wp2
          go_ret
          exact ⟨rfl, hb⟩
theorem kindsKeep_law {H : Type} {enc : TypeId × Value → H} {v0 v1 : Value} {d0 d1 : DataW H} {p0 p1 : List MemPlace} {base : Nat} {W : World}
    (h0 : Arg enc W base 24 v0 d0 p0) (h1 : Arg enc W base 36 v1 d1 p1) :
    Calls Try.prog 7 #[v0, v1] W fun e w' => e = .returned (.bool true) ∧ Below W.heap.size W w' := by
  obtain ⟨A1, L, c1, A2, M, c2, rfl, hl1, hl2, hA1, hA2, hr1, hr2⟩ := h0.book
  obtain ⟨o, rfl⟩ := h1.order
  exact kindsKeep_any L M o A1 A2 c1 c2 W hr1 hr2 hl1 hl2 hA1 hA2
end Go.Proofs.Ytbnjkcgkdpildaa
