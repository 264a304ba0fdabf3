/- KindsTell holds: for all arguments the law's function returns true, where the variable that it lists reads as its text lays it. -/
import Derived.Test.YtiaofbkhnodbhaaGreatDoorKOut
import Derived.Test.YtiaofbkhnodbhaaGreatDoorKRest
import Derived.Test.YtiaofbkhnodbhaaGreatDoorGrpO
import Derived.Test.YtiaofbkhnodbhaaGreatDoorGrpT
import Derived.Test.YtiaofbkhnodbhaaGreatDoorGrpK
import Derived.Test.YtiaofbkhnodbhaaGreatDoorGrpL
import Derived.Test.YtiaofbkhnodbhaaGreatDoorRComeW
import Derived.Test.YtiaofbkhnodbhaaGreatDoorGrpS
namespace Go.Proofs.YtiaofbkhnodbhaaGreatDoor
set_option linter.all false
open Go Go.RowKit Go.ChangeShapes Go.WideShapes
set_option maxRecDepth 100000 in
set_option maxHeartbeats 8000000 in
theorem kindsTell_any (L M : List Lv) (o : Order) (qty : Int) (A1 A2 : Option Addr) (c1 c2 : Nat) (w : World) (h1 : RdLv w w.heap.size A1 L) (h2 : RdLv w w.heap.size A2 M) (k1 : L.length ≤ c1 ∧ c1 ≤ maxLen) (k2 : M.length ≤ c2 ∧ c2 ≤ maxLen) (hA1 : A1 = none → c1 = 0) (hA2 : A2 = none → c2 = 0) (hl : Laid w) :
    Calls Tryz.prog 3 #[.agg #[.slice A1 L.length c1, .slice A2 M.length c2], .agg #[.int .i64 o.id, .int .i64 o.who, .int .i64 o.side, .int .i64 o.kind, .int .i64 o.price, .int .i64 o.qty, .int .i64 o.show_, .int .i64 o.stop], .int .i64 qty] w fun e w' => e = .returned (.bool true) ∧ Below w.heap.size w w' := by
  have hl1 := Nat.le_trans k1.1 k1.2
  have hl2 := Nat.le_trans k2.1 k2.2
  obtain ⟨E, K1, K2, T, gone, W, hko⟩ := ko_ex L M o 0
  obtain ⟨z, hz⟩ : ∃ z, z = readyE L M o := ⟨_, rfl⟩
  have HKO := Lib.hid hko
  have hsh := hko.short
  have HSH := Lib.hid (show (K1.length ≤ 100 ∧ ∀ x ∈ K1, x.rs.length ≤ 100) ∧ (K2.length ≤ 100 ∧ ∀ x ∈ K2, x.rs.length ≤ 100) ∧ T.length ≤ 400 ∧ W.length ≤ 100000 from ⟨⟨by omega, fun x hx => by have := hsh.1.2 x hx; omega⟩, ⟨by omega, fun x hx => by have := hsh.2.1.2 x hx; omega⟩, hsh.2.2.1, by omega⟩)
  have HZ := Lib.hid hz
  have HLD := Lib.hid hl
  have HL := Lib.hid h1; have HM := Lib.hid h2
  have cC0 := fun w' a b => rcomes_any L M o A1 A2 c1 c2 w' a b hl1 hl2
  rw [← hz] at cC0
  have cC := Lib.hid cC0
  have cD := Lib.hid (fun w' a b => kdo_out hko A1 A2 c1 c2 w' a b hl1 hl2 hA1 hA2)
  have cM := Lib.hid (fun hr w' lo hlo a b => rcome_any L M o 0 E K1 K2 T gone W hko hr A1 A2 c1 c2 w' lo hlo a b k1 k2)
  have cO := Lib.hid (fun w' => rorder_any o w')
  have cR := Lib.hid (fun w' => krest_any o qty w')
  have hb : Below w.heap.size w ((w.alloc (.cells #[.slice A1 L.length c1, .slice A2 M.length c2] 24)).alloc (.cells #[.int .i64 o.id, .int .i64 o.who, .int .i64 o.side, .int .i64 o.kind, .int .i64 o.price, .int .i64 o.qty, .int .i64 o.show_, .int .i64 o.stop] 26)) := below_then_alloc ((Below.refl _ _).alloc (Nat.le_refl _) _)
  have bb := (Bk.new w 24 #[.slice A1 L.length c1, .slice A2 M.length c2]).alloc (.cells #[.int .i64 o.id, .int .i64 o.who, .int .i64 o.side, .int .i64 o.kind, .int .i64 o.price, .int .i64 o.qty, .int .i64 o.show_, .int .i64 o.stop] 26)
  have bo := Bk.at_ (w := w.alloc (.cells #[.slice A1 L.length c1, .slice A2 M.length c2] 24)) (g' := w.heap.size + 1) (by simp) 26 #[.int .i64 o.id, .int .i64 o.who, .int .i64 o.side, .int .i64 o.kind, .int .i64 o.price, .int .i64 o.qty, .int .i64 o.show_, .int .i64 o.stop]
  clear cC0 hko hz h1 h2 k1 k2 hl1 hl2 hA1 hA2 hl hsh
  go_enter Tryz.func3, Tryz.ntmps3
  go_upto_region 1 with fail
  generalize (w.alloc (.cells #[.slice A1 L.length c1, .slice A2 M.length c2] 24)).alloc (.cells #[.int .i64 o.id, .int .i64 o.who, .int .i64 o.side, .int .i64 o.kind, .int .i64 o.price, .int .i64 o.qty, .int .i64 o.show_, .int .i64 o.stop] 26) = w0 at *
  obtain ⟨q0, q1⟩ := box2 bb
  obtain ⟨y0, y1, y2, y3, y4, y5, y6, y7⟩ := box8o bo
  go_wp2_with fail
  go_at_call 6
  refine (cC.out _ (HL.out.on hb) (HM.out.on hb)).mono ?_
  rintro e w3 ⟨rfl, hb1⟩
  replace bb := bb.keep hb1; replace bo := bo.keep hb1; replace hb := below_then hb1 hb
  clear hb1 cC q0 q1 y0 y1 y2 y3 y4 y5 y6 y7
  --<r2
  go_upto_region 3 with fail
  have bm := Bk.new w3 31 #[.slice none 0 0, .slice none 0 0, .slice none 0 0, .int .i64 0, .int .i64 0, .slice none 0 0, .bool false]
  have hba : Below w3.heap.size w3 (w3.alloc (.cells #[.slice none 0 0, .slice none 0 0, .slice none 0 0, .int .i64 0, .int .i64 0, .slice none 0 0, .bool false] 31)) := (Below.refl _ _).alloc (Nat.le_refl _) _
  have hgo : w.heap.size + 1 < w3.heap.size := bo.lt
  replace bb := bb.keep hba; replace bo := bo.keep hba; replace hb := below_then hba hb
  clear hba
  generalize w3.alloc (.cells #[.slice none 0 0, .slice none 0 0, .slice none 0 0, .int .i64 0, .int .i64 0, .slice none 0 0, .bool false] 31) = w4 at *
  obtain ⟨gm, hgm⟩ : ∃ g, g = w3.heap.size := ⟨_, rfl⟩
  rw [← hgm] at bm hgo ⊢
  have HGO := Lib.hid hgo
  clear hgm hgo
  go_upto_if 23 with fail
  go_cut [7] from 19 to 97 (fun ev wx => ev = .int .i64 E ∧ Below w.heap.size w wx ∧ Bk wx w.heap.size 24 #[.slice A1 L.length c1, .slice A2 M.length c2] ∧ Bk wx (w.heap.size + 1) 26 #[.int .i64 o.id, .int .i64 o.who, .int .i64 o.side, .int .i64 o.kind, .int .i64 o.price, .int .i64 o.qty, .int .i64 o.show_, .int .i64 o.stop] ∧ ∃ n X1 d1 X2 d2 XT dT v3 XW dW v6, TBoxK w.heap.size gm n wx K1 K2 T gone W X1 d1 X2 d2 XT dT v3 XW dW v6)
  case first =>
    --<come
    by_cases hz : z = 0
    · have e1 : (z == 0) = true := by simpa using hz
      have hr : readyE L M o = 0 := HZ.out.symm.trans hz
      obtain ⟨q0, q1⟩ := box2 bb
      obtain ⟨y0, y1, y2, y3, y4, y5, y6, y7⟩ := box8o bo
      have cM1 := Lib.hid (cM.out hr w4 w.heap.size (by have := hb.size; exact this) (HL.out.below hb) (HM.out.below hb))
      have hgm := bm.lt
      clear hr hz
      go_wp2_with fail
      go_at_call 7
      refine cM1.out.mono ?_
      rintro e w5 ⟨X1, d1, X2, d2, XT, dT, lf, XW, dW, en, rfl, hX, hb3⟩
      replace bb := bb.keep hb3; replace bo := bo.keep hb3; replace hb := below_then hb3 hb; replace bm := bm.keep hb3
      obtain ⟨hx1, hx2, hxt, hxw⟩ := hX.out
      have hgo := HGO.out
      have HB := Lib.hid (below_lo7 hb (g := gm) (by omega) (.slice X1 K1.length d1) (.slice X2 K2.length d2) (.slice XT T.length dT) (.int .i64 lf) (.int .i64 gone) (.slice XW W.length dW) (.bool en))
      have HX1 := Lib.hid (hx1.set7 (g := gm) (by omega) hgm (.slice X1 K1.length d1) (.slice X2 K2.length d2) (.slice XT T.length dT) (.int .i64 lf) (.int .i64 gone) (.slice XW W.length dW) (.bool en))
      have HX2 := Lib.hid (hx2.set7 (g := gm) (by omega) hgm (.slice X1 K1.length d1) (.slice X2 K2.length d2) (.slice XT T.length dT) (.int .i64 lf) (.int .i64 gone) (.slice XW W.length dW) (.bool en))
      have HXT := Lib.hid (hxt.under7 (g := gm) hgm (.slice X1 K1.length d1) (.slice X2 K2.length d2) (.slice XT T.length dT) (.int .i64 lf) (.int .i64 gone) (.slice XW W.length dW) (.bool en))
      have HXW := Lib.hid (hxw.under7 (g := gm) hgm (.slice X1 K1.length d1) (.slice X2 K2.length d2) (.slice XT T.length dT) (.int .i64 lf) (.int .i64 gone) (.slice XW W.length dW) (.bool en))
      have HBM := Lib.hid (bm.set7 (.slice X1 K1.length d1) (.slice X2 K2.length d2) (.slice XT T.length dT) (.int .i64 lf) (.int .i64 gone) (.slice XW W.length dW) (.bool en))
      have HBB := Lib.hid (bb.far7 (g' := gm) (by omega) (.slice X1 K1.length d1) (.slice X2 K2.length d2) (.slice XT T.length dT) (.int .i64 lf) (.int .i64 gone) (.slice XW W.length dW) (.bool en))
      have HBO := Lib.hid (bo.far7 (g' := gm) (by omega) (.slice X1 K1.length d1) (.slice X2 K2.length d2) (.slice XT T.length dT) (.int .i64 lf) (.int .i64 gone) (.slice XW W.length dW) (.bool en))
      obtain ⟨m0, m1, m2, m3, m4, m5, m6⟩ := box7 bm
      have f0 := bm.free 0; have f1 := bm.free 1; have f2 := bm.free 2; have f3 := bm.free 3; have f4 := bm.free 4; have f5 := bm.free 5; have f6 := bm.free 6
      clear hX hb3 hb bm bb bo hx1 hx2 hxt hxw hgo hgm cM1 q0 q1 y0 y1 y2 y3 y4 y5 y6 y7
      go_wp2
      go_meet
      case rel => exact ⟨rfl, HB.out, HBB.out, HBO.out, _, _, _, _, _, _, _, _, _, _, _, ⟨HBM.out, HX1.out, HX2.out, HXT.out.rd (fun i j hi hj => trows_get hi hj), HXW.out.rdI⟩⟩
    · have e1 : (z == 0) = false := by simpa using hz
      have HQ := Lib.hid (show E = z ∧ K1 = [] ∧ K2 = [] ∧ T = [] ∧ gone = 0 ∧ W = [] by
        rcases HKO.out with ⟨_, a, b⟩ | ⟨a, _⟩ | ⟨a, _⟩
        · exact ⟨by rw [a, HZ.out], b⟩
        · exact absurd (HZ.out.trans a) hz
        · exact absurd (HZ.out.trans a) hz)
      have HB := Lib.hid hb; have HBB := Lib.hid bb; have HBO := Lib.hid bo; have HBM := Lib.hid bm
      clear hz hb bb bo bm
      go_wp2
      go_meet
      case rel =>
        obtain ⟨rfl, rfl, rfl, rfl, rfl, rfl⟩ := HQ.out
        exact ⟨rfl, HB.out, HBB.out, HBO.out, 0, none, 0, none, 0, none, 0, _, none, 0, _, ⟨HBM.out, LvA.nil, LvA.nil, rd_nil6, fun h => absurd h (by simp)⟩⟩
    -->come
  case rest =>
  obtain ⟨rfl, hb3, bb3, bo3, n, X1, d1, X2, d2, XT, dT, v3, XW, dW, v6, hbox⟩ := hcut
  have HBX := Lib.hid hbox
  clear bb bo hb bm hbox cM
  --<calls
  obtain ⟨wf, rfl⟩ : ∃ wf : World, wf = wc := ⟨_, rfl⟩
  obtain ⟨q0, q1⟩ := box2 bb3
  obtain ⟨y0, y1, y2, y3, y4, y5, y6, y7⟩ := box8o bo3
  go_wp2_with fail
  go_at_call 8
  refine (cD.out _ (HL.out.on hb3) (HM.out.on hb3)).mono ?_
  rintro e w5 ⟨B1, e1, B2, e2, BT, eT, rfl, hD, hb4⟩
  replace bo3 := bo3.keep hb4; replace hb3 := below_then hb4 hb3
  have HBX4 := Lib.hid (HBX.out.below hb4)
  clear hb4 cD q0 q1 y0 y1 y2 y3 y4 y5 y6 y7 HBX bb3
  go_upto_region 6 with fail
  have bx := Bk.new w5 24 #[.slice B1 K1.length e1, .slice B2 K2.length e2]
  have hba : Below w5.heap.size w5 (w5.alloc (.cells #[.slice B1 K1.length e1, .slice B2 K2.length e2] 24)) := (Below.refl _ _).alloc (Nat.le_refl _) _
  replace bo3 := bo3.keep hba; replace hb3 := below_then hba hb3
  have HBX5 := Lib.hid (HBX4.out.below hba)
  have HD := Lib.hid (show RdLv (w5.alloc (.cells #[.slice B1 K1.length e1, .slice B2 K2.length e2] 24)) (w5.alloc (.cells #[.slice B1 K1.length e1, .slice B2 K2.length e2] 24)).heap.size B1 K1 ∧ RdLv (w5.alloc (.cells #[.slice B1 K1.length e1, .slice B2 K2.length e2] 24)) (w5.alloc (.cells #[.slice B1 K1.length e1, .slice B2 K2.length e2] 24)).heap.size B2 K2 ∧ Rd (w5.alloc (.cells #[.slice B1 K1.length e1, .slice B2 K2.length e2] 24)) (w5.alloc (.cells #[.slice B1 K1.length e1, .slice B2 K2.length e2] 24)).heap.size BT T.length 6 (tcell T) from ⟨hD.out.1.on hba, hD.out.2.1.on hba, (hD.out.2.2.below hba).more hba.size⟩)
  clear hD hba HBX4
  generalize w5.alloc (.cells #[.slice B1 K1.length e1, .slice B2 K2.length e2] 24) = w6 at *
  go_wp2_with fail
  go_at_call 9
  refine (same_told E _ (Laid.below HLD.out hb3)).mono ?_
  rintro e w7 ⟨rfl, hb6⟩
  replace bo3 := bo3.keep hb6; replace hb3 := below_then hb6 hb3; replace bx := bx.keep hb6
  have HBX6 := Lib.hid (HBX5.out.below hb6)
  have HD6 := Lib.hid (show RdLv w7 w7.heap.size B1 K1 ∧ RdLv w7 w7.heap.size B2 K2 ∧ Rd w7 w7.heap.size BT T.length 6 (tcell T) from ⟨HD.out.1.on hb6, HD.out.2.1.on hb6, (HD.out.2.2.below hb6).more hb6.size⟩)
  clear hb6 HBX5 HD
  obtain ⟨x0, x1⟩ := box2 bx
  obtain ⟨m0, m1, m2, _, m4, m5, _⟩ := box7 HBX6.out.m
  go_wp2_with fail
  go_at_call 10
  refine (same_book K1 K2 B1 B2 X1 X2 e1 e2 d1 d2 _ HD6.out.1 HD6.out.2.1 HBX6.out.l1.rd HBX6.out.l2.rd HSH.out.1 HSH.out.2.1).mono ?_
  rintro e w8 ⟨rfl, hb7⟩
  replace bo3 := bo3.keep hb7; replace hb3 := below_then hb7 hb3
  have HBX7 := Lib.hid (HBX6.out.below hb7)
  have HD7 := Lib.hid ((HD6.out.2.2.below hb7).more hb7.size)
  clear hb7 HBX6 HD6 m0 m1 m2 m4 m5 x0 x1 bx
  obtain ⟨m0, m1, m2, _, m4, m5, _⟩ := box7 HBX7.out.m
  go_wp2_with fail
  go_at_call 11
  refine (same_trades T BT XT eT dT _ HD7.out HBX7.out.tr HSH.out.2.2.1).mono ?_
  rintro e w9 ⟨rfl, hb8⟩
  replace bo3 := bo3.keep hb8; replace hb3 := below_then hb8 hb3
  have HBX8 := Lib.hid (HBX7.out.below hb8)
  clear hb8 HBX7 HD7 m0 m1 m2 m4 m5
  have bM := HBX8.out.m
  clear HBX8
  -->calls
  --<two
  obtain ⟨y0, y1, y2, y3, y4, y5, y6, y7⟩ := box8o bo3
  go_wp2_with fail
  go_at_call 12
  refine (cO.out _).mono ?_
  rintro e w10 ⟨rfl, hw⟩
  have hb9 : Below w9.heap.size w9 w10 := by rw [hw]; exact (Below.refl _ _).alloc (Nat.le_refl _) _
  replace bo3 := bo3.keep hb9; replace bM := bM.keep hb9; replace hb3 := below_then hb9 hb3
  clear hw hb9 y0 y1 y2 y3 y4 y5 y6 y7 cO
  obtain ⟨y0, y1, y2, y3, y4, y5, y6, y7⟩ := box8o bo3
  obtain ⟨oe, hoe⟩ : ∃ oe, oe = o.err := ⟨_, rfl⟩
  have HOE := Lib.hid hoe
  rw [← hoe]
  clear hoe
  go_upto_region 10 with fail
  go_cut [62] from 19 to 97 (fun v wx => v = .bool (decide (oe = 0 ∧ ¬ (1 ≤ qty ∧ qty ≤ o.qty))) ∧ wx = w10)
  case first =>
    --<guard
    by_cases h : oe = 0
    · have e1 : (oe == 0) = true := by simpa using h
      rcases (show qty < 1 ∨ (1 ≤ qty ∧ o.qty < qty) ∨ (1 ≤ qty ∧ qty ≤ o.qty) by omega) with h1 | ⟨h1, h2⟩ | ⟨h1, h2⟩
      · have H := Lib.hid (show decide (oe = 0 ∧ ¬ (1 ≤ qty ∧ qty ≤ o.qty)) = true from decide_eq_true ⟨h, by omega⟩)
        clear h
        go_wp2
        go_meet
        case rel => exact ⟨by rw [H.out], rfl⟩
      · have H := Lib.hid (show decide (oe = 0 ∧ ¬ (1 ≤ qty ∧ qty ≤ o.qty)) = true from decide_eq_true ⟨h, by omega⟩)
        have h3 : ¬ qty < 1 := by omega
        have d3 : decide (o.qty < qty) = true := decide_eq_true h2
        clear h
        go_wp2
        go_meet
        case rel => exact ⟨by rw [H.out], rfl⟩
      · have H := Lib.hid (show decide (oe = 0 ∧ ¬ (1 ≤ qty ∧ qty ≤ o.qty)) = false from decide_eq_false (fun hh => hh.2 ⟨h1, h2⟩))
        have h3 : ¬ qty < 1 := by omega
        have d3 : decide (o.qty < qty) = false := decide_eq_false (by omega)
        clear h
        go_wp2
        go_meet
        case rel => exact ⟨by rw [H.out], rfl⟩
    · have e1 : (oe == 0) = false := by simpa using h
      have H := Lib.hid (show decide (oe = 0 ∧ ¬ (1 ≤ qty ∧ qty ≤ o.qty)) = false from decide_eq_false (fun hh => h hh.1))
      clear h
      go_wp2
      go_meet
      case rel => exact ⟨by rw [H.out], rfl⟩
    -->guard
  case rest =>
  obtain ⟨rfl, rfl⟩ := hcut
  obtain ⟨w11, rfl⟩ : ∃ w11 : World, w11 = wc := ⟨_, rfl⟩
  obtain ⟨E2, hE2⟩ : ∃ E2, E2 = krE o qty := ⟨_, rfl⟩
  obtain ⟨x, hx⟩ : ∃ x, x = krR o qty := ⟨_, rfl⟩
  rw [← hE2, ← hx] at cR
  have HE2 := Lib.hid hE2; have HX := Lib.hid hx
  clear hE2 hx
  go_upto_if 62 with fail
  go_cut [7] from 19 to 97 (fun v wx => v = .int .i64 E2 ∧ wx = w11)
  case first =>
    by_cases h : oe = 0 ∧ ¬ (1 ≤ qty ∧ qty ≤ o.qty)
    · have H := Lib.hid (show E2 = 1 by rw [HE2.out, krE, ← HOE.out, if_neg (by simpa using h.1), if_neg h.2])
      rw [decide_eq_true h]
      clear h
      go_wp2
      go_meet
      case rel => exact ⟨by rw [H.out], rfl⟩
    · have H := Lib.hid (show E2 = oe by
        rw [HE2.out, krE, ← HOE.out]
        by_cases h0 : oe = 0
        · rw [if_neg (by simpa using h0), if_pos (Decidable.not_not.1 fun hh => h ⟨h0, hh⟩), h0]
        · rw [if_pos h0])
      rw [decide_eq_false h]
      clear h
      go_wp2
      go_meet
      case rel => exact ⟨by rw [H.out], rfl⟩
  case rest =>
  obtain ⟨rfl, rfl⟩ := hcut
  obtain ⟨w12, rfl⟩ : ∃ w12 : World, w12 = wc := ⟨_, rfl⟩
  go_upto_region 13 with fail
  have bz := Bk.new w12 43 #[.int .i64 0, .int .i64 0, .int .i64 0, .int .i64 0, .int .i64 0]
  have hba : Below w12.heap.size w12 (w12.alloc (.cells #[.int .i64 0, .int .i64 0, .int .i64 0, .int .i64 0, .int .i64 0] 43)) := (Below.refl _ _).alloc (Nat.le_refl _) _
  have hgo : w.heap.size + 1 < w12.heap.size := bo3.lt
  have hgz : gm < w12.heap.size := bM.lt
  replace bo3 := bo3.keep hba; replace bM := bM.keep hba; replace hb3 := below_then hba hb3
  clear hba y0 y1 y2 y3 y4 y5 y6 y7
  generalize w12.alloc (.cells #[.int .i64 0, .int .i64 0, .int .i64 0, .int .i64 0, .int .i64 0] 43) = w13 at *
  obtain ⟨gz, hgzz⟩ : ∃ g, g = w12.heap.size := ⟨_, rfl⟩
  rw [← hgzz] at bz hgo hgz ⊢
  have HG := Lib.hid (show w.heap.size + 1 < gz ∧ gm < gz from ⟨hgo, hgz⟩)
  clear hgzz hgo hgz
  go_upto_if 64 with fail
  go_cut [] from 19 to 97 (fun wx => Below w.heap.size w wx ∧ Bk wx (w.heap.size + 1) 26 #[.int .i64 o.id, .int .i64 o.who, .int .i64 o.side, .int .i64 o.kind, .int .i64 o.price, .int .i64 o.qty, .int .i64 o.show_, .int .i64 o.stop] ∧ Bk wx gm 31 #[.slice X1 K1.length d1, .slice X2 K2.length d2, .slice XT T.length dT, v3, .int .i64 gone, .slice XW W.length dW, v6] ∧ Bk wx gz 43 #[.int .i64 x.id, .int .i64 x.who, .int .i64 x.qty, .int .i64 x.hidden, .int .i64 x.show_])
  case first =>
    --<kept
    by_cases h : E2 = 0
    · have hoe : o.err = 0 ∧ 1 ≤ qty ∧ qty ≤ o.qty := by
        have := HE2.out
        rw [h, krE] at this
        by_cases h0 : o.err = 0
        · rw [if_neg (by simpa using h0)] at this
          by_cases h1 : 1 ≤ qty ∧ qty ≤ o.qty
          · exact ⟨h0, h1⟩
          · rw [if_neg h1] at this; omega
        · rw [if_pos h0] at this; exact absurd this.symm h0
      have H0 := Order.err_ok hoe.1
      have cK := Lib.hid (fun w' => rkept_any o qty (by omega) (by omega) H0.2.2.2.2.2.2.1.1 (by omega) w')
      have HRX := Lib.hid (show restOf o qty = x by rw [HX.out, krR, if_pos (by rw [← HE2.out]; exact h)])
      rw [HRX.out] at cK
      obtain ⟨y0, y1, y2, y3, y4, y5, y6, y7⟩ := box8o bo3
      have e1 : (E2 == 0) = true := by simpa using h
      clear hoe H0 h
      go_wp2_with fail
      go_at_call 13
      refine (cK.out _).mono ?_
      rintro e w14 ⟨rfl, hb4⟩
      replace bo3 := bo3.keep hb4; replace bM := bM.keep hb4; replace bz := bz.keep hb4; replace hb3 := below_then hb4 hb3
      clear hb4 cK y0 y1 y2 y3 y4 y5 y6 y7
      have r0 := kbox5 bz
      have f0 := bz.free 0; have f1 := bz.free 1; have f2 := bz.free 2; have f3 := bz.free 3; have f4 := bz.free 4
      have hg1 := HG.out.1; have hg2 := HG.out.2
      have HZ2 := Lib.hid (bz.set5 (.int .i64 x.id) (.int .i64 x.who) (.int .i64 x.qty) (.int .i64 x.hidden) (.int .i64 x.show_))
      have HF := Lib.hid (below_lo5 hb3 (g := gz) (by omega) (.int .i64 x.id) (.int .i64 x.who) (.int .i64 x.qty) (.int .i64 x.hidden) (.int .i64 x.show_))
      have HO2 := Lib.hid (kfar5 bo3 (k := gz) (by omega) (.int .i64 x.id) (.int .i64 x.who) (.int .i64 x.qty) (.int .i64 x.hidden) (.int .i64 x.show_))
      have HM2 := Lib.hid (kfar5 bM (k := gz) (by omega) (.int .i64 x.id) (.int .i64 x.who) (.int .i64 x.qty) (.int .i64 x.hidden) (.int .i64 x.show_))
      clear bo3 bM bz hb3 hg1 hg2
      go_wp2
      go_meet
      case rel => exact ⟨HF.out, HO2.out, HM2.out, HZ2.out⟩
    · have e1 : (E2 == 0) = false := by simpa using h
      have HXZ := Lib.hid (show x = ⟨0, 0, 0, 0, 0⟩ by rw [HX.out]; exact krR_zero (by rw [← HE2.out]; exact h))
      have H1 := Lib.hid hb3; have H2 := Lib.hid bo3; have H3 := Lib.hid bM; have H4 := Lib.hid bz
      clear h hb3 bo3 bM bz
      go_wp2
      go_meet
      case rel => exact ⟨H1.out, H2.out, H3.out, by rw [HXZ.out]; exact H4.out⟩
    -->kept
  case rest =>
  obtain ⟨hb4, bo4, bM4, bz4⟩ := hcut
  --<end
  clear hb3 bo3 bM bz HG
  obtain ⟨w15, rfl⟩ : ∃ w15 : World, w15 = wc := ⟨_, rfl⟩
  obtain ⟨y0, y1, y2, y3, y4, y5, y6, y7⟩ := box8o bo4
  go_wp2_with fail
  go_at_call 14
  refine (cR.out _).mono ?_
  rintro e w16 ⟨rfl, hb5⟩
  replace bM4 := bM4.keep hb5; replace bz4 := bz4.keep hb5; replace hb4 := below_then hb5 hb4
  clear hb5 y0 y1 y2 y3 y4 y5 y6 y7 bo4 cR
  go_upto_region 16 with fail
  have bk := Bk.new w16 43 #[.int .i64 x.id, .int .i64 x.who, .int .i64 x.qty, .int .i64 x.hidden, .int .i64 x.show_]
  have hba : Below w16.heap.size w16 (w16.alloc (.cells #[.int .i64 x.id, .int .i64 x.who, .int .i64 x.qty, .int .i64 x.hidden, .int .i64 x.show_] 43)) := (Below.refl _ _).alloc (Nat.le_refl _) _
  replace bM4 := bM4.keep hba; replace bz4 := bz4.keep hba; replace hb4 := below_then hba hb4
  clear hba
  generalize w16.alloc (.cells #[.int .i64 x.id, .int .i64 x.who, .int .i64 x.qty, .int .i64 x.hidden, .int .i64 x.show_] 43) = w17 at *
  go_wp2_with fail
  go_at_call 9
  refine (same_told E2 _ (Laid.below HLD.out hb4)).mono ?_
  rintro e w18 ⟨rfl, hb6⟩
  replace bM4 := bM4.keep hb6; replace bz4 := bz4.keep hb6; replace bk := bk.keep hb6; replace hb4 := below_then hb6 hb4
  clear hb6
  obtain ⟨m0, m1, m2, m3, m4, m5, m6⟩ := box7 bM4
  obtain ⟨a0, a1, a2, a3, a4⟩ := kbox5 bz4
  obtain ⟨b0, b1, b2, b3, b4⟩ := kbox5 bk
  clear bM4 bz4 bk
  go_wp2
  go_ret
  exact ⟨ret_bool (by simp), hb4⟩
  -->end
  -->two
theorem kindsTell_law {H : Type} {enc : TypeId × Value → H} {v0 v1 v2 : Value} {d0 d1 d2 : DataW H} {p0 p1 p2 : List MemPlace} {base : Nat} {W : World}
    (h0 : Arg enc W base 24 v0 d0 p0) (h1 : Arg enc W base 26 v1 d1 p1) (h2 : Arg enc W base 3 v2 d2 p2) (hl : Laid W) :
    Calls Tryz.prog 3 #[v0, v1, v2] W fun e w' => e = .returned (.bool true) ∧ Below W.heap.size W w' := by
  obtain ⟨A1, L, c1, A2, M, c2, rfl, k1, k2, hA1, hA2, hr1, hr2⟩ := h0.bookc
  obtain ⟨o, rfl⟩ := h1.order
  obtain ⟨m, rfl, _⟩ := h2.int
  exact kindsTell_any L M o m A1 A2 c1 c2 W hr1 hr2 k1 k2 hA1 hA2 hl
end Go.Proofs.YtiaofbkhnodbhaaGreatDoor
