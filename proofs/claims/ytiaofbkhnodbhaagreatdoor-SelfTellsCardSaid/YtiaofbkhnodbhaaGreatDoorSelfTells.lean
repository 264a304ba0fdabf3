/- SelfTells holds: for all arguments the law's function returns true, where the variable that it lists reads as its text lays it. -/
import Derived.Test.YtiaofbkhnodbhaaGreatDoorKOut
import Derived.Test.YtiaofbkhnodbhaaGreatDoorGrpO
import Derived.Test.YtiaofbkhnodbhaaGreatDoorGrpT
import Derived.Test.YtiaofbkhnodbhaaGreatDoorGrpK
import Derived.Test.YtiaofbkhnodbhaaGreatDoorGrpL
import Derived.Test.YtiaofbkhnodbhaaGreatDoorRComeW
import Derived.Test.YtiaofbkhnodbhaaGreatDoorGrpS
namespace Go.Proofs.YtiaofbkhnodbhaaGreatDoor
set_option linter.all false
open Go Go.RowKit Go.ChangeShapes Go.WideShapes
set_option maxRecDepth 100000 in
set_option maxHeartbeats 8000000 in
theorem selfTells_any (L M : List Lv) (o : Order) (mode : Int) (A1 A2 : Option Addr) (c1 c2 : Nat) (w : World) (h1 : RdLv w w.heap.size A1 L) (h2 : RdLv w w.heap.size A2 M) (k1 : L.length ≤ c1 ∧ c1 ≤ maxLen) (k2 : M.length ≤ c2 ∧ c2 ≤ maxLen) (hA1 : A1 = none → c1 = 0) (hA2 : A2 = none → c2 = 0) (hl : Laid w) :
    Calls Tryz.prog 4 #[.agg #[.slice A1 L.length c1, .slice A2 M.length c2], .agg #[.int .i64 o.id, .int .i64 o.who, .int .i64 o.side, .int .i64 o.kind, .int .i64 o.price, .int .i64 o.qty, .int .i64 o.show_, .int .i64 o.stop], .int .i64 mode] w fun e w' => e = .returned (.bool true) ∧ Below w.heap.size w w' := by
  have hl1 := Nat.le_trans k1.1 k1.2
  have hl2 := Nat.le_trans k2.1 k2.2
  obtain ⟨E, K1, K2, T, gone, W, hso⟩ := so_ex L M o mode
  obtain ⟨z, hz⟩ : ∃ z, z = readyE L M o := ⟨_, rfl⟩
  have HSO := Lib.hid hso
  have hsh := hso.short
  have HSH := Lib.hid (show (K1.length ≤ 100 ∧ ∀ x ∈ K1, x.rs.length ≤ 100) ∧ (K2.length ≤ 100 ∧ ∀ x ∈ K2, x.rs.length ≤ 100) ∧ T.length ≤ 400 ∧ W.length ≤ 100000 from ⟨⟨by omega, fun x hx => by have := hsh.1.2 x hx; omega⟩, ⟨by omega, fun x hx => by have := hsh.2.1.2 x hx; omega⟩, hsh.2.2.1, by omega⟩)
  have HZ := Lib.hid hz
  have HLD := Lib.hid hl
  have HL := Lib.hid h1; have HM := Lib.hid h2
  have cC0 := fun w' a b => rcomes_any L M o A1 A2 c1 c2 w' a b hl1 hl2
  rw [← hz] at cC0
  have cC := Lib.hid cC0
  have cD := Lib.hid (fun w' a b => sdo_out hso A1 A2 c1 c2 w' a b hl1 hl2 hA1 hA2)
  have cM := Lib.hid (fun hko hr w' lo hlo a b => rcome_any L M o mode E K1 K2 T gone W hko hr A1 A2 c1 c2 w' lo hlo a b k1 k2)
  have hb : Below w.heap.size w ((w.alloc (.cells #[.slice A1 L.length c1, .slice A2 M.length c2] 24)).alloc (.cells #[.int .i64 o.id, .int .i64 o.who, .int .i64 o.side, .int .i64 o.kind, .int .i64 o.price, .int .i64 o.qty, .int .i64 o.show_, .int .i64 o.stop] 26)) := below_then_alloc ((Below.refl _ _).alloc (Nat.le_refl _) _)
  have bb := (Bk.new w 24 #[.slice A1 L.length c1, .slice A2 M.length c2]).alloc (.cells #[.int .i64 o.id, .int .i64 o.who, .int .i64 o.side, .int .i64 o.kind, .int .i64 o.price, .int .i64 o.qty, .int .i64 o.show_, .int .i64 o.stop] 26)
  have bo := Bk.at_ (w := w.alloc (.cells #[.slice A1 L.length c1, .slice A2 M.length c2] 24)) (g' := w.heap.size + 1) (by simp) 26 #[.int .i64 o.id, .int .i64 o.who, .int .i64 o.side, .int .i64 o.kind, .int .i64 o.price, .int .i64 o.qty, .int .i64 o.show_, .int .i64 o.stop]
  clear cC0 hso hz h1 h2 k1 k2 hl1 hl2 hA1 hA2 hl hsh
  go_enter Tryz.func4, Tryz.ntmps4
  go_upto_region 2 with fail
  generalize (w.alloc (.cells #[.slice A1 L.length c1, .slice A2 M.length c2] 24)).alloc (.cells #[.int .i64 o.id, .int .i64 o.who, .int .i64 o.side, .int .i64 o.kind, .int .i64 o.price, .int .i64 o.qty, .int .i64 o.show_, .int .i64 o.stop] 26) = w0 at *
  go_cut [23] from 18 to 78 (fun v wx => v = .bool (!inb mode 0 3) ∧ wx = w0)
  case first =>
    --<mode
    rcases (show mode < 0 ∨ (0 ≤ mode ∧ 3 < mode) ∨ (0 ≤ mode ∧ mode ≤ 3) by omega) with h | ⟨h, h2⟩ | ⟨h, h2⟩
    · have H := Lib.hid (show (!inb mode 0 3) = true by rw [inb_n (.inl h)]; rfl)
      go_wp2
      go_meet
      case rel => exact ⟨by rw [H.out], rfl⟩
    · have H := Lib.hid (show (!inb mode 0 3) = true by rw [inb_n (.inr h2)]; rfl)
      have h3 : ¬ mode < 0 := by omega
      go_wp2
      go_meet
      case rel => exact ⟨by rw [H.out], rfl⟩
    · have H := Lib.hid (show (!inb mode 0 3) = false by rw [inb_y ⟨h, h2⟩]; rfl)
      have h3 : ¬ mode < 0 := by omega
      have h4 : ¬ 3 < mode := by omega
      have d3 : decide (3 < mode) = false := decide_eq_false h4
      go_wp2
      go_meet
      case rel => exact ⟨by rw [H.out], rfl⟩
    -->mode
  case rest =>
  obtain ⟨rfl, rfl⟩ := hcut
  obtain ⟨w1, rfl⟩ : ∃ w1 : World, w1 = wc := ⟨_, rfl⟩
  obtain ⟨md, hmd⟩ : ∃ md, md = inb mode 0 3 := ⟨_, rfl⟩
  have HMD := Lib.hid hmd
  rw [← hmd]
  clear hmd
  obtain ⟨e1, he1⟩ : ∃ e1 : Int, e1 = if md = true then 0 else 1 := ⟨_, rfl⟩
  have HE1 := Lib.hid he1
  clear he1
  go_upto_if 23 with fail
  go_cut [7] from 18 to 78 (fun v wx => v = .int .i64 e1 ∧ wx = w1)
  case first =>
    cases md
    · have H := Lib.hid (show e1 = 1 from HE1.out)
      go_wp2
      go_meet
      case rel => exact ⟨by rw [H.out], rfl⟩
    · have H := Lib.hid (show e1 = 0 from HE1.out)
      go_wp2
      go_meet
      case rel => exact ⟨by rw [H.out], rfl⟩
  case rest =>
  obtain ⟨rfl, rfl⟩ := hcut
  obtain ⟨w2, rfl⟩ : ∃ w2 : World, w2 = wc := ⟨_, rfl⟩
  obtain ⟨e2, he2⟩ : ∃ e2 : Int, e2 = if md = true then z else 1 := ⟨_, rfl⟩
  have HE2 := Lib.hid he2
  clear he2
  go_upto_if 25 with fail
  go_cut [7] from 18 to 78 (fun v wx => v = .int .i64 e2 ∧ Below w2.heap.size w2 wx)
  case first =>
    --<comes
    cases md
    · have H := Lib.hid (show e2 = 1 from HE2.out)
      have h : e1 = 1 := HE1.out
      subst h
      have H1 := Lib.hid (show (1 : Int) = e2 from H.out.symm)
      go_wp2
      go_meet
      case rel => exact ⟨by rw [H.out], Below.refl _ _⟩
    · have H := Lib.hid (show e2 = z from HE2.out)
      have h : e1 = 0 := HE1.out
      subst h
      obtain ⟨q0, q1⟩ := box2 bb
      obtain ⟨y0, y1, y2, y3, y4, y5, y6, y7⟩ := box8o bo
      go_wp2_with fail
      go_at_call 6
      refine (cC.out _ (HL.out.on hb) (HM.out.on hb)).mono ?_
      rintro e w3 ⟨rfl, hb3⟩
      have HB3 := Lib.hid hb3
      clear hb3 q0 q1 y0 y1 y2 y3 y4 y5 y6 y7
      go_wp2
      go_meet
      case rel => exact ⟨by rw [H.out], HB3.out⟩
    -->comes
  case rest =>
  obtain ⟨rfl, hb2⟩ := hcut
  obtain ⟨w3, rfl⟩ : ∃ w3 : World, w3 = wc := ⟨_, rfl⟩
  replace bb := bb.keep hb2; replace bo := bo.keep hb2; replace hb := below_then hb2 hb
  clear hb2 cC
  --<r2
  go_upto_region 7 with fail
  have bm := Bk.new w3 31 #[.slice none 0 0, .slice none 0 0, .slice none 0 0, .int .i64 0, .int .i64 0, .slice none 0 0, .bool false]
  have hba : Below w3.heap.size w3 (w3.alloc (.cells #[.slice none 0 0, .slice none 0 0, .slice none 0 0, .int .i64 0, .int .i64 0, .slice none 0 0, .bool false] 31)) := (Below.refl _ _).alloc (Nat.le_refl _) _
  have hgo : w.heap.size + 1 < w3.heap.size := bo.lt
  replace bb := bb.keep hba; replace bo := bo.keep hba; replace hb := below_then hba hb
  clear hba
  generalize w3.alloc (.cells #[.slice none 0 0, .slice none 0 0, .slice none 0 0, .int .i64 0, .int .i64 0, .slice none 0 0, .bool false] 31) = w4 at *
  obtain ⟨gm, hgm⟩ : ∃ g, g = w3.heap.size := ⟨_, rfl⟩
  rw [← hgm] at bm hgo ⊢
  have HGO := Lib.hid hgo
  clear hgm hgo
  go_upto_if 30 with fail
  go_cut [7] from 18 to 78 (fun ev wx => ev = .int .i64 E ∧ Below w.heap.size w wx ∧ Bk wx w.heap.size 24 #[.slice A1 L.length c1, .slice A2 M.length c2] ∧ Bk wx (w.heap.size + 1) 26 #[.int .i64 o.id, .int .i64 o.who, .int .i64 o.side, .int .i64 o.kind, .int .i64 o.price, .int .i64 o.qty, .int .i64 o.show_, .int .i64 o.stop] ∧ ∃ n X1 d1 X2 d2 XT dT v3 XW dW v6, TBoxK w.heap.size gm n wx K1 K2 T gone W X1 d1 X2 d2 XT dT v3 XW dW v6)
  case first =>
    --<come
    by_cases hz : e2 = 0
    · subst hz
      have hmt : md = true := by
        cases md
        · have := HE2.out; simp at this
        · rfl
      have hr : readyE L M o = 0 := by have h2 := HE2.out; rw [if_pos hmt, HZ.out] at h2; exact h2.symm
      have hko : KO L M o mode E K1 K2 T gone W := by
        rcases HSO.out with ⟨a, _⟩ | ⟨_, h⟩
        · rw [← HMD.out, hmt] at a; cases a
        · exact h
      obtain ⟨q0, q1⟩ := box2 bb
      obtain ⟨y0, y1, y2, y3, y4, y5, y6, y7⟩ := box8o bo
      have cM1 := Lib.hid (cM.out hko hr w4 w.heap.size (by have := hb.size; exact this) (HL.out.below hb) (HM.out.below hb))
      have hgm := bm.lt
      clear hr hko hmt
      go_wp2_with fail
      go_at_call 7
      refine cM1.out.mono ?_
      rintro e w5 ⟨X1, d1, X2, d2, XT, dT, lf, XW, dW, en, rfl, hX, hb3⟩
      replace bb := bb.keep hb3; replace bo := bo.keep hb3; replace hb := below_then hb3 hb; replace bm := bm.keep hb3
      obtain ⟨hx1, hx2, hxt, hxw⟩ := hX.out
      have hgo := HGO.out
      have HB := Lib.hid (below_lo7 hb (g := gm) (by omega) (.slice X1 K1.length d1) (.slice X2 K2.length d2) (.slice XT T.length dT) (.int .i64 lf) (.int .i64 gone) (.slice XW W.length dW) (.bool en))
      have HX1 := Lib.hid (hx1.set7 (g := gm) (by omega) hgm (.slice X1 K1.length d1) (.slice X2 K2.length d2) (.slice XT T.length dT) (.int .i64 lf) (.int .i64 gone) (.slice XW W.length dW) (.bool en))
      have HX2 := Lib.hid (hx2.set7 (g := gm) (by omega) hgm (.slice X1 K1.length d1) (.slice X2 K2.length d2) (.slice XT T.length dT) (.int .i64 lf) (.int .i64 gone) (.slice XW W.length dW) (.bool en))
      have HXT := Lib.hid (hxt.under7 (g := gm) hgm (.slice X1 K1.length d1) (.slice X2 K2.length d2) (.slice XT T.length dT) (.int .i64 lf) (.int .i64 gone) (.slice XW W.length dW) (.bool en))
      have HXW := Lib.hid (hxw.under7 (g := gm) hgm (.slice X1 K1.length d1) (.slice X2 K2.length d2) (.slice XT T.length dT) (.int .i64 lf) (.int .i64 gone) (.slice XW W.length dW) (.bool en))
      have HBM := Lib.hid (bm.set7 (.slice X1 K1.length d1) (.slice X2 K2.length d2) (.slice XT T.length dT) (.int .i64 lf) (.int .i64 gone) (.slice XW W.length dW) (.bool en))
      have HBB := Lib.hid (bb.far7 (g' := gm) (by omega) (.slice X1 K1.length d1) (.slice X2 K2.length d2) (.slice XT T.length dT) (.int .i64 lf) (.int .i64 gone) (.slice XW W.length dW) (.bool en))
      have HBO := Lib.hid (bo.far7 (g' := gm) (by omega) (.slice X1 K1.length d1) (.slice X2 K2.length d2) (.slice XT T.length dT) (.int .i64 lf) (.int .i64 gone) (.slice XW W.length dW) (.bool en))
      obtain ⟨m0, m1, m2, m3, m4, m5, m6⟩ := box7 bm
      have f0 := bm.free 0; have f1 := bm.free 1; have f2 := bm.free 2; have f3 := bm.free 3; have f4 := bm.free 4; have f5 := bm.free 5; have f6 := bm.free 6
      clear hX hb3 hb bm bb bo hx1 hx2 hxt hxw hgo hgm cM1 q0 q1 y0 y1 y2 y3 y4 y5 y6 y7
      go_wp2
      go_meet
      case rel => exact ⟨rfl, HB.out, HBB.out, HBO.out, _, _, _, _, _, _, _, _, _, _, _, ⟨HBM.out, HX1.out, HX2.out, HXT.out.rd (fun i j hi hj => trows_get hi hj), HXW.out.rdI⟩⟩
    · have e1 : (e2 == 0) = false := by simpa using hz
      have HQ := Lib.hid (show E = e2 ∧ K1 = [] ∧ K2 = [] ∧ T = [] ∧ gone = 0 ∧ W = [] by
        rcases HSO.out with ⟨a, b, c⟩ | ⟨a, h⟩
        · have h2 := HE2.out; rw [HMD.out, a] at h2; simp at h2
          exact ⟨by rw [b, h2], c⟩
        · have h2 := HE2.out; rw [HMD.out, a, if_pos rfl] at h2
          rcases h with ⟨_, b, c⟩ | ⟨b, _⟩ | ⟨b, _⟩
          · exact ⟨by rw [b, h2, HZ.out], c⟩
          · exact absurd (h2.trans (HZ.out.trans b)) hz
          · exact absurd (h2.trans (HZ.out.trans b)) hz)
      have HB := Lib.hid hb; have HBB := Lib.hid bb; have HBO := Lib.hid bo; have HBM := Lib.hid bm
      clear hz hb bb bo bm
      go_wp2
      go_meet
      case rel =>
        obtain ⟨rfl, rfl, rfl, rfl, rfl, rfl⟩ := HQ.out
        exact ⟨rfl, HB.out, HBB.out, HBO.out, 0, none, 0, none, 0, none, 0, _, none, 0, _, ⟨HBM.out, LvA.nil, LvA.nil, rd_nil6, fun h => absurd h (by simp)⟩⟩
    -->come
  case rest =>
  obtain ⟨rfl, hb3, bb3, bo3, n, X1, d1, X2, d2, XT, dT, v3, XW, dW, v6, hbox⟩ := hcut
  have HBX := Lib.hid hbox
  clear bb bo hb bm hbox cM
  --<calls
  obtain ⟨wf, rfl⟩ : ∃ wf : World, wf = wc := ⟨_, rfl⟩
  obtain ⟨q0, q1⟩ := box2 bb3
  obtain ⟨y0, y1, y2, y3, y4, y5, y6, y7⟩ := box8o bo3
  go_wp2_with fail
  go_at_call 15
  refine (cD.out _ (HL.out.on hb3) (HM.out.on hb3)).mono ?_
  rintro e w5 ⟨B1, e1, B2, e2, BT, eT, BW, eW, rfl, hD, hb4⟩
  replace hb3 := below_then hb4 hb3
  have HBX4 := Lib.hid (HBX.out.below hb4)
  clear hb4 cD q0 q1 y0 y1 y2 y3 y4 y5 y6 y7 HBX bb3 bo3
  go_upto_region 10 with fail
  have bx := Bk.new w5 24 #[.slice B1 K1.length e1, .slice B2 K2.length e2]
  have hba : Below w5.heap.size w5 (w5.alloc (.cells #[.slice B1 K1.length e1, .slice B2 K2.length e2] 24)) := (Below.refl _ _).alloc (Nat.le_refl _) _
  replace hb3 := below_then hba hb3
  have HBX5 := Lib.hid (HBX4.out.below hba)
  have HD := Lib.hid (show RdLv (w5.alloc (.cells #[.slice B1 K1.length e1, .slice B2 K2.length e2] 24)) (w5.alloc (.cells #[.slice B1 K1.length e1, .slice B2 K2.length e2] 24)).heap.size B1 K1 ∧ RdLv (w5.alloc (.cells #[.slice B1 K1.length e1, .slice B2 K2.length e2] 24)) (w5.alloc (.cells #[.slice B1 K1.length e1, .slice B2 K2.length e2] 24)).heap.size B2 K2 ∧ Rd (w5.alloc (.cells #[.slice B1 K1.length e1, .slice B2 K2.length e2] 24)) (w5.alloc (.cells #[.slice B1 K1.length e1, .slice B2 K2.length e2] 24)).heap.size BT T.length 6 (tcell T) ∧ RdI (w5.alloc (.cells #[.slice B1 K1.length e1, .slice B2 K2.length e2] 24)) w5.heap.size BW W from ⟨hD.out.1.on hba, hD.out.2.1.on hba, (hD.out.2.2.1.below hba).more hba.size, hD.out.2.2.2.below hba⟩)
  have hsz : w5.heap.size ≤ (w5.alloc (.cells #[.slice B1 K1.length e1, .slice B2 K2.length e2] 24)).heap.size := hba.size
  clear hD hba HBX4
  generalize w5.alloc (.cells #[.slice B1 K1.length e1, .slice B2 K2.length e2] 24) = w6 at *
  have HD0 := Lib.hid (HD.out.2.2.2.up hsz)
  clear hsz
  go_wp2_with fail
  go_at_call 9
  refine (same_told E _ (Laid.below HLD.out hb3)).mono ?_
  rintro e w7 ⟨rfl, hb6⟩
  replace hb3 := below_then hb6 hb3; replace bx := bx.keep hb6
  have HBX6 := Lib.hid (HBX5.out.below hb6)
  have HD6 := Lib.hid (show RdLv w7 w7.heap.size B1 K1 ∧ RdLv w7 w7.heap.size B2 K2 ∧ Rd w7 w7.heap.size BT T.length 6 (tcell T) ∧ RdI w7 w7.heap.size BW W from ⟨HD.out.1.on hb6, HD.out.2.1.on hb6, (HD.out.2.2.1.below hb6).more hb6.size, (HD0.out.below hb6).up hb6.size⟩)
  clear hb6 HBX5 HD HD0
  obtain ⟨x0, x1⟩ := box2 bx
  obtain ⟨m0, m1, m2, _, m4, m5, _⟩ := box7 HBX6.out.m
  go_wp2_with fail
  go_at_call 10
  refine (same_book K1 K2 B1 B2 X1 X2 e1 e2 d1 d2 _ HD6.out.1 HD6.out.2.1 HBX6.out.l1.rd HBX6.out.l2.rd HSH.out.1 HSH.out.2.1).mono ?_
  rintro e w8 ⟨rfl, hb7⟩
  replace hb3 := below_then hb7 hb3
  have HBX7 := Lib.hid (HBX6.out.below hb7)
  have HD7 := Lib.hid (show Rd w8 w8.heap.size BT T.length 6 (tcell T) ∧ RdI w8 w8.heap.size BW W from ⟨(HD6.out.2.2.1.below hb7).more hb7.size, (HD6.out.2.2.2.below hb7).up hb7.size⟩)
  clear hb7 HBX6 HD6 m0 m1 m2 m4 m5 x0 x1 bx
  obtain ⟨m0, m1, m2, _, m4, m5, _⟩ := box7 HBX7.out.m
  go_wp2_with fail
  go_at_call 11
  refine (same_trades T BT XT eT dT _ HD7.out.1 HBX7.out.tr HSH.out.2.2.1).mono ?_
  rintro e w9 ⟨rfl, hb8⟩
  replace hb3 := below_then hb8 hb3
  have HBX8 := Lib.hid (HBX7.out.below hb8)
  have HD8 := Lib.hid ((HD7.out.2.below hb8).up hb8.size)
  clear hb8 HBX7 HD7 m0 m1 m2 m4 m5
  obtain ⟨m0, m1, m2, _, m4, m5, _⟩ := box7 HBX8.out.m
  go_wp2_with fail
  go_at_call 16
  refine (same_ints W BW XW eW dW _ HD8.out HBX8.out.wt HSH.out.2.2.2).mono ?_
  rintro e wa ⟨rfl, hb9⟩
  replace hb3 := below_then hb9 hb3
  have HBX9 := Lib.hid (HBX8.out.below hb9)
  clear hb9 HBX8 HD8 m0 m1 m2 m4 m5
  obtain ⟨m0, m1, m2, _, m4, m5, _⟩ := box7 HBX9.out.m
  clear HBX9
  go_wp2
  go_ret
  exact ⟨ret_bool (by simp), hb3⟩
  -->calls
  -->r2
theorem selfTells_law {H : Type} {enc : TypeId × Value → H} {v0 v1 v2 : Value} {d0 d1 d2 : DataW H} {p0 p1 p2 : List MemPlace} {base : Nat} {W : World}
    (h0 : Arg enc W base 24 v0 d0 p0) (h1 : Arg enc W base 26 v1 d1 p1) (h2 : Arg enc W base 3 v2 d2 p2) (hl : Laid W) :
    Calls Tryz.prog 4 #[v0, v1, v2] W fun e w' => e = .returned (.bool true) ∧ Below W.heap.size W w' := by
  obtain ⟨A1, L, c1, A2, M, c2, rfl, k1, k2, hA1, hA2, hr1, hr2⟩ := h0.bookc
  obtain ⟨o, rfl⟩ := h1.order
  obtain ⟨m, rfl, _⟩ := h2.int
  exact selfTells_any L M o m A1 A2 c1 c2 W hr1 hr2 k1 k2 hA1 hA2 hl
end Go.Proofs.YtiaofbkhnodbhaaGreatDoor
