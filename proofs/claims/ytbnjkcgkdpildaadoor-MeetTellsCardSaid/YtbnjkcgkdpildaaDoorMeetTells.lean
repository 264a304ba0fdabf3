/- MeetTells holds: for all arguments the law's function returns true, where the variable that it lists reads as its text lays it. -/
import Derived.Test.YtbnjkcgkdpildaaDoorMeetOut
import Derived.Test.YtbnjkcgkdpildaaDoorTold
import Derived.Test.YtbnjkcgkdpildaaDoorCould
import Derived.Test.YtbnjkcgkdpildaaDoorSameLv
import Derived.Test.YtbnjkcgkdpildaaDoorSameTr
import Derived.Test.YtbnjkcgkdpildaaDoorRBook2
import Derived.Test.YtbnjkcgkdpildaaDoorRQueue
import Derived.Test.YtbnjkcgkdpildaaDoorBookArg
import Derived.Test.YtbnjkcgkdpildaaDoorStructArg
import Derived.Test.YtbnjkcgkdpildaaDoorLaid
namespace Go.Proofs.YtbnjkcgkdpildaaDoor
set_option linter.all false
open Go Go.RowKit Go.ChangeShapes Go.WideShapes
/-- how much could be traded -/
def couldV (z v : Int) : Int := if z = 0 then v else 0
theorem could_out (L M : List Lv) (o : Order) (A1 A2 : Option Addr) (c1 c2 : Nat) (w : World) (h1 : RdLv w w.heap.size A1 L) (h2 : RdLv w w.heap.size A2 M) (hl1 : L.length ≤ maxLen) (hl2 : M.length ≤ maxLen) (z : Int) (hz : z = readyE L M o) (v : Int) (hv : v = min (mayQ o (pick o.side L M)) o.qty) :
    Calls Tryd.prog 22 #[.agg #[.slice A1 L.length c1, .slice A2 M.length c2], .agg #[.int .i64 o.id, .int .i64 o.who, .int .i64 o.side, .int .i64 o.kind, .int .i64 o.price, .int .i64 o.qty, .int .i64 o.show_, .int .i64 o.stop]] w fun e w' => e = .returned (.tuple #[.int .i64 (couldV z v), errV z]) ∧ Below w.heap.size w w' := by
  refine (could_any L M o A1 A2 c1 c2 w h1 h2 hl1 hl2 z hz v hv).mono ?_
  rintro e w' ⟨a, ev, rfl, h, hb⟩
  rcases h.out with ⟨h0, rfl, rfl⟩ | ⟨h0, rfl, rfl⟩
  · exact ⟨by rw [couldV, errV, if_neg h0, if_neg h0], hb⟩
  · exact ⟨by rw [couldV, errV, if_pos h0, if_pos h0], hb⟩
theorem same_book (L M : List Lv) (A1 A2 B1 B2 : Option Addr) (c1 c2 d1 d2 : Nat) (w : World) (h1 : RdLv w w.heap.size A1 L) (h2 : RdLv w w.heap.size A2 M) (h3 : RdLv w w.heap.size B1 L) (h4 : RdLv w w.heap.size B2 M)
    (k1 : L.length ≤ 60 ∧ ∀ x ∈ L, x.rs.length ≤ 60) (k2 : M.length ≤ 60 ∧ ∀ x ∈ M, x.rs.length ≤ 60) :
    Calls Tryd.prog 16 #[.agg #[.slice A1 L.length c1, .slice A2 M.length c2], .agg #[.slice B1 L.length d1, .slice B2 M.length d2]] w fun e w' => e = .returned (.bool true) ∧ Below w.heap.size w w' := by
  have j1 : L.length ≤ maxLen ∧ ∀ x ∈ L, x.rs.length ≤ 1000 := ⟨by unfold maxLen; omega, fun x hx => by have := k1.2 x hx; omega⟩
  have j2 : M.length ≤ maxLen ∧ ∀ x ∈ M, x.rs.length ≤ 1000 := ⟨by unfold maxLen; omega, fun x hx => by have := k2.2 x hx; omega⟩
  refine (samebook_any L M L M A1 A2 B1 B2 c1 c2 d1 d2 w h1 h2 h3 h4 j1 j2 j1 j2).mono ?_
  rintro e w' ⟨rfl, hb⟩
  exact ⟨by simp, hb⟩
theorem same_trades (T : List Trade) (A B : Option Addr) (c d : Nat) (w : World) (h1 : Rd w w.heap.size A T.length 6 (tcell T)) (h2 : Rd w w.heap.size B T.length 6 (tcell T)) (k : T.length ≤ 400) :
    Calls Tryd.prog 17 #[.slice A T.length c, .slice B T.length d] w fun e w' => e = .returned (.bool true) ∧ Below w.heap.size w w' := by
  refine (trades_same T T A B c d w h1 h2 (by omega) (by omega)).mono ?_
  rintro e w' ⟨rfl, hb⟩
  exact ⟨by simp, hb⟩
theorem rofp_any (s : Int) (hs : vs s = true) (A1 A2 : Option Addr) (n1 n2 c1 c2 : Nat) (w : World) :
    Calls Tryd.prog 19 #[.agg #[.slice A1 n1 c1, .slice A2 n2 c2], .int .i64 (3 - s)] w fun e w' => e = .returned (.slice (pick s A1 A2) (pick s n1 n2) (pick s c1 c2)) ∧ Below w.heap.size w w' := by
  have h := rofm_any s hs (pick s A1 A2) A1 A2 (pick s n1 n2) n1 n2 (pick s c1 c2) c1 c2 w
  simp only [pick_left, pick_right] at h
  exact h
/-- what stands in the reference's block -/
structure TBox (lo gm n : Nat) (w : World) (K1 K2 : List Lv) (T : List Trade) (left : Int) (A1 : Option Addr) (c1 : Nat) (A2 : Option Addr) (c2 : Nat) (AT : Option Addr) (cT : Nat) (v4 v5 v6 : Value) : Prop where
  m : Bk w gm 52 #[.slice A1 K1.length c1, .slice A2 K2.length c2, .slice AT T.length cT, .int .i64 left, v4, v5, v6]
  l1 : LvA lo n w A1 K1
  l2 : LvA lo n w A2 K2
  tr : Rd w w.heap.size AT T.length 6 (tcell T)
theorem TBox.below {lo gm n c1 c2 cT : Nat} {w w1 : World} {K1 K2 : List Lv} {T : List Trade} {left : Int} {A1 A2 AT : Option Addr} {v4 v5 v6 : Value} (h : TBox lo gm n w K1 K2 T left A1 c1 A2 c2 AT cT v4 v5 v6) (hb : Below w.heap.size w w1) : TBox lo gm n w1 K1 K2 T left A1 c1 A2 c2 AT cT v4 v5 v6 :=
  ⟨h.m.keep hb, h.l1.below hb, h.l2.below hb, (h.tr.below hb).more hb.size⟩
theorem LvA.set7 {lo n g : Nat} {w : World} {A : Option Addr} {L : List Lv} (h : LvA lo n w A L) (h1 : lo ≤ g) (h2 : g < n) (a b c d e f i : Value) :
    LvA lo n (((((((w.setCell ⟨g, 0, none⟩ a).setCell ⟨g, 1, none⟩ b).setCell ⟨g, 2, none⟩ c).setCell ⟨g, 3, none⟩ d).setCell ⟨g, 4, none⟩ e).setCell ⟨g, 5, none⟩ f).setCell ⟨g, 6, none⟩ i) A L :=
  ((((((h.far (p := ⟨g, 0, none⟩) h1 h2 a).far (p := ⟨g, 1, none⟩) h1 h2 b).far (p := ⟨g, 2, none⟩) h1 h2 c).far (p := ⟨g, 3, none⟩) h1 h2 d).far (p := ⟨g, 4, none⟩) h1 h2 e).far (p := ⟨g, 5, none⟩) h1 h2 f).far (p := ⟨g, 6, none⟩) h1 h2 i
theorem OwnS.under7 {w : World} {base s n cap g : Nat} {A : Option Addr} {xs : List Value} (h : OwnS w base s A n cap xs) (hp : g < base) (a b c d e f i : Value) :
    OwnS (((((((w.setCell ⟨g, 0, none⟩ a).setCell ⟨g, 1, none⟩ b).setCell ⟨g, 2, none⟩ c).setCell ⟨g, 3, none⟩ d).setCell ⟨g, 4, none⟩ e).setCell ⟨g, 5, none⟩ f).setCell ⟨g, 6, none⟩ i) base s A n cap xs :=
  ((((((h.under (p := ⟨g, 0, none⟩) hp a).under (p := ⟨g, 1, none⟩) hp b).under (p := ⟨g, 2, none⟩) hp c).under (p := ⟨g, 3, none⟩) hp d).under (p := ⟨g, 4, none⟩) hp e).under (p := ⟨g, 5, none⟩) hp f).under (p := ⟨g, 6, none⟩) hp i
theorem Bk.far7 {w : World} {g g' : Nat} {t : TypeId} {cs : Array Value} (h : Bk w g t cs) (hg : g ≠ g') (a b c d e f i : Value) : Bk (((((((w.setCell ⟨g', 0, none⟩ a).setCell ⟨g', 1, none⟩ b).setCell ⟨g', 2, none⟩ c).setCell ⟨g', 3, none⟩ d).setCell ⟨g', 4, none⟩ e).setCell ⟨g', 5, none⟩ f).setCell ⟨g', 6, none⟩ i) g t cs :=
  ((((((h.far (p := ⟨g', 0, none⟩) hg a).far (p := ⟨g', 1, none⟩) hg b).far (p := ⟨g', 2, none⟩) hg c).far (p := ⟨g', 3, none⟩) hg d).far (p := ⟨g', 4, none⟩) hg e).far (p := ⟨g', 5, none⟩) hg f).far (p := ⟨g', 6, none⟩) hg i
theorem below_lo7 {lo : Nat} {w w1 : World} {g : Nat} (h : Below lo w w1) (hg : lo ≤ g) (a b c d e f i : Value) : Below lo w (((((((w1.setCell ⟨g, 0, none⟩ a).setCell ⟨g, 1, none⟩ b).setCell ⟨g, 2, none⟩ c).setCell ⟨g, 3, none⟩ d).setCell ⟨g, 4, none⟩ e).setCell ⟨g, 5, none⟩ f).setCell ⟨g, 6, none⟩ i) :=
  ((((((h.setCell (p := ⟨g, 0, none⟩) hg a).setCell (p := ⟨g, 1, none⟩) hg b).setCell (p := ⟨g, 2, none⟩) hg c).setCell (p := ⟨g, 3, none⟩) hg d).setCell (p := ⟨g, 4, none⟩) hg e).setCell (p := ⟨g, 5, none⟩) hg f).setCell (p := ⟨g, 6, none⟩) hg i
set_option maxRecDepth 100000 in
set_option maxHeartbeats 8000000 in
theorem meetTells_any (L M : List Lv) (o : Order) (A1 A2 : Option Addr) (c1 c2 : Nat) (w : World) (h1 : RdLv w w.heap.size A1 L) (h2 : RdLv w w.heap.size A2 M) (k1 : L.length ≤ c1 ∧ c1 ≤ maxLen) (k2 : M.length ≤ c2 ∧ c2 ≤ maxLen) (hA1 : A1 = none → c1 = 0) (hA2 : A2 = none → c2 = 0) (hl : Laid w) :
    Calls Tryd.prog 6 #[.agg #[.slice A1 L.length c1, .slice A2 M.length c2], .agg #[.int .i64 o.id, .int .i64 o.who, .int .i64 o.side, .int .i64 o.kind, .int .i64 o.price, .int .i64 o.qty, .int .i64 o.show_, .int .i64 o.stop]] w fun e w' => e = .returned (.bool true) ∧ Below w.heap.size w w' := by
  have hl1 := Nat.le_trans k1.1 k1.2
  have hl2 := Nat.le_trans k2.1 k2.2
  obtain ⟨E, K1, K2, T, left, hmo⟩ := mo_ex L M o
  obtain ⟨V, hV⟩ : ∃ V, V = min (mayQ o (pick o.side L M)) o.qty := ⟨_, rfl⟩
  obtain ⟨z, hz⟩ : ∃ z, z = readyE L M o := ⟨_, rfl⟩
  have HMO := Lib.hid hmo
  have HSH := Lib.hid hmo.short
  have HZ := Lib.hid hz
  have HV := Lib.hid hV
  have HLD := Lib.hid hl
  have HL := Lib.hid h1; have HM := Lib.hid h2
  have cC0 := fun w' a b => rcomes_any L M o A1 A2 c1 c2 w' a b hl1 hl2
  rw [← hz] at cC0
  have cC := Lib.hid cC0
  have cD := Lib.hid (fun w' a b => mdo_out hmo A1 A2 c1 c2 w' a b hl1 hl2 hA1 hA2)
  have cT := Lib.hid (fun w' a b => mtrades_out hmo A1 A2 c1 c2 w' a b hl1 hl2 hA1 hA2)
  have cU := Lib.hid (fun w' a b => could_out L M o A1 A2 c1 c2 w' a b hl1 hl2 z hz V hV)
  have cM := Lib.hid (fun hr w' lo hlo a b => rmeet_out hmo hr A1 A2 c1 c2 w' lo hlo a b k1 k2)
  have hb : Below w.heap.size w ((w.alloc (.cells #[.slice A1 L.length c1, .slice A2 M.length c2] 29)).alloc (.cells #[.int .i64 o.id, .int .i64 o.who, .int .i64 o.side, .int .i64 o.kind, .int .i64 o.price, .int .i64 o.qty, .int .i64 o.show_, .int .i64 o.stop] 36)) := below_then_alloc ((Below.refl _ _).alloc (Nat.le_refl _) _)
  have bb := (Bk.new w 29 #[.slice A1 L.length c1, .slice A2 M.length c2]).alloc (.cells #[.int .i64 o.id, .int .i64 o.who, .int .i64 o.side, .int .i64 o.kind, .int .i64 o.price, .int .i64 o.qty, .int .i64 o.show_, .int .i64 o.stop] 36)
  have bo := Bk.at_ (w := w.alloc (.cells #[.slice A1 L.length c1, .slice A2 M.length c2] 29)) (g' := w.heap.size + 1) (by simp) 36 #[.int .i64 o.id, .int .i64 o.who, .int .i64 o.side, .int .i64 o.kind, .int .i64 o.price, .int .i64 o.qty, .int .i64 o.show_, .int .i64 o.stop]
  clear cC0 hmo hV hz h1 h2 k1 k2 hl1 hl2 hA1 hA2 hl
  go_enter Tryd.func6, Tryd.ntmps6
  go_upto_region 1 with fail
  generalize (w.alloc (.cells #[.slice A1 L.length c1, .slice A2 M.length c2] 29)).alloc (.cells #[.int .i64 o.id, .int .i64 o.who, .int .i64 o.side, .int .i64 o.kind, .int .i64 o.price, .int .i64 o.qty, .int .i64 o.show_, .int .i64 o.stop] 36) = w0 at *
  obtain ⟨q0, q1⟩ := box2 bb
  obtain ⟨y0, y1, y2, y3, y4, y5, y6, y7⟩ := box8o bo
  go_wp2_with fail
  go_at_call 13
  refine (cC.out _ (HL.out.on hb) (HM.out.on hb)).mono ?_
  rintro e w1 ⟨rfl, hb1⟩
  replace bb := bb.keep hb1; replace bo := bo.keep hb1; replace hb := below_then hb1 hb
  clear hb1 cC q0 q1 y0 y1 y2 y3 y4 y5 y6 y7
  go_upto_region 4 with fail
  have bm := Bk.new w1 52 #[.slice none 0 0, .slice none 0 0, .slice none 0 0, .int .i64 0, .int .i64 0, .slice none 0 0, .bool false]
  have hba : Below w1.heap.size w1 (w1.alloc (.cells #[.slice none 0 0, .slice none 0 0, .slice none 0 0, .int .i64 0, .int .i64 0, .slice none 0 0, .bool false] 52)) := (Below.refl _ _).alloc (Nat.le_refl _) _
  have hgo : w.heap.size + 1 < w1.heap.size := bo.lt
  replace bb := bb.keep hba; replace bo := bo.keep hba; replace hb := below_then hba hb
  clear hba
  generalize w1.alloc (.cells #[.slice none 0 0, .slice none 0 0, .slice none 0 0, .int .i64 0, .int .i64 0, .slice none 0 0, .bool false] 52) = w2 at *
  obtain ⟨gm, hgm⟩ : ∃ g, g = w1.heap.size := ⟨_, rfl⟩
  rw [← hgm] at bm hgo ⊢
  have HGO := Lib.hid hgo
  clear hgm hgo
  go_upto_if 29 with fail
  go_cut [5] from 24 to 138 (fun ev wx => ev = .int .i64 E ∧ Below w.heap.size w wx ∧ Bk wx w.heap.size 29 #[.slice A1 L.length c1, .slice A2 M.length c2] ∧ Bk wx (w.heap.size + 1) 36 #[.int .i64 o.id, .int .i64 o.who, .int .i64 o.side, .int .i64 o.kind, .int .i64 o.price, .int .i64 o.qty, .int .i64 o.show_, .int .i64 o.stop] ∧ ∃ n X1 d1 X2 d2 XT dT v4 v5 v6, TBox w.heap.size gm n wx K1 K2 T left X1 d1 X2 d2 XT dT v4 v5 v6)
  case first =>
    --<meet
    by_cases hz : z = 0
    · have e1 : (z == 0) = true := by simpa using hz
      have hr : readyE L M o = 0 := HZ.out.symm.trans hz
      obtain ⟨q0, q1⟩ := box2 bb
      obtain ⟨y0, y1, y2, y3, y4, y5, y6, y7⟩ := box8o bo
      have cM1 := Lib.hid (cM.out hr w2 w.heap.size (by have := hb.size; exact this) (HL.out.below hb) (HM.out.below hb))
      have hgm := bm.lt
      clear hz hr
      go_wp2_with fail
      go_at_call 14
      refine cM1.out.mono ?_
      rintro e w3 ⟨X1, d1, X2, d2, XT, dT, XW, nW, dW, en, rfl, hX, hb3⟩
      replace bb := bb.keep hb3; replace bo := bo.keep hb3; replace hb := below_then hb3 hb; replace bm := bm.keep hb3
      obtain ⟨hx1, hx2, hxt⟩ := hX.out
      have hgo := HGO.out
      have HB := Lib.hid (below_lo7 hb (g := gm) (by omega) (.slice X1 K1.length d1) (.slice X2 K2.length d2) (.slice XT T.length dT) (.int .i64 left) (.int .i64 0) (.slice XW nW dW) (.bool en))
      have HX1 := Lib.hid (hx1.set7 (g := gm) (by omega) hgm (.slice X1 K1.length d1) (.slice X2 K2.length d2) (.slice XT T.length dT) (.int .i64 left) (.int .i64 0) (.slice XW nW dW) (.bool en))
      have HX2 := Lib.hid (hx2.set7 (g := gm) (by omega) hgm (.slice X1 K1.length d1) (.slice X2 K2.length d2) (.slice XT T.length dT) (.int .i64 left) (.int .i64 0) (.slice XW nW dW) (.bool en))
      have HXT := Lib.hid (hxt.under7 (g := gm) hgm (.slice X1 K1.length d1) (.slice X2 K2.length d2) (.slice XT T.length dT) (.int .i64 left) (.int .i64 0) (.slice XW nW dW) (.bool en))
      have HBM := Lib.hid (bm.set7 (.slice X1 K1.length d1) (.slice X2 K2.length d2) (.slice XT T.length dT) (.int .i64 left) (.int .i64 0) (.slice XW nW dW) (.bool en))
      have HBB := Lib.hid (bb.far7 (g' := gm) (by omega) (.slice X1 K1.length d1) (.slice X2 K2.length d2) (.slice XT T.length dT) (.int .i64 left) (.int .i64 0) (.slice XW nW dW) (.bool en))
      have HBO := Lib.hid (bo.far7 (g' := gm) (by omega) (.slice X1 K1.length d1) (.slice X2 K2.length d2) (.slice XT T.length dT) (.int .i64 left) (.int .i64 0) (.slice XW nW dW) (.bool en))
      obtain ⟨m0, m1, m2, m3, m4, m5, m6⟩ := box7 bm
      have f0 := bm.free 0; have f1 := bm.free 1; have f2 := bm.free 2; have f3 := bm.free 3; have f4 := bm.free 4; have f5 := bm.free 5; have f6 := bm.free 6
      clear hX hb3 hb bm bb bo hx1 hx2 hxt hgo hgm cM1 q0 q1 y0 y1 y2 y3 y4 y5 y6 y7
      go_wp2
      go_meet
      case rel => exact ⟨rfl, HB.out, HBB.out, HBO.out, _, _, _, _, _, _, _, _, _, _, ⟨HBM.out, HX1.out, HX2.out, HXT.out.rd (fun i j hi hj => trows_get hi hj)⟩⟩
    · have e1 : (z == 0) = false := by simpa using hz
      have HQ := Lib.hid (show E = z ∧ K1 = [] ∧ K2 = [] ∧ T = [] ∧ left = 0 by
        rcases HMO.out with ⟨_, a, b⟩ | ⟨a, _⟩ | ⟨a, _⟩
        · exact ⟨by rw [a, HZ.out], b⟩
        · exact absurd (HZ.out.trans a) hz
        · exact absurd (HZ.out.trans a) hz)
      have HB := Lib.hid hb; have HBB := Lib.hid bb; have HBO := Lib.hid bo; have HBM := Lib.hid bm
      clear hz hb bb bo bm
      go_wp2
      go_meet
      case rel =>
        obtain ⟨rfl, rfl, rfl, rfl, rfl⟩ := HQ.out
        exact ⟨rfl, HB.out, HBB.out, HBO.out, 0, none, 0, none, 0, none, 0, _, _, _, ⟨HBM.out, LvA.nil, LvA.nil, rd_nil6⟩⟩
    -->meet
  case rest =>
  obtain ⟨rfl, hb3, bb3, bo3, n, X1, d1, X2, d2, XT, dT, v4, v5, v6, hbox⟩ := hcut
  have HBX := Lib.hid hbox
  clear bb bo hb bm hbox cM
  --<calls
  obtain ⟨wf, rfl⟩ : ∃ wf : World, wf = wc := ⟨_, rfl⟩
  obtain ⟨q0, q1⟩ := box2 bb3
  obtain ⟨y0, y1, y2, y3, y4, y5, y6, y7⟩ := box8o bo3
  go_wp2_with fail
  go_at_call 15
  refine (cD.out _ (HL.out.on hb3) (HM.out.on hb3)).mono ?_
  rintro e w4 ⟨B1, e1, B2, e2, BT, eT, rfl, hD, hb4⟩
  replace bb3 := bb3.keep hb4; replace bo3 := bo3.keep hb4; replace hb3 := below_then hb4 hb3
  have HBX4 := Lib.hid (HBX.out.below hb4)
  clear hb4 cD q0 q1 y0 y1 y2 y3 y4 y5 y6 y7 HBX
  go_upto_region 7 with fail
  have bx := Bk.new w4 29 #[.slice B1 K1.length e1, .slice B2 K2.length e2]
  have hba : Below w4.heap.size w4 (w4.alloc (.cells #[.slice B1 K1.length e1, .slice B2 K2.length e2] 29)) := (Below.refl _ _).alloc (Nat.le_refl _) _
  replace bb3 := bb3.keep hba; replace bo3 := bo3.keep hba; replace hb3 := below_then hba hb3
  have HBX5 := Lib.hid (HBX4.out.below hba)
  have HD := Lib.hid (show RdLv (w4.alloc (.cells #[.slice B1 K1.length e1, .slice B2 K2.length e2] 29)) (w4.alloc (.cells #[.slice B1 K1.length e1, .slice B2 K2.length e2] 29)).heap.size B1 K1 ∧ RdLv (w4.alloc (.cells #[.slice B1 K1.length e1, .slice B2 K2.length e2] 29)) (w4.alloc (.cells #[.slice B1 K1.length e1, .slice B2 K2.length e2] 29)).heap.size B2 K2 ∧ Rd (w4.alloc (.cells #[.slice B1 K1.length e1, .slice B2 K2.length e2] 29)) (w4.alloc (.cells #[.slice B1 K1.length e1, .slice B2 K2.length e2] 29)).heap.size BT T.length 6 (tcell T) from ⟨hD.out.1.on hba, hD.out.2.1.on hba, (hD.out.2.2.below hba).more hba.size⟩)
  clear hD hba HBX4
  generalize w4.alloc (.cells #[.slice B1 K1.length e1, .slice B2 K2.length e2] 29) = w5 at *
  go_wp2_with fail
  go_at_call 8
  refine (same_told E _ (Laid.below HLD.out hb3)).mono ?_
  rintro e w6 ⟨rfl, hb6⟩
  replace bb3 := bb3.keep hb6; replace bo3 := bo3.keep hb6; replace hb3 := below_then hb6 hb3; replace bx := bx.keep hb6
  have HBX6 := Lib.hid (HBX5.out.below hb6)
  have HD6 := Lib.hid (show RdLv w6 w6.heap.size B1 K1 ∧ RdLv w6 w6.heap.size B2 K2 ∧ Rd w6 w6.heap.size BT T.length 6 (tcell T) from ⟨HD.out.1.on hb6, HD.out.2.1.on hb6, (HD.out.2.2.below hb6).more hb6.size⟩)
  clear hb6 HBX5 HD
  obtain ⟨x0, x1⟩ := box2 bx
  obtain ⟨m0, m1, m2, m3, _, _, _⟩ := box7 HBX6.out.m
  go_wp2_with fail
  go_at_call 16
  refine (same_book K1 K2 B1 B2 X1 X2 e1 e2 d1 d2 _ HD6.out.1 HD6.out.2.1 HBX6.out.l1.rd HBX6.out.l2.rd HSH.out.1 HSH.out.2.1).mono ?_
  rintro e w7 ⟨rfl, hb7⟩
  replace bb3 := bb3.keep hb7; replace bo3 := bo3.keep hb7; replace hb3 := below_then hb7 hb3
  have HBX7 := Lib.hid (HBX6.out.below hb7)
  have HD7 := Lib.hid ((HD6.out.2.2.below hb7).more hb7.size)
  clear hb7 HBX6 HD6 m0 m1 m2 m3 x0 x1 bx
  obtain ⟨m0, m1, m2, m3, _, _, _⟩ := box7 HBX7.out.m
  go_wp2_with fail
  go_at_call 17
  refine (same_trades T BT XT eT dT _ HD7.out HBX7.out.tr HSH.out.2.2).mono ?_
  rintro e w8 ⟨rfl, hb8⟩
  replace bb3 := bb3.keep hb8; replace bo3 := bo3.keep hb8; replace hb3 := below_then hb8 hb3
  have HBX8 := Lib.hid (HBX7.out.below hb8)
  clear hb8 HBX7 HD7 m0 m1 m2 m3
  obtain ⟨q0, q1⟩ := box2 bb3
  obtain ⟨y0, y1, y2, y3, y4, y5, y6, y7⟩ := box8o bo3
  go_wp2_with fail
  go_at_call 18
  refine (cT.out _ (HL.out.on hb3) (HM.out.on hb3)).mono ?_
  rintro e w9 ⟨BT', eT', rfl, hD, hb9⟩
  replace bb3 := bb3.keep hb9; replace bo3 := bo3.keep hb9; replace hb3 := below_then hb9 hb3
  have HBX9 := Lib.hid (HBX8.out.below hb9)
  clear hb9 HBX8 cT q0 q1 y0 y1 y2 y3 y4 y5 y6 y7
  go_wp2_with fail
  go_at_call 8
  refine (same_told E _ (Laid.below HLD.out hb3)).mono ?_
  rintro e wa ⟨rfl, hba⟩
  replace bb3 := bb3.keep hba; replace bo3 := bo3.keep hba; replace hb3 := below_then hba hb3
  have HBXa := Lib.hid (HBX9.out.below hba)
  have HDa := Lib.hid ((hD.out.below hba).more hba.size)
  clear hba HBX9 hD
  obtain ⟨m0, m1, m2, m3, _, _, _⟩ := box7 HBXa.out.m
  go_wp2_with fail
  go_at_call 17
  refine (same_trades T BT' XT eT' dT _ HDa.out HBXa.out.tr HSH.out.2.2).mono ?_
  rintro e wb ⟨rfl, hbb⟩
  replace bb3 := bb3.keep hbb; replace bo3 := bo3.keep hbb; replace hb3 := below_then hbb hb3
  have HBXb := Lib.hid (HBXa.out.below hbb)
  clear hbb HBXa HDa m0 m1 m2 m3
  -->calls
  go_upto_if 69 with fail
  go_cut [18] from 19 to 111 (fun nv wx => nv = .int .i64 (couldV z V) ∧ Below w.heap.size w wx ∧ Bk wx w.heap.size 29 #[.slice A1 L.length c1, .slice A2 M.length c2] ∧ Bk wx (w.heap.size + 1) 36 #[.int .i64 o.id, .int .i64 o.who, .int .i64 o.side, .int .i64 o.kind, .int .i64 o.price, .int .i64 o.qty, .int .i64 o.show_, .int .i64 o.stop] ∧ Bk wx gm 52 #[.slice X1 K1.length d1, .slice X2 K2.length d2, .slice XT T.length dT, .int .i64 left, v4, v5, v6])
  case first =>
    --<could
    by_cases hz : z = 0
    · have e1 : (z == 0) = true := by simpa using hz
      have hr : readyE L M o = 0 := HZ.out.symm.trans hz
      have hbk := (readyE_iff.1 hr).1
      have ho := (readyE_iff.1 hr).2.1
      have hS := pick_side (Order.err_ok ho).2.2.1 hbk
      have hvs : vs o.side = true := vs_of (Order.err_ok ho).2.2.1
      have hq := (Order.err_ok ho).2.2.2.2.2.1
      have hx0 := vs_t hvs
      have hx : IntKind.i64.wrap (3 - o.side) = 3 - o.side := IntWalk.i64_in _ (by omega)
      have cOf := Lib.hid (fun w => rofp_any o.side hvs A1 A2 L.length M.length c1 c2 w)
      rw [pick_len.symm] at cOf
      have cMa := Lib.hid (fun p w => rmayB_any o hvs p w)
      have HRS : Hid (∀ w', Below w.heap.size w w' → RdLv w' w.heap.size (pick o.side A1 A2) (pick o.side L M)) := Lib.hid (fun w' hb => by
        rcases side_two hvs with h | h
        · rw [h]; exact HM.out.below hb
        · rw [h]; exact HL.out.below hb)
      have HVV := Lib.hid (show couldV z V = min (mayQ o (pick o.side L M)) o.qty by rw [couldV, if_pos hz, HV.out])
      have HS := Lib.hid hS
      have hKl : (pick o.side L M).length ≤ 60 := Nat.le_trans (full_len hS.full) hS.few
      have bm := HBXb.out.m
      obtain ⟨q0, q1⟩ := box2 bb3
      obtain ⟨y0, y1, y2, y3, y4, y5, y6, y7⟩ := box8o bo3
      clear hz hr hbk ho hS hvs hx0 HV
      generalize pick o.side L M = K at *
      generalize pick o.side A1 A2 = AK at *
      generalize pick o.side c1 c2 = cK at *
      go_wp2_with fail
      go_at_call 19
      refine (cOf.out _).mono ?_
      rintro e wo ⟨rfl, hbo⟩
      replace bb3 := bb3.keep hbo; replace bo3 := bo3.keep hbo; replace bm := bm.keep hbo; replace hb3 := below_then hbo hb3
      clear hbo q0 q1 y0 y1 y2 y3 y4 y5 y6 y7 cOf hx
      have HMN := Lib.hid (fun k => mayQ_nonneg (o := o) (L := K.take k) (fun x hx => HS.out.sound x (List.mem_of_mem_take hx)))
      have HCN := Lib.hid (fun k => Nat.le_trans (cnt_le K k) HS.out.few)
      have HX60 := Lib.hid (show ∀ x ∈ K, x.rs.length ≤ 60 from fun x hx => Nat.le_trans (len_cnt hx) HS.out.few)
      have HBB := Lib.hid bb3; have HBO := Lib.hid bo3; have HBM := Lib.hid bm
      clear bb3 bo3 bm
      go_wp2_with fail
      go_loopw [18, 20] (fun n i wr => ∃ k : Nat, k ≤ K.length ∧ i = .int .i64 k ∧ n = .int .i64 (mayQ o (K.take k)) ∧ Below wo.heap.size wo wr) (fun _ i _ => K.length - (intOf i).toNat)
      case atStart => exact ⟨0, by omega, rfl, rfl, Below.refl _ _⟩
      case round =>
        obtain ⟨k, hk, rfl, rfl, hbl⟩ := hrel
        have hbr := below_then hbl hb3
        by_cases hlt : k < K.length
        · obtain ⟨b, off, x, Ar, cr, rfl, hbt, hx, d0, d1, _, _, g3⟩ := lv_at (HRS.out wr hbr) hlt
          have hj1 : (k : Int) < (K.length : Int) := by omega
          have hj0 : (0 : Int) ≤ (k : Int) := by omega
          have hn1 := HMN.out k; have hn2 := HMN.out (k + 1)
          have hc1 := HCN.out k; have hc2 := HCN.out (k + 1)
          rw [mayQ_take hx] at hn2
          have HMT := Lib.hid (mayQ_take (o := o) hx)
          have hxm := List.mem_of_getElem? hx
          have HSX := Lib.hid (HS.out.sound x hxm)
          have hx60 := HX60.out x hxm
          have HBT := Lib.hid (show b < wr.heap.size by have := hbr.size; omega)
          have HD1 := Lib.hid d1
          have G3 := Lib.hid (g3.more hbr.size)
          have bor := HBO.out.keep hbl
          obtain ⟨y0, y1, y2, y3, y4, y5, y6, y7⟩ := box8o bor
          have cM1 := Lib.hid (cMa.out x.price wr.drew)
          clear hx hxm d1 g3 hbt
          go_upto_region 19 with fail
          go_region_held3 (fun w' => w'.cell? ⟨w.heap.size + 1, 0, none⟩ = some (.int .i64 o.id) ∧ w'.cell? ⟨w.heap.size + 1, 1, none⟩ = some (.int .i64 o.who) ∧ w'.cell? ⟨w.heap.size + 1, 2, none⟩ = some (.int .i64 o.side) ∧ w'.cell? ⟨w.heap.size + 1, 3, none⟩ = some (.int .i64 o.kind) ∧ w'.cell? ⟨w.heap.size + 1, 4, none⟩ = some (.int .i64 o.price) ∧ w'.cell? ⟨w.heap.size + 1, 5, none⟩ = some (.int .i64 o.qty) ∧ w'.cell? ⟨w.heap.size + 1, 6, none⟩ = some (.int .i64 o.show_) ∧ w'.cell? ⟨w.heap.size + 1, 7, none⟩ = some (.int .i64 o.stop) ∧ w'.cell? ⟨b, off + k * 2, none⟩ = some (.int .i64 x.price))
            ((repeat' apply And.intro) <;> (first | (with_reducible assumption) | (with_reducible exact cell_drew (by assumption))))
            ((go_at_call 20; (with_reducible refine cM1.out.mono ?_); rintro e w6 ⟨rfl, hb6⟩; have bo6 := bor.drew.keep hb6; obtain ⟨y0, y1, y2, y3, y4, y5, y6, y7⟩ := box8o bo6; have e4' : w6.cell? ⟨b, off + k * 2, none⟩ = some (.int .i64 x.price) := (hb6.cell (p := ⟨b, off + k * 2, none⟩) HBT.out).trans d0))
          have hbl6 := below_then hb6 hbl.drew
          have d1 := (hb6.cell (p := ⟨b, off + k * 2 + 1, none⟩) HBT.out).trans HD1.out
          have cT2 := Lib.hid (rtotal_any x.rs Ar cr w6 ((G3.out.below (show Below wr.heap.size wr w6 from below_then hb6 (Below.refl _ _).drew)).more (below_then hb6 (Below.refl _ _).drew).size) (by omega) HSX.out)
          clear bor bo6 hb6 hbl hbr y0 y1 y2 y3 y4 y5 y6 y7 d0 e4' cM1 HD1
          cases hm : may o x.price
          · have HMT2 := Lib.hid (show mayQ o (K.take (k + 1)) = mayQ o (K.take k) by rw [HMT.out, hm]; simp)
            clear hn2 hm HMT
            generalize mayQ o (K.take k) = S at *
            go_wp2
            go_roundw
            case rel => exact ⟨k + 1, by omega, by go_num, by rw [HMT2.out], hbl6⟩
            case measure => simp [intOf]; omega
          · rw [hm, if_pos rfl] at hn2
            have HMT2 := Lib.hid (show mayQ o (K.take (k + 1)) = mayQ o (K.take k) + allQ x.rs by rw [HMT.out, hm]; simp)
            have x3 : IntKind.i64.wrap (mayQ o (K.take k) + allQ x.rs) = mayQ o (K.take k) + allQ x.rs := IntWalk.i64_in _ (by omega)
            clear hn2 hm HMT
            generalize mayQ o (K.take k) = S at *
            generalize allQ x.rs = AQ at *
            go_wp2_with fail
            go_at_call 21
            refine cT2.out.mono ?_
            rintro e w7 ⟨rfl, hb7⟩
            have hbl7 := below_then hb7 hbl6
            clear hb7 hbl6 cT2 d1
            go_wp2
            go_roundw
            case rel => exact ⟨k + 1, by omega, by go_num, by rw [HMT2.out], hbl7⟩
            case measure => simp [intOf]; omega
        · obtain rfl : k = K.length := by omega
          rw [List.take_length]
          have hb9 := below_then hbl hb3
          have HB9 := Lib.hid hb9
          have bbE := Lib.hid (HBB.out.keep hbl); have boE := Lib.hid (HBO.out.keep hbl); have bmE := Lib.hid (HBM.out.keep hbl)
          obtain ⟨y0, y1, y2, y3, y4, y5, y6, y7⟩ := box8o boE.out
          clear hlt hbr hbl hb9
          generalize mayQ o K = S at *
          by_cases hc : o.qty < S
          · have HE := Lib.hid (show couldV z V = o.qty by rw [HVV.out]; omega)
            go_wp2
            go_meet
            case rel => exact ⟨by rw [HE.out], HB9.out, bbE.out, boE.out, bmE.out⟩
          · have HE := Lib.hid (show couldV z V = S by rw [HVV.out]; omega)
            go_wp2
            go_meet
            case rel => exact ⟨by rw [HE.out], HB9.out, bbE.out, boE.out, bmE.out⟩
    · have e1 : (z == 0) = false := by simpa using hz
      have HE := Lib.hid (show couldV z V = 0 by rw [couldV, if_neg hz])
      have HB := Lib.hid hb3; have HBB := Lib.hid bb3; have HBO := Lib.hid bo3; have HBM := Lib.hid HBXb.out.m
      clear hz hb3 bb3 bo3
      go_wp2
      go_meet
      case rel => exact ⟨by rw [HE.out], HB.out, HBB.out, HBO.out, HBM.out⟩
    -->could
  case rest =>
  obtain ⟨rfl, hbc, bbc, boc, bmc⟩ := hcut
  --<tail
  clear bb3 bo3 hb3 HBXb
  obtain ⟨wg, rfl⟩ : ∃ wg : World, wg = wc := ⟨_, rfl⟩
  generalize couldV z V = CV at *
  obtain ⟨q0, q1⟩ := box2 bbc
  obtain ⟨y0, y1, y2, y3, y4, y5, y6, y7⟩ := box8o boc
  go_wp2_with fail
  go_at_call 22
  refine (cU.out _ (HL.out.on hbc) (HM.out.on hbc)).mono ?_
  rintro e wd ⟨rfl, hbd⟩
  replace bmc := bmc.keep hbd; replace hbc := below_then hbd hbc
  clear hbd q0 q1 y0 y1 y2 y3 y4 y5 y6 y7 bbc boc
  go_wp2_with fail
  go_at_call 8
  refine (same_told z _ (Laid.below HLD.out hbc)).mono ?_
  rintro e we ⟨rfl, hbe⟩
  replace bmc := bmc.keep hbe; replace hbc := below_then hbe hbc
  clear hbe
  obtain ⟨m0, m1, m2, m3, _, _, _⟩ := box7 bmc
  clear bmc
  go_wp2
  go_ret
  exact ⟨ret_bool (by simp), hbc⟩
  -->tail
theorem meetTells_law {H : Type} {enc : TypeId × Value → H} {v0 v1 : Value} {d0 d1 : DataW H} {p0 p1 : List MemPlace} {base : Nat} {W : World}
    (h0 : Arg enc W base 29 v0 d0 p0) (h1 : Arg enc W base 36 v1 d1 p1) (hl : Laid W) :
    Calls Tryd.prog 6 #[v0, v1] W fun e w' => e = .returned (.bool true) ∧ Below W.heap.size W w' := by
  obtain ⟨A1, L, c1, A2, M, c2, rfl, k1, k2, hA1, hA2, hr1, hr2⟩ := h0.bookc
  obtain ⟨o, rfl⟩ := h1.order
  exact meetTells_any L M o A1 A2 c1 c2 W hr1 hr2 k1 k2 hA1 hA2 hl
end Go.Proofs.YtbnjkcgkdpildaaDoor
