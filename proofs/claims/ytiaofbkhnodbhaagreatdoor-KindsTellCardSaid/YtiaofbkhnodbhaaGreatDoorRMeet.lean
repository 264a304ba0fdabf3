/- The contract of the reference's Meet. -/
import Derived.Test.YtiaofbkhnodbhaaGreatDoorGrpM
import Derived.Test.YtiaofbkhnodbhaaGreatDoorGrpL
import Derived.Test.YtiaofbkhnodbhaaGreatDoorGrpB
namespace Go.Proofs.YtiaofbkhnodbhaaGreatDoor
set_option linter.all false
open Go Go.RowKit
/-- levels that read, none of whose cells lies in a block from lo on below n -/
def LvA (lo n : Nat) (w : World) (A : Option Addr) (L : List Lv) : Prop := ∃ xs, LP (fun k => k < lo ∨ n ≤ k) w A L xs
theorem LvA.rd {lo n : Nat} {w : World} {A : Option Addr} {L : List Lv} (h : LvA lo n w A L) : RdLv w w.heap.size A L := by obtain ⟨xs, h⟩ := h; exact h.lv
theorem LvA.below {lo n : Nat} {w w1 : World} {A : Option Addr} {L : List Lv} (h : LvA lo n w A L) (hb : Below w.heap.size w w1) : LvA lo n w1 A L := by obtain ⟨xs, h⟩ := h; exact ⟨xs, h.on (Kp.below hb)⟩
theorem LvA.far {lo n : Nat} {w : World} {A : Option Addr} {L : List Lv} {p : Addr} (h : LvA lo n w A L) (h1 : lo ≤ p.block) (h2 : p.block < n) (u : Value) : LvA lo n (w.setCell p u) A L := by
  obtain ⟨xs, h⟩ := h
  exact ⟨xs, h.on (Kp.grown (grown_set w p u) (fun k hp _ => ⟨fun e => by have e := Option.some.inj e; rcases hp with hp | hp <;> omega, hp⟩))⟩
theorem rmayB_any (o : Order) (hs : vs o.side = true) (p : Int) (w : World) :
    Calls Tryz.prog 24 #[.agg #[.int .i64 o.id, .int .i64 o.who, .int .i64 o.side, .int .i64 o.kind, .int .i64 o.price, .int .i64 o.qty, .int .i64 o.show_, .int .i64 o.stop], .int .i64 p] w fun e w' => e = .returned (.bool (may o p)) ∧ Below w.heap.size w w' :=
  (rmay_any o p w hs).mono fun e w' ⟨h1, h2⟩ => ⟨h1, by rw [h2]; exact (Below.refl _ _).alloc (Nat.le_refl _) _⟩
theorem box7 {w' : World} {v0 v1 v2 v3 v4 v5 v6 : Value} {g : Nat} {t : TypeId} (h : Bk w' g t #[v0, v1, v2, v3, v4, v5, v6]) : w'.cell? ⟨g, 0, none⟩ = some v0 ∧ w'.cell? ⟨g, 1, none⟩ = some v1 ∧ w'.cell? ⟨g, 2, none⟩ = some v2 ∧ w'.cell? ⟨g, 3, none⟩ = some v3 ∧ w'.cell? ⟨g, 4, none⟩ = some v4 ∧ w'.cell? ⟨g, 5, none⟩ = some v5 ∧ w'.cell? ⟨g, 6, none⟩ = some v6 :=
  ⟨h.cell 0, h.cell 1, h.cell 2, h.cell 3, h.cell 4, h.cell 5, h.cell 6⟩
theorem b7_0 {w : World} {g : Nat} {t : TypeId} {x0 x1 x2 x3 x4 x5 x6 : Value} (h : Bk w g t #[x0, x1, x2, x3, x4, x5, x6]) (a : Value) : Bk (w.setCell ⟨g, 0, none⟩ a) g t #[a, x1, x2, x3, x4, x5, x6] := h.set_ 0 a
theorem b7_1 {w : World} {g : Nat} {t : TypeId} {x0 x1 x2 x3 x4 x5 x6 : Value} (h : Bk w g t #[x0, x1, x2, x3, x4, x5, x6]) (a : Value) : Bk (w.setCell ⟨g, 1, none⟩ a) g t #[x0, a, x2, x3, x4, x5, x6] := h.set_ 1 a
theorem b7_2 {w : World} {g : Nat} {t : TypeId} {x0 x1 x2 x3 x4 x5 x6 : Value} (h : Bk w g t #[x0, x1, x2, x3, x4, x5, x6]) (a : Value) : Bk (w.setCell ⟨g, 2, none⟩ a) g t #[x0, x1, a, x3, x4, x5, x6] := h.set_ 2 a
theorem b7_3 {w : World} {g : Nat} {t : TypeId} {x0 x1 x2 x3 x4 x5 x6 : Value} (h : Bk w g t #[x0, x1, x2, x3, x4, x5, x6]) (a : Value) : Bk (w.setCell ⟨g, 3, none⟩ a) g t #[x0, x1, x2, a, x4, x5, x6] := h.set_ 3 a
theorem b7_4 {w : World} {g : Nat} {t : TypeId} {x0 x1 x2 x3 x4 x5 x6 : Value} (h : Bk w g t #[x0, x1, x2, x3, x4, x5, x6]) (a : Value) : Bk (w.setCell ⟨g, 4, none⟩ a) g t #[x0, x1, x2, x3, a, x5, x6] := h.set_ 4 a
theorem b7_5 {w : World} {g : Nat} {t : TypeId} {x0 x1 x2 x3 x4 x5 x6 : Value} (h : Bk w g t #[x0, x1, x2, x3, x4, x5, x6]) (a : Value) : Bk (w.setCell ⟨g, 5, none⟩ a) g t #[x0, x1, x2, x3, x4, a, x6] := h.set_ 5 a
theorem b7_6 {w : World} {g : Nat} {t : TypeId} {x0 x1 x2 x3 x4 x5 x6 : Value} (h : Bk w g t #[x0, x1, x2, x3, x4, x5, x6]) (a : Value) : Bk (w.setCell ⟨g, 6, none⟩ a) g t #[x0, x1, x2, x3, x4, x5, a] := h.set_ 6 a
theorem Bk.set7 {w : World} {g : Nat} {t : TypeId} {x0 x1 x2 x3 x4 x5 x6 : Value} (h : Bk w g t #[x0, x1, x2, x3, x4, x5, x6]) (a b c d e f i : Value) :
    Bk (((((((w.setCell ⟨g, 0, none⟩ a).setCell ⟨g, 1, none⟩ b).setCell ⟨g, 2, none⟩ c).setCell ⟨g, 3, none⟩ d).setCell ⟨g, 4, none⟩ e).setCell ⟨g, 5, none⟩ f).setCell ⟨g, 6, none⟩ i) g t #[a, b, c, d, e, f, i] :=
  b7_6 (b7_5 (b7_4 (b7_3 (b7_2 (b7_1 (b7_0 h a) b) c) d) e) f) i
theorem below_set7 {w w1 : World} {g : Nat} (h : Below w.heap.size w w1) (hg : w.heap.size ≤ g) (a b c d e f i : Value) : Below w.heap.size w (((((((w1.setCell ⟨g, 0, none⟩ a).setCell ⟨g, 1, none⟩ b).setCell ⟨g, 2, none⟩ c).setCell ⟨g, 3, none⟩ d).setCell ⟨g, 4, none⟩ e).setCell ⟨g, 5, none⟩ f).setCell ⟨g, 6, none⟩ i) :=
  ((((((h.setCell (p := ⟨g, 0, none⟩) hg a).setCell (p := ⟨g, 1, none⟩) hg b).setCell (p := ⟨g, 2, none⟩) hg c).setCell (p := ⟨g, 3, none⟩) hg d).setCell (p := ⟨g, 4, none⟩) hg e).setCell (p := ⟨g, 5, none⟩) hg f).setCell (p := ⟨g, 6, none⟩) hg i
theorem grown_set7 {w : World} {g : Nat} (a b c d e f i : Value) : w.grownBy (((((((w.setCell ⟨g, 0, none⟩ a).setCell ⟨g, 1, none⟩ b).setCell ⟨g, 2, none⟩ c).setCell ⟨g, 3, none⟩ d).setCell ⟨g, 4, none⟩ e).setCell ⟨g, 5, none⟩ f).setCell ⟨g, 6, none⟩ i) (some g) :=
  (((((((grown_set w ⟨g, 0, none⟩ a).trans (grown_set _ ⟨g, 1, none⟩ b)).trans (grown_set _ ⟨g, 2, none⟩ c)).trans (grown_set _ ⟨g, 3, none⟩ d)).trans (grown_set _ ⟨g, 4, none⟩ e)).trans (grown_set _ ⟨g, 5, none⟩ f))).trans (grown_set _ ⟨g, 6, none⟩ i)
/-- how Meet ends -/
def RMeetPost (lo : Nat) (L M : List Lv) (o : Order) (mode : Int) (w : World) (e : Ending) (w' : World) : Prop :=
  (met L M o mode = none ∧ e = .returned (.tuple #[.agg #[.slice none 0 0, .slice none 0 0, .slice none 0 0, .int .i64 0, .int .i64 0, .slice none 0 0, .bool false], .int .i64 4]) ∧ Below w.heap.size w w') ∨
  ∃ s A1 c1 A2 c2 AT cT AW cW, met L M o mode = some s ∧ MOk s ∧ e = .returned (.tuple #[.agg #[.slice A1 (pick o.side s.L L).length c1, .slice A2 (pick o.side M s.L).length c2, .slice AT s.T.length cT, .int .i64 s.left, .int .i64 0, .slice AW s.W.length cW, .bool s.ends], .int .i64 0]) ∧
    LvA lo w.heap.size w' A1 (pick o.side s.L L) ∧ LvA lo w.heap.size w' A2 (pick o.side M s.L) ∧ (pick o.side s.L L).length ≤ c1 ∧ c1 ≤ maxLen ∧ (pick o.side M s.L).length ≤ c2 ∧ c2 ≤ maxLen ∧
    OwnS w' w.heap.size 6 AT s.T.length cT (trows s.T) ∧ OwnS w' w.heap.size 1 AW s.W.length cW (irows s.W) ∧ Below w.heap.size w w'
/-- a way of a meeting -/
def RWay (L M : List Lv) (o : Order) (mode : Int) (s : MSt) : Prop := ∃ n, mSize s < n ∧ met L M o mode = mRun o mode n s
theorem qFirst_id (r : Rest) (t : List Rest) (n : Int) : (qFirst r t n).1.id = r.id ∧ (qFirst r t n).1.who = r.who := by
  unfold qFirst
  split
  · exact ⟨rfl, rfl⟩
  · split <;> exact ⟨rfl, rfl⟩
theorem RWay.step {L M : List Lv} {o : Order} {mode : Int} {s s' : MSt} (h : RWay L M o mode s) (hok : MOk s) (hg : mGo o s = true) (hs : mStep o mode s = s') (ht : s'.T.length ≤ 400) : RWay L M o mode s' ∧ MOk s' ∧ mSize s' < mSize s := by
  obtain ⟨n, hn, h⟩ := h
  have h1 := mStep_ok (mode := mode) hok hg
  have h2 := mStep_ok2 (mode := mode) hok hg (by rw [hs]; exact ht)
  rw [hs] at h1 h2
  have hz := h1.2.2.2.2.2.2.2
  cases n with
  | zero => omega
  | succ n => exact ⟨⟨n, by omega, by rw [h, mRun_go hg, hs, if_neg (by omega)]⟩, h2, hz⟩
theorem RWay.stop {L M : List Lv} {o : Order} {mode : Int} {s s' : MSt} (h : RWay L M o mode s) (hg : mGo o s = true) (hs : mStep o mode s = s') (ht : 400 < s'.T.length) : met L M o mode = none := by
  obtain ⟨n, hn, h⟩ := h
  cases n with
  | zero => omega
  | succ n => rw [h, mRun_go hg, hs, if_pos ht]
/-- behind the last stores -/
theorem RMd.done {lo : Nat} {w wc wE : World} {gm c1 c2 cL cT cW : Nat} {L M : List Lv} {o : Order} {A1 A2 AL AT AW : Option Addr} {s : MSt} {xs : List Value} (h : RMd lo w wc gm L M o A1 A2 c1 c2 s AL cL xs AT cT AW cW) (G : wc.grownBy wE (some (w.heap.size + 2))) (hB : Below w.heap.size w wE) (hs : vs o.side = true) (h1 : RdLv w lo A1 L) (h2 : RdLv w lo A2 M) (k1 : L.length ≤ c1 ∧ c1 ≤ maxLen) (k2 : M.length ≤ c2 ∧ c2 ≤ maxLen) :
    LvA lo w.heap.size wE (pick o.side AL A1) (pick o.side s.L L) ∧ LvA lo w.heap.size wE (pick o.side A2 AL) (pick o.side M s.L) ∧ (pick o.side s.L L).length ≤ pick o.side cL c1 ∧ pick o.side cL c1 ≤ maxLen ∧ (pick o.side M s.L).length ≤ pick o.side c2 cL ∧ pick o.side c2 cL ≤ maxLen ∧ OwnS wE w.heap.size 6 AT s.T.length cT (trows s.T) ∧ OwnS wE w.heap.size 1 AW s.W.length cW (irows s.W) := by
  have hg := h.lt
  have hle := h.le
  have hl : LvA lo w.heap.size wE AL s.L := ⟨xs, h.lp.on (Kp.grown G (fun k hp _ => ⟨fun e => by have e := Option.some.inj e; have := hp.1; omega, by have := hp.1; omega⟩))⟩
  have ho : ∀ (A : Option Addr) (K : List Lv), RdLv w lo A K → LvA lo w.heap.size wE A K := fun A K hK => by
    obtain ⟨xs, hx⟩ := LP.of_lv (P := fun k => k < lo ∨ w.heap.size ≤ k) hK hle (fun k hk => .inl hk)
    exact ⟨xs, hx.on (Kp.below hB)⟩
  have hT := (h.tr.apart G (Ap.new (n := gm + 1) (fun k hk => (h.tr.row_lt k hk).1) (fun k hk => by cases hk; omega))).lower (b := w.heap.size) (by omega)
  have hW := (h.wt.apart G (Ap.new (n := gm + 1) (fun k hk => (h.wt.row_lt k hk).1) (fun k hk => by cases hk; omega))).lower (b := w.heap.size) (by omega)
  refine ⟨?_, ?_, ?_, ?_, ?_, ?_, hT, hW⟩ <;> rcases side_two hs with e | e <;> rw [e]
  · exact ho _ _ h1
  · exact hl
  · exact hl
  · exact ho _ _ h2
  · exact k1.1
  · exact h.cap
  · exact k1.2
  · exact h.max
  · exact h.cap
  · exact k2.1
  · exact h.max
  · exact k2.2
set_option maxRecDepth 100000 in
set_option maxHeartbeats 4000000 in
theorem rmeet_any (L M : List Lv) (o : Order) (mode : Int) (A1 A2 : Option Addr) (c1 c2 : Nat) (w : World) (lo : Nat) (hlo : lo ≤ w.heap.size) (h1 : RdLv w lo A1 L) (h2 : RdLv w lo A2 M) (hbk : BookOk L M) (ho : o.err = 0) (k1 : L.length ≤ c1 ∧ c1 ≤ maxLen) (k2 : M.length ≤ c2 ∧ c2 ≤ maxLen) :
    Calls Tryz.prog 22 #[.agg #[.slice A1 L.length c1, .slice A2 M.length c2], .agg #[.int .i64 o.id, .int .i64 o.who, .int .i64 o.side, .int .i64 o.kind, .int .i64 o.price, .int .i64 o.qty, .int .i64 o.show_, .int .i64 o.stop], .int .i64 mode] w (RMeetPost lo L M o mode w) := by
  have HL := Lib.hid h1; have HM := Lib.hid h2; have HLO := Lib.hid hlo
  have hs : vs o.side = true := vs_of (Order.err_ok ho).2.2.1
  have hx0 := vs_t hs
  have hx : IntKind.i64.wrap (3 - o.side) = 3 - o.side := IntWalk.i64_in _ (by omega)
  have S0 := Lib.hid (MOk.start hbk ho)
  have CMAY := Lib.hid (fun p w => rmayB_any o hs p w)
  have COF := Lib.hid (fun AL nL cL w => rofm_any o.side hs AL A1 A2 nL L.length M.length cL c1 c2 w)
  have CWITH := Lib.hid (fun AL nL cL A3 n3 c3 w => rwithm_any o.side hs AL A1 A2 A3 nL L.length M.length n3 cL c1 c2 c3 w)
  have K1 := Lib.hid k1; have K2 := Lib.hid k2
  have HS := Lib.hid hs
  clear h1 h2 hbk ho k1 k2 hx0 hs hlo
  have hb : Below w.heap.size w (((w.alloc (.cells #[.slice A1 L.length c1, .slice A2 M.length c2] 24)).alloc (.cells #[.int .i64 o.id, .int .i64 o.who, .int .i64 o.side, .int .i64 o.kind, .int .i64 o.price, .int .i64 o.qty, .int .i64 o.show_, .int .i64 o.stop] 26)).alloc (.cells #[.slice none 0 0, .slice none 0 0, .slice none 0 0, .int .i64 0, .int .i64 0, .slice none 0 0, .bool false] 31)) := below_then_alloc (below_then_alloc ((Below.refl _ _).alloc (Nat.le_refl _) _))
  have bb := ((Bk.new w 24 #[.slice A1 L.length c1, .slice A2 M.length c2]).alloc (.cells #[.int .i64 o.id, .int .i64 o.who, .int .i64 o.side, .int .i64 o.kind, .int .i64 o.price, .int .i64 o.qty, .int .i64 o.show_, .int .i64 o.stop] 26)).alloc (.cells #[.slice none 0 0, .slice none 0 0, .slice none 0 0, .int .i64 0, .int .i64 0, .slice none 0 0, .bool false] 31)
  have bo := (Bk.at_ (w := w.alloc (.cells #[.slice A1 L.length c1, .slice A2 M.length c2] 24)) (g' := w.heap.size + 1) (by simp) 26 #[.int .i64 o.id, .int .i64 o.who, .int .i64 o.side, .int .i64 o.kind, .int .i64 o.price, .int .i64 o.qty, .int .i64 o.show_, .int .i64 o.stop]).alloc (.cells #[.slice none 0 0, .slice none 0 0, .slice none 0 0, .int .i64 0, .int .i64 0, .slice none 0 0, .bool false] 31)
  have br := Bk.at_ (w := (w.alloc (.cells #[.slice A1 L.length c1, .slice A2 M.length c2] 24)).alloc (.cells #[.int .i64 o.id, .int .i64 o.who, .int .i64 o.side, .int .i64 o.kind, .int .i64 o.price, .int .i64 o.qty, .int .i64 o.show_, .int .i64 o.stop] 26)) (g' := w.heap.size + 2) (by simp) 31 #[.slice none 0 0, .slice none 0 0, .slice none 0 0, .int .i64 0, .int .i64 0, .slice none 0 0, .bool false]
  go_enter Tryz.func22, Tryz.ntmps22
  go_upto_region 1 with fail
  generalize ((w.alloc (.cells #[.slice A1 L.length c1, .slice A2 M.length c2] 24)).alloc (.cells #[.int .i64 o.id, .int .i64 o.who, .int .i64 o.side, .int .i64 o.kind, .int .i64 o.price, .int .i64 o.qty, .int .i64 o.show_, .int .i64 o.stop] 26)).alloc (.cells #[.slice none 0 0, .slice none 0 0, .slice none 0 0, .int .i64 0, .int .i64 0, .slice none 0 0, .bool false] 31) = w0 at *
  have k8 := box8o bo
  obtain ⟨q0, q1⟩ := box2 bb
  have hlt : w.heap.size + 2 < w0.heap.size := br.lt
  have bm := Bk.new w0 31 #[.slice A1 L.length c1, .slice A2 M.length c2, .slice none 0 0, .int .i64 o.qty, .int .i64 0, .slice none 0 0, .bool false]
  have hbm : Below w.heap.size w (w0.alloc (.cells #[.slice A1 L.length c1, .slice A2 M.length c2, .slice none 0 0, .int .i64 o.qty, .int .i64 0, .slice none 0 0, .bool false] 31)) := below_then_alloc hb
  replace bb := bb.alloc (.cells #[.slice A1 L.length c1, .slice A2 M.length c2, .slice none 0 0, .int .i64 o.qty, .int .i64 0, .slice none 0 0, .bool false] 31); replace bo := bo.alloc (.cells #[.slice A1 L.length c1, .slice A2 M.length c2, .slice none 0 0, .int .i64 o.qty, .int .i64 0, .slice none 0 0, .bool false] 31); replace br := br.alloc (.cells #[.slice A1 L.length c1, .slice A2 M.length c2, .slice none 0 0, .int .i64 o.qty, .int .i64 0, .slice none 0 0, .bool false] 31)
  go_upto_region 2 with fail
  generalize w0.alloc (.cells #[.slice A1 L.length c1, .slice A2 M.length c2, .slice none 0 0, .int .i64 o.qty, .int .i64 0, .slice none 0 0, .bool false] 31) = w1 at *
  clear q0 q1 k8
  have k8 := box8o bo
  obtain ⟨gm, hgm⟩ : ∃ g, g = w0.heap.size := ⟨_, rfl⟩
  rw [← hgm] at bm hlt ⊢
  have R0 := Lib.hid (show ∃ xs, RMd lo w w1 gm L M o A1 A2 c1 c2 ⟨pick o.side L M, o.qty, [], [], false⟩ (pick o.side A1 A2) (pick o.side c1 c2) xs none 0 none 0 by
    have hK : RdLv w1 lo (pick o.side A1 A2) (pick o.side L M) := by
      rcases side_two HS.out with e | e <;> rw [e]
      · exact HM.out.below (hbm.mono HLO.out)
      · exact HL.out.below (hbm.mono HLO.out)
    obtain ⟨xs, hxs⟩ := LP.of_lv (P := PS lo gm none none) hK (Nat.le_trans HLO.out hbm.size) (fun k hk => ⟨.inl hk, by simp, by simp⟩)
    refine ⟨xs, bb, bo, br, ?_, hxs, ?_, ?_, OwnS.nil _ _ _ _, OwnS.nil _ _ _ _, .inl rfl, hbm, hlt, HLO.out⟩
    · rw [pick_len, pick_left, pick_left, pick_left, pick_right, pick_right, pick_right]; exact bm
    · rcases side_two HS.out with e | e <;> rw [e]
      · exact K2.out.1
      · exact K1.out.1
    · rcases side_two HS.out with e | e <;> rw [e]
      · exact K2.out.2
      · exact K1.out.2)
  clear bb bo br bm hbm hb hgm
  go_upto_block 0 with fail
  go_cut [] (fun wx => ∃ s AL cL xs AT cT AW cW, met L M o mode = some s ∧ MOk s ∧ RMd lo w wx gm L M o A1 A2 c1 c2 s AL cL xs AT cT AW cW)
  case first =>
    have R1 := Lib.hid (met_start (L := L) (M := M) (o := o) (mode := mode) S0.out)
    go_wp2_with fail
    go_loopg [10] (mSize ⟨pick o.side L M, o.qty, [], [], false⟩) (fun k l wr => ∃ s AL cL xs AT cT AW cW, k = mSize s ∧ RWay L M o mode s ∧ MOk s ∧ RMd lo w wr gm L M o A1 A2 c1 c2 s AL cL xs AT cT AW cW)
    case atStart => obtain ⟨xs, h⟩ := R0.out; exact ⟨_, _, _, xs, _, _, _, _, rfl, R1.out, S0.out, h⟩
    case round =>
      obtain ⟨⟨Ls, left, T, W, ends⟩, AL, cL, xs, AT, cT, AW, cW, rfl, hrun, hok, hmd⟩ := hrel
      have HRUN := Lib.hid hrun; have HOK := Lib.hid hok; have HMD := Lib.hid hmd
      clear hrun hok R1 R0 k8
      obtain ⟨m0, m1, m2, m3, m4, m5, m6⟩ := box7 hmd.m
      have k8 := box8o hmd.bo
      dsimp only at m0 m1 m2 m3 m4 m5 m6
      cases hg : mGo o ⟨Ls, left, T, W, ends⟩
      case false =>
        --<stop
        have HE := Lib.hid (show met L M o mode = some ⟨Ls, left, T, W, ends⟩ by obtain ⟨n, _, h⟩ := HRUN.out; rw [h]; exact mRun_stop hg)
        rcases (show left ≤ 0 ∨ 0 < left by omega) with hl | hl
        · have hd : decide (0 < left) = false := decide_eq_false (by omega)
          have hd2 : ¬ 0 < left := by omega
          clear hl hmd hg
          go_wp2
          go_meet
          case rel => exact ⟨_, _, _, _, _, _, _, _, HE.out, HOK.out, HMD.out⟩
        have hd : decide (0 < left) = true := decide_eq_true hl
        cases ends
        case true =>
          clear hmd hg
          go_wp2
          go_meet
          case rel => exact ⟨_, _, _, _, _, _, _, _, HE.out, HOK.out, HMD.out⟩
        have COFx := Lib.hid (COF.out AL Ls.length cL)
        go_wp2_with fail
        go_at_call 23
        refine (COFx.out _).mono ?_
        rintro e w2 ⟨rfl, hb2⟩
        have HMD2 := Lib.hid (HMD.out.below hb2)
        have k8 := box8o HMD2.out.bo
        cases Ls with
        | nil =>
          clear hmd hg hb2
          go_wp2
          go_meet
          case rel => exact ⟨_, _, _, _, _, _, _, _, HE.out, HOK.out, HMD2.out⟩
        | cons x Ls =>
          have hm : may o x.price = false := by simpa [mGo, hl] using hg
          have hi : (0 : Int) < ((x :: Ls).length : Int) := by simp only [List.length_cons]; omega
          have hi2 : (((x :: Ls).length : Int) == 0) = false := by rw [beq_eq_false_iff_ne]; omega
          obtain ⟨b, off, Ar, cr, ys, rfl, rfl, hbl, _, d0, d1, _, _, _, _⟩ := HMD2.out.lp.top
          clear hmd hg hb2
          go_wp2_with fail
          go_at_call 24
          refine (CMAY.out _ _).mono ?_
          rintro e w3 ⟨rfl, hb3⟩
          have HMD3 := Lib.hid (HMD2.out.below hb3)
          rw [hm]
          clear hm hb3
          go_wp2
          go_meet
          case rel => exact ⟨_, _, _, _, _, _, _, _, HE.out, HOK.out, HMD3.out⟩
        -->stop
      case true =>
        obtain ⟨hl, rfl, x, Ls, rfl⟩ := mGo_true hg
        have HG2 := Lib.hid hg
        have hm : may o x.price = true := by simpa [mGo, hl] using hg
        have hd : decide (0 < left) = true := decide_eq_true hl
        have COFx := Lib.hid (COF.out AL (x :: Ls).length cL)
        have hi : (0 : Int) < ((x :: Ls).length : Int) := by simp only [List.length_cons]; omega
        have hi2 : (((x :: Ls).length : Int) == 0) = false := by rw [beq_eq_false_iff_ne]; omega
        clear hmd hg
        go_wp2_with fail
        go_at_call 23
        refine (COFx.out _).mono ?_
        rintro e w2 ⟨rfl, hb2⟩
        have HMD2 := Lib.hid (HMD.out.below hb2)
        clear k8 m0 m1 m2 m3 m4 m5 m6 hb2 HMD COFx
        have k8 := box8o HMD2.out.bo
        obtain ⟨b, off, Ar, cr, ys, rfl, rfl, hbl, _, d0, d1, _, _, _, _⟩ := HMD2.out.lp.top
        go_wp2_with fail
        go_at_call 24
        refine (CMAY.out _ _).mono ?_
        rintro e w3 ⟨rfl, hb3⟩
        have HMD3 := Lib.hid (HMD2.out.below hb3)
        rw [hm]
        clear hm k8 d0 d1 HMD2 hbl
        obtain ⟨price, rs⟩ := x
        cases rs with
        | nil => exact absurd rfl (HOK.out.some_ _ (List.mem_cons_self ..))
        | cons r t =>
        dsimp only at *
        obtain ⟨b', off', Ar', cr', ys', e1, e2, hbl, _, d0, d1, g1, g2, hrr, _⟩ := HMD3.out.lp.top
        cases e1; cases e2
        obtain ⟨gr, ro, rfl, hgr, r0, r1, r2, r3, r4⟩ := RP.first hrr
        have hj : (0 : Int) < ((t.length + 1 : Nat) : Int) := by omega
        have HRR := Lib.hid hrr
        have bR := Bk.new w3 43 #[.int .i64 r.id, .int .i64 r.who, .int .i64 r.qty, .int .i64 r.hidden, .int .i64 r.show_]
        have hba : Below w3.heap.size w3 (w3.alloc (.cells #[.int .i64 r.id, .int .i64 r.who, .int .i64 r.qty, .int .i64 r.hidden, .int .i64 r.show_] 43)) := (Below.refl _ _).alloc (Nat.le_refl _) _
        simp only [List.length_cons] at hi hi2 d1
        clear hrr hb3
        go_upto_region 10 with fail
        generalize w3.alloc (.cells #[.int .i64 r.id, .int .i64 r.who, .int .i64 r.qty, .int .i64 r.hidden, .int .i64 r.show_] 43) = wd at *
        have HMD4 := Lib.hid (HMD3.out.below hba)
        obtain ⟨gR, hgR⟩ : ∃ X, X = w3.heap.size := ⟨_, rfl⟩
        have HGR := Lib.hid (show gm < gR by rw [hgR]; exact HMD3.out.gm_lt)
        rw [← hgR] at bR
        rw [← hgR]
        have HR4 := Lib.hid (HRR.out.on (Kp.below hba))
        clear hba hgR HMD3 r0 r1 r2 r3 r4 d0 d1 HRR hbl hgr
        obtain ⟨q0, q1, q2, q3, q4⟩ := box5 bR
        have k8 := box8o HMD4.out.bo
        have G1 := Lib.hid g1; have G2 := Lib.hid g2
        clear g1 g2 hi hi2 hj
        go_cut [63] from 25 to 146 (fun v wx => v = .bool (decide (r.who = o.who ∧ mode ≠ 0)) ∧ wx = wd)
        case first =>
          --<guard
          by_cases h1 : r.who = o.who
          · have e1 : (r.who == o.who) = true := by simpa using h1
            by_cases h2 : mode = 0
            · have e2 : (mode != 0) = false := by simpa using h2
              have HE := Lib.hid (show decide (r.who = o.who ∧ mode ≠ 0) = false by simp [h2])
              clear h1 h2
              go_wp2
              go_meet
              case rel => exact ⟨by rw [HE.out], rfl⟩
            · have e2 : (mode != 0) = true := by simpa using h2
              have HE := Lib.hid (show decide (r.who = o.who ∧ mode ≠ 0) = true by simp [h1, h2])
              clear h1 h2
              go_wp2
              go_meet
              case rel => exact ⟨by rw [HE.out], rfl⟩
          · have e1 : (r.who == o.who) = false := by simpa using h1
            have HE := Lib.hid (show decide (r.who = o.who ∧ mode ≠ 0) = false by simp [h1])
            clear h1
            go_wp2
            go_meet
            case rel => exact ⟨by rw [HE.out], rfl⟩
          -->guard
        case rest =>
          obtain ⟨rfl, rfl⟩ := hcut
          by_cases how : r.who = o.who ∧ mode ≠ 0
          · obtain ⟨ho1, ho2⟩ := how
            have HO := Lib.hid (show decide (r.who = o.who ∧ mode ≠ 0) = true by simp [ho1, ho2])
            rw [HO.out]
            --<own
            have hTl : T.length ≤ 400 := HOK.out.trades
            by_cases h1 : mode = 1
            · have e1 : (mode != 2) = true := by rw [h1]; rfl
              have e2 : (mode != 1) = false := by rw [h1]; rfl
              have HST := Lib.hid (HRUN.out.step HOK.out HG2.out (s' := ⟨⟨price, r :: t⟩ :: Ls, left, T, W, true⟩) (by simp [mStep, ho1, h1]) hTl)
              have HM5 := Lib.hid (HMD4.out.setEnds true)
              have m6 := (box7 HMD4.out.m).2.2.2.2.2.2
              have f6 := HMD4.out.m.free 6
              clear ho1 ho2 h1 k8 q0 q1 q2 q3 q4
              dsimp only at m6
              go_wp2
              go_roundg (mSize ⟨⟨price, r :: t⟩ :: Ls, left, T, W, true⟩)
              case measure => exact HST.out.2.2
              case rel => exact ⟨_, _, _, _, _, _, _, _, rfl, HST.out.1, HST.out.2.1, HM5.out⟩
            · --<drop
              have e2 : (mode != 1) = true := by simpa using h1
              obtain ⟨eb, heb⟩ : ∃ eb, eb = (mode != 2) := ⟨_, rfl⟩
              have HST := Lib.hid (HRUN.out.step HOK.out HG2.out (s' := ⟨mCut ⟨price, r :: t⟩ t Ls, left, T, W ++ [r.id], eb⟩) (by rw [heb, ← ends_bool]; unfold mStep; dsimp only; rw [if_pos ⟨ho1, ho2⟩, if_neg h1]) hTl)
              have e3 := heb.symm
              have hWl : W.length ≤ 60 := by have := HOK.out.went; dsimp only at this; omega
              have hcn := HOK.out.few
              have hfl := full_len HOK.out.some_
              dsimp only at hcn hfl
              have hlc := len_cnt (L := ⟨price, r :: t⟩ :: Ls) (x := ⟨price, r :: t⟩) (List.mem_cons_self ..)
              simp only [List.length_cons] at hfl hlc
              have COUT := Lib.hid (fun w' (hb : Below wc.heap.size wc w') => rout_any (PS lo gm (rowOf AT cT) (rowOf AW cW)) price r t Ls _ cL _ w' (HMD4.out.lp.on (Kp.below hb)) (fun k hk => HMD4.out.new k (by have := hb.size; omega)) HMD4.out.cap HMD4.out.max (by omega) (by omega))
              have CW := Lib.hid (CWITH.out (some ⟨b, off, none⟩) (Ls.length + 1) cL)
              obtain ⟨m0, m1, m2, m3, m4, m5, m6⟩ := box7 HMD4.out.m
              simp only [List.length_cons] at m0 m1
              clear ho1 ho2 h1 heb q0 q1 q2 q3 q4 k8 hcn hfl hlc m2 m3 m4 m5 m6
              go_upto_region 12 with fail
              go_cut [] from 25 to 146 (fun wx => ∃ A5 c5 ys5, RMd lo w wx gm L M o A1 A2 c1 c2 ⟨mCut ⟨price, r :: t⟩ t Ls, left, T, W, false⟩ A5 c5 ys5 AT cT AW cW ∧ Bk wx gR 43 #[.int .i64 r.id, .int .i64 r.who, .int .i64 r.qty, .int .i64 r.hidden, .int .i64 r.show_])
              case first =>
                --<r12
                refine wp_region_noPanic ?_
                refine wp_region_held_drew (S := fun _ => True) (by kernel_rfl) trivial (fun hHeld => ?_)
                (refine wpAnyH_take (i := 0) (v := ?_) rfl (by kernel_rfl) (by kernel_rfl) (by kernel_rfl) (fun _ _ _ h => h) (Or.inl ⟨by rfl, ?_⟩) (by trivial) ?_); rotate_left; (focus (intro w hSw; (try dsimp only at hSw); go_simp; try (with_reducible rfl))); (try simp only [Act.put, List.setIfInBounds_toArray, List.set_cons_zero, List.set_cons_succ])
                (refine wpAnyH_take (i := 2) (v := ?_) rfl (by kernel_rfl) (by kernel_rfl) (by kernel_rfl) (fun _ _ _ h => h) (Or.inl ⟨by rfl, ?_⟩) (by trivial) ?_); rotate_left; (focus (intro w hSw; (try dsimp only at hSw); go_simp; try (with_reducible rfl))); (try simp only [Act.put, List.setIfInBounds_toArray, List.set_cons_zero, List.set_cons_succ])
                (refine wpAnyH_take (i := 3) (v := ?_) rfl (by kernel_rfl) (by kernel_rfl) (by kernel_rfl) (fun _ _ _ h => h) (Or.inl ⟨by rfl, ?_⟩) (by trivial) ?_); rotate_left; (focus (intro w hSw; (try dsimp only at hSw); go_simp; try (with_reducible rfl))); (try simp only [Act.put, List.setIfInBounds_toArray, List.set_cons_zero, List.set_cons_succ])
                refine wpAnyH_ready (rs := [1, 4]) (by kernel_rfl) (by simp) ?_
                refine AllReadyH.cons rfl (fun KK KH => ?_) (AllReadyH.cons rfl (fun KK KH => ?_) AllReadyH.nil)
                · go_simp
                  (refine KH.out _ _ (by trivial) (fun hHeld => ?_); clear KH KK; (try simp only [Act.put, List.setIfInBounds_toArray, List.set_cons_zero, List.set_cons_succ]))
                  (refine wpAnyH_ready (rs := [4]) (by kernel_rfl) (by simp) ?_; refine AllReadyH.cons rfl (fun KK KH => ?_) AllReadyH.nil)
                  (go_simp; go_at_call 38; refine (COUT.out _ (Below.refl _ _).drew).mono ?_; rintro e w5 ⟨A5, c5, ys5, rfl, lp5, k5, k6, hb5⟩; have s0 := keepC hb5 (cell_drew m0); have s1 := keepC hb5 (cell_drew m1); (try go_wp2_with fail); (refine KH.out _ _ (by trivial) (fun hHeld => ?_); clear KH KK; (try simp only [Act.put, List.setIfInBounds_toArray, List.set_cons_zero, List.set_cons_succ])))
                  (refine wpAnyH_ready (rs := [5]) (by kernel_rfl) (by simp) ?_; refine AllReadyH.cons rfl (fun KK KH => ?_) AllReadyH.nil)
                  (go_simp; go_at_call 37; refine (CW.out A5 _ c5 _).mono ?_; rintro e w6 ⟨rfl, hb6⟩; have u0 := keepC hb6 s0; have u1 := keepC hb6 s1; have f0 := ((HMD4.out.m.drew.keep hb5).keep hb6).free 0; have f1 := ((HMD4.out.m.drew.keep hb5).keep hb6).free 1; (try go_wp2_with fail); (refine KH.out _ _ (by trivial) (fun hHeld => ?_); clear KH KK; (try simp only [Act.put, List.setIfInBounds_toArray, List.set_cons_zero, List.set_cons_succ])))
                  ((refine wpAnyH_take (i := 6) (v := ?_) rfl (by kernel_rfl) (by kernel_rfl) (by kernel_rfl) (fun _ _ _ h => h) (Or.inl ⟨by rfl, ?_⟩) (by trivial) ?_); rotate_left; (focus (intro w hSw; (try dsimp only at hSw); go_simp; try (with_reducible rfl))); (try simp only [Act.put, List.setIfInBounds_toArray, List.set_cons_zero, List.set_cons_succ]); (refine wpAnyH_ready (rs := [7]) (by kernel_rfl) (by simp) ?_; refine AllReadyH.cons rfl (fun KK KH => ?_) AllReadyH.nil); go_simp; (refine KH.out _ _ (by trivial) (fun hHeld => ?_); clear KH KK; (try simp only [Act.put, List.setIfInBounds_toArray, List.set_cons_zero, List.set_cons_succ])); refine wpAnyH_done (by kernel_rfl) ?_ _; refine NoPanic.normal ?_; have hb56 := below_then hb6 (show Below wc.heap.size wc w5 from (Below.refl _ _).drew.trans hb5); have H6 := Lib.hid ((HMD4.out.below hb56).book (lp5.on (Kp.below hb6)) k5 k6); have B6 := Lib.hid (((bR.keep hb56).far (p := ⟨gm, 0, none⟩) (by have := HGR.out; show gR ≠ gm; omega) (.slice (pick o.side A5 A1) (pick o.side (mCut ⟨price, r :: t⟩ t Ls).length L.length) (pick o.side c5 c1))).far (p := ⟨gm, 1, none⟩) (by have := HGR.out; show gR ≠ gm; omega) (.slice (pick o.side A2 A5) (pick o.side M.length (mCut ⟨price, r :: t⟩ t Ls).length) (pick o.side c2 c5))); clear hb56 lp5 k5 k6 hb5 hb6 u0 u1 s0 s1 f0 f1; go_wp2; go_meet; (case rel => exact ⟨A5, c5, ys5, H6.out, B6.out⟩))
                · (go_simp; go_at_call 38; refine (COUT.out _ (Below.refl _ _).drew).mono ?_; rintro e w5 ⟨A5, c5, ys5, rfl, lp5, k5, k6, hb5⟩; have s0 := keepC hb5 (cell_drew m0); have s1 := keepC hb5 (cell_drew m1); (try go_wp2_with fail); (refine KH.out _ _ (by trivial) (fun hHeld => ?_); clear KH KK; (try simp only [Act.put, List.setIfInBounds_toArray, List.set_cons_zero, List.set_cons_succ])))
                  (refine wpAnyH_ready (rs := [1]) (by kernel_rfl) (by simp) ?_; refine AllReadyH.cons rfl (fun KK KH => ?_) AllReadyH.nil)
                  go_simp
                  (refine KH.out _ _ (by trivial) (fun hHeld => ?_); clear KH KK; (try simp only [Act.put, List.setIfInBounds_toArray, List.set_cons_zero, List.set_cons_succ]))
                  (refine wpAnyH_ready (rs := [5]) (by kernel_rfl) (by simp) ?_; refine AllReadyH.cons rfl (fun KK KH => ?_) AllReadyH.nil)
                  (go_simp; go_at_call 37; refine (CW.out A5 _ c5 _).mono ?_; rintro e w6 ⟨rfl, hb6⟩; have u0 := keepC hb6 s0; have u1 := keepC hb6 s1; have f0 := ((HMD4.out.m.drew.keep hb5).keep hb6).free 0; have f1 := ((HMD4.out.m.drew.keep hb5).keep hb6).free 1; (try go_wp2_with fail); (refine KH.out _ _ (by trivial) (fun hHeld => ?_); clear KH KK; (try simp only [Act.put, List.setIfInBounds_toArray, List.set_cons_zero, List.set_cons_succ])))
                  ((refine wpAnyH_take (i := 6) (v := ?_) rfl (by kernel_rfl) (by kernel_rfl) (by kernel_rfl) (fun _ _ _ h => h) (Or.inl ⟨by rfl, ?_⟩) (by trivial) ?_); rotate_left; (focus (intro w hSw; (try dsimp only at hSw); go_simp; try (with_reducible rfl))); (try simp only [Act.put, List.setIfInBounds_toArray, List.set_cons_zero, List.set_cons_succ]); (refine wpAnyH_ready (rs := [7]) (by kernel_rfl) (by simp) ?_; refine AllReadyH.cons rfl (fun KK KH => ?_) AllReadyH.nil); go_simp; (refine KH.out _ _ (by trivial) (fun hHeld => ?_); clear KH KK; (try simp only [Act.put, List.setIfInBounds_toArray, List.set_cons_zero, List.set_cons_succ])); refine wpAnyH_done (by kernel_rfl) ?_ _; refine NoPanic.normal ?_; have hb56 := below_then hb6 (show Below wc.heap.size wc w5 from (Below.refl _ _).drew.trans hb5); have H6 := Lib.hid ((HMD4.out.below hb56).book (lp5.on (Kp.below hb6)) k5 k6); have B6 := Lib.hid (((bR.keep hb56).far (p := ⟨gm, 0, none⟩) (by have := HGR.out; show gR ≠ gm; omega) (.slice (pick o.side A5 A1) (pick o.side (mCut ⟨price, r :: t⟩ t Ls).length L.length) (pick o.side c5 c1))).far (p := ⟨gm, 1, none⟩) (by have := HGR.out; show gR ≠ gm; omega) (.slice (pick o.side A2 A5) (pick o.side M.length (mCut ⟨price, r :: t⟩ t Ls).length) (pick o.side c2 c5))); clear hb56 lp5 k5 k6 hb5 hb6 u0 u1 s0 s1 f0 f1; go_wp2; go_meet; (case rel => exact ⟨A5, c5, ys5, H6.out, B6.out⟩))
                -->r12
              case rest =>
                obtain ⟨A5, c5, ys5, hmd5, bR5⟩ := hcut
                --<went
                have HM5 := Lib.hid hmd5
                clear hmd5 m0 m1 HMD4 COUT CW HR4 bR
                obtain ⟨m0, m1, m2, m3, m4, m5, m6⟩ := box7 HM5.out.m
                obtain ⟨q0, q1, q2, q3, q4⟩ := box5 bR5
                dsimp only at m2 m3 m5 m6
                obtain ⟨i0, hi0, hz1, hz2, hz3⟩ := info_parts info_int
                have HI := Lib.hid hi0; have H0 := Lib.hid hz1; have H1 := Lib.hid hz2; have H2 := Lib.hid hz3
                have hgml := HM5.out.gm_lt
                have ownW := Lib.hid (show OwnS wc (gm + 1) 1 AW W.length cW (irows W) from HM5.out.wt)
                have hgneW := Lib.hid (show some gm ≠ rowOf AW cW from fun e => by have := (ownW.out.row_lt gm e.symm).1; omega)
                have hba : Below wc.heap.size wc (wc.alloc (.cells #[.int .i64 r.id] 3)) := (Below.refl _ _).alloc (Nat.le_refl _) _
                clear hi0 hz1 hz2 hz3 m0 m1 m2 m3 m4 m6
                go_upto_region 14 with (at_builtin; go_loud (refine wpList_append_S (base := gm + 1) (s := 1) (n := W.length) (xs := irows W) rfl _ _ _ _ rfl 3 i0 _ 8 Tryz.underlying29 HI.out H0.out H1.out H2.out rfl rfl (ownW.out.alloc _) (by simp; omega) _ rfl 1 [.int .i64 r.id] (src_block (m := 1) (Bk.at_ (by simp) 3 #[.int .i64 r.id]) Tryz.underlying29 rfl (int_one _) 1) (by unfold maxLen; omega) (by omega) ?_); intro AW' cW' w6 gr; go_loud (have mB6 := (HM5.out.m.alloc _).grown gr.grown hgneW.out); have t5 := mB6.cell 5; (simp at t5); have f5 := mB6.free 5)
                have HM6 := Lib.hid ((HM5.out.below hba).went (t := r.id) gr)
                clear hba gr mB6 t5 f5 ownW hgneW HM5 m5 q0 q1 q2 q3 q4 bR5
                dsimp only at HM6
                generalize w6.setCell ⟨gm, 5, none⟩ (.slice AW' (W.length + 1) cW') = wf at *
                have m6 := (box7 HM6.out.m).2.2.2.2.2.2
                have f6 := HM6.out.m.free 6
                have HM7 := Lib.hid (HM6.out.setEnds eb)
                dsimp only at m6 HM7
                go_wp2
                go_roundg (mSize ⟨mCut ⟨price, r :: t⟩ t Ls, left, T, W ++ [r.id], eb⟩)
                case measure => exact HST.out.2.2
                case rel => exact ⟨_, _, _, _, _, _, _, _, rfl, HST.out.1, HST.out.2.1, HM7.out⟩
                -->went
              -->drop
            -->own
          · have HO := Lib.hid (show decide (r.who = o.who ∧ mode ≠ 0) = false by simpa using how)
            have HS0 := Lib.hid (mStep_trade (x := ⟨price, r :: t⟩) (L := Ls) (left := left) (T := T) (W := W) (ends := false) rfl how)
            obtain ⟨hr, htl⟩ := HOK.out.top_rest
            have hq := qFirst_ok hr (fun y hy => HOK.out.each _ (List.mem_cons_self ..) y (List.mem_cons_of_mem _ hy)) (n := left) (by omega)
            have HQ := Lib.hid hq.2
            have HFI := Lib.hid (qFirst_id r t left)
            rw [HO.out]
            clear how hq
            --<trade
            have hTl : T.length ≤ 400 := HOK.out.trades
            obtain ⟨b', off', Ar', cr', ys', e1, e2, hbl, _, d0, d1, g1, g2, hrr, hlc⟩ := HMD4.out.lp.top
            cases e1; cases e2
            have hcn := HOK.out.few
            have hfl := full_len HOK.out.some_
            dsimp only at hcn hfl
            simp only [List.length_cons] at hfl d1
            have htn : t.length ≤ 99 := by
              have hlc := len_cnt (L := ⟨price, r :: t⟩ :: Ls) (x := ⟨price, r :: t⟩) (List.mem_cons_self ..)
              simp only [List.length_cons] at hlc
              omega
            have CF := Lib.hid (fun w' (hb : Below wc.heap.size wc w') => rfill_any r t (some ⟨gr, ro, none⟩) cr left w' ((hrr.on (Kp.below hb)).rd) htn g1 g2 (by omega) hr)
            have HLC := Lib.hid hlc
            obtain ⟨wd, rfl⟩ : ∃ wd : World, wd = wc := ⟨_, rfl⟩
            have m3 := (box7 HMD4.out.m).2.2.2.1
            dsimp only at m3
            have hj : (0 : Int) < ((Ls.length + 1 : Nat) : Int) := by omega
            have hLs : Ls.length ≤ 60 := by omega
            clear g1 g2 hrr hlc hr hcn q0 q1 q2 q3 q4 k8 d0
            go_upto_region 15 with fail
            go_cut [14, 15] from 25 to 146 (fun n rv wx => ∃ A3 c3, n = .int .i64 (qFirst r t left).1.qty ∧ rv = .slice A3 (qFirst r t left).2.length c3 ∧ OwnS wx wd.heap.size 5 A3 (qFirst r t left).2.length c3 (rows (qFirst r t left).2) ∧ Below wd.heap.size wd wx)
            case first =>
              --<r15
              go_region_held3 (fun w' => w'.cell? ⟨b, off + 1, none⟩ = some (.slice (some ⟨gr, ro, none⟩) (t.length + 1) cr) ∧ w'.cell? ⟨gm, 3, none⟩ = some (.int .i64 left)) ((repeat' apply And.intro) <;> (first | (with_reducible assumption) | (with_reducible exact cell_drew (by assumption)) | (with_reducible exact cell_alloc (by assumption) _) | (with_reducible exact cell_alloc_drew (by assumption) _)))
                ((go_at_call 41; go_loud (refine (CF.out _ (Below.refl _ _).drew).mono ?_); rintro e w5 ⟨A3, c3, rfl, own3, hb3⟩; have s1 := keepC hb3 (cell_drew d1); have s3 := keepC hb3 (cell_drew m3)))
              have O3 := Lib.hid own3
              have B3 := Lib.hid (show Below wd.heap.size wd w5 from (Below.refl _ _).drew.trans hb3)
              clear own3 hb3 s1 s3
              go_wp2
              go_meet
              case rel => exact ⟨A3, c3, rfl, rfl, O3.out, B3.out⟩
              -->r15
            case rest =>
              obtain ⟨A3, c3, rfl, rfl, own3, hb3⟩ := hcut
              generalize qFirst r t left = qf at *
              obtain ⟨f, rs⟩ := qf
              dsimp only at *
              have HO3 := Lib.hid own3; have HB3 := Lib.hid hb3
              have HNEW := Lib.hid HMD4.out.new
              have hzd := hb3.size
              clear own3 hb3 d1 m3 CF
              go_upto_if 95 with fail
              go_cut [16] from 25 to 146 (fun nv wx => ∃ A6 c6 hd K, nv = .slice A6 K.length c6 ∧ mCut ⟨price, r :: t⟩ rs Ls = K ++ Ls ∧ K.length ≤ 1 ∧ OwnS wx wd.heap.size 2 A6 K.length c6 hd ∧ LC (fun k => PS lo gm (rowOf AT cT) (rowOf AW cW) k ∧ some k ≠ rowOf A6 c6) wx K hd ∧ Below wd.heap.size wd wx)
              case first =>
                --<next
                obtain ⟨we, rfl⟩ : ∃ we : World, we = wc := ⟨_, rfl⟩
                cases rs with
                | nil =>
                  have hi0 : ¬ (0 : Int) < ((0 : Nat) : Int) := by omega
                  go_wp2
                  go_meet
                  case rel => exact ⟨none, 0, [], [], rfl, rfl, by simp, OwnS.nil _ _ _ _, LC.nil, HB3.out⟩
                | cons r2 t2 =>
                  have hi0 : (0 : Int) < ((t2.length + 1 : Nat) : Int) := by omega
                  obtain ⟨i0, hi1, hz1, hz2, hz3⟩ := info_parts info_lv
                  have HI := Lib.hid hi1; have H0 := Lib.hid hz1; have H1 := Lib.hid hz2; have H2 := Lib.hid hz3
                  simp only [List.length_cons] at *
                  clear hi1 hz1 hz2 hz3
                  go_wp2_with (at_builtin; go_loud (refine wpList_append_S (base := wd.heap.size) (s := 2) (n := 0) (xs := []) rfl _ _ _ _ rfl 66 i0 _ 32 Tryz.underlying22 HI.out H0.out H1.out H2.out rfl rfl (OwnS.nil _ _ _ _) (by simp; omega) _ rfl 1 [.int .i64 price, .slice A3 (t2.length + 1) c3] (src_block (m := 1) (Bk.at_ (by simp) 66 #[.int .i64 price, .slice A3 (t2.length + 1) c3]) Tryz.underlying22 rfl (lvc_one _ _ _ _) 1) (by unfold maxLen; omega) (by omega) ?_); intro A6 c6 w6 gr)
                  have hba : Below we.heap.size we (we.alloc (.cells #[.int .i64 price, .slice A3 (t2.length + 1) c3] 66)) := (Below.refl _ _).alloc (Nat.le_refl _) _
                  have hb6 := Lib.hid (below_then (below_then (grown_none gr.grown) hba) HB3.out)
                  have LC6 := Lib.hid (LC.cons (P := fun k => PS lo gm (rowOf AT cT) (rowOf AW cW) k ∧ some k ≠ rowOf A6 c6) (w := w6) (x := ⟨price, r2 :: t2⟩) LC.nil HO3.out.le HO3.out.max ((RP.of_own (P := fun k => wd.heap.size ≤ k) (HO3.out.below hba) (fun k hk => hk)).on (Kp.grown gr.grown (fun k hp hk => ⟨by simp [rowOf], HNEW.out k hp, by
                    rcases gr.row with e | e
                    · rw [e]; simp [rowOf]
                    · rw [e]; intro e2; have e2 := Option.some.inj e2; omega⟩))))
                  have OW6 := Lib.hid gr.own
                  clear gr hba
                  go_wp2
                  go_meet
                  case rel => exact ⟨A6, c6, _, [⟨price, r2 :: t2⟩], rfl, rfl, Nat.le_refl _, OW6.out, LC6.out, hb6.out⟩
                -->next
              case rest =>
                obtain ⟨A6, c6, hd, K, rfl, hmc, hk1, own6, hlc6, hb6⟩ := hcut
                obtain ⟨wf, rfl⟩ : ∃ wf : World, wf = wc := ⟨_, rfl⟩
                have HMF := Lib.hid (HMD4.out.below hb6)
                have HMC := Lib.hid hmc
                obtain ⟨m0, m1, _, _, _, _, _⟩ := box7 HMF.out.m
                simp only [List.length_cons] at m0 m1
                have hgml := HMF.out.gm_lt
                have hgmd := HMD4.out.gm_lt
                have hgne : some gm ≠ rowOf A6 c6 := fun e => by have := (own6.row_lt gm e.symm).1; omega
                have CW := Lib.hid (CWITH.out (some ⟨b, off, none⟩) (Ls.length + 1) cL)
                obtain ⟨i0, hi1, hz1, hz2, hz3⟩ := info_parts info_lv
                have HI := Lib.hid hi1; have H0 := Lib.hid hz1; have H1 := Lib.hid hz2; have H2 := Lib.hid hz3
                have hcap : Ls.length + 1 ≤ cL := HMD4.out.cap
                have hmx : cL ≤ 9223372036854775807 := HMD4.out.max
                have hj1 : (1 : Int) ≤ ((Ls.length + 1 : Nat) : Int) := by omega
                have hj2 : (1 : Int) ≤ (Ls.length : Int) + 1 := by omega
                clear hi1 hz1 hz2 hz3 hmc HO3 HB3 hzd
                go_upto_region 19 with fail
                go_cut [] from 25 to 146 (fun wx => ∃ A7 c7 ys7, RMd lo w wx gm L M o A1 A2 c1 c2 ⟨K ++ Ls, left, T, W, false⟩ A7 c7 ys7 AT cT AW cW ∧ Bk wx gR 43 #[.int .i64 r.id, .int .i64 r.who, .int .i64 r.qty, .int .i64 r.hidden, .int .i64 r.show_])
                case first =>
                  --<r19
                  by_cases hc1 : cL = 1
                  · obtain rfl : Ls = [] := List.eq_nil_of_length_eq_zero (by omega)
                    subst hc1
                    obtain rfl : ys = [] := List.eq_nil_of_length_eq_zero (by have := HLC.out.len; simpa using this)
                    simp only [List.length_nil] at *
                    refine wp_region_noPanic ?_
                    refine wp_region_held_drew (S := fun _ => True) (by kernel_rfl) trivial (fun hHeld => ?_)
                    (refine wpAnyH_take (i := 0) (v := ?_) rfl (by kernel_rfl) (by kernel_rfl) (by kernel_rfl) (fun _ _ _ h => h) (Or.inl ⟨by rfl, ?_⟩) (by trivial) ?_); rotate_left; (focus (intro w hSw; (try dsimp only at hSw); go_simp; try (with_reducible rfl))); (try simp only [Act.put, List.setIfInBounds_toArray, List.set_cons_zero, List.set_cons_succ])
                    (refine wpAnyH_take (i := 2) (v := ?_) rfl (by kernel_rfl) (by kernel_rfl) (by kernel_rfl) (fun _ _ _ h => h) (Or.inl ⟨by rfl, ?_⟩) (by trivial) ?_); rotate_left; (focus (intro w hSw; (try dsimp only at hSw); go_simp; try (with_reducible rfl))); (try simp only [Act.put, List.setIfInBounds_toArray, List.set_cons_zero, List.set_cons_succ])
                    (refine wpAnyH_take (i := 3) (v := ?_) rfl (by kernel_rfl) (by kernel_rfl) (by kernel_rfl) (fun _ _ _ h => h) (Or.inl ⟨by rfl, ?_⟩) (by trivial) ?_); rotate_left; (focus (intro w hSw; (try dsimp only at hSw); go_simp; try (with_reducible rfl))); (try simp only [Act.put, List.setIfInBounds_toArray, List.set_cons_zero, List.set_cons_succ])
                    (refine wpAnyH_take (i := 4) (v := ?_) rfl (by kernel_rfl) (by kernel_rfl) (by kernel_rfl) (fun _ _ _ h => h) (Or.inl ⟨by rfl, ?_⟩) (by trivial) ?_); rotate_left; (focus (intro w hSw; (try dsimp only at hSw); go_simp; try (with_reducible rfl))); (try simp only [Act.put, List.setIfInBounds_toArray, List.set_cons_zero, List.set_cons_succ])
                    (refine wpAnyH_take (i := 5) (v := ?_) rfl (by kernel_rfl) (by kernel_rfl) (by kernel_rfl) (fun _ _ _ h => h) (Or.inl ⟨by rfl, ?_⟩) (by trivial) ?_); rotate_left; (focus (intro w hSw; (try dsimp only at hSw); go_simp; try (with_reducible rfl))); (try simp only [Act.put, List.setIfInBounds_toArray, List.set_cons_zero, List.set_cons_succ])
                    refine wpAnyH_ready (rs := [1, 6]) (by kernel_rfl) (by simp) ?_
                    refine AllReadyH.cons rfl (fun KK KH => ?_) (AllReadyH.cons rfl (fun KK KH => ?_) AllReadyH.nil)
                    · go_simp
                      (refine KH.out _ _ (by trivial) (fun hHeld => ?_); clear KH KK; (try simp only [Act.put, List.setIfInBounds_toArray, List.set_cons_zero, List.set_cons_succ]))
                      (refine wpAnyH_ready (rs := [6]) (by kernel_rfl) (by simp) ?_; refine AllReadyH.cons rfl (fun KK KH => ?_) AllReadyH.nil)
                      (refine step_append_S (base := wd.heap.size) (s := 2) (n := K.length) (xs := hd) (by rfl) _ _ _ _ (by rfl) 66 i0 _ 32 Tryz.underlying22 HI.out H0.out H1.out H2.out rfl (by rfl) own6.drew (by have := hb6.size; simpa using this) _ (by rfl) (0) ([]) (src_none Tryz.underlying22 (fun _ => trivial)) (by unfold maxLen; omega) (by omega) ?_; intro A7 c7 w7 gr; have s0 := (gr.grown.cell_far ⟨gm, 0, none⟩ (by simp; omega) hgne).trans (cell_drew m0); have s1 := (gr.grown.cell_far ⟨gm, 1, none⟩ (by simp; omega) hgne).trans (cell_drew m1); have bm7 := (HMF.out.m.drew).grown gr.grown hgne; (refine KH.out _ _ (by trivial) (fun hHeld => ?_); clear KH KK; (try simp only [Act.put, List.setIfInBounds_toArray, List.set_cons_zero, List.set_cons_succ])))
                      (refine wpAnyH_ready (rs := [7]) (by kernel_rfl) (by simp) ?_; refine AllReadyH.cons rfl (fun KK KH => ?_) AllReadyH.nil)
                      (go_simp; go_at_call 37; refine (CW.out A7 (K.length + 0) c7 _).mono ?_; rintro e w8 ⟨rfl, hb8⟩; have u0 := keepC hb8 s0; have u1 := keepC hb8 s1; have f0 := (bm7.keep hb8).free 0; have f1 := (bm7.keep hb8).free 1; (try go_wp2_with fail); (refine KH.out _ _ (by trivial) (fun hHeld => ?_); clear KH KK; (try simp only [Act.put, List.setIfInBounds_toArray, List.set_cons_zero, List.set_cons_succ])))
                      ((refine wpAnyH_take (i := 8) (v := ?_) rfl (by kernel_rfl) (by kernel_rfl) (by kernel_rfl) (fun _ _ _ h => h) (Or.inl ⟨by rfl, ?_⟩) (by trivial) ?_); rotate_left; (focus (intro w hSw; (try dsimp only at hSw); go_simp; try (with_reducible rfl))); (try simp only [Act.put, List.setIfInBounds_toArray, List.set_cons_zero, List.set_cons_succ]); (refine wpAnyH_ready (rs := [9]) (by kernel_rfl) (by simp) ?_; refine AllReadyH.cons rfl (fun KK KH => ?_) AllReadyH.nil); go_simp; (refine KH.out _ _ (by trivial) (fun hHeld => ?_); clear KH KK; (try simp only [Act.put, List.setIfInBounds_toArray, List.set_cons_zero, List.set_cons_succ])); refine wpAnyH_done (by kernel_rfl) ?_ _; refine NoPanic.normal ?_; have hb7 : Below wd.heap.size wd w7 := (hb6.drew).grown gr.grown (by have := hb6.size; simpa using this) (fun k hk => (own6.row_lt k hk).1); have hb9 := below_then hb8 hb7; have LP7 := (LP.of_own (P := PS lo gm (rowOf AT cT) (rowOf AW cW)) (L := K ++ ([] : List Lv)) gr.own (LC.app ((hlc6.on (Kp.below (Below.refl _ _).drew)).on (Kp.grown gr.grown (fun k hp hk => ⟨hp.2, hp.1⟩))) (HLC.out.on (Kp.below hb7))) (by simp) HNEW.out); have H6 := ((HMD4.out.below hb9).book (LP7.on (Kp.below hb8)) (by have := gr.own.le; simpa using this) gr.own.max); have B6 := Lib.hid (((bR.keep hb9).far (p := ⟨gm, 0, none⟩) (by have := HGR.out; show gR ≠ gm; omega) (.slice (pick o.side A7 A1) (pick o.side (K.length + 0) L.length) (pick o.side c7 c1))).far (p := ⟨gm, 1, none⟩) (by have := HGR.out; show gR ≠ gm; omega) (.slice (pick o.side A2 A7) (pick o.side M.length (K.length + 0)) (pick o.side c2 c7))); rw [show (K ++ ([] : List Lv)).length = K.length + 0 from by simp] at H6; have H6 := Lib.hid H6; clear LP7 hb9 hb8 hb7 gr u0 u1 s0 s1 f0 f1 bm7; go_wp2; go_meet; (case rel => exact ⟨A7, c7, _, H6.out, B6.out⟩))
                    · (refine step_append_S (base := wd.heap.size) (s := 2) (n := K.length) (xs := hd) (by rfl) _ _ _ _ (by rfl) 66 i0 _ 32 Tryz.underlying22 HI.out H0.out H1.out H2.out rfl (by rfl) own6.drew (by have := hb6.size; simpa using this) _ (by rfl) (0) ([]) (src_none Tryz.underlying22 (fun _ => trivial)) (by unfold maxLen; omega) (by omega) ?_; intro A7 c7 w7 gr; have s0 := (gr.grown.cell_far ⟨gm, 0, none⟩ (by simp; omega) hgne).trans (cell_drew m0); have s1 := (gr.grown.cell_far ⟨gm, 1, none⟩ (by simp; omega) hgne).trans (cell_drew m1); have bm7 := (HMF.out.m.drew).grown gr.grown hgne; (refine KH.out _ _ (by trivial) (fun hHeld => ?_); clear KH KK; (try simp only [Act.put, List.setIfInBounds_toArray, List.set_cons_zero, List.set_cons_succ])))
                      (refine wpAnyH_ready (rs := [1]) (by kernel_rfl) (by simp) ?_; refine AllReadyH.cons rfl (fun KK KH => ?_) AllReadyH.nil)
                      go_simp
                      (refine KH.out _ _ (by trivial) (fun hHeld => ?_); clear KH KK; (try simp only [Act.put, List.setIfInBounds_toArray, List.set_cons_zero, List.set_cons_succ]))
                      (refine wpAnyH_ready (rs := [7]) (by kernel_rfl) (by simp) ?_; refine AllReadyH.cons rfl (fun KK KH => ?_) AllReadyH.nil)
                      (go_simp; go_at_call 37; refine (CW.out A7 (K.length + 0) c7 _).mono ?_; rintro e w8 ⟨rfl, hb8⟩; have u0 := keepC hb8 s0; have u1 := keepC hb8 s1; have f0 := (bm7.keep hb8).free 0; have f1 := (bm7.keep hb8).free 1; (try go_wp2_with fail); (refine KH.out _ _ (by trivial) (fun hHeld => ?_); clear KH KK; (try simp only [Act.put, List.setIfInBounds_toArray, List.set_cons_zero, List.set_cons_succ])))
                      ((refine wpAnyH_take (i := 8) (v := ?_) rfl (by kernel_rfl) (by kernel_rfl) (by kernel_rfl) (fun _ _ _ h => h) (Or.inl ⟨by rfl, ?_⟩) (by trivial) ?_); rotate_left; (focus (intro w hSw; (try dsimp only at hSw); go_simp; try (with_reducible rfl))); (try simp only [Act.put, List.setIfInBounds_toArray, List.set_cons_zero, List.set_cons_succ]); (refine wpAnyH_ready (rs := [9]) (by kernel_rfl) (by simp) ?_; refine AllReadyH.cons rfl (fun KK KH => ?_) AllReadyH.nil); go_simp; (refine KH.out _ _ (by trivial) (fun hHeld => ?_); clear KH KK; (try simp only [Act.put, List.setIfInBounds_toArray, List.set_cons_zero, List.set_cons_succ])); refine wpAnyH_done (by kernel_rfl) ?_ _; refine NoPanic.normal ?_; have hb7 : Below wd.heap.size wd w7 := (hb6.drew).grown gr.grown (by have := hb6.size; simpa using this) (fun k hk => (own6.row_lt k hk).1); have hb9 := below_then hb8 hb7; have LP7 := (LP.of_own (P := PS lo gm (rowOf AT cT) (rowOf AW cW)) (L := K ++ ([] : List Lv)) gr.own (LC.app ((hlc6.on (Kp.below (Below.refl _ _).drew)).on (Kp.grown gr.grown (fun k hp hk => ⟨hp.2, hp.1⟩))) (HLC.out.on (Kp.below hb7))) (by simp) HNEW.out); have H6 := ((HMD4.out.below hb9).book (LP7.on (Kp.below hb8)) (by have := gr.own.le; simpa using this) gr.own.max); have B6 := Lib.hid (((bR.keep hb9).far (p := ⟨gm, 0, none⟩) (by have := HGR.out; show gR ≠ gm; omega) (.slice (pick o.side A7 A1) (pick o.side (K.length + 0) L.length) (pick o.side c7 c1))).far (p := ⟨gm, 1, none⟩) (by have := HGR.out; show gR ≠ gm; omega) (.slice (pick o.side A2 A7) (pick o.side M.length (K.length + 0)) (pick o.side c2 c7))); rw [show (K ++ ([] : List Lv)).length = K.length + 0 from by simp] at H6; have H6 := Lib.hid H6; clear LP7 hb9 hb8 hb7 gr u0 u1 s0 s1 f0 f1 bm7; go_wp2; go_meet; (case rel => exact ⟨A7, c7, _, H6.out, B6.out⟩))
                  · have hcc : (1 : Int) < (cL : Int) := by omega
                    have HSRC := Lib.hid (fun c => (HMF.out.lp.on (Kp.below (Below.refl _ _).drew)).src_tail (c := c) Tryz.underlying22)
                    refine wp_region_noPanic ?_
                    refine wp_region_held_drew (S := fun _ => True) (by kernel_rfl) trivial (fun hHeld => ?_)
                    (refine wpAnyH_take (i := 0) (v := ?_) rfl (by kernel_rfl) (by kernel_rfl) (by kernel_rfl) (fun _ _ _ h => h) (Or.inl ⟨by rfl, ?_⟩) (by trivial) ?_); rotate_left; (focus (intro w hSw; (try dsimp only at hSw); go_simp; try (with_reducible rfl))); (try simp only [Act.put, List.setIfInBounds_toArray, List.set_cons_zero, List.set_cons_succ])
                    (refine wpAnyH_take (i := 2) (v := ?_) rfl (by kernel_rfl) (by kernel_rfl) (by kernel_rfl) (fun _ _ _ h => h) (Or.inl ⟨by rfl, ?_⟩) (by trivial) ?_); rotate_left; (focus (intro w hSw; (try dsimp only at hSw); go_simp; try (with_reducible rfl))); (try simp only [Act.put, List.setIfInBounds_toArray, List.set_cons_zero, List.set_cons_succ])
                    (refine wpAnyH_take (i := 3) (v := ?_) rfl (by kernel_rfl) (by kernel_rfl) (by kernel_rfl) (fun _ _ _ h => h) (Or.inl ⟨by rfl, ?_⟩) (by trivial) ?_); rotate_left; (focus (intro w hSw; (try dsimp only at hSw); go_simp; try (with_reducible rfl))); (try simp only [Act.put, List.setIfInBounds_toArray, List.set_cons_zero, List.set_cons_succ])
                    (refine wpAnyH_take (i := 4) (v := ?_) rfl (by kernel_rfl) (by kernel_rfl) (by kernel_rfl) (fun _ _ _ h => h) (Or.inl ⟨by rfl, ?_⟩) (by trivial) ?_); rotate_left; (focus (intro w hSw; (try dsimp only at hSw); go_simp; try (with_reducible rfl))); (try simp only [Act.put, List.setIfInBounds_toArray, List.set_cons_zero, List.set_cons_succ])
                    (refine wpAnyH_take (i := 5) (v := ?_) rfl (by kernel_rfl) (by kernel_rfl) (by kernel_rfl) (fun _ _ _ h => h) (Or.inl ⟨by rfl, ?_⟩) (by trivial) ?_); rotate_left; (focus (intro w hSw; (try dsimp only at hSw); go_simp; try (with_reducible rfl))); (try simp only [Act.put, List.setIfInBounds_toArray, List.set_cons_zero, List.set_cons_succ])
                    refine wpAnyH_ready (rs := [1, 6]) (by kernel_rfl) (by simp) ?_
                    refine AllReadyH.cons rfl (fun KK KH => ?_) (AllReadyH.cons rfl (fun KK KH => ?_) AllReadyH.nil)
                    · go_simp
                      (refine KH.out _ _ (by trivial) (fun hHeld => ?_); clear KH KK; (try simp only [Act.put, List.setIfInBounds_toArray, List.set_cons_zero, List.set_cons_succ]))
                      (refine wpAnyH_ready (rs := [6]) (by kernel_rfl) (by simp) ?_; refine AllReadyH.cons rfl (fun KK KH => ?_) AllReadyH.nil)
                      (refine step_append_S (base := wd.heap.size) (s := 2) (n := K.length) (xs := hd) (by rfl) _ _ _ _ (by rfl) 66 i0 _ 32 Tryz.underlying22 HI.out H0.out H1.out H2.out rfl (by rfl) own6.drew (by have := hb6.size; simpa using this) _ (by rfl) (Ls.length) (ys) (HSRC.out _) (by unfold maxLen; omega) (by omega) ?_; intro A7 c7 w7 gr; have s0 := (gr.grown.cell_far ⟨gm, 0, none⟩ (by simp; omega) hgne).trans (cell_drew m0); have s1 := (gr.grown.cell_far ⟨gm, 1, none⟩ (by simp; omega) hgne).trans (cell_drew m1); have bm7 := (HMF.out.m.drew).grown gr.grown hgne; (refine KH.out _ _ (by trivial) (fun hHeld => ?_); clear KH KK; (try simp only [Act.put, List.setIfInBounds_toArray, List.set_cons_zero, List.set_cons_succ])))
                      (refine wpAnyH_ready (rs := [7]) (by kernel_rfl) (by simp) ?_; refine AllReadyH.cons rfl (fun KK KH => ?_) AllReadyH.nil)
                      (go_simp; go_at_call 37; refine (CW.out A7 (K.length + Ls.length) c7 _).mono ?_; rintro e w8 ⟨rfl, hb8⟩; have u0 := keepC hb8 s0; have u1 := keepC hb8 s1; have f0 := (bm7.keep hb8).free 0; have f1 := (bm7.keep hb8).free 1; (try go_wp2_with fail); (refine KH.out _ _ (by trivial) (fun hHeld => ?_); clear KH KK; (try simp only [Act.put, List.setIfInBounds_toArray, List.set_cons_zero, List.set_cons_succ])))
                      ((refine wpAnyH_take (i := 8) (v := ?_) rfl (by kernel_rfl) (by kernel_rfl) (by kernel_rfl) (fun _ _ _ h => h) (Or.inl ⟨by rfl, ?_⟩) (by trivial) ?_); rotate_left; (focus (intro w hSw; (try dsimp only at hSw); go_simp; try (with_reducible rfl))); (try simp only [Act.put, List.setIfInBounds_toArray, List.set_cons_zero, List.set_cons_succ]); (refine wpAnyH_ready (rs := [9]) (by kernel_rfl) (by simp) ?_; refine AllReadyH.cons rfl (fun KK KH => ?_) AllReadyH.nil); go_simp; (refine KH.out _ _ (by trivial) (fun hHeld => ?_); clear KH KK; (try simp only [Act.put, List.setIfInBounds_toArray, List.set_cons_zero, List.set_cons_succ])); refine wpAnyH_done (by kernel_rfl) ?_ _; refine NoPanic.normal ?_; have hb7 : Below wd.heap.size wd w7 := (hb6.drew).grown gr.grown (by have := hb6.size; simpa using this) (fun k hk => (own6.row_lt k hk).1); have hb9 := below_then hb8 hb7; have LP7 := (LP.of_own (P := PS lo gm (rowOf AT cT) (rowOf AW cW)) (L := K ++ Ls) gr.own (LC.app ((hlc6.on (Kp.below (Below.refl _ _).drew)).on (Kp.grown gr.grown (fun k hp hk => ⟨hp.2, hp.1⟩))) (HLC.out.on (Kp.below hb7))) (by simp) HNEW.out); have H6 := ((HMD4.out.below hb9).book (LP7.on (Kp.below hb8)) (by have := gr.own.le; simpa using this) gr.own.max); have B6 := Lib.hid (((bR.keep hb9).far (p := ⟨gm, 0, none⟩) (by have := HGR.out; show gR ≠ gm; omega) (.slice (pick o.side A7 A1) (pick o.side (K.length + Ls.length) L.length) (pick o.side c7 c1))).far (p := ⟨gm, 1, none⟩) (by have := HGR.out; show gR ≠ gm; omega) (.slice (pick o.side A2 A7) (pick o.side M.length (K.length + Ls.length)) (pick o.side c2 c7))); rw [show (K ++ Ls).length = K.length + Ls.length from by simp] at H6; have H6 := Lib.hid H6; clear LP7 hb9 hb8 hb7 gr u0 u1 s0 s1 f0 f1 bm7; go_wp2; go_meet; (case rel => exact ⟨A7, c7, _, H6.out, B6.out⟩))
                    · (refine step_append_S (base := wd.heap.size) (s := 2) (n := K.length) (xs := hd) (by rfl) _ _ _ _ (by rfl) 66 i0 _ 32 Tryz.underlying22 HI.out H0.out H1.out H2.out rfl (by rfl) own6.drew (by have := hb6.size; simpa using this) _ (by rfl) (Ls.length) (ys) (HSRC.out _) (by unfold maxLen; omega) (by omega) ?_; intro A7 c7 w7 gr; have s0 := (gr.grown.cell_far ⟨gm, 0, none⟩ (by simp; omega) hgne).trans (cell_drew m0); have s1 := (gr.grown.cell_far ⟨gm, 1, none⟩ (by simp; omega) hgne).trans (cell_drew m1); have bm7 := (HMF.out.m.drew).grown gr.grown hgne; (refine KH.out _ _ (by trivial) (fun hHeld => ?_); clear KH KK; (try simp only [Act.put, List.setIfInBounds_toArray, List.set_cons_zero, List.set_cons_succ])))
                      (refine wpAnyH_ready (rs := [1]) (by kernel_rfl) (by simp) ?_; refine AllReadyH.cons rfl (fun KK KH => ?_) AllReadyH.nil)
                      go_simp
                      (refine KH.out _ _ (by trivial) (fun hHeld => ?_); clear KH KK; (try simp only [Act.put, List.setIfInBounds_toArray, List.set_cons_zero, List.set_cons_succ]))
                      (refine wpAnyH_ready (rs := [7]) (by kernel_rfl) (by simp) ?_; refine AllReadyH.cons rfl (fun KK KH => ?_) AllReadyH.nil)
                      (go_simp; go_at_call 37; refine (CW.out A7 (K.length + Ls.length) c7 _).mono ?_; rintro e w8 ⟨rfl, hb8⟩; have u0 := keepC hb8 s0; have u1 := keepC hb8 s1; have f0 := (bm7.keep hb8).free 0; have f1 := (bm7.keep hb8).free 1; (try go_wp2_with fail); (refine KH.out _ _ (by trivial) (fun hHeld => ?_); clear KH KK; (try simp only [Act.put, List.setIfInBounds_toArray, List.set_cons_zero, List.set_cons_succ])))
                      ((refine wpAnyH_take (i := 8) (v := ?_) rfl (by kernel_rfl) (by kernel_rfl) (by kernel_rfl) (fun _ _ _ h => h) (Or.inl ⟨by rfl, ?_⟩) (by trivial) ?_); rotate_left; (focus (intro w hSw; (try dsimp only at hSw); go_simp; try (with_reducible rfl))); (try simp only [Act.put, List.setIfInBounds_toArray, List.set_cons_zero, List.set_cons_succ]); (refine wpAnyH_ready (rs := [9]) (by kernel_rfl) (by simp) ?_; refine AllReadyH.cons rfl (fun KK KH => ?_) AllReadyH.nil); go_simp; (refine KH.out _ _ (by trivial) (fun hHeld => ?_); clear KH KK; (try simp only [Act.put, List.setIfInBounds_toArray, List.set_cons_zero, List.set_cons_succ])); refine wpAnyH_done (by kernel_rfl) ?_ _; refine NoPanic.normal ?_; have hb7 : Below wd.heap.size wd w7 := (hb6.drew).grown gr.grown (by have := hb6.size; simpa using this) (fun k hk => (own6.row_lt k hk).1); have hb9 := below_then hb8 hb7; have LP7 := (LP.of_own (P := PS lo gm (rowOf AT cT) (rowOf AW cW)) (L := K ++ Ls) gr.own (LC.app ((hlc6.on (Kp.below (Below.refl _ _).drew)).on (Kp.grown gr.grown (fun k hp hk => ⟨hp.2, hp.1⟩))) (HLC.out.on (Kp.below hb7))) (by simp) HNEW.out); have H6 := ((HMD4.out.below hb9).book (LP7.on (Kp.below hb8)) (by have := gr.own.le; simpa using this) gr.own.max); have B6 := Lib.hid (((bR.keep hb9).far (p := ⟨gm, 0, none⟩) (by have := HGR.out; show gR ≠ gm; omega) (.slice (pick o.side A7 A1) (pick o.side (K.length + Ls.length) L.length) (pick o.side c7 c1))).far (p := ⟨gm, 1, none⟩) (by have := HGR.out; show gR ≠ gm; omega) (.slice (pick o.side A2 A7) (pick o.side M.length (K.length + Ls.length)) (pick o.side c2 c7))); rw [show (K ++ Ls).length = K.length + Ls.length from by simp] at H6; have H6 := Lib.hid H6; clear LP7 hb9 hb8 hb7 gr u0 u1 s0 s1 f0 f1 bm7; go_wp2; go_meet; (case rel => exact ⟨A7, c7, _, H6.out, B6.out⟩))
                  -->r19
                case rest =>
                  obtain ⟨A7, c7, ys7, hmd7, bR7⟩ := hcut
                  --<tail
                  rw [← HMC.out] at hmd7
                  have HM7 := Lib.hid hmd7
                  clear hmd7 own6 hlc6 hb6 HMF m0 m1 hgne CW HI H0 H1 H2 hj1 hj2 hk1 HLC HNEW HMD4 hcap hmx hgmd hgml bR HR4
                  obtain ⟨q0, q1, q2, q3, q4⟩ := box5 bR7
                  have k8 := box8o HM7.out.bo
                  have hgl7 := HM7.out.gm_lt
                  have hbo7 := HM7.out.bo.lt
                  have hbr7 := bR7.lt
                  obtain ⟨tr, htr⟩ : ∃ tr, tr = mTr o f price := ⟨_, rfl⟩
                  rw [← htr] at HS0
                  obtain ⟨hf1, hf2⟩ := HFI.out
                  have HTR := Lib.hid (show tr = if o.side = 2 then ⟨r.id, o.id, o.who, r.who, price, f.qty⟩ else ⟨r.id, o.id, r.who, o.who, price, f.qty⟩ by rw [htr, mTr, hf1, hf2])
                  clear htr hf1 hf2
                  obtain ⟨wg, rfl⟩ : ∃ wg : World, wg = wc := ⟨_, rfl⟩
                  have bT := Bk.new wg 78 #[.int .i64 r.id, .int .i64 o.id, .int .i64 r.who, .int .i64 o.who, .int .i64 price, .int .i64 f.qty]
                  have hbT : Below wg.heap.size wg (wg.alloc (.cells #[.int .i64 r.id, .int .i64 o.id, .int .i64 r.who, .int .i64 o.who, .int .i64 price, .int .i64 f.qty] 78)) := (Below.refl _ _).alloc (Nat.le_refl _) _
                  go_upto_region 21 with fail
                  generalize wg.alloc (.cells #[.int .i64 r.id, .int .i64 o.id, .int .i64 r.who, .int .i64 o.who, .int .i64 price, .int .i64 f.qty] 78) = wh at *
                  have HM8 := Lib.hid (HM7.out.below hbT)
                  have bR8 := bR7.keep hbT
                  clear q0 q1 q2 q3 q4 k8 bR7
                  obtain ⟨q0, q1, q2, q3, q4⟩ := box5 bR8
                  have k8 := box8o HM8.out.bo
                  obtain ⟨gT, hgT⟩ : ∃ X, X = wg.heap.size := ⟨_, rfl⟩
                  rw [← hgT] at bT hgl7 hbo7 hbr7 ⊢
                  have HGT := Lib.hid (show gm < gT ∧ gR < gT ∧ w.heap.size + 1 < gT by refine ⟨hgl7, hbr7, hbo7⟩)
                  have HBT := Lib.hid hbT
                  have HGE := Lib.hid (show wg.heap.size ≤ gT by rw [hgT]; exact Nat.le_refl _)
                  clear hgl7 hbo7 hbr7 hgT hbT
                  go_upto_if 124 with fail
                  go_cut [] from 25 to 146 (fun wx => Bk wx gT 78 #[.int .i64 tr.maker, .int .i64 tr.taker, .int .i64 tr.frm, .int .i64 tr.to, .int .i64 tr.price, .int .i64 tr.qty] ∧ ∃ A7 c7 ys7, RMd lo w wx gm L M o A1 A2 c1 c2 ⟨mCut ⟨price, r :: t⟩ rs Ls, left, T, W, false⟩ A7 c7 ys7 AT cT AW cW)
                  case first =>
                    --<side
                    obtain ⟨hg1, hg2, hg3⟩ := HGT.out
                    by_cases hsd : o.side = 2
                    · have e1 : (o.side == 2) = true := by simpa using hsd
                      have HT := Lib.hid (show tr = ⟨r.id, o.id, o.who, r.who, price, f.qty⟩ by rw [HTR.out, if_pos hsd])
                      have B2 := Lib.hid ((bT.set_ 2 (.int .i64 o.who)).set_ 3 (.int .i64 r.who))
                      have H9 := Lib.hid (HM7.out.below ((HBT.out.setCell (p := ⟨gT, 2, none⟩) HGE.out (.int .i64 o.who)).setCell (p := ⟨gT, 3, none⟩) HGE.out (.int .i64 r.who)))
                      have n1 : ¬ gR = gT := by omega
                      have n2 : ¬ gT = gR := by omega
                      have n3 : ¬ w.heap.size + 1 = gT := by omega
                      have n4 : ¬ gT = w.heap.size + 1 := by omega
                      have t2 := bT.cell 2; have t3 := bT.cell 3
                      simp at t2 t3
                      have y2 := bT.free 2; have y3 := bT.free 3
                      clear hsd hg1 hg2 hg3 bT bR8 HM7 HM8 HBT HTR
                      go_wp2
                      go_meet
                      case rel => exact ⟨by rw [HT.out]; exact B2.out, _, _, _, H9.out⟩
                    · have e1 : (o.side == 2) = false := by simpa using hsd
                      have HT := Lib.hid (show tr = ⟨r.id, o.id, r.who, o.who, price, f.qty⟩ by rw [HTR.out, if_neg hsd])
                      have B2 := Lib.hid bT
                      clear hsd hg1 hg2 hg3 bT bR8 HM7 HBT HTR
                      go_wp2
                      go_meet
                      case rel => exact ⟨by rw [HT.out]; exact B2.out, _, _, _, HM8.out⟩
                    -->side
                  case rest =>
                    obtain ⟨bT9, A9, c9, ys9, hmd9⟩ := hcut
                    --<grow
                    have HM9 := Lib.hid hmd9
                    clear hmd9 HM8 HM7 HBT HGE HTR bT bR8 q0 q1 q2 q3 q4 k8
                    have m2 := (box7 HM9.out.m).2.2.1
                    dsimp only at m2
                    have t0 := bT9.cell 0; have t1 := bT9.cell 1; have t2 := bT9.cell 2; have t3 := bT9.cell 3; have t4 := bT9.cell 4; have t5 := bT9.cell 5
                    simp at t0 t1 t2 t3 t4 t5
                    obtain ⟨i0, hi0, hz1, hz2, hz3⟩ := info_parts info_trade
                    have HI := Lib.hid hi0; have H0 := Lib.hid hz1; have H1 := Lib.hid hz2; have H2 := Lib.hid hz3
                    have hgml := HM9.out.gm_lt
                    have ownT := Lib.hid (show OwnS wc (gm + 1) 6 AT T.length cT (trows T) from HM9.out.tr)
                    have hgneT := Lib.hid (show some gm ≠ rowOf AT cT from fun e => by have := (ownT.out.row_lt gm e.symm).1; omega)
                    have hba : Below wc.heap.size wc (wc.alloc (.cells #[.int .i64 tr.maker, .int .i64 tr.taker, .int .i64 tr.frm, .int .i64 tr.to, .int .i64 tr.price, .int .i64 tr.qty] 78)) := (Below.refl _ _).alloc (Nat.le_refl _) _
                    clear hi0 hz1 hz2 hz3
                    go_upto_region 25 with (at_builtin; go_loud (refine wpList_append_S (base := gm + 1) (s := 6) (n := T.length) (xs := trows T) rfl _ _ _ _ rfl 78 i0 _ 48 Tryz.underlying28 HI.out H0.out H1.out H2.out rfl rfl (ownT.out.alloc _) (by simp; omega) _ rfl 1 (Trade.vals tr) (src_block (m := 1) (Bk.at_ (by simp) 78 #[.int .i64 tr.maker, .int .i64 tr.taker, .int .i64 tr.frm, .int .i64 tr.to, .int .i64 tr.price, .int .i64 tr.qty]) Tryz.underlying28 rfl (six_one _ _ _ _ _ _) 1) (by unfold maxLen; omega) (by omega) ?_); intro AT' cT' w6 gr; go_loud (have mB6 := (HM9.out.m.alloc _).grown gr.grown hgneT.out); have u2 := mB6.cell 2; (simp at u2); have f2 := mB6.free 2)
                    have HM10 := Lib.hid ((HM9.out.below hba).trade (t := tr) gr)
                    clear hba gr mB6 u2 f2 ownT hgneT HM9 m2 t0 t1 t2 t3 t4 t5 bT9
                    generalize w6.setCell ⟨gm, 2, none⟩ (.slice AT' (T.length + 1) cT') = wi at *
                    have m3 := (box7 HM10.out.m).2.2.2.1
                    have f3 := HM10.out.m.free 3
                    have HM11 := Lib.hid (HM10.out.setLeft (left - f.qty))
                    dsimp only at m3 HM11
                    have hll : left ≤ 10000 := HOK.out.left1
                    obtain ⟨hq1, hq2, hq3⟩ := HQ.out
                    have hx2 : IntKind.i64.wrap (left - f.qty) = left - f.qty := IntWalk.i64_in _ (by omega)
                    go_upto_region 26 with fail
                    generalize wi.setCell ⟨gm, 3, none⟩ (.int .i64 (left - f.qty)) = wj at *
                    clear m3 f3 HM10 hq1 hq2 hq3 hx2 hll
                    have m2 := (box7 HM11.out.m).2.2.1
                    simp only [List.length_append, List.length_singleton] at m2
                    by_cases h4 : 400 < T.length + 1
                    · have h4' : (400 : Int) < ((T.length + 1 : Nat) : Int) := by omega
                      have HE := Lib.hid (HRUN.out.stop HG2.out HS0.out (by simpa using h4))
                      have hgl := HM11.out.lt
                      obtain ⟨r0, r1, r2, r3, r4, r5, r6⟩ := box7 HM11.out.br
                      have y0 := HM11.out.br.free 0; have y1 := HM11.out.br.free 1; have y2 := HM11.out.br.free 2; have y3 := HM11.out.br.free 3; have y4 := HM11.out.br.free 4; have y5 := HM11.out.br.free 5; have y6 := HM11.out.br.free 6
                      have kx := box7 (HM11.out.br.set7 (.slice none 0 0) (.slice none 0 0) (.slice none 0 0) (.int .i64 0) (.int .i64 0) (.slice none 0 0) (.bool false))
                      have HF := Lib.hid (below_set7 HM11.out.hb (g := w.heap.size + 2) (by omega) (.slice none 0 0) (.slice none 0 0) (.slice none 0 0) (.int .i64 0) (.int .i64 0) (.slice none 0 0) (.bool false))
                      clear h4
                      go_wp2
                      exact bodyPost_ret (v := .tuple #[.agg #[.slice none 0 0, .slice none 0 0, .slice none 0 0, .int .i64 0, .int .i64 0, .slice none 0 0, .bool false], .int .i64 4]) (by simp [results, Tryz.results22, go_sem, kx]) rfl (.inl ⟨HE.out, rfl, HF.out⟩)
                    · have h4' : ¬ (400 : Int) < ((T.length + 1 : Nat) : Int) := by omega
                      have HST := Lib.hid (HRUN.out.step HOK.out HG2.out HS0.out (by simp; omega))
                      clear h4
                      go_wp2
                      go_roundg (mSize ⟨mCut ⟨price, r :: t⟩ rs Ls, left - f.qty, T ++ [tr], W, false⟩)
                      case measure => exact HST.out.2.2
                      case rel => exact ⟨_, _, _, _, _, _, _, _, rfl, HST.out.1, HST.out.2.1, HM11.out⟩
                    -->grow
                  -->tail
            -->trade
  case rest =>
    obtain ⟨⟨Ls, left, T, W, ends⟩, AL, cL, xs, AT, cT, AW, cW, hmet, hok, hmd⟩ := hcut
    --<end
    have HMET := Lib.hid hmet; have HOK := Lib.hid hok; have HMD := Lib.hid hmd
    have hgl := hmd.lt
    obtain ⟨m0, m1, m2, m3, m4, m5, m6⟩ := box7 hmd.m
    obtain ⟨r0, r1, r2, r3, r4, r5, r6⟩ := box7 hmd.br
    have y0 := hmd.br.free 0; have y1 := hmd.br.free 1; have y2 := hmd.br.free 2; have y3 := hmd.br.free 3; have y4 := hmd.br.free 4; have y5 := hmd.br.free 5; have y6 := hmd.br.free 6
    have KX := fun a b c d e f i => Lib.hid (box7 (hmd.br.set7 a b c d e f i))
    have HBX := fun a b c d e f i => Lib.hid (below_set7 hmd.hb (g := w.heap.size + 2) (by omega) a b c d e f i)
    have HGX := fun a b c d e f i => Lib.hid (grown_set7 (w := wc) (g := w.heap.size + 2) a b c d e f i)
    dsimp only at *
    have E := Lib.hid (HMD.out.done (HGX (.slice (pick o.side AL A1) (pick o.side Ls.length L.length) (pick o.side cL c1)) (.slice (pick o.side A2 AL) (pick o.side M.length Ls.length) (pick o.side c2 cL)) (.slice AT T.length cT) (.int .i64 left) (.int .i64 0) (.slice AW W.length cW) (.bool ends)).out (HBX (.slice (pick o.side AL A1) (pick o.side Ls.length L.length) (pick o.side cL c1)) (.slice (pick o.side A2 AL) (pick o.side M.length Ls.length) (pick o.side c2 cL)) (.slice AT T.length cT) (.int .i64 left) (.int .i64 0) (.slice AW W.length cW) (.bool ends)).out HS.out HL.out HM.out K1.out K2.out)
    clear hmet hok hmd k8 R0
    go_wp2
    refine bodyPost_ret (v := .tuple #[.agg #[.slice (pick o.side AL A1) (pick o.side Ls.length L.length) (pick o.side cL c1), .slice (pick o.side A2 AL) (pick o.side M.length Ls.length) (pick o.side c2 cL), .slice AT T.length cT, .int .i64 left, .int .i64 0, .slice AW W.length cW, .bool ends], .int .i64 0]) (by have kx := (KX (.slice (pick o.side AL A1) (pick o.side Ls.length L.length) (pick o.side cL c1)) (.slice (pick o.side A2 AL) (pick o.side M.length Ls.length) (pick o.side c2 cL)) (.slice AT T.length cT) (.int .i64 left) (.int .i64 0) (.slice AW W.length cW) (.bool ends)).out; simp [results, Tryz.results22, go_sem, kx]) rfl (.inr ⟨_, _, _, _, _, _, _, _, _, HMET.out, HOK.out, by rw [pick_len, pick_len], E.out.1, E.out.2.1, E.out.2.2.1, E.out.2.2.2.1, E.out.2.2.2.2.1, E.out.2.2.2.2.2.1, E.out.2.2.2.2.2.2.1, E.out.2.2.2.2.2.2.2, (HBX _ _ _ _ _ _ _).out⟩)
    -->end
end Go.Proofs.YtiaofbkhnodbhaaGreatDoor
