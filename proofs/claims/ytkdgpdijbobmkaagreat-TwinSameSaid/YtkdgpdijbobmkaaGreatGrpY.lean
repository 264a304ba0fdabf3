/- The contract of a floor's settle. The contract of a floor's come. The contract of a floor's place. The contract of a floor's cancel. -/
import Derived.Test.YtkdgpdijbobmkaaGreatGrpX
import Derived.Test.YtkdgpdijbobmkaaGreatMeetMem2
import Derived.Deep.RegionLaw
import Derived.Test.YtkdgpdijbobmkaaGreatKRun
import Derived.Test.YtkdgpdijbobmkaaGreatGrpR
import Derived.Test.YtkdgpdijbobmkaaGreatGrpO
import Derived.Test.YtkdgpdijbobmkaaGreatLvO
import Derived.Test.YtkdgpdijbobmkaaGreatGrpW
import Derived.Test.YtkdgpdijbobmkaaGreatGrpN
namespace Go.Proofs.YtkdgpdijbobmkaaGreat
set_option linter.all false
open Go Go.RowKit
theorem trade_inv {t : FT} (h : PInv t.S) (x : Trade) : PInv (tradeP t.S x.frm x.to x.price x.qty).2 := (trade_step h _ _ _ _).1
theorem RP.rdT {P : Nat → Prop} {w : World} {A : Option Addr} {l : List Trade} (h : RP P w A l.length 6 (trows l)) : Rd w w.heap.size A l.length 6 (tcell l) := fun hn => by
  obtain ⟨b, off, e, _, hb, hc⟩ := h hn
  refine ⟨b, off, e, hb, fun i hi j hj => ?_⟩
  rw [hc _ (by omega), trows_get hi hj]
/-- what settle is given, in memory -/
structure SIn (P : Nat → Prop) (w : World) (T : List Trade) (W : List Int) (K1 K2 : List Lv) (B1 B2 AT AW : Option Addr) (b1 b2 : Nat) : Prop where
  k1 : ∃ xs, LP P w B1 K1 xs
  k2 : ∃ xs, LP P w B2 K2 xs
  t : RP P w AT T.length 6 (trows T)
  w : RP P w AW W.length 1 (irows W)
  z1 : B1 = none → b1 = 0
  z2 : B2 = none → b2 = 0
theorem SIn.on {P P' : Nat → Prop} {w w' : World} {T : List Trade} {W : List Int} {K1 K2 : List Lv} {B1 B2 AT AW : Option Addr} {b1 b2 : Nat} (h : SIn P w T W K1 K2 B1 B2 AT AW b1 b2) (hk : Kp P P' w w') : SIn P' w' T W K1 K2 B1 B2 AT AW b1 b2 :=
  ⟨h.k1.imp fun _ x => x.on hk, h.k2.imp fun _ x => x.on hk, h.t.on hk, h.w.on hk, h.z1, h.z2⟩
theorem went_inv (L M : List Lv) : ∀ (W : List Int) (t : FT), PInv t.S → PInv (wentF L M W t).2.S
  | [], _, h => h
  | id :: W, t, h => by
    unfold wentF
    cases findB L M id with
    | none => exact h
    | some z =>
      obtain ⟨s, i, k, x, r⟩ := z
      dsimp only
      split
      · exact h
      · exact went_inv L M W _ (release_inv h r s x.price)
theorem release_same (t : FT) (r : Rest) (s p : Int) : (t.release r s p).2.L = t.L ∧ (t.release r s p).2.M = t.M ∧ (t.release r s p).2.mode = t.mode ∧ (t.release r s p).2.st = t.st ∧ (t.release r s p).2.last = t.last := by
  unfold FT.release; split <;> exact ⟨rfl, rfl, rfl, rfl, rfl⟩
theorem went_same (L M : List Lv) : ∀ (W : List Int) (t : FT), (wentF L M W t).2.L = t.L ∧ (wentF L M W t).2.M = t.M ∧ (wentF L M W t).2.mode = t.mode ∧ (wentF L M W t).2.st = t.st ∧ (wentF L M W t).2.last = t.last ∧ (wentF L M W t).2.ev.length ≤ t.ev.length + W.length
  | [], t => ⟨rfl, rfl, rfl, rfl, rfl, by simp [wentF]⟩
  | id :: W, t => by
    unfold wentF
    cases findB L M id with
    | none => exact ⟨rfl, rfl, rfl, rfl, rfl, by simp⟩
    | some z =>
      obtain ⟨s, i, k, x, r⟩ := z
      dsimp only
      split
      · exact ⟨rfl, rfl, rfl, rfl, rfl, by simp⟩
      · obtain ⟨h1, h2, h3, h4, h5, h6⟩ := went_same L M W ((t.release r s x.price).2.tell 3 id (r.qty + r.hidden) x.price)
        obtain ⟨g1, g2, g3, g4, g5⟩ := release_same t r s x.price
        have ge := release_ev t r s x.price
        refine ⟨h1.trans g1, h2.trans g2, h3.trans g3, h4.trans g4, h5.trans g5, ?_⟩
        have e : ((t.release r s x.price).2.tell 3 id (r.qty + r.hidden) x.price).ev.length = t.ev.length + 1 := by
          show ((t.release r s x.price).2.ev ++ [_]).length = _
          rw [List.length_append, ge]; rfl
        rw [e] at h6
        simp only [List.length_cons]
        omega
/-- the book is written -/
theorem FSt.booked {w : World} {lo : Nat} {a : FA} {t : FT} (h : FSt w lo a t) {K1 K2 : List Lv} {B1 B2 : Option Addr} {b1 b2 : Nat} (h1 : ∃ xs, LP (fun k => ¬ a.R k) w B1 K1 xs) (h2 : ∃ xs, LP (fun k => ¬ a.R k) w B2 K2 xs) (z1 : B1 = none → b1 = 0) (z2 : B2 = none → b2 = 0) :
    FSt ((w.setCell ⟨a.gs, 1, none⟩ (.slice B1 K1.length b1)).setCell ⟨a.gs, 2, none⟩ (.slice B2 K2.length b2)) lo { a with A1 := B1, c1 := b1, A2 := B2, c2 := b2 } { t with L := K1, M := K2 } ∧ FTo a w { a with A1 := B1, c1 := b1, A2 := B2, c2 := b2 } ((w.setCell ⟨a.gs, 1, none⟩ (.slice B1 K1.length b1)).setCell ⟨a.gs, 2, none⟩ (.slice B2 K2.length b2)) := by
  obtain ⟨g1, g2, g3, g4, g5⟩ := h.cells ((h.b.set_ 1 (.slice B1 K1.length b1)).set_ 2 (.slice B2 K2.length b2)) ((grown_set w ⟨a.gs, 1, none⟩ _).trans (grown_set _ ⟨a.gs, 2, none⟩ _))
  have hk := FA.kp (a' := { a with A1 := B1, c1 := b1, A2 := B2, c2 := b2 }) g5 (fun _ h => .inl h) rfl
  exact ⟨⟨g1, g2, g3, g4, h.los, h.lot, h.lop, h.st_, h.sp_, h.tp_, h.ts, h.tp, h.es, h.et, h.ep, h.er_, h1.imp fun _ x => x.on hk, h2.imp fun _ x => x.on hk, z1, z2, fun k e => Nat.lt_of_lt_of_le (h.xl k e) g5.size⟩, rfl, rfl, rfl, fun _ h => .inl h, g5, rfl⟩
/-- the last price is written -/
theorem FSt.lasted {w : World} {lo : Nat} {a : FA} {t : FT} (h : FSt w lo a t) (p : Int) : FSt (w.setCell ⟨a.gs, 5, none⟩ (.int .i64 p)) lo a { t with last := p } ∧ FTo a w a (w.setCell ⟨a.gs, 5, none⟩ (.int .i64 p)) := by
  obtain ⟨h1, h2, h3, h4, h5⟩ := h.cells (h.b.set_ 5 (.int .i64 p)) (grown_set w ⟨a.gs, 5, none⟩ _)
  have hk := FA.kp (a' := a) h5 (fun _ h => .inl h) rfl
  exact ⟨⟨h1, h2, h3, h4, h.los, h.lot, h.lop, h.st_, h.sp_, h.tp_, h.ts, h.tp, h.es, h.et, h.ep, h.er_, h.bl.imp fun _ x => x.on hk, h.bm.imp fun _ x => x.on hk, h.z1, h.z2, fun k e => Nat.lt_of_lt_of_le (h.xl k e) h5.size⟩, .of_ks h5⟩
theorem box6t {w' : World} {v0 v1 v2 v3 v4 v5 : Value} {g : Nat} {t : TypeId} (h : Bk w' g t #[v0, v1, v2, v3, v4, v5]) : w'.cell? ⟨g, 0, none⟩ = some v0 ∧ w'.cell? ⟨g, 1, none⟩ = some v1 ∧ w'.cell? ⟨g, 2, none⟩ = some v2 ∧ w'.cell? ⟨g, 3, none⟩ = some v3 ∧ w'.cell? ⟨g, 4, none⟩ = some v4 ∧ w'.cell? ⟨g, 5, none⟩ = some v5 :=
  ⟨h.cell 0, h.cell 1, h.cell 2, h.cell 3, h.cell 4, h.cell 5⟩
/-- what is settled behind what went -/
def FT.settle2 (t : FT) (o : Order) (T : List Trade) (left gone : Int) (K1 K2 : List Lv) (t5 : FT) : Int × FT :=
  if (backR o T gone).1 ≠ 0 then ((backR o T gone).1, t)
  else if (freeP t5.S o.who (backR o T gone).2.1 (backR o T gone).2.2).1 ≠ 0 then ((freeP t5.S o.who (backR o T gone).2.1 (backR o T gone).2.2).1, t)
  else
    let t1 : FT := { t5 with S := (freeP t5.S o.who (backR o T gone).2.1 (backR o T gone).2.2).2 }
    let t2 := if 0 < gone then t1.tell 3 o.id gone o.price else t1
    let t3 := if 0 < left - gone then t2.tell 1 o.id (left - gone) o.price else t2
    (0, { t3 with L := K1, M := K2 })
theorem settle_bad {lo : Nat} {a : FA} {r : Int × FT} {E : Int} {t : FT} {w w' : World} (h : r = (E, t)) (h0 : E ≠ 0) (hk : Ks a.Q w w') : FOutE lo a r w (.returned (er E)) w' := by
  subst h
  exact ⟨by rw [errV, if_neg h0], Lib.hid (fun h => absurd h h0), Lib.hid hk⟩
set_option maxRecDepth 100000 in
set_option maxHeartbeats 8000000 in
theorem settle_any (t : FT) (lo : Nat) (a : FA) (o : Order) (T : List Trade) (W : List Int) (left gone : Int) (en : Bool) (K1 K2 : List Lv) (B1 B2 AT AW : Option Addr) (b1 b2 cT cW : Nat) (w : World) (h : FSt w lo a t) (hs : PInv t.S) (hbk : BookOk t.L t.M) (ho : o.err = 0) (hlo : lo ≤ w.heap.size) (hl : t.ev.length ≤ 90000) (hT : T.length ≤ 400) (hW : W.length ≤ 100) (hg1 : 0 ≤ left) (hg2 : left ≤ 10000) (hg3 : 0 ≤ gone) (hg4 : gone ≤ 10000)
    (hi : SIn (fun k => ¬ a.R k) w T W K1 K2 B1 B2 AT AW b1 b2) :
    Calls Tryz.prog 107 #[.pointer (some ⟨a.gs, 0, none⟩), .agg #[.int .i64 o.id, .int .i64 o.who, .int .i64 o.side, .int .i64 o.kind, .int .i64 o.price, .int .i64 o.qty, .int .i64 o.show_, .int .i64 o.stop], .agg #[.slice B1 K1.length b1, .slice B2 K2.length b2, .slice AT T.length cT, .int .i64 left, .slice AW W.length cW, .bool en], .int .i64 gone] w (FOutE lo a (t.settle o T W left gone K1 K2) w) := by
  have hb : Below w.heap.size w ((w.alloc (.cells #[.int .i64 o.id, .int .i64 o.who, .int .i64 o.side, .int .i64 o.kind, .int .i64 o.price, .int .i64 o.qty, .int .i64 o.show_, .int .i64 o.stop] 31)).alloc (.cells #[.slice B1 K1.length b1, .slice B2 K2.length b2, .slice AT T.length cT, .int .i64 left, .slice AW W.length cW, .bool en] 146)) := below_then_alloc (below_then_alloc (Below.refl _ _))
  have hkp : Kp (fun k => ¬ a.R k) (fun k => ¬ a.R k) w ((w.alloc (.cells #[.int .i64 o.id, .int .i64 o.who, .int .i64 o.side, .int .i64 o.kind, .int .i64 o.price, .int .i64 o.qty, .int .i64 o.show_, .int .i64 o.stop] 31)).alloc (.cells #[.slice B1 K1.length b1, .slice B2 K2.length b2, .slice AT T.length cT, .int .i64 left, .slice AW W.length cW, .bool en] 146)) := FA.kp (.of_below hb) (fun _ h => .inl h) rfl
  have H := Lib.hid (h.below hb); have HS := Lib.hid hs; have HBK := Lib.hid hbk; have HIN := Lib.hid (hi.on hkp); have HO := Lib.hid ho
  have bo := (Bk.new w 31 #[.int .i64 o.id, .int .i64 o.who, .int .i64 o.side, .int .i64 o.kind, .int .i64 o.price, .int .i64 o.qty, .int .i64 o.show_, .int .i64 o.stop]).alloc (.cells #[.slice B1 K1.length b1, .slice B2 K2.length b2, .slice AT T.length cT, .int .i64 left, .slice AW W.length cW, .bool en] 146)
  have bm := Bk.at_ (w := w.alloc (.cells #[.int .i64 o.id, .int .i64 o.who, .int .i64 o.side, .int .i64 o.kind, .int .i64 o.price, .int .i64 o.qty, .int .i64 o.show_, .int .i64 o.stop] 31)) (g' := w.heap.size + 1) (by simp) 146 #[.slice B1 K1.length b1, .slice B2 K2.length b2, .slice AT T.length cT, .int .i64 left, .slice AW W.length cW, .bool en]
  have HN := Lib.hid (show ¬ a.Q w.heap.size ∧ ¬ a.Q (w.heap.size + 1) from ⟨fun e => by have := (h.q_lt _ e).2; omega, fun e => by have := (h.q_lt _ e).2; omega⟩)
  have hz := hb.size
  clear h hs hbk hi ho hkp
  go_enter Tryz.func107, Tryz.ntmps107
  go_upto_region 1 with fail
  generalize (w.alloc (.cells #[.int .i64 o.id, .int .i64 o.who, .int .i64 o.side, .int .i64 o.kind, .int .i64 o.price, .int .i64 o.qty, .int .i64 o.show_, .int .i64 o.stop] 31)).alloc (.cells #[.slice B1 K1.length b1, .slice B2 K2.length b2, .slice AT T.length cT, .int .i64 left, .slice AW W.length cW, .bool en] 146) = w1 at *
  have BO := Lib.hid bo; have BM := Lib.hid bm
  have m2 := bm.cell 2
  simp at m2
  clear bo bm
  go_wp2
  go_loopw [21] (fun i wr => ∃ (k : Nat) (tk : FT) (ak : FA), k ≤ T.length ∧ i = .int .i64 k ∧ Hid (FSt wr lo ak tk) ∧ Hid (FTo a w1 ak wr) ∧ ak.gs = a.gs ∧ Hid (tradesF T t = tradesF (T.drop k) tk) ∧ Hid (PInv tk.S) ∧ tk.ev.length = t.ev.length + k ∧ Hid (tk.L = t.L ∧ tk.M = t.M)) (fun i _ => T.length - (intOf i).toNat)
  case atStart => exact ⟨0, t, a, by omega, rfl, H, Lib.hid (FTo.refl a w1), rfl, Lib.hid rfl, HS, rfl, Lib.hid ⟨rfl, rfl⟩⟩
  case round =>
    obtain ⟨k, tk, ak, hk, rfl, HF, HT, hgs, HW, HP, hev, HLM⟩ := hrel
    have HGS := Lib.hid hgs
    have HEV := Lib.hid hev
    have hev2 : tk.ev.length ≤ 90400 := by omega
    clear hgs hev
    have hzr := HT.out.ks.size
    by_cases hlt : k < T.length
    · --<trade
      obtain ⟨b, off, x, rfl, hbl, hx, e0, e1, e2, e3, e4, e5⟩ := tr_at (HT.out.rp HIN.out.t).rdT hlt
      have hdrop : T.drop k = x :: T.drop (k + 1) := by rw [List.drop_eq_getElem_cons hlt, (List.getElem?_eq_some_iff.1 hx).2]
      have HW2 := Lib.hid (show tradesF T t = tradesF (x :: T.drop (k + 1)) tk by rw [HW.out, hdrop])
      clear hx hdrop HW
      have hf := HF.out
      obtain ⟨q0, q1, q2, q3, q4, q5, q6⟩ := box7 hf.b
      rw [HGS.out] at q4
      clear q0 q1 q2 q3 q5 q6 hf
      go_upto_region 4 with fail
      have bt := Bk.new wr 40 #[.int .i64 x.maker, .int .i64 x.taker, .int .i64 x.frm, .int .i64 x.to, .int .i64 x.price, .int .i64 x.qty]
      have hb2 : Below wr.heap.size wr (wr.alloc (.cells #[.int .i64 x.maker, .int .i64 x.taker, .int .i64 x.frm, .int .i64 x.to, .int .i64 x.price, .int .i64 x.qty] 40)) := below_then_alloc (Below.refl _ _)
      have F2 := Lib.hid ((HF.out.below hb2).below (Below.refl _ _).drew)
      have T2 := Lib.hid ((HT.out.below hb2).below (Below.refl _ _).drew)
      have HN2 := Lib.hid (show ¬ ak.Q wr.heap.size from fun e => by have := (HF.out.q_lt _ e).2; omega)
      obtain ⟨q0, q1, q2, q3, q4', q5, q6⟩ := box7 (HF.out.below hb2).b
      rw [HGS.out] at q4'
      obtain ⟨c0, cc1, cc2, c3, c4, c5⟩ := box6t bt
      clear q0 q1 q2 q3 q5 q6 hb2 q4 e0 e1 e2 e3 e4 e5
      generalize wr.alloc (.cells #[.int .i64 x.maker, .int .i64 x.taker, .int .i64 x.frm, .int .i64 x.to, .int .i64 x.price, .int .i64 x.qty] 40) = w2 at *
      have cT := trade_any tk.S ak.gp x.maker x.taker x.frm x.to x.price x.qty w2.drew F2.out.ps HP.out.1
      have btd := bt.drew
      go_still_tail 5, (by kernel_rfl)
      change wpList _ _ _ _ _ w2.drew
      clear c0 cc1 cc2 c3 c4 c5 q4' bt
      unfold PurPost at cT
      by_cases hr0 : (tradeP tk.S x.frm x.to x.price x.qty).1 = 0
      · have HR := Lib.hid (show tradesF T t = tradesF (T.drop (k + 1)) ({ tk with S := (tradeP tk.S x.frm x.to x.price x.qty).2 }.told x) by rw [HW2.out, tradesF, if_neg (by simpa using hr0)])
        rw [hr0, show errV 0 = .nilIface from rfl] at cT
        have CT := Lib.hid cT
        have HP4 := Lib.hid (trade_inv HP.out x)
        clear hr0 cT
        generalize (tradeP tk.S x.frm x.to x.price x.qty).2 = S4 at *
        go_upto_region 7 with (go_at_call 133; refine CT.out.mono ?_; rintro e w3 ⟨rfl, hp3, hg3⟩)
        have hx := F2.out.pursed hp3 hg3
        have b3 := hx.2.bk btd HN2.out
        have F3 := Lib.hid hx.1
        have T3 := Lib.hid (T2.out.trans hx.2)
        have hlt3 := b3.lt
        obtain ⟨q0, q1, q2, q3, q4, q5, q6⟩ := box7 hx.1.b
        rw [HGS.out] at q5 q6
        have z5 := hx.1.b.free 5
        have z6 := hx.1.b.free 6
        rw [HGS.out] at z5 z6
        obtain ⟨c0, cc1, cc2, c3, c4, c5⟩ := box6t b3
        have hgne : ak.gs ≠ wr.heap.size := fun e => HN2.out (.inl e.symm)
        have hgs3 := F3.out.b.lt
        rw [HGS.out] at hgne hgs3
        have B3 := Lib.hid b3
        clear hx hp3 hg3 btd q0 q1 q2 q3 q4 b3 CT
        dsimp only at q6
        obtain ⟨i0, hi, hz0, hz1, hz2⟩ := info_parts info_ev
        have HI := Lib.hid hi; have H0 := Lib.hid hz0; have H1 := Lib.hid hz1; have H2 := Lib.hid hz2
        clear hi hz0 hz1 hz2
        have hlo3 := T3.out.ks.size
        go_region_law (refine step_append_S (base := lo) (s := 10) (n := tk.ev.length) (xs := evs tk.ev) rfl (.tmp 38) (.tmp 41) 25 25 (by rfl) 42 i0 _ 80 Tryz.underlying25 HI.out H0.out H1.out H2.out rfl (by rfl) (F3.out.ev.alloc _).drew (by simp; omega) _ (by rfl) 1 (Ev.mk 2 0 0 0 x).vals (src_block (m := 1) (Bk.at_ rfl 42 #[.int .i64 2, .int .i64 0, .int .i64 0, .int .i64 0, .int .i64 x.maker, .int .i64 x.taker, .int .i64 x.frm, .int .i64 x.to, .int .i64 x.price, .int .i64 x.qty]).drew Tryz.underlying25 rfl (Ev.mk 2 0 0 0 x).vals_one 1) (by unfold maxLen; omega) (by omega) ?_; intro A5 c5' w5 gr5; have k5 := ((F3.out.b.alloc (.cells #[.int .i64 2, .int .i64 0, .int .i64 0, .int .i64 0, .int .i64 x.maker, .int .i64 x.taker, .int .i64 x.frm, .int .i64 x.to, .int .i64 x.price, .int .i64 x.qty] 42)).drew.grown gr5.grown (Ne.symm F3.out.es)); have b5 := k5.cell 6; have f5 := k5.free 6; rw [HGS.out] at b5 f5; simp at b5; clear k5)
        all_goals
          obtain ⟨a6, hF6, hT6⟩ : ∃ a', FSt (w5.setCell ⟨a.gs, 6, none⟩ (.slice A5 (tk.ev.length + 1) c5')) lo a' { ({ tk with S := S4 } : FT) with ev := tk.ev ++ [⟨2, 0, 0, 0, x⟩] } ∧ FTo ak w3 a' (w5.setCell ⟨a.gs, 6, none⟩ (.slice A5 (tk.ev.length + 1) c5')) := by
            have := F3.out.evd ((below_then_alloc (Below.refl _ _)).drew) gr5
            rw [show (⟨a.gs, 6, none⟩ : Addr) = ⟨ak.gs, 6, none⟩ by rw [HGS.out]]
            exact ⟨_, this⟩
          have HG6 := Lib.hid (hT6.gs.trans HGS.out)
          have b6 := hT6.bk B3.out (fun e => HN2.out e)
          have T6 := Lib.hid (T3.out.trans hT6)
          have F6 := Lib.hid hF6
          clear c0 cc1 cc2 c3 c4 c5 q5 q6 z5 z6 b5 f5 gr5 hgne
          obtain ⟨q0, q1, q2, q3, q4, q5, q6⟩ := box7 hF6.b
          have z5 := hF6.b.free 5
          rw [HG6.out] at q5 z5
          obtain ⟨c0, cc1, cc2, c3, c4, c5⟩ := box6t b6
          clear hF6 hT6 b6 q0 q1 q2 q3 q4 q6
          generalize w5.setCell ⟨a.gs, 6, none⟩ (.slice A5 (tk.ev.length + 1) c5') = w6 at *
          go_wp2
          have hx6 := F6.out.lasted x.price
          rw [HG6.out] at hx6
          go_roundw
          case rel => exact ⟨k + 1, _, _, by omega, by go_num, Lib.hid hx6.1, Lib.hid (T6.out.trans hx6.2), HG6.out, HR, HP4, by show (tk.ev ++ [_]).length = _; rw [List.length_append, HEV.out, List.length_singleton]; omega, HLM⟩
          case measure => simp [intOf]; omega
      · have HR := Lib.hid (show tradesF T t = ((tradeP tk.S x.frm x.to x.price x.qty).1, tk) by rw [HW2.out, tradesF, if_pos hr0])
        rw [show errV (tradeP tk.S x.frm x.to x.price x.qty).1 = er (tradeP tk.S x.frm x.to x.price x.qty).1 by rw [errV, if_neg hr0]] at cT
        have HNZ := Lib.hid hr0
        have CT := Lib.hid cT
        clear hr0 cT
        generalize (tradeP tk.S x.frm x.to x.price x.qty).1 = E at *
        go_wp2_with (go_at_call 133; refine CT.out.mono ?_; rintro e w3 ⟨rfl, hp3, hg3⟩)
        go_ret
        have hx := F2.out.pursed hp3 hg3
        exact settle_bad (E := E) (by rw [FT.settle, HR.out, if_pos HNZ.out]) HNZ.out (((FTo.of_below hb).trans T2.out).trans hx.2).ks
      -->trade
    · --<went
      obtain rfl : k = T.length := by omega
      have HTR := Lib.hid (show tradesF T t = (0, tk) by rw [HW.out, List.drop_length]; rfl)
      have HBK2 := Lib.hid (show BookOk tk.L tk.M by rw [HLM.out.1, HLM.out.2]; exact HBK.out)
      have HEV2 := Lib.hid HEV.out
      clear hlt HW
      have hf := (HF.out.below (Below.refl wr.heap.size wr).drew)
      have HTd := Lib.hid (HT.out.below (Below.refl wr.heap.size wr).drew)
      have HFd := Lib.hid hf
      obtain ⟨q0, q1, q2, q3, q4, q5, q6⟩ := box7 HF.out.b
      rw [HGS.out] at q1 q2
      have m4 := (HT.out.bk BM.out HN.out.2).cell 4
      simp at m4
      have cW' := went_any tk.L tk.M HBK2.out W ak.A1 ak.A2 AW ak.c1 ak.c2 cW tk lo ak wr.drew HFd.out HP.out (by have := HTd.out.ks.size; simp at this ⊢; omega) (by rw [HEV.out]; omega) HFd.out.bl HFd.out.bm (HTd.out.rp HIN.out.w)
      rw [HGS.out] at cW'
      have hgone : (wentF tk.L tk.M W tk).1 = (wentF t.L t.M W tk).1 := by rw [HLM.out.1, HLM.out.2]
      have HR1 := Lib.hid (show t.settle o T W left gone K1 K2 = if (wentF tk.L tk.M W tk).1 ≠ 0 then ((wentF tk.L tk.M W tk).1, t) else t.settle o T W left gone K1 K2 by
        by_cases h : (wentF tk.L tk.M W tk).1 ≠ 0
        · rw [if_pos h, FT.settle, HTR.out, if_neg (by simp), if_pos (by rw [← hgone]; exact h), ← hgone]
        · rw [if_neg h])
      clear hf q0 q3 q4 q5 q6 hgone
      go_upto_region 10 with fail
      go_still_tail 7, (by kernel_rfl)
      change wpList _ _ _ _ _ wr.drew
      clear q1 q2 m4
      unfold FOutE at cW'
      by_cases hr0 : (wentF tk.L tk.M W tk).1 = 0
      · --<back
        have ws := went_same tk.L tk.M W tk
        have HWS := Lib.hid ws
        have HP5 := Lib.hid (went_inv tk.L tk.M W tk HP.out)
        have HR2 := Lib.hid (show t.settle o T W left gone K1 K2 = t.settle2 o T left gone K1 K2 (wentF tk.L tk.M W tk).2 by
          rw [FT.settle, HTR.out, if_neg (by simp), ← HLM.out.1, ← HLM.out.2, if_neg (by simpa using hr0)]; rfl)
        have hev5 : (wentF tk.L tk.M W tk).2.ev.length ≤ 91000 := by have := ws.2.2.2.2.2; rw [HEV.out] at this; omega
        rw [hr0, show errV 0 = .nilIface from rfl] at cW'
        have CW := Lib.hid cW'
        have HR0 := Lib.hid hr0
        clear hr0 cW' HR1 ws
        generalize (wentF tk.L tk.M W tk).2 = t5 at *
        go_upto_region 13 with (go_at_call 98; refine CW.out.mono ?_; rintro e w5 ⟨rfl, hE, hk5⟩)
        obtain ⟨a5, hF5, hT5⟩ := hE.out (by first | trivial | rfl | exact HR0.out)
        have F5 := Lib.hid hF5
        have T5 := Lib.hid (HTd.out.trans hT5)
        have HG5 := Lib.hid (hT5.gs.trans HGS.out)
        clear CW hE hk5 hF5 hT5
        have bo5 := T5.out.bk BO.out HN.out.1
        have bm5 := T5.out.bk BM.out HN.out.2
        obtain ⟨o0, o1, o2, o3, o4, o5, o6, o7⟩ := obox bo5
        have m2' := bm5.cell 2
        simp at m2'
        have cB := mback_any o T AT cT gone w5 (T5.out.rp HIN.out.t).rdT (by unfold maxLen; omega)
        rw [if_neg (by simpa using HO.out)] at cB
        unfold MBackPost at cB
        obtain ⟨⟨kb, cb, sb⟩, hkb⟩ : ∃ z, z = backR o T gone := ⟨_, rfl⟩
        rw [← hkb] at cB
        dsimp only at cB
        have HR3 := Lib.hid (show t.settle o T W left gone K1 K2 = if kb ≠ 0 then (kb, t) else if (freeP t5.S o.who cb sb).1 ≠ 0 then ((freeP t5.S o.who cb sb).1, t) else t.settle2 o T left gone K1 K2 t5 by
          rw [HR2.out]
          unfold FT.settle2
          rw [← hkb]
          dsimp only
          split
          · rfl
          · split
            · rfl
            · rfl)
        have HKB := Lib.hid hkb
        clear hkb HR2
        by_cases hk0 : kb = 0
        · subst hk0
          rw [show errV 0 = .nilIface from rfl] at cB
          have CB := Lib.hid cB
          clear cB
          go_upto_region 16 with (go_at_call 134; refine CB.out.mono ?_; rintro e w6 ⟨rfl, hb6⟩)
          have F6 := Lib.hid ((F5.out.below hb6).below (Below.refl w6.heap.size w6).drew)
          have T6 := Lib.hid ((T5.out.below hb6).below (Below.refl w6.heap.size w6).drew)
          have bo6 := bo5.keep hb6
          clear o0 o1 o2 o3 o4 o5 o6 o7 m2'
          obtain ⟨o0, o1, o2, o3, o4, o5, o6, o7⟩ := obox bo6
          obtain ⟨q0, q1, q2, q3, q4, q5, q6⟩ := box7 (F5.out.below hb6).b
          rw [HG5.out] at q4
          have cF := free_any t5.S a5.gp o.who cb sb w6.drew F6.out.ps HP5.out.1
          unfold PurPost at cF
          clear q0 q1 q2 q3 q5 q6 CB bo5 bm5 bo6 o0 o2 o3 o4 o5 o6 o7 hb6
          go_still_tail 8, (by kernel_rfl)
          change wpList _ _ _ _ _ w6.drew
          clear q4 o1
          by_cases hf0 : (freeP t5.S o.who cb sb).1 = 0
          · --<tail
            obtain ⟨t7, ht7⟩ : ∃ t7 : FT, t7 = { t5 with S := (freeP t5.S o.who cb sb).2 } := ⟨_, rfl⟩
            obtain ⟨t8, ht8⟩ : ∃ t8 : FT, t8 = if 0 < gone then t7.tell 3 o.id gone o.price else t7 := ⟨_, rfl⟩
            obtain ⟨t9, ht9⟩ : ∃ t9 : FT, t9 = if 0 < left - gone then t8.tell 1 o.id (left - gone) o.price else t8 := ⟨_, rfl⟩
            have HR := Lib.hid (show t.settle o T W left gone K1 K2 = (0, { t9 with L := K1, M := K2 }) by
              rw [HR3.out, if_neg (by simp), if_neg (by simpa using hf0), FT.settle2, ← HKB.out]
              dsimp only
              rw [if_neg (by simp), if_neg (by simpa using hf0), ht9, ht8, ht7])
            have hev7 : t7.ev.length ≤ 91000 := by rw [ht7]; exact hev5
            have hev8 : t8.ev.length ≤ 91001 := by
              rw [ht8]; split
              · show (t7.ev ++ [_]).length ≤ _; rw [List.length_append, List.length_singleton]; omega
              · omega
            have HT8 := Lib.hid ht8; have HT9 := Lib.hid ht9
            rw [hf0, show errV 0 = .nilIface from rfl] at cF
            have CF := Lib.hid cF
            have HT7 := Lib.hid ht7
            clear hf0 cF HR3 ht7 ht8 ht9 HKB HP5 HWS HR0
            generalize (freeP t5.S o.who cb sb).2 = S7 at *
            go_upto_region 19 with (go_at_call 108; refine CF.out.mono ?_; rintro e w7 ⟨rfl, hp7, hg7⟩)
            have hx := F6.out.pursed hp7 hg7
            have F7 := Lib.hid (show FSt w7 lo a5 t7 by rw [HT7.out]; exact hx.1)
            have T7 := Lib.hid (T6.out.trans hx.2)
            clear hx hp7 hg7 CF F6 T6 F5 T5
            go_upto_if 87 with fail
            go_cut [] (fun wx => Hid (∃ a8, FSt wx lo a8 t8 ∧ FTo a w1 a8 wx))
            case first =>
              by_cases hg : 0 < gone
              · have H8 := Lib.hid (show t8 = t7.tell 3 o.id gone o.price by rw [HT8.out, if_pos hg])
                have bo7 := T7.out.bk BO.out HN.out.1
                obtain ⟨o0, o1, o2, o3, o4, o5, o6, o7⟩ := obox bo7
                have cT := tell_any t7 lo a5 3 o.id gone o.price w7 F7.out (by omega) (by have := T7.out.ks.size; omega)
                rw [HG5.out] at cT
                have CT := Lib.hid cT
                clear cT bo7 o1 o2 o3 o5 o6 o7
                go_wp2_with (go_at_call 75; refine CT.out.mono ?_; rintro e w8 ⟨rfl, HE8⟩)
                obtain ⟨a8, hF8, hT8⟩ := HE8.out
                go_meet
                case rel => exact Lib.hid ⟨a8, by rw [H8.out]; exact hF8, T7.out.trans hT8⟩
              · have H8 := Lib.hid (show t8 = t7 by rw [HT8.out, if_neg hg])
                go_wp2
                go_meet
                case rel => exact Lib.hid ⟨a5, by rw [H8.out]; exact F7.out, T7.out⟩
            obtain ⟨a8, hF8, hT8⟩ := hcut.out
            obtain ⟨w8, rfl⟩ : ∃ w8 : World, w8 = wc := ⟨_, rfl⟩
            have F8 := Lib.hid hF8; have T8 := Lib.hid hT8
            have HG8 := Lib.hid hT8.gs
            clear hcut hF8 hT8 F7 T7
            have bm8 := T8.out.bk BM.out HN.out.2
            have m3 := bm8.cell 3
            simp at m3
            clear bm8
            go_upto_if 100 with fail
            go_cut [] (fun wx => Hid (∃ a9, FSt wx lo a9 t9 ∧ FTo a w1 a9 wx))
            case first =>
              by_cases hg : 0 < left - gone
              · have H9 := Lib.hid (show t9 = t8.tell 1 o.id (left - gone) o.price by rw [HT9.out, if_pos hg])
                have bo8 := T8.out.bk BO.out HN.out.1
                obtain ⟨o0, o1, o2, o3, o4, o5, o6, o7⟩ := obox bo8
                have cT := tell_any t8 lo a8 1 o.id (left - gone) o.price w8 F8.out (by omega) (by have := T8.out.ks.size; omega)
                rw [HG8.out] at cT
                have CT := Lib.hid cT
                clear cT bo8 o1 o2 o3 o5 o6 o7 m3
                go_wp2_with (go_at_call 75; refine CT.out.mono ?_; rintro e w9 ⟨rfl, HE9⟩)
                obtain ⟨a9, hF9, hT9⟩ := HE9.out
                go_meet
                case rel => exact Lib.hid ⟨a9, by rw [H9.out]; exact hF9, T8.out.trans hT9⟩
              · have H9 := Lib.hid (show t9 = t8 by rw [HT9.out, if_neg hg])
                go_wp2
                go_meet
                case rel => exact Lib.hid ⟨a8, by rw [H9.out]; exact F8.out, T8.out⟩
            obtain ⟨a9, hF9, hT9⟩ := hcut.out
            obtain ⟨w9, rfl⟩ : ∃ w9 : World, w9 = wc := ⟨_, rfl⟩
            have F9 := Lib.hid hF9; have T9 := Lib.hid hT9
            have HG9 := Lib.hid hT9.gs
            have bm9 := hT9.bk BM.out HN.out.2
            have m0 := bm9.cell 0; have m1 := bm9.cell 1
            simp at m0 m1
            obtain ⟨q0, q1, q2, q3, q4, q5, q6⟩ := box7 hF9.b
            have z1 := hF9.b.free 1; have z2 := hF9.b.free 2
            rw [HG9.out] at q1 q2 z1 z2
            have I9 := Lib.hid (HIN.out.on (FA.kp hT9.ks hT9.q hT9.x))
            have hx := hF9.booked I9.out.k1 I9.out.k2 I9.out.z1 I9.out.z2
            rw [HG9.out] at hx
            have HX := Lib.hid hx
            clear hcut hF9 hT9 F8 T8 m3 bm9 q0 q3 q4 q5 q6 hx
            go_wp2
            go_ret
            refine ⟨by rw [HR.out]; rfl, Lib.hid (fun _ => ?_), Lib.hid (((FTo.of_below hb).trans T9.out).trans HX.out.2).ks⟩
            rw [HR.out]
            exact ⟨_, HX.out.1, ((FTo.of_below hb).trans T9.out).trans HX.out.2⟩
            -->tail
          · have HR := Lib.hid (show t.settle o T W left gone K1 K2 = ((freeP t5.S o.who cb sb).1, t) by rw [HR3.out, if_neg (by simp), if_pos hf0])
            rw [show errV (freeP t5.S o.who cb sb).1 = er (freeP t5.S o.who cb sb).1 by rw [errV, if_neg hf0]] at cF
            have HNZ := Lib.hid hf0
            have CF := Lib.hid cF
            clear hf0 cF HR3
            generalize (freeP t5.S o.who cb sb).1 = E at *
            go_wp2_with (go_at_call 108; refine CF.out.mono ?_; rintro e w7 ⟨rfl, hp7, hg7⟩)
            go_ret
            have hx := F6.out.pursed hp7 hg7
            exact settle_bad HR.out HNZ.out (((FTo.of_below hb).trans T6.out).trans hx.2).ks
        · have HR := Lib.hid (show t.settle o T W left gone K1 K2 = (kb, t) by rw [HR3.out, if_pos hk0])
          rw [show errV kb = er kb by rw [errV, if_neg hk0]] at cB
          have HNZ := Lib.hid hk0
          have CB := Lib.hid cB
          clear hk0 cB HR3
          go_wp2_with (go_at_call 134; refine CB.out.mono ?_; rintro e w6 ⟨rfl, hb6⟩)
          go_ret
          exact settle_bad HR.out HNZ.out (((FTo.of_below hb).trans T5.out).below hb6).ks
        -->back
      · have HR := Lib.hid (show t.settle o T W left gone K1 K2 = ((wentF tk.L tk.M W tk).1, t) by rw [HR1.out, if_pos hr0])
        rw [show errV (wentF tk.L tk.M W tk).1 = er (wentF tk.L tk.M W tk).1 by rw [errV, if_neg hr0]] at cW'
        have HNZ := Lib.hid hr0
        have CW := Lib.hid cW'
        clear hr0 cW' HR1
        generalize (wentF tk.L tk.M W tk).1 = E at *
        go_wp2_with (go_at_call 98; refine CW.out.mono ?_; rintro e w3 ⟨rfl, hE, hk3⟩)
        go_ret
        exact settle_bad HR.out HNZ.out (((FTo.of_below hb).trans HTd.out).ks.trans hk3.out ((FTo.of_below hb).trans HTd.out).q)
      -->went
end Go.Proofs.YtkdgpdijbobmkaaGreat
namespace Go.Proofs.YtkdgpdijbobmkaaGreat
set_option linter.all false
open Go Go.RowKit
/-- what kinds.Run gives that goes well -/
def KGood (s : MSt) (gone : Int) (K1 K2 : List Lv) (w : World) (e : Ending) (w' : World) : Prop :=
  ∃ B1 b1 B2 b2 AT cT AW cW, e = .returned (.tuple #[.agg #[.slice B1 K1.length b1, .slice B2 K2.length b2, .slice AT s.T.length cT, .int .i64 s.left, .slice AW s.W.length cW, .bool s.ends], .int .i64 gone, .nilIface]) ∧
    Hid ((∃ v1, OwnLv w' w.heap.size B1 b1 K1 v1) ∧ (∃ v2, OwnLv w' w.heap.size B2 b2 K2 v2) ∧ OwnS w' w.heap.size 6 AT s.T.length cT (trows s.T) ∧ OwnS w' w.heap.size 1 AW s.W.length cW (irows s.W)) ∧ Below w.heap.size w w'
/-- kinds.Run refuses, or does not -/
theorem krun_cases (t : FT) (o : Order) (hbk : BookOk t.L t.M) (ho : o.err = 0) :
    (∃ E, E ≠ 0 ∧ t.come o = (false, E, t) ∧ ∀ (A1 A2 : Option Addr) (c1 c2 : Nat) (w : World), RdLv w w.heap.size A1 t.L → RdLv w w.heap.size A2 t.M → (A1 = none → c1 = 0) → (A2 = none → c2 = 0) →
      Calls Tryz.prog 86 #[.agg #[.slice A1 t.L.length c1, .slice A2 t.M.length c2], .agg #[.int .i64 o.id, .int .i64 o.who, .int .i64 o.side, .int .i64 o.kind, .int .i64 o.price, .int .i64 o.qty, .int .i64 o.show_, .int .i64 o.stop], .int .i64 t.mode] w fun e w' => e = .returned (.tuple #[.agg #[.slice none 0 0, .slice none 0 0, .slice none 0 0, .int .i64 0, .slice none 0 0, .bool false], .int .i64 0, er E]) ∧ Below w.heap.size w w') ∨
    (∃ s gone K1 K2, 0 ≤ gone ∧ gone ≤ 10000 ∧ 0 ≤ s.left ∧ s.left ≤ 10000 ∧ s.T.length ≤ 400 ∧ s.W.length ≤ 60 ∧ BookOk K1 K2 ∧ met t.L t.M o t.mode = some s ∧ t.come o = (true, (t.settle o s.T s.W s.left gone K1 K2).1, (t.settle o s.T s.W s.left gone K1 K2).2) ∧ ∀ (A1 A2 : Option Addr) (c1 c2 : Nat) (w : World), RdLv w w.heap.size A1 t.L → RdLv w w.heap.size A2 t.M → (A1 = none → c1 = 0) → (A2 = none → c2 = 0) →
      Calls Tryz.prog 86 #[.agg #[.slice A1 t.L.length c1, .slice A2 t.M.length c2], .agg #[.int .i64 o.id, .int .i64 o.who, .int .i64 o.side, .int .i64 o.kind, .int .i64 o.price, .int .i64 o.qty, .int .i64 o.show_, .int .i64 o.stop], .int .i64 t.mode] w (KGood s gone K1 K2 w)) := by
  have base := fun (A1 A2 : Option Addr) (c1 c2 : Nat) (w : World) (h1 : RdLv w w.heap.size A1 t.L) (h2 : RdLv w w.heap.size A2 t.M) (z1 : A1 = none → c1 = 0) (z2 : A2 = none → c2 = 0) => krun_any t.L t.M o t.mode A1 A2 c1 c2 w h1 h2 hbk ho z1 z2 _ rfl _ rfl _ rfl (fun _ => putCon)
  cases hm : met t.L t.M o t.mode with
  | none =>
    refine .inl ⟨4, by decide, FT.come_none hm, fun A1 A2 c1 c2 w h1 h2 z1 z2 => (base A1 A2 c1 c2 w h1 h2 z1 z2).mono fun e w' h => ?_⟩
    rcases h with ⟨_, h3, h4⟩ | ⟨s, hs, _⟩
    · exact ⟨h3, h4⟩
    · rw [hm] at hs; cases hs
  | some s =>
    obtain ⟨hok, _, _⟩ := met_out hbk ho hm
    have hcome := FT.come_some hm
    unfold FT.comeS at hcome
    rcases kout_cases o (pick o.side t.L t.M) s with hk | hk | hk | hk
    · refine .inl ⟨9, by decide, by rw [hcome, if_pos (.inl hk), hk]; rfl, fun A1 A2 c1 c2 w h1 h2 z1 z2 => (base A1 A2 c1 c2 w h1 h2 z1 z2).mono fun e w' h => ?_⟩
      rcases h with ⟨h3, _⟩ | ⟨s', hs, _, ⟨_, h4, h5⟩ | ⟨h4, _⟩ | ⟨A1, c1, v1, A2, c2, v2, AT, cT, AW, cW, L', M', h4, _⟩⟩
      · rw [hm] at h3; cases h3
      · rw [hm] at hs; cases hs
        exact ⟨by rw [h4, hk]; rfl, h5⟩
      · rw [hm] at hs; cases hs; omega
      · rw [hm] at hs; cases hs
        rcases h4 with h4 | h4 <;> omega
    · refine .inl ⟨8, by decide, by rw [hcome, if_pos (.inr hk), hk]; rfl, fun A1 A2 c1 c2 w h1 h2 z1 z2 => (base A1 A2 c1 c2 w h1 h2 z1 z2).mono fun e w' h => ?_⟩
      rcases h with ⟨h3, _⟩ | ⟨s', hs, _, ⟨_, h4, h5⟩ | ⟨h4, _⟩ | ⟨A1, c1, v1, A2, c2, v2, AT, cT, AW, cW, L', M', h4, _⟩⟩
      · rw [hm] at h3; cases h3
      · rw [hm] at hs; cases hs
        exact ⟨by rw [h4, hk]; rfl, h5⟩
      · rw [hm] at hs; cases hs; omega
      · rw [hm] at hs; cases hs
        rcases h4 with h4 | h4 <;> omega
    · refine .inr ⟨s, _, _, _, ?_, ?_, hok.left0, hok.left1, hok.trades, by have := hok.went; omega, met_book hbk ho hm, rfl, by rw [hcome, if_neg (by omega), if_neg (by omega), if_neg (by omega)], fun A1 A2 c1 c2 w h1 h2 z1 z2 => (base A1 A2 c1 c2 w h1 h2 z1 z2).mono fun e w' h => ?_⟩
      · split
        · exact hok.left0
        · omega
      · split
        · exact hok.left1
        · omega
      · rcases h with ⟨h3, _⟩ | ⟨s', hs, _, ⟨h4, _⟩ | ⟨h4, _⟩ | ⟨A1, c1, v1, A2, c2, v2, AT, cT, AW, cW, L', M', h4, he, o1, o2, o3, o4, hb⟩⟩
        · rw [hm] at h3; cases h3
        · rw [hm] at hs; cases hs; omega
        · rw [hm] at hs; cases hs; omega
        · rw [hm] at hs; cases hs
          rcases h4 with ⟨_, rfl, rfl⟩ | ⟨h4, _⟩
          · exact ⟨A1, c1, A2, c2, AT, cT, AW, cW, he, Lib.hid ⟨⟨v1, o1⟩, ⟨v2, o2⟩, o3, o4⟩, hb⟩
          · omega
    · by_cases hp : putE (kL o.side t.L s) (kM o.side t.M s) o.side o.price (restOf o s.left) = 0
      · refine .inr ⟨s, 0, _, _, by omega, by omega, hok.left0, hok.left1, hok.trades, by have := hok.went; omega, (putted hp).ok, rfl, by rw [hcome, if_neg (by omega), if_neg (by simp [hp]), if_pos hk], fun A1 A2 c1 c2 w h1 h2 z1 z2 => (base A1 A2 c1 c2 w h1 h2 z1 z2).mono fun e w' h => ?_⟩
        rcases h with ⟨h3, _⟩ | ⟨s', hs, _, ⟨h4, _⟩ | ⟨_, h4, _⟩ | ⟨A1, c1, v1, A2, c2, v2, AT, cT, AW, cW, L', M', h4, he, o1, o2, o3, o4, hb⟩⟩
        · rw [hm] at h3; cases h3
        · rw [hm] at hs; cases hs; omega
        · rw [hm] at hs; cases hs; exact absurd hp h4
        · rw [hm] at hs; cases hs
          rcases h4 with ⟨h4, _⟩ | ⟨_, _, rfl, rfl⟩
          · omega
          · rw [if_neg (by omega)] at he
            exact ⟨A1, c1, A2, c2, AT, cT, AW, cW, he, Lib.hid ⟨⟨v1, o1⟩, ⟨v2, o2⟩, o3, o4⟩, hb⟩
      · refine .inl ⟨putE (kL o.side t.L s) (kM o.side t.M s) o.side o.price (restOf o s.left), hp, by rw [hcome, if_neg (by omega), if_pos ⟨hk, hp⟩], fun A1 A2 c1 c2 w h1 h2 z1 z2 => (base A1 A2 c1 c2 w h1 h2 z1 z2).mono fun e w' h => ?_⟩
        rcases h with ⟨h3, _⟩ | ⟨s', hs, _, ⟨h4, _⟩ | ⟨_, _, h4, h5⟩ | ⟨A1, c1, v1, A2, c2, v2, AT, cT, AW, cW, L', M', h4, _⟩⟩
        · rw [hm] at h3; cases h3
        · rw [hm] at hs; cases hs; omega
        · rw [hm] at hs; cases hs; exact ⟨h4, h5⟩
        · rw [hm] at hs; cases hs
          rcases h4 with ⟨h4, _⟩ | ⟨_, h4, _⟩
          · omega
          · exact absurd h4 hp
/-- what came of the meeting, in memory: box gm -/
def CMet (s : MSt) (K1 K2 : List Lv) (w1 : World) (gm : Nat) (wx : World) : Prop :=
  ∃ B1 b1 B2 b2 AT cT AW cW, Bk wx gm 146 #[.slice B1 K1.length b1, .slice B2 K2.length b2, .slice AT s.T.length cT, .int .i64 s.left, .slice AW s.W.length cW, .bool s.ends] ∧ w1.heap.size ≤ gm ∧ SIn (fun k => w1.heap.size ≤ k ∧ k ≠ gm) wx s.T s.W K1 K2 B1 B2 AT AW b1 b2 ∧ Below w1.heap.size w1 wx
theorem OwnLv.lpB {w : World} {base c : Nat} {A : Option Addr} {L : List Lv} {v : List (Option Addr × Nat)} (h : OwnLv w base A c L v) : ∃ xs, LP (fun k => base ≤ k) w A L xs :=
  ⟨_, LP.of_own h.own (LC.of_lvs h.len (fun i x v hx hv => (h.each i x v hx hv).1) (fun k hk => hk)) rfl (fun k hk => hk)⟩
theorem sin_own {w : World} {base : Nat} {T : List Trade} {W : List Int} {K1 K2 : List Lv} {B1 B2 AT AW : Option Addr} {b1 b2 cT cW : Nat} (o1 : ∃ v, OwnLv w base B1 b1 K1 v) (o2 : ∃ v, OwnLv w base B2 b2 K2 v) (o3 : OwnS w base 6 AT T.length cT (trows T)) (o4 : OwnS w base 1 AW W.length cW (irows W)) :
    SIn (fun k => base ≤ k) w T W K1 K2 B1 B2 AT AW b1 b2 := by
  obtain ⟨v1, o1⟩ := o1
  obtain ⟨v2, o2⟩ := o2
  have z : ∀ {A : Option Addr} {c : Nat} {K : List Lv} {v : List (Option Addr × Nat)}, OwnLv w base A c K v → A = none → c = 0 := fun {A c K v} o e => by
    rcases Nat.eq_zero_or_pos c with h | h
    · exact h
    · obtain ⟨g, off, e', _⟩ := o.own.lies h; rw [e] at e'; cases e'
  exact ⟨o1.lpB, o2.lpB, RP.of_own o3 (fun _ h => h), RP.of_own o4 (fun _ h => h), z o1, z o2⟩
theorem sin_new {s : MSt} {w1 w2 : World} {base : Nat} {K1 K2 : List Lv} {B1 B2 AT AW : Option Addr} {b1 b2 cT cW : Nat} {le : Int} {en : Bool} (o1 : ∃ v, OwnLv w2 base B1 b1 K1 v) (o2 : ∃ v, OwnLv w2 base B2 b2 K2 v) (o3 : OwnS w2 base 6 AT s.T.length cT (trows s.T)) (o4 : OwnS w2 base 1 AW s.W.length cW (irows s.W)) (hb : Below w1.heap.size w1 w2) (hz : w1.heap.size ≤ base) :
    CMet s K1 K2 w1 w2.heap.size (w2.alloc (.cells #[.slice B1 K1.length b1, .slice B2 K2.length b2, .slice AT s.T.length cT, .int .i64 s.left, .slice AW s.W.length cW, .bool s.ends] 146)) := by
  refine ⟨B1, b1, B2, b2, AT, cT, AW, cW, Bk.new w2 _ _, hb.size, (sin_own o1 o2 o3 o4).on (Kp.grown (World.grownBy_alloc w2 _ none) (fun k hp hk => ⟨by simp, by omega, by omega⟩)), below_then_alloc hb⟩
theorem sin_old {s : MSt} {w1 w2 : World} {base : Nat} {K1 K2 : List Lv} {B1 B2 AT AW : Option Addr} {b1 b2 cT cW : Nat} {le : Int} {en : Bool} {x0 x1 x2 x3 x4 x5 : Value} (hm : Bk w2 w1.heap.size 146 #[x0, x1, x2, x3, x4, x5]) (o1 : ∃ v, OwnLv w2 base B1 b1 K1 v) (o2 : ∃ v, OwnLv w2 base B2 b2 K2 v) (o3 : OwnS w2 base 6 AT s.T.length cT (trows s.T)) (o4 : OwnS w2 base 1 AW s.W.length cW (irows s.W)) (hb : Below w1.heap.size w1 w2) (hz : w1.heap.size + 1 ≤ base) :
    CMet s K1 K2 w1 w1.heap.size ((((((w2.setCell ⟨w1.heap.size, 0, none⟩ (.slice B1 K1.length b1)).setCell ⟨w1.heap.size, 1, none⟩ (.slice B2 K2.length b2)).setCell ⟨w1.heap.size, 2, none⟩ (.slice AT s.T.length cT)).setCell ⟨w1.heap.size, 3, none⟩ (.int .i64 s.left)).setCell ⟨w1.heap.size, 4, none⟩ (.slice AW s.W.length cW)).setCell ⟨w1.heap.size, 5, none⟩ (.bool s.ends)) := by
  have hg : w2.grownBy ((((((w2.setCell ⟨w1.heap.size, 0, none⟩ (.slice B1 K1.length b1)).setCell ⟨w1.heap.size, 1, none⟩ (.slice B2 K2.length b2)).setCell ⟨w1.heap.size, 2, none⟩ (.slice AT s.T.length cT)).setCell ⟨w1.heap.size, 3, none⟩ (.int .i64 s.left)).setCell ⟨w1.heap.size, 4, none⟩ (.slice AW s.W.length cW)).setCell ⟨w1.heap.size, 5, none⟩ (.bool s.ends)) (some w1.heap.size) :=
    (((((grown_set w2 ⟨w1.heap.size, 0, none⟩ _).trans (grown_set _ ⟨w1.heap.size, 1, none⟩ _)).trans (grown_set _ ⟨w1.heap.size, 2, none⟩ _)).trans (grown_set _ ⟨w1.heap.size, 3, none⟩ _)).trans (grown_set _ ⟨w1.heap.size, 4, none⟩ _)).trans (grown_set _ ⟨w1.heap.size, 5, none⟩ _)
  refine ⟨B1, b1, B2, b2, AT, cT, AW, cW, (((((hm.set_ 0 _).set_ 1 _).set_ 2 _).set_ 3 _).set_ 4 _).set_ 5 _, Nat.le_refl _, (sin_own o1 o2 o3 o4).on (Kp.grown hg (fun k hp hk => ⟨fun e => by have := Option.some.inj e; omega, by omega, by omega⟩)), hb.grown hg hb.size (fun k e => by cases e; exact Nat.le_refl _)⟩
/-- how come ends -/
def FOutC (lo : Nat) (a : FA) (r : Bool × Int × FT) (w : World) (e : Ending) (w' : World) : Prop := e = .returned (.tuple #[.bool r.1, errV r.2.1]) ∧ Hid (r.1 = false ∨ r.2.1 = 0 → FEnd lo a r.2.2 w w') ∧ Hid (Ks a.Q w w')
set_option maxRecDepth 100000 in
set_option maxHeartbeats 8000000 in
theorem come_any (t : FT) (lo : Nat) (a : FA) (o : Order) (w : World) (h : FSt w lo a t) (hs : PInv t.S) (hbk : BookOk t.L t.M) (ho : o.err = 0) (hlo : lo ≤ w.heap.size) (hl : t.ev.length ≤ 90000) :
    Calls Tryz.prog 76 #[.pointer (some ⟨a.gs, 0, none⟩), .agg #[.int .i64 o.id, .int .i64 o.who, .int .i64 o.side, .int .i64 o.kind, .int .i64 o.price, .int .i64 o.qty, .int .i64 o.show_, .int .i64 o.stop]] w (FOutC lo a (t.come o) w) := by
  have hb : Below w.heap.size w (w.alloc (.cells #[.int .i64 o.id, .int .i64 o.who, .int .i64 o.side, .int .i64 o.kind, .int .i64 o.price, .int .i64 o.qty, .int .i64 o.show_, .int .i64 o.stop] 31)) := below_then_alloc (Below.refl _ _)
  have H := Lib.hid (h.below hb); have HS := Lib.hid hs; have HBK := Lib.hid hbk; have HO := Lib.hid ho
  have bo := Bk.new w 31 #[.int .i64 o.id, .int .i64 o.who, .int .i64 o.side, .int .i64 o.kind, .int .i64 o.price, .int .i64 o.qty, .int .i64 o.show_, .int .i64 o.stop]
  have HN := Lib.hid (show ¬ a.Q w.heap.size from fun e => by have := (h.q_lt _ e).2; omega)
  have hz := hb.size
  have HK := krun_cases t o hbk ho
  clear h hs hbk ho
  go_enter Tryz.func76, Tryz.ntmps76
  go_upto_region 1 with fail
  generalize w.alloc (.cells #[.int .i64 o.id, .int .i64 o.who, .int .i64 o.side, .int .i64 o.kind, .int .i64 o.price, .int .i64 o.qty, .int .i64 o.show_, .int .i64 o.stop] 31) = w1 at *
  obtain ⟨o0, o1, o2, o3, o4, o5, o6, o7⟩ := obox bo
  obtain ⟨q0, q1, q2, q3, q4, q5, q6⟩ := box7 H.out.b
  clear q3 q4 q5 q6
  have BO := Lib.hid bo
  clear bo q0 q1 q2 o0 o1 o2 o3 o4 o5 o6 o7
  rcases HK with ⟨E, hE, hR, cK⟩ | ⟨s, gone, K1, K2, hg0, hg1, hl0, hl1, hT, hW, hK, hmet, hR, cK⟩
  · have HR := Lib.hid hR; have HE := Lib.hid hE
    have CK := Lib.hid (fun w' (hb : Below w1.heap.size w1 w') => cK a.A1 a.A2 a.c1 a.c2 w' (H.out.below hb).lp1 (H.out.below hb).lp2 H.out.z1 H.out.z2)
    clear hR hE cK
    go_cut [8] (fun e wx => e = er E ∧ Below w1.heap.size w1 wx)
    case first =>
      refine wp_region_noPanic ?_
      refine wp_region_held_drew (S := fun w' => Below w1.heap.size w1 w') (by kernel_rfl) ((Below.refl _ _).drew) (fun hHeld => ?_)
      (refine wpAnyH_take (i := 0) (v := ?_) rfl (by kernel_rfl) (by kernel_rfl) (by kernel_rfl) (fun _ _ _ h => h) (Or.inl ⟨by rfl, ?_⟩) (by assumption) ?_); rotate_left; (focus (intro w' hSw; (try dsimp only at hSw); obtain ⟨q0, q1, q2, _⟩ := box7 (FSt.below H.out hSw).b; obtain ⟨o0, o1, o2, o3, o4, o5, o6, o7⟩ := obox (Bk.keep BO.out hSw); go_simp; try (with_reducible rfl))); (try simp only [Act.put, List.setIfInBounds_toArray, List.set_cons_zero, List.set_cons_succ])
      (refine wpAnyH_take (i := 1) (v := ?_) rfl (by kernel_rfl) (by kernel_rfl) (by kernel_rfl) (fun _ _ _ h => h) (Or.inl ⟨by rfl, ?_⟩) (by assumption) ?_); rotate_left; (focus (intro w' hSw; (try dsimp only at hSw); obtain ⟨q0, q1, q2, _⟩ := box7 (FSt.below H.out hSw).b; obtain ⟨o0, o1, o2, o3, o4, o5, o6, o7⟩ := obox (Bk.keep BO.out hSw); go_simp; try (with_reducible rfl))); (try simp only [Act.put, List.setIfInBounds_toArray, List.set_cons_zero, List.set_cons_succ])
      (refine wpAnyH_take (i := 2) (v := ?_) rfl (by kernel_rfl) (by kernel_rfl) (by kernel_rfl) (fun _ _ _ h => h) (Or.inl ⟨by rfl, ?_⟩) (by assumption) ?_); rotate_left; (focus (intro w' hSw; (try dsimp only at hSw); obtain ⟨q0, q1, q2, _⟩ := box7 (FSt.below H.out hSw).b; obtain ⟨o0, o1, o2, o3, o4, o5, o6, o7⟩ := obox (Bk.keep BO.out hSw); go_simp; try (with_reducible rfl))); (try simp only [Act.put, List.setIfInBounds_toArray, List.set_cons_zero, List.set_cons_succ])
      (refine wpAnyH_take (i := 3) (v := ?_) rfl (by kernel_rfl) (by kernel_rfl) (by kernel_rfl) (fun _ _ _ h => h) (Or.inl ⟨by rfl, ?_⟩) (by assumption) ?_); rotate_left; (focus (intro w' hSw; (try dsimp only at hSw); obtain ⟨q0, q1, q2, _⟩ := box7 (FSt.below H.out hSw).b; obtain ⟨o0, o1, o2, o3, o4, o5, o6, o7⟩ := obox (Bk.keep BO.out hSw); go_simp; try (with_reducible rfl))); (try simp only [Act.put, List.setIfInBounds_toArray, List.set_cons_zero, List.set_cons_succ])
      (refine wpAnyH_take (i := 4) (v := ?_) rfl (by kernel_rfl) (by kernel_rfl) (by kernel_rfl) (fun _ _ _ h => h) (Or.inl ⟨by rfl, ?_⟩) (by assumption) ?_); rotate_left; (focus (intro w' hSw; (try dsimp only at hSw); obtain ⟨q0, q1, q2, _⟩ := box7 (FSt.below H.out hSw).b; obtain ⟨o0, o1, o2, o3, o4, o5, o6, o7⟩ := obox (Bk.keep BO.out hSw); go_simp; try (with_reducible rfl))); (try simp only [Act.put, List.setIfInBounds_toArray, List.set_cons_zero, List.set_cons_succ])
      (refine wpAnyH_take (i := 5) (v := ?_) rfl (by kernel_rfl) (by kernel_rfl) (by kernel_rfl) (fun _ _ _ h => h) (Or.inl ⟨by rfl, ?_⟩) (by assumption) ?_); rotate_left; (focus (intro w' hSw; (try dsimp only at hSw); obtain ⟨q0, q1, q2, _⟩ := box7 (FSt.below H.out hSw).b; obtain ⟨o0, o1, o2, o3, o4, o5, o6, o7⟩ := obox (Bk.keep BO.out hSw); go_simp; try (with_reducible rfl))); (try simp only [Act.put, List.setIfInBounds_toArray, List.set_cons_zero, List.set_cons_succ])
      (refine wpAnyH_take (i := 6) (v := ?_) rfl (by kernel_rfl) (by kernel_rfl) (by kernel_rfl) (fun _ _ _ h => h) (Or.inl ⟨by rfl, ?_⟩) (by assumption) ?_); rotate_left; (focus (intro w' hSw; (try dsimp only at hSw); obtain ⟨q0, q1, q2, _⟩ := box7 (FSt.below H.out hSw).b; obtain ⟨o0, o1, o2, o3, o4, o5, o6, o7⟩ := obox (Bk.keep BO.out hSw); go_simp; try (with_reducible rfl))); (try simp only [Act.put, List.setIfInBounds_toArray, List.set_cons_zero, List.set_cons_succ])
      (refine wpAnyH_take (i := 7) (v := ?_) rfl (by kernel_rfl) (by kernel_rfl) (by kernel_rfl) (fun _ _ _ h => h) (Or.inl ⟨by rfl, ?_⟩) (by assumption) ?_); rotate_left; (focus (intro w' hSw; (try dsimp only at hSw); obtain ⟨q0, q1, q2, _⟩ := box7 (FSt.below H.out hSw).b; obtain ⟨o0, o1, o2, o3, o4, o5, o6, o7⟩ := obox (Bk.keep BO.out hSw); go_simp; try (with_reducible rfl))); (try simp only [Act.put, List.setIfInBounds_toArray, List.set_cons_zero, List.set_cons_succ])
      (refine wpAnyH_take (i := 8) (v := ?_) rfl (by kernel_rfl) (by kernel_rfl) (by kernel_rfl) (fun _ _ _ h => h) (Or.inl ⟨by rfl, ?_⟩) (by assumption) ?_); rotate_left; (focus (intro w' hSw; (try dsimp only at hSw); obtain ⟨q0, q1, q2, _⟩ := box7 (FSt.below H.out hSw).b; obtain ⟨o0, o1, o2, o3, o4, o5, o6, o7⟩ := obox (Bk.keep BO.out hSw); go_simp; try (with_reducible rfl))); (try simp only [Act.put, List.setIfInBounds_toArray, List.set_cons_zero, List.set_cons_succ])
      refine wpAnyH_ready (rs := [9, 14]) (by kernel_rfl) (by simp) ?_
      refine AllReadyH.cons rfl (fun KK KH => ?_) (AllReadyH.cons rfl (fun KK KH => ?_) AllReadyH.nil)
      · go_simp
        go_at_call 86
        refine (CK.out _ hHeld).mono ?_
        rintro e w2 ⟨rfl, hb2⟩
        (refine KH.out _ _ (by (try dsimp only); (repeat (first | (with_reducible assumption) | (with_reducible exact Below.refl _ _) | (with_reducible refine Below.setCell ?_ (by first | exact Nat.le_refl _ | (dsimp only; omega)) _) | (with_reducible refine Below.drew ?_) | (with_reducible refine below_then_alloc ?_) | (with_reducible refine below_then (by with_reducible assumption) ?_)))) (fun hHeld => ?_); clear KH KK; (try simp only [Act.put, List.setIfInBounds_toArray, List.set_cons_zero, List.set_cons_succ]))
        (refine wpAnyH_take (i := 10) (v := ?_) rfl (by kernel_rfl) (by kernel_rfl) (by kernel_rfl) (fun _ _ _ h => h) (Or.inl ⟨by rfl, ?_⟩) (by assumption) ?_); rotate_left; (focus (intro w' hSw; (try dsimp only at hSw); go_simp; try (with_reducible rfl))); (try simp only [Act.put, List.setIfInBounds_toArray, List.set_cons_zero, List.set_cons_succ])
        (refine wpAnyH_take (i := 11) (v := ?_) rfl (by kernel_rfl) (by kernel_rfl) (by kernel_rfl) (fun _ _ _ h => h) (Or.inl ⟨by rfl, ?_⟩) (by assumption) ?_); rotate_left; (focus (intro w' hSw; (try dsimp only at hSw); go_simp; try (with_reducible rfl))); (try simp only [Act.put, List.setIfInBounds_toArray, List.set_cons_zero, List.set_cons_succ])
        (refine wpAnyH_take (i := 12) (v := ?_) rfl (by kernel_rfl) (by kernel_rfl) (by kernel_rfl) (fun _ _ _ h => h) (Or.inl ⟨by rfl, ?_⟩) (by assumption) ?_); rotate_left; (focus (intro w' hSw; (try dsimp only at hSw); go_simp; try (with_reducible rfl))); (try simp only [Act.put, List.setIfInBounds_toArray, List.set_cons_zero, List.set_cons_succ])
        (refine wpAnyH_take (i := 13) (v := ?_) rfl (by kernel_rfl) (by kernel_rfl) (by kernel_rfl) (fun _ _ _ h => h) (Or.inl ⟨by rfl, ?_⟩) (by assumption) ?_); rotate_left; (focus (intro w' hSw; (try dsimp only at hSw); go_simp; try (with_reducible rfl))); (try simp only [Act.put, List.setIfInBounds_toArray, List.set_cons_zero, List.set_cons_succ])
        (refine wpAnyH_ready (rs := [14]) (by kernel_rfl) (by simp) ?_; refine AllReadyH.cons rfl (fun KK KH => ?_) AllReadyH.nil)
        go_simp
        (refine KH.out _ _ (by (try dsimp only); (repeat (first | (with_reducible assumption) | (with_reducible exact Below.refl _ _) | (with_reducible refine Below.setCell ?_ (by first | exact Nat.le_refl _ | (dsimp only; omega)) _) | (with_reducible refine Below.drew ?_) | (with_reducible refine below_then_alloc ?_) | (with_reducible refine below_then (by with_reducible assumption) ?_)))) (fun hHeld => ?_); clear KH KK; (try simp only [Act.put, List.setIfInBounds_toArray, List.set_cons_zero, List.set_cons_succ]))
        (refine wpAnyH_ready (rs := [15]) (by kernel_rfl) (by simp) ?_; refine AllReadyH.cons rfl (fun KK KH => ?_) AllReadyH.nil)
        go_simp
        (refine KH.out _ _ (by (try dsimp only); (repeat (first | (with_reducible assumption) | (with_reducible exact Below.refl _ _) | (with_reducible refine Below.setCell ?_ (by first | exact Nat.le_refl _ | (dsimp only; omega)) _) | (with_reducible refine Below.drew ?_) | (with_reducible refine below_then_alloc ?_) | (with_reducible refine below_then (by with_reducible assumption) ?_)))) (fun hHeld => ?_); clear KH KK; (try simp only [Act.put, List.setIfInBounds_toArray, List.set_cons_zero, List.set_cons_succ]))
        ((refine wpAnyH_ready (rs := [16]) (by kernel_rfl) (by simp) ?_; refine AllReadyH.cons rfl (fun KK KH => ?_) AllReadyH.nil); go_simp; (refine KH.out _ _ (by (try dsimp only); (repeat (first | (with_reducible assumption) | (with_reducible exact Below.refl _ _) | (with_reducible refine Below.setCell ?_ (by first | exact Nat.le_refl _ | (dsimp only; omega)) _) | (with_reducible refine Below.drew ?_) | (with_reducible refine below_then_alloc ?_) | (with_reducible refine below_then (by with_reducible assumption) ?_)))) (fun hHeld => ?_); clear KH KK; (try simp only [Act.put, List.setIfInBounds_toArray, List.set_cons_zero, List.set_cons_succ])); (refine wpAnyH_ready (rs := [17]) (by kernel_rfl) (by simp) ?_; refine AllReadyH.cons rfl (fun KK KH => ?_) AllReadyH.nil); go_simp; (refine KH.out _ _ (by (try dsimp only); (repeat (first | (with_reducible assumption) | (with_reducible exact Below.refl _ _) | (with_reducible refine Below.setCell ?_ (by first | exact Nat.le_refl _ | (dsimp only; omega)) _) | (with_reducible refine Below.drew ?_) | (with_reducible refine below_then_alloc ?_) | (with_reducible refine below_then (by with_reducible assumption) ?_)))) (fun hHeld => ?_); clear KH KK; (try simp only [Act.put, List.setIfInBounds_toArray, List.set_cons_zero, List.set_cons_succ])); refine wpAnyH_done (by kernel_rfl) ?_ _; refine NoPanic.normal ?_)
        go_wp2
        go_meet
        case rel => exact ⟨rfl, hHeld⟩
      · go_simp
        (refine KH.out _ _ (by (try dsimp only); (repeat (first | (with_reducible assumption) | (with_reducible exact Below.refl _ _) | (with_reducible refine Below.setCell ?_ (by first | exact Nat.le_refl _ | (dsimp only; omega)) _) | (with_reducible refine Below.drew ?_) | (with_reducible refine below_then_alloc ?_) | (with_reducible refine below_then (by with_reducible assumption) ?_)))) (fun hHeld => ?_); clear KH KK; (try simp only [Act.put, List.setIfInBounds_toArray, List.set_cons_zero, List.set_cons_succ]))
        (refine wpAnyH_ready (rs := [9]) (by kernel_rfl) (by simp) ?_; refine AllReadyH.cons rfl (fun KK KH => ?_) AllReadyH.nil)
        go_simp
        go_at_call 86
        refine (CK.out _ hHeld).mono ?_
        rintro e w2 ⟨rfl, hb2⟩
        (have M2 : Bk w2 w1.heap.size 146 #[.slice none 0 0, .slice none 0 0, .slice none 0 0, .int .i64 0, .slice none 0 0, .bool false] := (by first | exact Bk.keep (Bk.new w1 146 #[.slice none 0 0, .slice none 0 0, .slice none 0 0, .int .i64 0, .slice none 0 0, .bool false]).drew hb2 | exact Bk.keep (Bk.new w1.drew 146 #[.slice none 0 0, .slice none 0 0, .slice none 0 0, .int .i64 0, .slice none 0 0, .bool false]) hb2); obtain ⟨x0, x1, x2, x3, x4, x5⟩ := box6t M2; have y0 := M2.free 0; have y1 := M2.free 1; have y2 := M2.free 2; have y3 := M2.free 3; have y4 := M2.free 4; have y5 := M2.free 5)
        (refine KH.out _ _ (by (try dsimp only); (repeat (first | (with_reducible assumption) | (with_reducible exact Below.refl _ _) | (with_reducible refine Below.setCell ?_ (by first | exact Nat.le_refl _ | (dsimp only; omega)) _) | (with_reducible refine Below.drew ?_) | (with_reducible refine below_then_alloc ?_) | (with_reducible refine below_then (by with_reducible assumption) ?_)))) (fun hHeld => ?_); clear KH KK; (try simp only [Act.put, List.setIfInBounds_toArray, List.set_cons_zero, List.set_cons_succ]))
        (refine wpAnyH_take (i := 10) (v := ?_) rfl (by kernel_rfl) (by kernel_rfl) (by kernel_rfl) (fun _ _ _ h => h) (Or.inl ⟨by rfl, ?_⟩) (by assumption) ?_); rotate_left; (focus (intro w' hSw; (try dsimp only at hSw); go_simp; try (with_reducible rfl))); (try simp only [Act.put, List.setIfInBounds_toArray, List.set_cons_zero, List.set_cons_succ])
        (refine wpAnyH_take (i := 11) (v := ?_) rfl (by kernel_rfl) (by kernel_rfl) (by kernel_rfl) (fun _ _ _ h => h) (Or.inl ⟨by rfl, ?_⟩) (by assumption) ?_); rotate_left; (focus (intro w' hSw; (try dsimp only at hSw); go_simp; try (with_reducible rfl))); (try simp only [Act.put, List.setIfInBounds_toArray, List.set_cons_zero, List.set_cons_succ])
        (refine wpAnyH_take (i := 12) (v := ?_) rfl (by kernel_rfl) (by kernel_rfl) (by kernel_rfl) (fun _ _ _ h => h) (Or.inl ⟨by rfl, ?_⟩) (by assumption) ?_); rotate_left; (focus (intro w' hSw; (try dsimp only at hSw); go_simp; try (with_reducible rfl))); (try simp only [Act.put, List.setIfInBounds_toArray, List.set_cons_zero, List.set_cons_succ])
        (refine wpAnyH_take (i := 13) (v := ?_) rfl (by kernel_rfl) (by kernel_rfl) (by kernel_rfl) (fun _ _ _ h => h) (Or.inl ⟨by rfl, ?_⟩) (by assumption) ?_); rotate_left; (focus (intro w' hSw; (try dsimp only at hSw); go_simp; try (with_reducible rfl))); (try simp only [Act.put, List.setIfInBounds_toArray, List.set_cons_zero, List.set_cons_succ])
        (refine wpAnyH_ready (rs := [15]) (by kernel_rfl) (by simp) ?_; refine AllReadyH.cons rfl (fun KK KH => ?_) AllReadyH.nil)
        go_simp
        (refine KH.out _ _ (by (try dsimp only); (repeat (first | (with_reducible assumption) | (with_reducible exact Below.refl _ _) | (with_reducible refine Below.setCell ?_ (by first | exact Nat.le_refl _ | (dsimp only; omega)) _) | (with_reducible refine Below.drew ?_) | (with_reducible refine below_then_alloc ?_) | (with_reducible refine below_then (by with_reducible assumption) ?_)))) (fun hHeld => ?_); clear KH KK; (try simp only [Act.put, List.setIfInBounds_toArray, List.set_cons_zero, List.set_cons_succ]))
        ((refine wpAnyH_ready (rs := [16]) (by kernel_rfl) (by simp) ?_; refine AllReadyH.cons rfl (fun KK KH => ?_) AllReadyH.nil); go_simp; (refine KH.out _ _ (by (try dsimp only); (repeat (first | (with_reducible assumption) | (with_reducible exact Below.refl _ _) | (with_reducible refine Below.setCell ?_ (by first | exact Nat.le_refl _ | (dsimp only; omega)) _) | (with_reducible refine Below.drew ?_) | (with_reducible refine below_then_alloc ?_) | (with_reducible refine below_then (by with_reducible assumption) ?_)))) (fun hHeld => ?_); clear KH KK; (try simp only [Act.put, List.setIfInBounds_toArray, List.set_cons_zero, List.set_cons_succ])); (refine wpAnyH_ready (rs := [17]) (by kernel_rfl) (by simp) ?_; refine AllReadyH.cons rfl (fun KK KH => ?_) AllReadyH.nil); go_simp; (refine KH.out _ _ (by (try dsimp only); (repeat (first | (with_reducible assumption) | (with_reducible exact Below.refl _ _) | (with_reducible refine Below.setCell ?_ (by first | exact Nat.le_refl _ | (dsimp only; omega)) _) | (with_reducible refine Below.drew ?_) | (with_reducible refine below_then_alloc ?_) | (with_reducible refine below_then (by with_reducible assumption) ?_)))) (fun hHeld => ?_); clear KH KK; (try simp only [Act.put, List.setIfInBounds_toArray, List.set_cons_zero, List.set_cons_succ])); refine wpAnyH_done (by kernel_rfl) ?_ _; refine NoPanic.normal ?_)
        go_wp2
        go_meet
        case rel => exact ⟨rfl, hHeld⟩
    obtain ⟨rfl, hbc⟩ := hcut
    go_wp2
    go_ret2
    refine ⟨by rw [HR.out, errV, if_neg HE.out]; rfl, Lib.hid (fun _ => ?_), Lib.hid (.of_below (below_then hbc hb))⟩
    rw [HR.out]
    exact ⟨a, H.out.below hbc, .of_below (below_then hbc hb)⟩
  · have HR := Lib.hid hR; have HKK := Lib.hid hK
    have CK := Lib.hid (fun w' (hb : Below w1.heap.size w1 w') => cK a.A1 a.A2 a.c1 a.c2 w' (H.out.below hb).lp1 (H.out.below hb).lp2 H.out.z1 H.out.z2)
    clear hR cK hmet hK
    go_cut [6, 7, 8] (fun p g e wx => ∃ gm, p = .pointer (some ⟨gm, 0, none⟩) ∧ g = .int .i64 gone ∧ e = .nilIface ∧ Hid (CMet s K1 K2 w1 gm wx))
    case first =>
      refine wp_region_noPanic ?_
      refine wp_region_held_drew (S := fun w' => Below w1.heap.size w1 w') (by kernel_rfl) ((Below.refl _ _).drew) (fun hHeld => ?_)
      (refine wpAnyH_take (i := 0) (v := ?_) rfl (by kernel_rfl) (by kernel_rfl) (by kernel_rfl) (fun _ _ _ h => h) (Or.inl ⟨by rfl, ?_⟩) (by assumption) ?_); rotate_left; (focus (intro w' hSw; (try dsimp only at hSw); obtain ⟨q0, q1, q2, _⟩ := box7 (FSt.below H.out hSw).b; obtain ⟨o0, o1, o2, o3, o4, o5, o6, o7⟩ := obox (Bk.keep BO.out hSw); go_simp; try (with_reducible rfl))); (try simp only [Act.put, List.setIfInBounds_toArray, List.set_cons_zero, List.set_cons_succ])
      (refine wpAnyH_take (i := 1) (v := ?_) rfl (by kernel_rfl) (by kernel_rfl) (by kernel_rfl) (fun _ _ _ h => h) (Or.inl ⟨by rfl, ?_⟩) (by assumption) ?_); rotate_left; (focus (intro w' hSw; (try dsimp only at hSw); obtain ⟨q0, q1, q2, _⟩ := box7 (FSt.below H.out hSw).b; obtain ⟨o0, o1, o2, o3, o4, o5, o6, o7⟩ := obox (Bk.keep BO.out hSw); go_simp; try (with_reducible rfl))); (try simp only [Act.put, List.setIfInBounds_toArray, List.set_cons_zero, List.set_cons_succ])
      (refine wpAnyH_take (i := 2) (v := ?_) rfl (by kernel_rfl) (by kernel_rfl) (by kernel_rfl) (fun _ _ _ h => h) (Or.inl ⟨by rfl, ?_⟩) (by assumption) ?_); rotate_left; (focus (intro w' hSw; (try dsimp only at hSw); obtain ⟨q0, q1, q2, _⟩ := box7 (FSt.below H.out hSw).b; obtain ⟨o0, o1, o2, o3, o4, o5, o6, o7⟩ := obox (Bk.keep BO.out hSw); go_simp; try (with_reducible rfl))); (try simp only [Act.put, List.setIfInBounds_toArray, List.set_cons_zero, List.set_cons_succ])
      (refine wpAnyH_take (i := 3) (v := ?_) rfl (by kernel_rfl) (by kernel_rfl) (by kernel_rfl) (fun _ _ _ h => h) (Or.inl ⟨by rfl, ?_⟩) (by assumption) ?_); rotate_left; (focus (intro w' hSw; (try dsimp only at hSw); obtain ⟨q0, q1, q2, _⟩ := box7 (FSt.below H.out hSw).b; obtain ⟨o0, o1, o2, o3, o4, o5, o6, o7⟩ := obox (Bk.keep BO.out hSw); go_simp; try (with_reducible rfl))); (try simp only [Act.put, List.setIfInBounds_toArray, List.set_cons_zero, List.set_cons_succ])
      (refine wpAnyH_take (i := 4) (v := ?_) rfl (by kernel_rfl) (by kernel_rfl) (by kernel_rfl) (fun _ _ _ h => h) (Or.inl ⟨by rfl, ?_⟩) (by assumption) ?_); rotate_left; (focus (intro w' hSw; (try dsimp only at hSw); obtain ⟨q0, q1, q2, _⟩ := box7 (FSt.below H.out hSw).b; obtain ⟨o0, o1, o2, o3, o4, o5, o6, o7⟩ := obox (Bk.keep BO.out hSw); go_simp; try (with_reducible rfl))); (try simp only [Act.put, List.setIfInBounds_toArray, List.set_cons_zero, List.set_cons_succ])
      (refine wpAnyH_take (i := 5) (v := ?_) rfl (by kernel_rfl) (by kernel_rfl) (by kernel_rfl) (fun _ _ _ h => h) (Or.inl ⟨by rfl, ?_⟩) (by assumption) ?_); rotate_left; (focus (intro w' hSw; (try dsimp only at hSw); obtain ⟨q0, q1, q2, _⟩ := box7 (FSt.below H.out hSw).b; obtain ⟨o0, o1, o2, o3, o4, o5, o6, o7⟩ := obox (Bk.keep BO.out hSw); go_simp; try (with_reducible rfl))); (try simp only [Act.put, List.setIfInBounds_toArray, List.set_cons_zero, List.set_cons_succ])
      (refine wpAnyH_take (i := 6) (v := ?_) rfl (by kernel_rfl) (by kernel_rfl) (by kernel_rfl) (fun _ _ _ h => h) (Or.inl ⟨by rfl, ?_⟩) (by assumption) ?_); rotate_left; (focus (intro w' hSw; (try dsimp only at hSw); obtain ⟨q0, q1, q2, _⟩ := box7 (FSt.below H.out hSw).b; obtain ⟨o0, o1, o2, o3, o4, o5, o6, o7⟩ := obox (Bk.keep BO.out hSw); go_simp; try (with_reducible rfl))); (try simp only [Act.put, List.setIfInBounds_toArray, List.set_cons_zero, List.set_cons_succ])
      (refine wpAnyH_take (i := 7) (v := ?_) rfl (by kernel_rfl) (by kernel_rfl) (by kernel_rfl) (fun _ _ _ h => h) (Or.inl ⟨by rfl, ?_⟩) (by assumption) ?_); rotate_left; (focus (intro w' hSw; (try dsimp only at hSw); obtain ⟨q0, q1, q2, _⟩ := box7 (FSt.below H.out hSw).b; obtain ⟨o0, o1, o2, o3, o4, o5, o6, o7⟩ := obox (Bk.keep BO.out hSw); go_simp; try (with_reducible rfl))); (try simp only [Act.put, List.setIfInBounds_toArray, List.set_cons_zero, List.set_cons_succ])
      (refine wpAnyH_take (i := 8) (v := ?_) rfl (by kernel_rfl) (by kernel_rfl) (by kernel_rfl) (fun _ _ _ h => h) (Or.inl ⟨by rfl, ?_⟩) (by assumption) ?_); rotate_left; (focus (intro w' hSw; (try dsimp only at hSw); obtain ⟨q0, q1, q2, _⟩ := box7 (FSt.below H.out hSw).b; obtain ⟨o0, o1, o2, o3, o4, o5, o6, o7⟩ := obox (Bk.keep BO.out hSw); go_simp; try (with_reducible rfl))); (try simp only [Act.put, List.setIfInBounds_toArray, List.set_cons_zero, List.set_cons_succ])
      refine wpAnyH_ready (rs := [9, 14]) (by kernel_rfl) (by simp) ?_
      refine AllReadyH.cons rfl (fun KK KH => ?_) (AllReadyH.cons rfl (fun KK KH => ?_) AllReadyH.nil)
      · go_simp
        go_at_call 86
        refine (CK.out _ hHeld).mono ?_
        rintro e w2 ⟨B1, b1, B2, b2, AT, cT, AW, cW, rfl, HO, hb2⟩
        have HM := Lib.hid (sin_new HO.out.1 HO.out.2.1 HO.out.2.2.1 HO.out.2.2.2 (show Below w1.heap.size w1 w2 from (hHeld.trans (hb2.mono hHeld.size))) hHeld.size (le := s.left) (en := s.ends))
        (refine KH.out _ _ (by (try dsimp only); (repeat (first | (with_reducible assumption) | (with_reducible exact Below.refl _ _) | (with_reducible refine Below.setCell ?_ (by first | exact Nat.le_refl _ | (dsimp only; omega)) _) | (with_reducible refine Below.drew ?_) | (with_reducible refine below_then_alloc ?_) | (with_reducible refine below_then (by with_reducible assumption) ?_)))) (fun hHeld => ?_); clear KH KK; (try simp only [Act.put, List.setIfInBounds_toArray, List.set_cons_zero, List.set_cons_succ]))
        (refine wpAnyH_take (i := 10) (v := ?_) rfl (by kernel_rfl) (by kernel_rfl) (by kernel_rfl) (fun _ _ _ h => h) (Or.inl ⟨by rfl, ?_⟩) (by assumption) ?_); rotate_left; (focus (intro w' hSw; (try dsimp only at hSw); go_simp; try (with_reducible rfl))); (try simp only [Act.put, List.setIfInBounds_toArray, List.set_cons_zero, List.set_cons_succ])
        (refine wpAnyH_take (i := 11) (v := ?_) rfl (by kernel_rfl) (by kernel_rfl) (by kernel_rfl) (fun _ _ _ h => h) (Or.inl ⟨by rfl, ?_⟩) (by assumption) ?_); rotate_left; (focus (intro w' hSw; (try dsimp only at hSw); go_simp; try (with_reducible rfl))); (try simp only [Act.put, List.setIfInBounds_toArray, List.set_cons_zero, List.set_cons_succ])
        (refine wpAnyH_take (i := 12) (v := ?_) rfl (by kernel_rfl) (by kernel_rfl) (by kernel_rfl) (fun _ _ _ h => h) (Or.inl ⟨by rfl, ?_⟩) (by assumption) ?_); rotate_left; (focus (intro w' hSw; (try dsimp only at hSw); go_simp; try (with_reducible rfl))); (try simp only [Act.put, List.setIfInBounds_toArray, List.set_cons_zero, List.set_cons_succ])
        (refine wpAnyH_take (i := 13) (v := ?_) rfl (by kernel_rfl) (by kernel_rfl) (by kernel_rfl) (fun _ _ _ h => h) (Or.inl ⟨by rfl, ?_⟩) (by assumption) ?_); rotate_left; (focus (intro w' hSw; (try dsimp only at hSw); go_simp; try (with_reducible rfl))); (try simp only [Act.put, List.setIfInBounds_toArray, List.set_cons_zero, List.set_cons_succ])
        (refine wpAnyH_ready (rs := [14]) (by kernel_rfl) (by simp) ?_; refine AllReadyH.cons rfl (fun KK KH => ?_) AllReadyH.nil)
        go_simp
        (refine KH.out _ _ (by (try dsimp only); (repeat (first | (with_reducible assumption) | (with_reducible exact Below.refl _ _) | (with_reducible refine Below.setCell ?_ (by first | exact Nat.le_refl _ | (dsimp only; omega)) _) | (with_reducible refine Below.drew ?_) | (with_reducible refine below_then_alloc ?_) | (with_reducible refine below_then (by with_reducible assumption) ?_)))) (fun hHeld => ?_); clear KH KK; (try simp only [Act.put, List.setIfInBounds_toArray, List.set_cons_zero, List.set_cons_succ]))
        (refine wpAnyH_ready (rs := [15]) (by kernel_rfl) (by simp) ?_; refine AllReadyH.cons rfl (fun KK KH => ?_) AllReadyH.nil)
        go_simp
        (refine KH.out _ _ (by (try dsimp only); (repeat (first | (with_reducible assumption) | (with_reducible exact Below.refl _ _) | (with_reducible refine Below.setCell ?_ (by first | exact Nat.le_refl _ | (dsimp only; omega)) _) | (with_reducible refine Below.drew ?_) | (with_reducible refine below_then_alloc ?_) | (with_reducible refine below_then (by with_reducible assumption) ?_)))) (fun hHeld => ?_); clear KH KK; (try simp only [Act.put, List.setIfInBounds_toArray, List.set_cons_zero, List.set_cons_succ]))
        ((refine wpAnyH_ready (rs := [16]) (by kernel_rfl) (by simp) ?_; refine AllReadyH.cons rfl (fun KK KH => ?_) AllReadyH.nil); go_simp; (refine KH.out _ _ (by (try dsimp only); (repeat (first | (with_reducible assumption) | (with_reducible exact Below.refl _ _) | (with_reducible refine Below.setCell ?_ (by first | exact Nat.le_refl _ | (dsimp only; omega)) _) | (with_reducible refine Below.drew ?_) | (with_reducible refine below_then_alloc ?_) | (with_reducible refine below_then (by with_reducible assumption) ?_)))) (fun hHeld => ?_); clear KH KK; (try simp only [Act.put, List.setIfInBounds_toArray, List.set_cons_zero, List.set_cons_succ])); (refine wpAnyH_ready (rs := [17]) (by kernel_rfl) (by simp) ?_; refine AllReadyH.cons rfl (fun KK KH => ?_) AllReadyH.nil); go_simp; (refine KH.out _ _ (by (try dsimp only); (repeat (first | (with_reducible assumption) | (with_reducible exact Below.refl _ _) | (with_reducible refine Below.setCell ?_ (by first | exact Nat.le_refl _ | (dsimp only; omega)) _) | (with_reducible refine Below.drew ?_) | (with_reducible refine below_then_alloc ?_) | (with_reducible refine below_then (by with_reducible assumption) ?_)))) (fun hHeld => ?_); clear KH KK; (try simp only [Act.put, List.setIfInBounds_toArray, List.set_cons_zero, List.set_cons_succ])); refine wpAnyH_done (by kernel_rfl) ?_ _; refine NoPanic.normal ?_)
        go_wp2
        go_meet
        case rel => exact ⟨_, rfl, rfl, rfl, Lib.hid HM.out⟩
      · go_simp
        (refine KH.out _ _ (by (try dsimp only); (repeat (first | (with_reducible assumption) | (with_reducible exact Below.refl _ _) | (with_reducible refine Below.setCell ?_ (by first | exact Nat.le_refl _ | (dsimp only; omega)) _) | (with_reducible refine Below.drew ?_) | (with_reducible refine below_then_alloc ?_) | (with_reducible refine below_then (by with_reducible assumption) ?_)))) (fun hHeld => ?_); clear KH KK; (try simp only [Act.put, List.setIfInBounds_toArray, List.set_cons_zero, List.set_cons_succ]))
        (refine wpAnyH_ready (rs := [9]) (by kernel_rfl) (by simp) ?_; refine AllReadyH.cons rfl (fun KK KH => ?_) AllReadyH.nil)
        go_simp
        go_at_call 86
        refine (CK.out _ hHeld).mono ?_
        rintro e w2 ⟨B1, b1, B2, b2, AT, cT, AW, cW, rfl, HO, hb2⟩
        (have M2 : Bk w2 w1.heap.size 146 #[.slice none 0 0, .slice none 0 0, .slice none 0 0, .int .i64 0, .slice none 0 0, .bool false] := (by first | exact Bk.keep (Bk.new w1 146 #[.slice none 0 0, .slice none 0 0, .slice none 0 0, .int .i64 0, .slice none 0 0, .bool false]).drew hb2 | exact Bk.keep (Bk.new w1.drew 146 #[.slice none 0 0, .slice none 0 0, .slice none 0 0, .int .i64 0, .slice none 0 0, .bool false]) hb2); obtain ⟨x0, x1, x2, x3, x4, x5⟩ := box6t M2; have y0 := M2.free 0; have y1 := M2.free 1; have y2 := M2.free 2; have y3 := M2.free 3; have y4 := M2.free 4; have y5 := M2.free 5)
        have HM := Lib.hid (sin_old M2 HO.out.1 HO.out.2.1 HO.out.2.2.1 HO.out.2.2.2 (show Below w1.heap.size w1 w2 from (hHeld.trans (hb2.mono hHeld.size))) (by simp) (le := s.left) (en := s.ends))
        clear M2
        (refine KH.out _ _ (by (try dsimp only); (repeat (first | (with_reducible assumption) | (with_reducible exact Below.refl _ _) | (with_reducible refine Below.setCell ?_ (by first | exact Nat.le_refl _ | (dsimp only; omega)) _) | (with_reducible refine Below.drew ?_) | (with_reducible refine below_then_alloc ?_) | (with_reducible refine below_then (by with_reducible assumption) ?_)))) (fun hHeld => ?_); clear KH KK; (try simp only [Act.put, List.setIfInBounds_toArray, List.set_cons_zero, List.set_cons_succ]))
        (refine wpAnyH_take (i := 10) (v := ?_) rfl (by kernel_rfl) (by kernel_rfl) (by kernel_rfl) (fun _ _ _ h => h) (Or.inl ⟨by rfl, ?_⟩) (by assumption) ?_); rotate_left; (focus (intro w' hSw; (try dsimp only at hSw); go_simp; try (with_reducible rfl))); (try simp only [Act.put, List.setIfInBounds_toArray, List.set_cons_zero, List.set_cons_succ])
        (refine wpAnyH_take (i := 11) (v := ?_) rfl (by kernel_rfl) (by kernel_rfl) (by kernel_rfl) (fun _ _ _ h => h) (Or.inl ⟨by rfl, ?_⟩) (by assumption) ?_); rotate_left; (focus (intro w' hSw; (try dsimp only at hSw); go_simp; try (with_reducible rfl))); (try simp only [Act.put, List.setIfInBounds_toArray, List.set_cons_zero, List.set_cons_succ])
        (refine wpAnyH_take (i := 12) (v := ?_) rfl (by kernel_rfl) (by kernel_rfl) (by kernel_rfl) (fun _ _ _ h => h) (Or.inl ⟨by rfl, ?_⟩) (by assumption) ?_); rotate_left; (focus (intro w' hSw; (try dsimp only at hSw); go_simp; try (with_reducible rfl))); (try simp only [Act.put, List.setIfInBounds_toArray, List.set_cons_zero, List.set_cons_succ])
        (refine wpAnyH_take (i := 13) (v := ?_) rfl (by kernel_rfl) (by kernel_rfl) (by kernel_rfl) (fun _ _ _ h => h) (Or.inl ⟨by rfl, ?_⟩) (by assumption) ?_); rotate_left; (focus (intro w' hSw; (try dsimp only at hSw); go_simp; try (with_reducible rfl))); (try simp only [Act.put, List.setIfInBounds_toArray, List.set_cons_zero, List.set_cons_succ])
        (refine wpAnyH_ready (rs := [15]) (by kernel_rfl) (by simp) ?_; refine AllReadyH.cons rfl (fun KK KH => ?_) AllReadyH.nil)
        go_simp
        (refine KH.out _ _ (by (try dsimp only); (repeat (first | (with_reducible assumption) | (with_reducible exact Below.refl _ _) | (with_reducible refine Below.setCell ?_ (by first | exact Nat.le_refl _ | (dsimp only; omega)) _) | (with_reducible refine Below.drew ?_) | (with_reducible refine below_then_alloc ?_) | (with_reducible refine below_then (by with_reducible assumption) ?_)))) (fun hHeld => ?_); clear KH KK; (try simp only [Act.put, List.setIfInBounds_toArray, List.set_cons_zero, List.set_cons_succ]))
        ((refine wpAnyH_ready (rs := [16]) (by kernel_rfl) (by simp) ?_; refine AllReadyH.cons rfl (fun KK KH => ?_) AllReadyH.nil); go_simp; (refine KH.out _ _ (by (try dsimp only); (repeat (first | (with_reducible assumption) | (with_reducible exact Below.refl _ _) | (with_reducible refine Below.setCell ?_ (by first | exact Nat.le_refl _ | (dsimp only; omega)) _) | (with_reducible refine Below.drew ?_) | (with_reducible refine below_then_alloc ?_) | (with_reducible refine below_then (by with_reducible assumption) ?_)))) (fun hHeld => ?_); clear KH KK; (try simp only [Act.put, List.setIfInBounds_toArray, List.set_cons_zero, List.set_cons_succ])); (refine wpAnyH_ready (rs := [17]) (by kernel_rfl) (by simp) ?_; refine AllReadyH.cons rfl (fun KK KH => ?_) AllReadyH.nil); go_simp; (refine KH.out _ _ (by (try dsimp only); (repeat (first | (with_reducible assumption) | (with_reducible exact Below.refl _ _) | (with_reducible refine Below.setCell ?_ (by first | exact Nat.le_refl _ | (dsimp only; omega)) _) | (with_reducible refine Below.drew ?_) | (with_reducible refine below_then_alloc ?_) | (with_reducible refine below_then (by with_reducible assumption) ?_)))) (fun hHeld => ?_); clear KH KK; (try simp only [Act.put, List.setIfInBounds_toArray, List.set_cons_zero, List.set_cons_succ])); refine wpAnyH_done (by kernel_rfl) ?_ _; refine NoPanic.normal ?_)
        go_wp2
        go_meet
        case rel => exact ⟨_, rfl, rfl, rfl, Lib.hid HM.out⟩
    obtain ⟨gm, rfl, rfl, rfl, HM⟩ := hcut
    obtain ⟨w3, rfl⟩ : ∃ w3 : World, w3 = wc := ⟨_, rfl⟩
    obtain ⟨B1, b1, B2, b2, AT, cT, AW, cW, bm, hgm, hin, hb3⟩ := HM.out
    have bo3 := BO.out.keep hb3
    obtain ⟨o0, o1, o2, o3, o4, o5, o6, o7⟩ := obox bo3
    obtain ⟨m0, m1, m2, m3, m4, m5⟩ := box6t bm
    have F3 := Lib.hid (H.out.below hb3)
    have hq : ∀ k, a.R k → k < w1.heap.size := H.out.r_lt
    have I3 := Lib.hid (hin.on (P' := fun k => ¬ a.R k) ⟨Nat.le_refl _, fun k hp hk => ⟨rfl, fun e => by have := hq k e; have := hp.1; omega⟩⟩)
    have cS := settle_any t lo a o s.T s.W s.left gone s.ends K1 K2 B1 B2 AT AW b1 b2 cT cW w3 F3.out HS.out HBK.out HO.out (by have := hb3.size; omega) hl hT (by omega) hl0 hl1 hg0 hg1 I3.out
    unfold FOutE at cS
    have CS := Lib.hid cS
    clear HM bm hin bo3 hq cS CK
    generalize t.settle o s.T s.W s.left gone K1 K2 = r at *
    go_wp2_with (go_at_call 107; refine CS.out.mono ?_; rintro e w4 ⟨rfl, hE, hk4⟩)
    go_ret2
    refine ⟨by rw [HR.out]; rfl, Lib.hid (fun h => ?_), Lib.hid ?_⟩
    · rw [HR.out] at h ⊢
      obtain ⟨a', f, g⟩ := hE.out (h.elim (fun h => by cases h) id)
      exact ⟨a', f, (FTo.of_below (below_then hb3 hb)).trans g⟩
    · exact (Ks.of_below (Q := a.Q) (below_then hb3 hb)).trans hk4.out (fun _ h => .inl h)
end Go.Proofs.YtkdgpdijbobmkaaGreat
namespace Go.Proofs.YtkdgpdijbobmkaaGreat
set_option linter.all false
open Go Go.RowKit
/-- those that wait are others -/
theorem FSt.stopped {w w' : World} {lo : Nat} {a : FA} {t : FT} (h : FSt w lo a t) {A' : Option Addr} {c' : Nat} {l' : List Order} (st' : StM w' a.gt lo A' c' l') (kb : Kb [some a.gt, rowOf a.At a.ct] w w') (hrow : rowOf A' c' = rowOf a.At a.ct ∨ ∀ k, rowOf A' c' = some k → w.heap.size ≤ k) :
    FSt w' lo { a with At := A', ct := c' } { t with st := l' } ∧ FTo a w { a with At := A', ct := c' } w' := by
  have hks : Ks a.Q w w' := Ks.of_kb kb (fun k hk => by
    simp only [List.mem_cons, List.not_mem_nil, or_false] at hk
    rcases hk with e | e
    · cases e; exact .inl (.inr (.inl rfl))
    · exact .inl (.inr (.inr (.inr (.inl e.symm)))))
  have hq : ∀ k, FA.Q { a with At := A', ct := c' } k → a.Q k ∨ w.heap.size ≤ k := by
    rintro k (e | e | e | e | e)
    · exact .inl (.inl e)
    · exact .inl (.inr (.inl e))
    · exact .inl (.inr (.inr (.inl e)))
    · rcases hrow with r | r
      · exact .inl (.inr (.inr (.inr (.inl (r ▸ e)))))
      · exact .inr (r k e)
    · exact .inl (.inr (.inr (.inr (.inr e))))
  have hk := FA.kp (a' := { a with At := A', ct := c' }) hks hq rfl
  have hne : ∀ k, k < w.heap.size → rowOf a.At a.ct ≠ some k → rowOf A' c' ≠ some k := fun k hk hn e => by
    rcases hrow with r | r
    · exact hn (r ▸ e)
    · have := r k e; omega
  have nin : ∀ k, k ≠ a.gt → rowOf a.At a.ct ≠ some k → some k ∉ [some a.gt, rowOf a.At a.ct] := fun k h1 h2 hm => by
    simp only [List.mem_cons, List.not_mem_nil, or_false] at hm
    rcases hm with e | e
    · exact h1 (Option.some.inj e)
    · exact h2 e.symm
  refine ⟨⟨kb.bk h.b (nin _ h.st_ h.ts), st', ?_, kb.own h.ev ?_, h.los, h.lot, h.lop, h.st_, h.sp_, h.tp_, hne _ h.b.lt h.ts, hne _ h.ps.lt h.tp, h.es, h.et, h.ep, fun k e e' => ?_, h.bl.imp fun _ x => x.on hk, h.bm.imp fun _ x => x.on hk, h.z1, h.z2, fun k e => Nat.lt_of_lt_of_le (h.xl k e) hks.size⟩, rfl, rfl, rfl, hq, hks, rfl⟩
  · obtain ⟨cs, p1, p2, p3⟩ := h.ps
    refine ⟨cs, p1, ?_, p3⟩
    have hlt := h.ps.lt
    exact (kb.block a.gp hlt (nin _ (Ne.symm h.tp_) h.tp)).trans p2
  · cases hr : rowOf a.Ae a.ce with
    | none => exact .inl rfl
    | some k =>
      right
      exact nin k (fun e => h.et (e ▸ hr)) (h.er_ k hr)
  · rcases hrow with r | r
    · exact h.er_ k e (r ▸ e')
    · have := r k e'
      have := (h.ev.row_lt k e).2
      omega
theorem hold_same (t : FT) (o : Order) : (t.hold o).2.L = t.L ∧ (t.hold o).2.M = t.M ∧ (t.hold o).2.st = t.st := by unfold FT.hold; split <;> exact ⟨rfl, rfl, rfl⟩
/-- what holds of a floor between its parts -/
structure FOk (t : FT) : Prop where
  bk : BookOk t.L t.M
  pu : PInv t.S
  st : ∀ o ∈ t.st, o.err = 0
  few : t.st.length ≤ 20
theorem fend_bad {lo : Nat} {a : FA} {r : Int × FT} {E : Int} {t : FT} {w w' : World} (h : r = (E, t)) (h0 : E ≠ 0) (hk : Ks a.Q w w') : FOutE lo a r w (.returned (er E)) w' := settle_bad h h0 hk
set_option maxRecDepth 100000 in
set_option maxHeartbeats 8000000 in
theorem place_any (t : FT) (lo : Nat) (a : FA) (o : Order) (w : World) (h : FSt w lo a t) (hok : FOk t) (hlo : lo ≤ w.heap.size) (hl : t.ev.length ≤ 90000) :
    Calls Tryz.prog 71 #[.pointer (some ⟨a.gs, 0, none⟩), .agg #[.int .i64 o.id, .int .i64 o.who, .int .i64 o.side, .int .i64 o.kind, .int .i64 o.price, .int .i64 o.qty, .int .i64 o.show_, .int .i64 o.stop]] w (FOutE lo a (t.place o) w) := by
  have hb : Below w.heap.size w (w.alloc (.cells #[.int .i64 o.id, .int .i64 o.who, .int .i64 o.side, .int .i64 o.kind, .int .i64 o.price, .int .i64 o.qty, .int .i64 o.show_, .int .i64 o.stop] 31)) := below_then_alloc (Below.refl _ _)
  have H := Lib.hid (h.below hb); have HOK := Lib.hid hok
  have bo := Bk.new w 31 #[.int .i64 o.id, .int .i64 o.who, .int .i64 o.side, .int .i64 o.kind, .int .i64 o.price, .int .i64 o.qty, .int .i64 o.show_, .int .i64 o.stop]
  have HN := Lib.hid (show ¬ a.Q w.heap.size from fun e => by have := (h.q_lt _ e).2; omega)
  have hz := hb.size
  have cC := Lib.hid (fun w => check_any o w)
  clear h hok
  go_enter Tryz.func71, Tryz.ntmps71
  go_upto_region 1 with fail
  generalize w.alloc (.cells #[.int .i64 o.id, .int .i64 o.who, .int .i64 o.side, .int .i64 o.kind, .int .i64 o.price, .int .i64 o.qty, .int .i64 o.show_, .int .i64 o.stop] 31) = w1 at *
  obtain ⟨o0, o1, o2, o3, o4, o5, o6, o7⟩ := obox bo
  go_wp2_with fail
  go_at_call 53
  refine (cC.out _).mono ?_
  rintro e w2 ⟨rfl, hw2⟩
  have hb2 : Below w1.heap.size w1 w2 := by rw [hw2]; exact (Below.refl _ _).alloc (Nat.le_refl _) _
  replace bo := bo.keep hb2; replace hb := below_then hb2 hb
  have F2 := Lib.hid (H.out.below hb2)
  clear hw2 hb2 o0 o1 o2 o3 o4 o5 o6 o7 cC H
  by_cases ho : o.err = 0
  case neg => as_aux_lemma =>
    have HR := Lib.hid (show t.place o = (o.err, t) from if_pos ho)
    have HE := Lib.hid ho
    rw [show errV o.err = er o.err by rw [errV, if_neg ho]]
    clear ho bo
    generalize o.err = k at *
    go_wp2
    go_ret
    exact fend_bad HR.out HE.out (.of_below hb)
  have HO := Lib.hid ho
  rw [ho, show errV 0 = .nilIface from rfl]
  clear ho
  obtain ⟨o0, o1, o2, o3, o4, o5, o6, o7⟩ := obox bo
  obtain ⟨q0, q1, q2, q3, q4, q5, q6⟩ := box7 F2.out.b
  have OK1 := LvOk.of (sideE_iff.2 HOK.out.bk.buys); have OK2 := LvOk.of (sideE_iff.2 HOK.out.bk.sells)
  have Fd := Lib.hid (F2.out.below (Below.refl w2.heap.size w2).drew)
  have cW := Lib.hid (bwhere_any t.L t.M a.A1 a.A2 a.c1 a.c2 o.id w2.drew Fd.out.lp1 Fd.out.lp2 OK1 OK2)
  have BO := Lib.hid bo
  clear bo OK1 OK2 q0 q3 q4 q5 q6 o1 o2 o3 o4 o5 o6 o7
  go_upto_region 4 with fail
  go_cut [6] (fun s wx => s = .int .i64 (whereB t.L t.M o.id).1 ∧ Below w2.heap.size w2 wx)
  case first =>
    go_region_held3 (fun w' => w'.cell? ⟨a.gs, 1, none⟩ = some (.slice a.A1 t.L.length a.c1) ∧ w'.cell? ⟨a.gs, 2, none⟩ = some (.slice a.A2 t.M.length a.c2) ∧ w'.cell? ⟨w.heap.size, 0, none⟩ = some (.int .i64 o.id)) ((repeat' apply And.intro) <;> first | assumption | (exact cell_alloc_drew (by assumption) _) | (exact cell_alloc (by assumption) _) | (exact cell_drew (by assumption)) | (exact below_alloc_drew (by assumption) (Nat.le_refl _) _) | (exact below_alloc (by assumption) (Nat.le_refl _) _) | (exact Below.drew (by assumption))) ((go_at_call 93; (with_reducible refine cW.out.mono ?_); rintro e w3 ⟨rfl, hb3⟩; have F3 := FSt.below Fd.out hb3; have B3 := Bk.keep BO.out.drew hb3; obtain ⟨p0, p1, p2, _⟩ := box7 F3.b; obtain ⟨k0, k1, k2, k3, k4, k5, k6, k7⟩ := obox B3))
    go_wp2
    go_meet
    case rel => exact ⟨rfl, (Below.refl _ _).drew.trans hb3⟩
  obtain ⟨rfl, hb3⟩ := hcut
  obtain ⟨w3, rfl⟩ : ∃ w3 : World, w3 = wc := ⟨_, rfl⟩
  have F3 := Lib.hid (F2.out.below hb3)
  have B3 := Lib.hid (BO.out.keep hb3)
  replace hb := below_then hb3 hb
  clear hb3 cW q1 q2 o0 Fd F2 BO
  obtain ⟨s, hs⟩ : ∃ s, s = (whereB t.L t.M o.id).1 := ⟨_, rfl⟩
  have HSS := Lib.hid hs
  rw [← hs]
  clear hs
  obtain ⟨q0, q1, q2, q3, q4, q5, q6⟩ := box7 F3.out.b
  obtain ⟨o0, o1, o2, o3, o4, o5, o6, o7⟩ := obox B3.out
  obtain ⟨d, hd⟩ : ∃ d, d = decide (s ≠ 0 ∨ 0 ≤ whereI t.st o.id) := ⟨_, rfl⟩
  have HD := Lib.hid hd
  have Fd := Lib.hid (F3.out.below (Below.refl w3.heap.size w3).drew)
  have hfew := HOK.out.few
  have cS := Lib.hid (wwhere_any t.st a.gt lo a.At a.ct o.id w3.drew Fd.out.st (by omega))
  clear hd q0 q1 q2 q4 q5 q6 o1 o2 o3 o4 o5 o6 o7 hfew
  go_upto_region 5 with fail
  go_cut [40] (fun v wx => v = .bool d ∧ Below w3.heap.size w3 wx)
  case first =>
    by_cases h0 : s = 0
    · have e1 : (s != 0) = false := by simpa using h0
      have e2 : (s == 0) = true := by simpa using h0
      have HD2 := Lib.hid (show d = decide (0 ≤ whereI t.st o.id) by rw [HD.out]; simp [h0])
      clear h0
      go_region_held3 (fun w' => w'.cell? ⟨a.gs, 3, none⟩ = some (.pointer (some ⟨a.gt, 0, none⟩)) ∧ w'.cell? ⟨w.heap.size, 0, none⟩ = some (.int .i64 o.id)) ((repeat' apply And.intro) <;> first | assumption | (exact cell_alloc_drew (by assumption) _) | (exact cell_alloc (by assumption) _) | (exact cell_drew (by assumption)) | (exact below_alloc_drew (by assumption) (Nat.le_refl _) _) | (exact below_alloc (by assumption) (Nat.le_refl _) _) | (exact Below.drew (by assumption))) ((go_at_call 94; (with_reducible refine cS.out.mono ?_); rintro e w4 ⟨rfl, hb4⟩; have F4 := FSt.below Fd.out hb4; have B4 := Bk.keep B3.out.drew hb4; obtain ⟨p0, p1, p2, p3, _⟩ := box7 F4.b; obtain ⟨k0, k1, k2, k3, k4, k5, k6, k7⟩ := obox B4))
      go_wp2
      go_meet
      case rel => exact ⟨by rw [HD2.out], (Below.refl _ _).drew.trans hb4⟩
    · have e1 : (s != 0) = true := by simpa using h0
      have e2 : (s == 0) = false := by simpa using h0
      have HD2 := Lib.hid (show d = true by rw [HD.out]; simp [h0])
      clear h0
      go_quiet (fail)
      go_wp2
      go_meet
      case rel => exact ⟨by rw [HD2.out], below_drewN (Below.refl _ _) _⟩
  obtain ⟨rfl, hb4⟩ := hcut
  obtain ⟨w4, rfl⟩ : ∃ w4 : World, w4 = wc := ⟨_, rfl⟩
  have F4 := Lib.hid (F3.out.below hb4)
  have B4 := Lib.hid (B3.out.keep hb4)
  replace hb := below_then hb4 hb
  clear hb4 cS q3 o0 Fd F3 B3
  cases d with
  | true => as_aux_lemma =>
    have HR := Lib.hid (show t.place o = (7, t) by
      have := of_decide_eq_true HD.out.symm
      rw [HSS.out] at this
      rw [FT.place, if_neg (by simp [HO.out]), if_pos this])
    go_wp2
    go_ret
    exact fend_bad HR.out (by decide) (.of_below hb)
  | false =>
    have HR1 := Lib.hid (show t.place o = if (t.hold o).1 ≠ 0 then ((t.hold o).1, t) else if o.stop = 0 then (((t.hold o).2.come o).2.1, ((t.hold o).2.come o).2.2) else if waitE t.st o ≠ 0 then (waitE t.st o, t) else (0, { (t.hold o).2 with st := waitL t.st o }.tell 5 o.id o.qty o.stop) by
      have := of_decide_eq_false HD.out.symm
      rw [HSS.out] at this
      rw [FT.place, if_neg (by simp [HO.out]), if_neg this])
    have cH := fhold_any t lo a o w4 F4.out HOK.out.pu.1
    have hz4 := hb.size
    have HB4 := Lib.hid hb
    have hP := hold_inv HOK.out.pu o
    have hV := hold_ev t o
    have hS := hold_same t o
    obtain ⟨o0, o1, o2, o3, o4, o5, o6, o7⟩ := obox B4.out
    unfold FOut at cH
    clear HSS HD hb
    by_cases hh : (t.hold o).1 = 0
    case neg => as_aux_lemma =>
      have HR := Lib.hid (show t.place o = ((t.hold o).1, t) by rw [HR1.out, if_pos hh])
      rw [show errV (t.hold o).1 = er (t.hold o).1 by rw [errV, if_neg hh]] at cH
      have HNZ := Lib.hid hh
      have CH := Lib.hid cH
      clear hh cH HR1 hP hV hS
      generalize (t.hold o).1 = E at *
      go_wp2_with (go_at_call 95; refine CH.out.mono ?_; rintro e w5 ⟨rfl, HE⟩)
      go_ret
      obtain ⟨a5, hF5, hT5⟩ := HE.out
      exact fend_bad HR.out HNZ.out ((FTo.of_below HB4.out).trans hT5).ks
    case pos =>
    have HR2 := Lib.hid (show t.place o = if o.stop = 0 then (((t.hold o).2.come o).2.1, ((t.hold o).2.come o).2.2) else if waitE t.st o ≠ 0 then (waitE t.st o, t) else (0, { (t.hold o).2 with st := waitL t.st o }.tell 5 o.id o.qty o.stop) by rw [HR1.out, if_neg (by simpa using hh)])
    rw [hh, show errV 0 = .nilIface from rfl] at cH
    have HP := Lib.hid hP; have HV := Lib.hid hV; have HS := Lib.hid hS; have CH := Lib.hid cH
    clear hh cH HR1 hP hV hS
    generalize (t.hold o).2 = t1 at *
    go_upto_region 10 with (go_at_call 95; refine CH.out.mono ?_; rintro e w5 ⟨rfl, HE⟩)
    obtain ⟨a5, hF5, hT5⟩ := HE.out
    have F5 := Lib.hid hF5; have T5 := Lib.hid ((FTo.of_below HB4.out).trans hT5)
    have HG5 := Lib.hid hT5.gs
    have B5 := Lib.hid (hT5.bk B4.out (fun e => HN.out e))
    have HN5 := Lib.hid (show ¬ a5.Q w.heap.size from fun e => (hT5.q _ e).elim HN.out (fun h => by have := B4.out.lt; omega))
    clear o0 o1 o2 o3 o4 o5 o6 o7 CH HE hF5 hT5
    obtain ⟨o0, o1, o2, o3, o4, o5, o6, o7⟩ := obox B5.out
    by_cases h0 : o.stop = 0
    · have HR := Lib.hid (show t.place o = ((t1.come o).2.1, (t1.come o).2.2) by rw [HR2.out, if_pos h0])
      have e0 : (o.stop == 0) = true := by simpa using h0
      have cC := come_any t1 lo a5 o w5 F5.out HP.out (by rw [HS.out.1, HS.out.2.1]; exact HOK.out.bk) HO.out (by have := T5.out.ks.size; omega) (by rw [HV.out]; exact hl)
      rw [HG5.out] at cC
      unfold FOutC at cC
      have CC := Lib.hid cC
      clear cC h0
      generalize t1.come o = r at *
      go_wp2_with (go_at_call 76; refine CC.out.mono ?_; rintro e w6 ⟨rfl, HE, HK⟩)
      go_ret
      refine ⟨by rw [HR.out]; rfl, Lib.hid (fun h => ?_), Lib.hid (T5.out.ks.trans HK.out T5.out.q)⟩
      rw [HR.out] at h ⊢
      obtain ⟨a', f, g⟩ := HE.out (.inr h)
      exact ⟨a', f, T5.out.trans g⟩
    · have HR3 := Lib.hid (show t.place o = if waitE t.st o ≠ 0 then (waitE t.st o, t) else (0, { t1 with st := waitL t.st o }.tell 5 o.id o.qty o.stop) by rw [HR2.out, if_neg h0])
      have e0 : (o.stop == 0) = false := by simpa using h0
      have Fd := Lib.hid (F5.out.below (Below.refl w5.heap.size w5).drew)
      have Td := Lib.hid (T5.out.below (Below.refl w5.heap.size w5).drew)
      have hst := Fd.out.st
      have hlo5 : lo ≤ w5.heap.size := by have := T5.out.ks.size; omega
      have cP := wput_any t1.st o a5.gt lo a5.At a5.ct w5.drew hst (by have := HOK.out.few; rw [HS.out.2.2]; omega) hlo5 (.inr Fd.out.lot)
      rw [HS.out.2.2] at cP
      unfold PutS at cP
      obtain ⟨q0, q1, q2, q3, q4, q5, q6⟩ := box7 F5.out.b
      rw [HG5.out] at q3
      have CP := Lib.hid cP
      clear cP h0 hst q0 q1 q2 q4 q5 q6 HR2
      go_upto_region 13 with fail
      clear e0
      go_still_tail 5, (by kernel_rfl)
      change wpList _ _ _ _ _ w5.drew
      have HQ := Lib.hid q3
      clear o0 o1 o2 o3 o4 o5 o6 o7 q3 HQ
      by_cases hw : waitE t.st o = 0
      case neg => as_aux_lemma =>
        have HR := Lib.hid (show t.place o = (waitE t.st o, t) by rw [HR3.out, if_pos hw])
        have CQ := CP.out
        rw [show errV (waitE t.st o) = er (waitE t.st o) by rw [errV, if_neg hw]] at CQ
        have HNZ := Lib.hid hw
        have CP2 := Lib.hid CQ
        clear hw CQ CP HR3
        generalize waitE t.st o = E at *
        go_wp2_with (go_at_call 96; refine CP2.out.mono ?_; rintro e w6 ⟨rfl, A6, c6, st6, kb6, hrow⟩)
        go_ret
        have hx := Fd.out.stopped st6.out kb6.out hrow
        exact fend_bad HR.out HNZ.out (Td.out.trans hx.2).ks
      case pos =>
      have HR := Lib.hid (show t.place o = (0, { t1 with st := waitL t.st o }.tell 5 o.id o.qty o.stop) by rw [HR3.out, if_neg (by simpa using hw)])
      have CQ := CP.out
      rw [hw, show errV 0 = .nilIface from rfl] at CQ
      have CP2 := Lib.hid CQ
      clear hw CQ CP HR3
      go_upto_region 16 with (go_at_call 96; refine CP2.out.mono ?_; rintro e w6 ⟨rfl, A6, c6, st6, kb6, hrow⟩)
      obtain ⟨a6, hF6, hT6, hG6⟩ : ∃ a6, FSt w6 lo a6 { t1 with st := waitL t.st o } ∧ FTo a5 w5.drew a6 w6 ∧ a6.gs = a.gs := by
        have hx := Fd.out.stopped st6.out kb6.out hrow
        exact ⟨_, hx.1, hx.2, HG5.out⟩
      have F6 := Lib.hid hF6; have T6 := Lib.hid (Td.out.trans hT6)
      have B6 := hT6.bk B5.out.drew (fun e => HN5.out e)
      have HG6 := Lib.hid hG6
      have cT := tell_any { t1 with st := waitL t.st o } lo a6 5 o.id o.qty o.stop w6 F6.out (by show t1.ev.length ≤ _; rw [HV.out]; omega) (by have := T6.out.ks.size; omega)
      rw [HG6.out] at cT
      have CT := Lib.hid cT
      obtain ⟨o0, o1, o2, o3, o4, o5, o6, o7⟩ := obox B6
      clear cT hF6 hT6 hG6 B6 CP2 hrow st6 kb6 o1 o2 o3 o4 o6
      go_wp2_with (go_at_call 75; refine CT.out.mono ?_; rintro e w7 ⟨rfl, HE⟩)
      go_ret
      obtain ⟨a7, hF7, hT7⟩ := HE.out
      exact ⟨by rw [HR.out]; rfl, Lib.hid (fun _ => by rw [HR.out]; exact ⟨a7, hF7, T6.out.trans hT7⟩), Lib.hid (T6.out.trans hT7).ks⟩
end Go.Proofs.YtkdgpdijbobmkaaGreat
namespace Go.Proofs.YtkdgpdijbobmkaaGreat
set_option linter.all false
open Go Go.RowKit
theorem OwnLv.z0 {w : World} {base c : Nat} {A : Option Addr} {K : List Lv} {v : List (Option Addr × Nat)} (o : OwnLv w base A c K v) (e : A = none) : c = 0 := by
  rcases Nat.eq_zero_or_pos c with h | h
  · exact h
  · obtain ⟨g, off, e', _⟩ := o.own.lies h; rw [e] at e'; cases e'
set_option maxRecDepth 100000 in
set_option maxHeartbeats 8000000 in
theorem cancel_any (t : FT) (lo : Nat) (a : FA) (id : Int) (w : World) (h : FSt w lo a t) (hok : FOk t) (hlo : lo ≤ w.heap.size) (hl : t.ev.length ≤ 90000) :
    Calls Tryz.prog 72 #[.pointer (some ⟨a.gs, 0, none⟩), .int .i64 id] w (FOutE lo a (t.cancel id) w) := by
  have H := Lib.hid h; have HOK := Lib.hid hok
  have OK1 := LvOk.of (sideE_iff.2 hok.bk.buys); have OK2 := LvOk.of (sideE_iff.2 hok.bk.sells)
  have cW := bwhere_any t.L t.M a.A1 a.A2 a.c1 a.c2 id w h.lp1 h.lp2 OK1 OK2
  obtain ⟨q0, q1, q2, q3, q4, q5, q6⟩ := box7 h.b
  clear h hok OK1 OK2 q0 q4 q5 q6
  by_cases hw : (whereB t.L t.M id).1 = 0
  · --<stops
    have HR1 := Lib.hid (show t.cancel id = if goneE t.st id ≠ 0 then (goneE t.st id, t) else ({ t with st := goneL t.st id }.tell 3 id (goneO t.st id).qty (goneO t.st id).price).unhold (goneO t.st id) by rw [FT.cancel, findB_none hw])
    rw [hw] at cW
    have CW := Lib.hid cW
    clear cW hw
    generalize (whereB t.L t.M id).2.1 = y1 at *
    generalize (whereB t.L t.M id).2.2 = y2 at *
    go_enter Tryz.func72, Tryz.ntmps72
    go_upto_region 3 with (go_at_call 93; refine CW.out.mono ?_; rintro e w1 ⟨rfl, hb1⟩)
    have F1 := Lib.hid (H.out.below hb1); have T1 := Lib.hid (FTo.of_below (a := a) hb1)
    clear q1 q2 q3 CW hb1
    obtain ⟨q0, q1, q2, q3, q4, q5, q6⟩ := box7 F1.out.b
    have cD := wdrop_any t.st id a.gt lo a.At a.ct w1 F1.out.st (by have := HOK.out.few; omega) (by have := T1.out.ks.size; omega)
    unfold DropS at cD
    clear q0 q1 q2 q4 q5 q6
    by_cases he : goneE t.st id = 0
    case neg => as_aux_lemma =>
      have HR := Lib.hid (show t.cancel id = (goneE t.st id, t) by rw [HR1.out, if_pos he])
      rw [show errV (goneE t.st id) = er (goneE t.st id) by rw [errV, if_neg he]] at cD
      have HNZ := Lib.hid he
      have CD := Lib.hid cD
      clear he cD HR1
      generalize goneE t.st id = E at *
      generalize goneO t.st id = o at *
      go_wp2_with (go_at_call 97; refine CD.out.mono ?_; rintro e w2 ⟨rfl, st2, kb2⟩)
      go_ret
      have hx := F1.out.stopped st2.out kb2.out (.inl rfl)
      exact fend_bad HR.out HNZ.out ((T1.out.trans hx.2).below (below_then_alloc (Below.refl _ _))).ks
    case pos =>
    have HR := Lib.hid (show t.cancel id = ({ t with st := goneL t.st id }.tell 3 id (goneO t.st id).qty (goneO t.st id).price).unhold (goneO t.st id) by rw [HR1.out, if_neg (by simpa using he)])
    rw [he, show errV 0 = .nilIface from rfl] at cD
    have CD := Lib.hid cD
    clear he cD HR1
    generalize goneO t.st id = o at *
    go_upto_region 6 with (go_at_call 97; refine CD.out.mono ?_; rintro e w2 ⟨rfl, st2, kb2⟩)
    obtain ⟨hF2, hT2⟩ : FSt w2 lo a { t with st := goneL t.st id } ∧ FTo a w1 a w2 := F1.out.stopped st2.out kb2.out (.inl rfl)
    have hb3 : Below w2.heap.size w2 (w2.alloc (.cells #[.int .i64 o.id, .int .i64 o.who, .int .i64 o.side, .int .i64 o.kind, .int .i64 o.price, .int .i64 o.qty, .int .i64 o.show_, .int .i64 o.stop] 31)) := below_then_alloc (Below.refl _ _)
    have F3 := Lib.hid (hF2.below hb3); have T3 := Lib.hid ((T1.out.trans hT2).below hb3)
    have B3 := Bk.new w2 31 #[.int .i64 o.id, .int .i64 o.who, .int .i64 o.side, .int .i64 o.kind, .int .i64 o.price, .int .i64 o.qty, .int .i64 o.show_, .int .i64 o.stop]
    have HN3 := Lib.hid (show ¬ a.Q w2.heap.size from fun e => by have := (hF2.q_lt _ e).2; omega)
    clear hF2 hT2 hb3 st2 kb2 q3 CD
    generalize w2.alloc (.cells #[.int .i64 o.id, .int .i64 o.who, .int .i64 o.side, .int .i64 o.kind, .int .i64 o.price, .int .i64 o.qty, .int .i64 o.show_, .int .i64 o.stop] 31) = w3 at *
    generalize w2.heap.size = g3 at *
    have BO := Lib.hid B3
    obtain ⟨o0, o1, o2, o3, o4, o5, o6, o7⟩ := obox B3
    have cT := tell_any { t with st := goneL t.st id } lo a 3 id o.qty o.price w3 F3.out (by show t.ev.length ≤ _; omega) (by have := T3.out.ks.size; omega)
    have CT := Lib.hid cT
    clear cT o0 o1 o2 o3 o6 o7 B3
    go_upto_region 7 with (go_at_call 75; refine CT.out.mono ?_; rintro e w4 ⟨rfl, HE⟩)
    obtain ⟨a4, hF4, hT4⟩ := HE.out
    have B4 := hT4.bk BO.out (fun e => HN3.out e)
    have T4 := Lib.hid (T3.out.trans hT4)
    have HG4 := Lib.hid hT4.gs
    have cU := funhold_any ({ t with st := goneL t.st id }.tell 3 id o.qty o.price) lo a4 o w4 hF4 HOK.out.pu.1
    rw [HG4.out] at cU
    unfold FOut at cU
    have CU := Lib.hid cU
    clear cU hF4 hT4 HE CT o4 o5
    obtain ⟨o0, o1, o2, o3, o4, o5, o6, o7⟩ := obox B4
    clear B4
    generalize ({ t with st := goneL t.st id }.tell 3 id o.qty o.price).unhold o = r at *
    go_wp2_with (go_at_call 77; refine CU.out.mono ?_; rintro e w5 ⟨rfl, HE⟩)
    go_ret
    obtain ⟨a5, hF5, hT5⟩ := HE.out
    exact ⟨by rw [HR.out]; rfl, Lib.hid (fun _ => by rw [HR.out]; exact ⟨a5, hF5, T4.out.trans hT5⟩), Lib.hid (T4.out.trans hT5).ks⟩
    -->stops
  · --<book
    obtain ⟨s, i, k, x, r, hat⟩ := whereB_at hw
    have hs0 : s ≠ 0 := by rw [hat.where_] at hw; exact hw
    rw [hat.where_] at cW
    have hsE : (s == 0) = false := by simpa using hs0
    have HR := Lib.hid (show t.cancel id = if (wentF t.L t.M [id] t).1 ≠ 0 then ((wentF t.L t.M [id] t).1, t) else (0, { (wentF t.L t.M [id] t).2 with L := cutL s i k t.L, M := cutM s i k t.M }) by rw [FT.cancel, findB_at hat hs0])
    have CW := Lib.hid cW
    have HAT := Lib.hid hat
    clear cW hw hs0 hat
    go_enter Tryz.func72, Tryz.ntmps72
    go_upto_region 8 with (go_at_call 93; refine CW.out.mono ?_; rintro e w1 ⟨rfl, hb1⟩)
    have F1 := Lib.hid (H.out.below hb1); have T1 := Lib.hid (FTo.of_below (a := a) hb1)
    clear q1 q2 q3 CW hb1
    obtain ⟨q0, q1, q2, q3, q4, q5, q6⟩ := box7 F1.out.b
    clear q0 q3 q4 q5 q6
    have hb2 : Below w1.heap.size w1 (w1.alloc (.cells #[.int .i64 id] 3)) := below_then_alloc (Below.refl _ _)
    have F2 := Lib.hid (F1.out.below hb2); have T2 := Lib.hid (T1.out.below hb2)
    have B2 := Bk.new w1 3 #[.int .i64 id]
    have HN2 := Lib.hid (show ¬ a.R w1.heap.size from fun e => by have := F1.out.r_lt _ e; omega)
    have cN := went_any t.L t.M HOK.out.bk [id] a.A1 a.A2 (some ⟨w1.heap.size, 0, none⟩) a.c1 a.c2 1 t lo a _ F2.out HOK.out.pu (by have := T2.out.ks.size; omega) (by simp; omega) F2.out.bl F2.out.bm (fun _ => ⟨_, 0, rfl, HN2.out, B2.lt, fun j hj => by
      obtain rfl : j = 0 := by simp at hj; omega
      exact B2.cell 0⟩)
    unfold FOutE at cN
    clear hb2 B2
    by_cases he : (wentF t.L t.M [id] t).1 = 0
    case neg => as_aux_lemma =>
      have HR2 := Lib.hid (show t.cancel id = ((wentF t.L t.M [id] t).1, t) by rw [HR.out, if_pos he])
      rw [show errV (wentF t.L t.M [id] t).1 = er (wentF t.L t.M [id] t).1 by rw [errV, if_neg he]] at cN
      have HNZ := Lib.hid he
      have CN := Lib.hid cN
      clear he cN HR
      generalize (wentF t.L t.M [id] t).1 = E at *
      go_wp2_with (go_at_call 98; refine CN.out.mono ?_; rintro e w3 ⟨rfl, HE, HK⟩)
      go_ret
      exact fend_bad HR2.out HNZ.out (T2.out.ks.trans HK.out T2.out.q)
    case pos =>
    have HR2 := Lib.hid (show t.cancel id = (0, { (wentF t.L t.M [id] t).2 with L := cutL s i k t.L, M := cutM s i k t.M }) by rw [HR.out, if_neg (by simpa using he)])
    rw [he, show errV 0 = .nilIface from rfl] at cN
    have HE0 := Lib.hid he
    have CN := Lib.hid cN
    have HWS := Lib.hid (went_same t.L t.M [id] t)
    clear he cN HR
    generalize (wentF t.L t.M [id] t).2 = t3 at *
    go_upto_region 11 with (go_at_call 98; refine CN.out.mono ?_; rintro e w3 ⟨rfl, HE, HK⟩)
    clear q1 q2
    obtain ⟨a3, hF3, hT3⟩ := HE.out (by first | trivial | rfl | exact HE0.out)
    have F3 := Lib.hid hF3; have T3 := Lib.hid (T2.out.trans hT3)
    have HG3 := Lib.hid hT3.gs
    obtain ⟨q0, q1, q2, q3, q4, q5, q6⟩ := box7 F3.out.b
    rw [HG3.out] at q1 q2
    have hL := HWS.out.1; have hM := HWS.out.2.1
    have hbk : BookOk t3.L t3.M := by rw [hL, hM]; exact HOK.out.bk
    have OK1 := LvOk.of (sideE_iff.2 hbk.buys); have OK2 := LvOk.of (sideE_iff.2 hbk.sells)
    have cO := bown2_any t3.L t3.M a3.A1 a3.A2 a3.c1 a3.c2 w3 F3.out.lp1 F3.out.lp2 OK1 OK2 F3.out.z1 F3.out.z2
    unfold BOwn2Post at cO
    have CO := Lib.hid cO
    have hat := HAT.out
    have hx := hat.at_.lv
    have hk := (List.getElem?_eq_some_iff.1 hat.at_.rest).1
    have hx60 : x.rs.length ≤ 60 := by
      have hm := List.mem_of_getElem? hx
      rcases side_two hat.side with rfl | rfl
      · exact Nat.le_trans (len_cnt hm) HOK.out.bk.buys.few
      · exact Nat.le_trans (len_cnt hm) HOK.out.bk.sells.few
    have hl1 : t3.L.length ≤ 1000 := by have := full_len hbk.buys.full; have := hbk.buys.few; omega
    have hl2 : t3.M.length ≤ 1000 := by have := full_len hbk.sells.full; have := hbk.sells.few; omega
    have cC := Lib.hid (fun (B1 B2 : Option Addr) (d1 d2 : Nat) (v1 v2 : List (Option Addr × Nat)) (base : Nat) (w' : World) o1 o2 hf hb => cutb_any s hat.side t3.L t3.M B1 B2 d1 d2 v1 v2 base i k x w' o1 o2 hf hb (by rw [hL, hM]; exact hx) hk ⟨hl1, hl2⟩ (by omega))
    have HLM := Lib.hid (show t3.L = t.L ∧ t3.M = t.M from ⟨hL, hM⟩)
    clear cO OK1 OK2 hbk hL hM hat hx hk hx60 hl1 hl2 q0 q3 q4 q5 q6 HE HK hF3 hT3 CN HN2
    go_wp2_with (first | (go_at_call 45; refine CO.out.mono ?_; rintro e w4 ⟨B1, b1, v1, B2, b2, v2, rfl, o1, o2, hb4, hf⟩; have O1 := Lib.hid o1; have O2 := Lib.hid o2; have HF := Lib.hid hf; clear o1 o2 hf) | (go_at_call 99; refine (cC.out B1 B2 b1 b2 v1 v2 w3.heap.size w4 O1.out O2.out HF.out hb4.size).mono ?_; rintro e w5 ⟨C1, d1, u1, C2, d2, u2, rfl, p1, p2, hb5⟩; have P1 := Lib.hid p1; have P2 := Lib.hid p2; have F5 := Lib.hid (F3.out.below (hb4.trans hb5)); have T5 := Lib.hid (T3.out.below (hb4.trans hb5)); have z1 := F5.out.b.free 1; have z2 := F5.out.b.free 2; obtain ⟨k0, k1, k2, k3, k4, k5, k6⟩ := box7 F5.out.b; (rw [HG3.out] at z1 z2 k1 k2); clear p1 p2 k0 k3 k4 k5 k6))
    go_ret
    have z3 := hb4.size
    have hq : ∀ j, a3.R j → j < w3.heap.size := F3.out.r_lt
    have lp : ∀ {A : Option Addr} {c : Nat} {K : List Lv} {v : List (Option Addr × Nat)}, OwnLv w5 w3.heap.size A c K v → ∃ xs, LP (fun j => ¬ a3.R j) w5 A K xs := fun o => o.lpB.imp fun _ y => y.on ⟨Nat.le_refl _, fun j hp hj => ⟨rfl, fun e => by have := hq j e; omega⟩⟩
    have hx := F5.out.booked (lp P1.out) (lp P2.out) P1.out.z0 P2.out.z0
    rw [HG3.out] at hx
    refine ⟨by rw [HR2.out]; rfl, Lib.hid (fun _ => ?_), Lib.hid (T5.out.trans hx.2).ks⟩
    rw [HR2.out]
    have e1 : cutL s i k t3.L = cutL s i k t.L := by rw [HLM.out.1]
    have e2 : cutM s i k t3.M = cutM s i k t.M := by rw [HLM.out.2]
    rw [e1, e2] at hx
    rw [e1, e2]
    exact ⟨_, hx.1, T5.out.trans hx.2⟩
    -->book
end Go.Proofs.YtkdgpdijbobmkaaGreat
