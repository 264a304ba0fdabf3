/- What stays right on a floor: plain. The contract of a floor's swap. What stays right on a floor, command by command: plain. What stays right when those that wait wake: plain. What a floor tells, and the row of those that wake: plain, and in memory. The contract of a floor's wake. -/
import Derived.Test.YtkdgpdijbobmkaaGreatGrpY
import Derived.Test.YtkdgpdijbobmkaaGreatSkPlain
import Derived.Test.YtkdgpdijbobmkaaGreatSwapOf
import Derived.Test.YtkdgpdijbobmkaaGreatGrpW
import Derived.Deep.LoopGhost
namespace Go.Proofs.YtkdgpdijbobmkaaGreat
set_option linter.all false
open Go Go.RowKit
theorem ids_app2 (L M : List Lv) : ids (L ++ M) = ids L ++ ids M := by simp [ids]
theorem outL_split {L : List Lv} {i k : Nat} {x : Lv} (hx : L[i]? = some x) : ∃ L1 L2, L = L1 ++ x :: L2 ∧ outL L i k = L1 ++ mCut x (x.rs.eraseIdx k) L2 := by
  obtain ⟨hi, e⟩ := List.getElem?_eq_some_iff.1 hx
  refine ⟨L.take i, L.drop (i + 1), ?_, ?_⟩
  · rw [← e, List.getElem_cons_drop, List.take_append_drop]
  · unfold outL; rw [hx]
theorem outL_ids (L : List Lv) (i k : Nat) : (ids (outL L i k)).Sublist (ids L) := by
  cases hx : L[i]? with
  | none => unfold outL; rw [hx]; exact List.Sublist.refl _
  | some x =>
    obtain ⟨L1, L2, h1, h2⟩ := outL_split (k := k) hx
    rw [h2, h1, ids_app2, ids_app2, ids_mCut, ids_cons]
    exact (List.Sublist.refl _).append (((List.eraseIdx_sublist _ _).map _).append (List.Sublist.refl _))
theorem outL_mem {L : List Lv} {i k : Nat} {y : Lv} (h : y ∈ outL L i k) : ∃ z ∈ L, y.price = z.price ∧ y.rs.Sublist z.rs ∧ (y = z ∨ y.rs.length ≠ 0) := by
  cases hx : L[i]? with
  | none => unfold outL at h; rw [hx] at h; exact ⟨y, h, rfl, List.Sublist.refl _, .inl rfl⟩
  | some x =>
    obtain ⟨L1, L2, h1, h2⟩ := outL_split (k := k) hx
    rw [h2] at h
    rw [h1]
    rcases List.mem_append.1 h with h | h
    · exact ⟨y, by simp [h], rfl, List.Sublist.refl _, .inl rfl⟩
    · rcases mCut_mem h with ⟨rfl, h0⟩ | h
      · exact ⟨x, by simp, rfl, List.eraseIdx_sublist _ _, .inr h0⟩
      · exact ⟨y, by simp [h], rfl, List.Sublist.refl _, .inl rfl⟩
theorem outL_prices (L : List Lv) (i k : Nat) : ((outL L i k).map Lv.price).Sublist (L.map Lv.price) := by
  cases hx : L[i]? with
  | none => unfold outL; rw [hx]; exact List.Sublist.refl _
  | some x =>
    obtain ⟨L1, L2, h1, h2⟩ := outL_split (k := k) hx
    rw [h2, h1, List.map_append, List.map_append]
    refine (List.Sublist.refl _).append ?_
    unfold mCut
    split
    · exact List.sublist_cons_self _ _
    · exact List.Sublist.refl _
theorem outL_ok {d : Int} {L : List Lv} (h : SideOk d L) (i k : Nat) : SideOk d (outL L i k) := by
  have hs := outL_ids L i k
  refine ⟨h.side, fun y hy => ?_, fun y hy => ?_, fun y hy => ?_, ?_, ?_, h.once.sublist hs⟩
  · obtain ⟨z, hz, e, _⟩ := outL_mem hy
    rw [e]; exact h.price z hz
  · obtain ⟨z, hz, _, _, e⟩ := outL_mem hy
    rcases e with rfl | e
    · exact h.full y hz
    · exact e
  · obtain ⟨z, hz, _, e, _⟩ := outL_mem hy
    intro r hr
    exact h.sound z hz r (e.subset hr)
  · have := h.sorted
    have e : ∀ K : List Lv, K.Pairwise (fun x y => sAhd d x.price y.price = true) ↔ (K.map Lv.price).Pairwise (fun a b => sAhd d a b = true) := fun K => by rw [List.pairwise_map]
    rw [e] at this ⊢
    exact this.sublist (outL_prices L i k)
  · rw [← ids_len]; have := hs.length_le; rw [ids_len L] at this; have := h.few; omega
theorem cut_ok {L M : List Lv} (h : BookOk L M) (s : Int) (i k : Nat) : BookOk (cutL s i k L) (cutM s i k M) := by
  unfold cutL cutM
  have hl := outL_ids L i k; have hm := outL_ids M i k
  have ll := hl.length_le; have lm := hm.length_le
  rw [ids_len, ids_len] at ll lm
  have hf := h.few
  by_cases hs : s = 1
  · rw [if_pos hs, if_pos hs]
    refine ⟨outL_ok h.buys i k, h.sells, fun x hx y hy => ?_, by omega, h.once.sublist (hl.append (List.Sublist.refl _))⟩
    obtain ⟨z, hz, e, _⟩ := outL_mem hx
    rw [e]; exact h.apart z hz y hy
  · rw [if_neg hs, if_neg hs]
    refine ⟨h.buys, outL_ok h.sells i k, fun x hx y hy => ?_, by omega, h.once.sublist ((List.Sublist.refl _).append hm)⟩
    obtain ⟨z, hz, e, _⟩ := outL_mem hy
    rw [e]; exact h.apart x hx z hz
/-- what a part of a floor leaves -/
structure FSame (t t' : FT) (n : Nat) : Prop where
  L : t'.L = t.L
  M : t'.M = t.M
  mode : t'.mode = t.mode
  st : t'.st = t.st
  pu : PInv t.S → PInv t'.S
  ev : t'.ev.length ≤ t.ev.length + n
theorem FSame.refl (t : FT) (n : Nat) : FSame t t n := ⟨rfl, rfl, rfl, rfl, id, by omega⟩
theorem FSame.trans {t t1 t2 : FT} {n m : Nat} (h : FSame t t1 n) (h2 : FSame t1 t2 m) : FSame t t2 (n + m) :=
  ⟨h2.L.trans h.L, h2.M.trans h.M, h2.mode.trans h.mode, h2.st.trans h.st, fun x => h2.pu (h.pu x), by have := h.ev; have := h2.ev; omega⟩
theorem FSame.mono {t t' : FT} {n m : Nat} (h : FSame t t' n) (hn : n ≤ m) : FSame t t' m := ⟨h.L, h.M, h.mode, h.st, h.pu, by have := h.ev; omega⟩
theorem tell_same (t : FT) (a b c d : Int) : FSame t (t.tell a b c d) 1 := ⟨rfl, rfl, rfl, rfl, id, by show (t.ev ++ [_]).length ≤ _; simp⟩
theorem told_same' (t : FT) (x : Trade) : FSame t (t.told x) 1 := ⟨rfl, rfl, rfl, rfl, id, by show (t.ev ++ [_]).length ≤ _; simp⟩
theorem release_fs (t : FT) (r : Rest) (s p : Int) : FSame t (t.release r s p).2 0 := by
  obtain ⟨a, b, c, d, _⟩ := release_same t r s p
  exact ⟨a, b, c, d, fun h => release_inv h r s p, by rw [release_ev]; omega⟩
theorem hold_fs (t : FT) (o : Order) : FSame t (t.hold o).2 0 := by
  obtain ⟨a, b, c⟩ := hold_same t o
  exact ⟨a, b, by unfold FT.hold; split <;> rfl, c, fun h => hold_inv h o, by rw [hold_ev]; omega⟩
theorem unhold_fs (t : FT) (o : Order) : FSame t (t.unhold o).2 0 :=
  ⟨by unfold FT.unhold; split <;> rfl, by unfold FT.unhold; split <;> rfl, by unfold FT.unhold; split <;> rfl, by unfold FT.unhold; split <;> rfl, fun h => unhold_inv h o, by rw [unhold_ev]; omega⟩
theorem went_fs (L M : List Lv) (W : List Int) (t : FT) : FSame t (wentF L M W t).2 W.length := by
  obtain ⟨a, b, c, d, _, e⟩ := went_same L M W t
  exact ⟨a, b, c, d, fun h => went_inv L M W t h, e⟩
theorem trades_fs : ∀ (T : List Trade) (t : FT), FSame t (tradesF T t).2 T.length
  | [], t => .refl t _
  | x :: T, t => by
    unfold tradesF
    split
    · exact .refl t _
    · have h1 : FSame t { t with S := (tradeP t.S x.frm x.to x.price x.qty).2 } 0 := ⟨rfl, rfl, rfl, rfl, fun h => trade_inv h x, by show t.ev.length ≤ _; omega⟩
      exact ((h1.trans (told_same' _ x)).trans (trades_fs T _)).mono (by simp; omega)
/-- settled: the book is another one, all else as before -/
theorem settle_ok {t : FT} {o : Order} {T : List Trade} {W : List Int} {left gone : Int} {K1 K2 : List Lv} (h : (t.settle o T W left gone K1 K2).1 = 0) :
    ∃ t3, (t.settle o T W left gone K1 K2).2 = { t3 with L := K1, M := K2 } ∧ FSame t t3 (T.length + W.length + 2) := by
  unfold FT.settle at h ⊢
  split at h
  · rename_i h1; exact absurd h h1
  rename_i h1
  rw [if_neg h1]
  split at h
  · rename_i h2; exact absurd h h2
  rename_i h2
  rw [if_neg h2]
  split at h
  · rename_i h3; exact absurd h h3
  rename_i h3
  rw [if_neg h3]
  split at h
  · rename_i h4; exact absurd h h4
  rename_i h4
  rw [if_neg h4]
  have a := (trades_fs T t).trans (went_fs t.L t.M W (tradesF T t).2)
  have b : FSame (wentF t.L t.M W (tradesF T t).2).2 { (wentF t.L t.M W (tradesF T t).2).2 with S := (freeP (wentF t.L t.M W (tradesF T t).2).2.S o.who (backR o T gone).2.1 (backR o T gone).2.2).2 } 0 :=
    ⟨rfl, rfl, rfl, rfl, fun h => (free_step h _ _ _).1, by show (wentF t.L t.M W (tradesF T t).2).2.ev.length ≤ _; omega⟩
  have ab := a.trans b
  generalize ({ (wentF t.L t.M W (tradesF T t).2).2 with S := (freeP (wentF t.L t.M W (tradesF T t).2).2.S o.who (backR o T gone).2.1 (backR o T gone).2.2).2 } : FT) = t1 at ab ⊢
  refine ⟨_, rfl, ?_⟩
  have c : FSame t1 (if 0 < gone then t1.tell 3 o.id gone o.price else t1) 1 := by
    split
    · exact tell_same ..
    · exact .refl _ _
  have abc := ab.trans c
  generalize (if 0 < gone then t1.tell 3 o.id gone o.price else t1) = t2 at abc ⊢
  have d : FSame t2 (if 0 < left - gone then t2.tell 1 o.id (left - gone) o.price else t2) 1 := by
    split
    · exact tell_same ..
    · exact .refl _ _
  exact (abc.trans d).mono (by omega)
/-- what comes leaves a floor that is right -/
theorem come_ok {t : FT} {o : Order} (h : FOk t) (ho : o.err = 0) (h0 : (t.come o).1 = false ∨ (t.come o).2.1 = 0) : FOk (t.come o).2.2 ∧ (t.come o).2.2.st = t.st ∧ (t.come o).2.2.mode = t.mode ∧ (t.come o).2.2.ev.length ≤ t.ev.length + 462 := by
  rcases krun_cases t o h.bk ho with ⟨E, _, hR, _⟩ | ⟨s, gone, K1, K2, _, _, _, _, hT, hW, hK, _, hR, _⟩
  · rw [hR]; exact ⟨h, rfl, rfl, by show t.ev.length ≤ _; omega⟩
  · rw [hR] at h0 ⊢
    dsimp only at h0 ⊢
    obtain ⟨t3, e, f⟩ := settle_ok (h0.elim (fun e => by cases e) id)
    rw [e]
    refine ⟨⟨hK, f.pu h.pu, ?_, ?_⟩, f.st, f.mode, ?_⟩
    · show ∀ o ∈ t3.st, _; rw [f.st]; exact h.st
    · show t3.st.length ≤ _; rw [f.st]; exact h.few
    · show t3.ev.length ≤ _; have := f.ev; omega
theorem cancel_rest {t : FT} {id s : Int} {i k : Nat} {x : Lv} {r : Rest} (h : FOk t) (ha : findB t.L t.M id = some (s, i, k, x, r)) (h0 : (t.cancel id).1 = 0) : FOk (t.cancel id).2 ∧ (t.cancel id).2.st = t.st ∧ (t.cancel id).2.mode = t.mode ∧ (t.cancel id).2.ev.length ≤ t.ev.length + 1 := by
  unfold FT.cancel at h0 ⊢
  rw [ha] at h0 ⊢
  dsimp only at h0 ⊢
  split at h0
  · rename_i h1; exact absurd h0 h1
  rename_i h1
  rw [if_neg h1]
  have f := went_fs t.L t.M [id] t
  refine ⟨⟨cut_ok h.bk s i k, f.pu h.pu, ?_, ?_⟩, f.st, f.mode, f.ev⟩
  · show ∀ o ∈ (wentF t.L t.M [id] t).2.st, _; rw [f.st]; exact h.st
  · show (wentF t.L t.M [id] t).2.st.length ≤ _; rw [f.st]; exact h.few
end Go.Proofs.YtkdgpdijbobmkaaGreat
namespace Go.Proofs.YtkdgpdijbobmkaaGreat
set_option linter.all false
open Go Go.RowKit
set_option maxRecDepth 100000 in
set_option maxHeartbeats 8000000 in
theorem fswap_any (t : FT) (lo : Nat) (a : FA) (id p q : Int) (w : World) (h : FSt w lo a t) (hok : FOk t) (hlo : lo ≤ w.heap.size) (hl : t.ev.length ≤ 80000) :
    Calls Tryz.prog 73 #[.pointer (some ⟨a.gs, 0, none⟩), .int .i64 id, .int .i64 p, .int .i64 q] w (FOutE lo a (t.swap id p q) w) := by
  have H := Lib.hid h; have HOK := Lib.hid hok
  obtain ⟨E, sd, pr, rr, kp, B1, B2, an, ls, hsw⟩ := sw_ex t.L t.M id p q
  have HSW := Lib.hid hsw
  have zz := hok.bk.sizes
  have cS := swof_any t.L t.M id p q E sd pr rr kp B1 B2 an ls hsw a.A1 a.A2 a.c1 a.c2 w h.lp1 h.lp2 zz.1.1 zz.2.1 h.z1 h.z2
  unfold SwPost at cS
  obtain ⟨q0, q1, q2, q3, q4, q5, q6⟩ := box7 h.b
  clear h hok zz hsw q0 q3 q4 q5 q6
  by_cases he : E = 0
  case neg => as_aux_lemma =>
    have HR := Lib.hid (show t.swap id p q = (E, t) by
      have : swE t.L t.M id p q = E := by
        rcases HSW.out with ⟨_, h, _⟩ | ⟨_, h, _⟩
        · exact h.symm
        · exact absurd h he
      rw [FT.swap, if_pos (by rw [this]; exact he), this])
    rw [show errV E = er E by rw [errV, if_neg he]] at cS
    have HNZ := Lib.hid he
    have CS := Lib.hid cS
    clear he cS
    go_enter Tryz.func73, Tryz.ntmps73
    go_wp2_with fail
    go_at_call 100
    refine CS.out.mono ?_
    rintro e w1 ⟨D1, d1, u1, D2, d2, u2, rfl, _, hb1⟩
    have F1 := Lib.hid (H.out.below hb1); have T1 := Lib.hid (FTo.of_below (a := a) hb1)
    clear q1 q2 CS hb1
    obtain ⟨V, hV⟩ : ∃ V, V = (#[.int .i64 sd, .int .i64 pr, .int .i64 rr.id, .int .i64 rr.who, .int .i64 rr.qty, .int .i64 rr.hidden, .int .i64 rr.show_, .bool kp, .slice D1 B1.length d1, .slice D2 B2.length d2, .int .i64 an.id, .int .i64 an.who, .int .i64 an.side, .int .i64 an.kind, .int .i64 an.price, .int .i64 an.qty, .int .i64 an.show_, .int .i64 an.stop, .int .i64 ls] : Array Value) := ⟨_, rfl⟩
    rw [← hV]
    have bO0 := Bk.new w1 161 #[.int .i64 0, .int .i64 0, .int .i64 0, .int .i64 0, .int .i64 0, .int .i64 0, .int .i64 0, .bool false, .slice none 0 0, .slice none 0 0, .int .i64 0, .int .i64 0, .int .i64 0, .int .i64 0, .int .i64 0, .int .i64 0, .int .i64 0, .int .i64 0, .int .i64 0]
    have HT0 := Lib.hid (show World.there _ _ _ V.size by rw [hV]; exact bO0.there)
    have hbo : Below w1.heap.size w1 ((w1.alloc (.cells #[.int .i64 0, .int .i64 0, .int .i64 0, .int .i64 0, .int .i64 0, .int .i64 0, .int .i64 0, .bool false, .slice none 0 0, .slice none 0 0, .int .i64 0, .int .i64 0, .int .i64 0, .int .i64 0, .int .i64 0, .int .i64 0, .int .i64 0, .int .i64 0, .int .i64 0] 161)).setCells w1.heap.size 0 V.toList) := below_Cs (vs := V.toList) (Nat.le_refl _) ((Below.refl _ _).alloc (Nat.le_refl _) _)
    have HVS := Lib.hid (show (Tryz.prog.info? 161).map (·.size) = some V.size by rw [hV]; exact swap_size)
    have HV1 := Lib.hid (show V.all (·.oneCell') = true by rw [hV]; exact swap_one)
    clear hV
    have HALL := Lib.hid hbo
    clear bO0 hbo
    go_upto_region 2 with (refine wpList_store_mid (by rfl) 161 _ _ (by rfl) _ 0 V (by rfl) (by rfl) HT0.out HVS.out HV1.out ?_)
    have hb2 := HALL.out
    clear HALL HT0 HVS HV1
    generalize ((w1.alloc (.cells #[.int .i64 0, .int .i64 0, .int .i64 0, .int .i64 0, .int .i64 0, .int .i64 0, .int .i64 0, .bool false, .slice none 0 0, .slice none 0 0, .int .i64 0, .int .i64 0, .int .i64 0, .int .i64 0, .int .i64 0, .int .i64 0, .int .i64 0, .int .i64 0, .int .i64 0] 161)).setCells w1.heap.size 0 V.toList) = w6 at *
    try go_frame
    go_wp2
    go_ret
    exact fend_bad HR.out HNZ.out (T1.out.below hb2).ks
  case pos =>
  obtain ⟨hE, i, k, x, hat, hpr, hls, hkp, hcase⟩ : swE t.L t.M id p q = 0 ∧ ∃ i k x, BAt t.L t.M id sd i k x rr ∧ pr = x.price ∧ ls = lessOf rr q ∧ kp = keepB x rr p q ∧
      (kp = true ∧ B1 = setRL sd i k (keptR rr q) t.L ∧ B2 = setRM sd i k (keptR rr q) t.M ∧ an = ord0 ∨ kp = false ∧ B1 = cutL sd i k t.L ∧ B2 = cutM sd i k t.M ∧ an = anewO id rr sd p q) := by
    rcases HSW.out with ⟨h, h1, _⟩ | ⟨h, _, i, k, x, h2, h3, h4, h5, h6⟩
    · exact absurd (h1.symm.trans he) h
    · exact ⟨h, i, k, x, h2, h3, h4, h5, h6⟩
  have hs0 : sd ≠ 0 := by rcases side_two hat.side with h | h <;> omega
  have HFB := Lib.hid (findB_at hat hs0)
  have HSWE := Lib.hid hE
  have HLS := Lib.hid hls; have HPR := Lib.hid hpr; have HKP := Lib.hid hkp
  have HCASE := Lib.hid hcase
  subst he
  rw [show errV 0 = .nilIface from rfl] at cS
  have CS := Lib.hid cS
  clear cS hE hat hpr hls hkp hcase hs0 HSW
  go_enter Tryz.func73, Tryz.ntmps73
  go_wp2_with fail
  go_at_call 100
  refine CS.out.mono ?_
  rintro e w1 ⟨D1, d1, u1, D2, d2, u2, rfl, HO, hb1⟩
  have F1 := Lib.hid (H.out.below hb1); have T1 := Lib.hid (FTo.of_below (a := a) hb1)
  have HB1 := Lib.hid hb1
  clear q1 q2 CS hb1
  obtain ⟨V, hV⟩ : ∃ V, V = (#[.int .i64 sd, .int .i64 pr, .int .i64 rr.id, .int .i64 rr.who, .int .i64 rr.qty, .int .i64 rr.hidden, .int .i64 rr.show_, .bool kp, .slice D1 B1.length d1, .slice D2 B2.length d2, .int .i64 an.id, .int .i64 an.who, .int .i64 an.side, .int .i64 an.kind, .int .i64 an.price, .int .i64 an.qty, .int .i64 an.show_, .int .i64 an.stop, .int .i64 ls] : Array Value) := ⟨_, rfl⟩
  rw [← hV]
  have bO0 := Bk.new w1 161 #[.int .i64 0, .int .i64 0, .int .i64 0, .int .i64 0, .int .i64 0, .int .i64 0, .int .i64 0, .bool false, .slice none 0 0, .slice none 0 0, .int .i64 0, .int .i64 0, .int .i64 0, .int .i64 0, .int .i64 0, .int .i64 0, .int .i64 0, .int .i64 0, .int .i64 0]
  have HT0 := Lib.hid (show World.there _ _ _ V.size by rw [hV]; exact bO0.there)
  have bO : Bk ((w1.alloc (.cells #[.int .i64 0, .int .i64 0, .int .i64 0, .int .i64 0, .int .i64 0, .int .i64 0, .int .i64 0, .bool false, .slice none 0 0, .slice none 0 0, .int .i64 0, .int .i64 0, .int .i64 0, .int .i64 0, .int .i64 0, .int .i64 0, .int .i64 0, .int .i64 0, .int .i64 0] 161)).setCells w1.heap.size 0 V.toList) w1.heap.size 161 #[.int .i64 sd, .int .i64 pr, .int .i64 rr.id, .int .i64 rr.who, .int .i64 rr.qty, .int .i64 rr.hidden, .int .i64 rr.show_, .bool kp, .slice D1 B1.length d1, .slice D2 B2.length d2, .int .i64 an.id, .int .i64 an.who, .int .i64 an.side, .int .i64 an.kind, .int .i64 an.price, .int .i64 an.qty, .int .i64 an.show_, .int .i64 an.stop, .int .i64 ls] := by rw [hV]; exact bO0.setCs (vs := [.int .i64 sd, .int .i64 pr, .int .i64 rr.id, .int .i64 rr.who, .int .i64 rr.qty, .int .i64 rr.hidden, .int .i64 rr.show_, .bool kp, .slice D1 B1.length d1, .slice D2 B2.length d2, .int .i64 an.id, .int .i64 an.who, .int .i64 an.side, .int .i64 an.kind, .int .i64 an.price, .int .i64 an.qty, .int .i64 an.show_, .int .i64 an.stop, .int .i64 ls]) rfl
  have hbo : Below w1.heap.size w1 ((w1.alloc (.cells #[.int .i64 0, .int .i64 0, .int .i64 0, .int .i64 0, .int .i64 0, .int .i64 0, .int .i64 0, .bool false, .slice none 0 0, .slice none 0 0, .int .i64 0, .int .i64 0, .int .i64 0, .int .i64 0, .int .i64 0, .int .i64 0, .int .i64 0, .int .i64 0, .int .i64 0] 161)).setCells w1.heap.size 0 V.toList) := below_Cs (vs := V.toList) (Nat.le_refl _) ((Below.refl _ _).alloc (Nat.le_refl _) _)
  have HVS := Lib.hid (show (Tryz.prog.info? 161).map (·.size) = some V.size by rw [hV]; exact swap_size)
  have HV1 := Lib.hid (show V.all (·.oneCell') = true by rw [hV]; exact swap_one)
  clear hV
  have HALL := Lib.hid (And.intro bO hbo)
  clear bO0 bO hbo
  go_upto_region 2 with (refine wpList_store_mid (by rfl) 161 _ _ (by rfl) _ 0 V (by rfl) (by rfl) HT0.out HVS.out HV1.out ?_)
  obtain ⟨bO, hb2⟩ := HALL.out
  clear HALL HT0 HVS HV1
  have HN := Lib.hid (show ¬ a.Q w1.heap.size from fun e => by have := (F1.out.q_lt _ e).2; omega)
  have F6 := Lib.hid (F1.out.below hb2); have T6 := Lib.hid (T1.out.below hb2)
  have O1 := Lib.hid (HO.out.1.below hb2); have O2 := Lib.hid (HO.out.2.below hb2)
  have BO := Lib.hid bO
  generalize ((w1.alloc (.cells #[.int .i64 0, .int .i64 0, .int .i64 0, .int .i64 0, .int .i64 0, .int .i64 0, .int .i64 0, .bool false, .slice none 0 0, .slice none 0 0, .int .i64 0, .int .i64 0, .int .i64 0, .int .i64 0, .int .i64 0, .int .i64 0, .int .i64 0, .int .i64 0, .int .i64 0] 161)).setCells w1.heap.size 0 V.toList) = w6 at *
  generalize w1.heap.size = gm at *
  try go_frame
  obtain ⟨o0, o1, o2, o3, o4, o5, o6, o7, o8, o9, o10, o11, o12, o13, o14, o15, o16, o17, o18⟩ := box19 bO
  clear bO hb2 F1 T1 HO
  cases kp with
  | false =>
    clear o0 o1 o2 o3 o4 o5 o6 o8 o9 o10 o11 o12 o13 o14 o15 o16 o17 o18
    have han : an = anewO id rr sd p q := by
      rcases HCASE.out with ⟨h, _⟩ | ⟨_, _, _, h⟩
      · cases h
      · exact h
    have HR := Lib.hid (show t.swap id p q = if (t.cancel id).1 ≠ 0 then ((t.cancel id).1, t) else (t.cancel id).2.place an by
      rw [FT.swap, if_neg (by simp [HSWE.out]), HFB.out]; dsimp only; rw [if_neg (by rw [← HKP.out]; decide), han])
    have cC := cancel_any t lo a id w6 F6.out HOK.out (by have := T6.out.ks.size; omega) (by omega)
    unfold FOutE at cC
    clear han
    by_cases hc : (t.cancel id).1 = 0
    case neg => as_aux_lemma =>
      have HR2 := Lib.hid (show t.swap id p q = ((t.cancel id).1, t) by rw [HR.out, if_pos hc])
      rw [show errV (t.cancel id).1 = er (t.cancel id).1 by rw [errV, if_neg hc]] at cC
      have HNZ := Lib.hid hc
      have CC := Lib.hid cC
      clear hc cC HR
      generalize (t.cancel id).1 = E at *
      go_wp2_with (go_at_call 72; refine CC.out.mono ?_; rintro e w7 ⟨rfl, HE, HK⟩)
      go_ret
      exact fend_bad HR2.out HNZ.out (T6.out.ks.trans HK.out T6.out.q)
    case pos =>
    have HR2 := Lib.hid (show t.swap id p q = (t.cancel id).2.place an by rw [HR.out, if_neg (by simpa using hc)])
    have HOK5 := Lib.hid (cancel_rest HOK.out HFB.out hc)
    rw [hc, show errV 0 = .nilIface from rfl] at cC
    have HC0 := Lib.hid hc
    have CC := Lib.hid cC
    clear hc cC HR
    generalize (t.cancel id).2 = t5 at *
    go_upto_region 8 with (go_at_call 72; refine CC.out.mono ?_; rintro e w7 ⟨rfl, HE, HK⟩)
    obtain ⟨a7, hF7, hT7⟩ := HE.out (by first | trivial | rfl | exact HC0.out)
    have b7 := hT7.bk BO.out (fun e => HN.out e)
    have T7 := Lib.hid (T6.out.trans hT7)
    have HG7 := Lib.hid hT7.gs
    have cP := place_any t5 lo a7 an w7 hF7 HOK5.out.1 (by have := T7.out.ks.size; omega) (by have := HOK5.out.2.2.2; omega)
    rw [HG7.out] at cP
    unfold FOutE at cP
    have CP := Lib.hid cP
    clear cP hF7 hT7 HE HK CC o7
    obtain ⟨o0, o1, o2, o3, o4, o5, o6, o7, o8, o9, o10, o11, o12, o13, o14, o15, o16, o17, o18⟩ := box19 b7
    clear b7 o0 o1 o2 o3 o4 o5 o6 o7 o8 o9 o18
    generalize t5.place an = z at *
    go_wp2_with (go_at_call 71; refine CP.out.mono ?_; rintro e w8 ⟨rfl, HE, HK⟩)
    go_ret
    refine ⟨by rw [HR2.out]; rfl, Lib.hid (fun h => ?_), Lib.hid (T7.out.ks.trans HK.out T7.out.q)⟩
    rw [HR2.out] at h ⊢
    obtain ⟨a', f, g⟩ := HE.out h
    exact ⟨a', f, T7.out.trans g⟩
  | true =>
    have hB : B1 = setRL sd i k (keptR rr q) t.L ∧ B2 = setRM sd i k (keptR rr q) t.M := by
      rcases HCASE.out with ⟨_, h1, h2, _⟩ | ⟨h, _⟩
      · exact ⟨h1, h2⟩
      · cases h
    have HR := Lib.hid (show t.swap id p q = if 0 < ls ∧ (t.release ⟨id, rr.who, ls, 0, 0⟩ sd pr).1 ≠ 0 then ((t.release ⟨id, rr.who, ls, 0, 0⟩ sd pr).1, t) else (0, { (if 0 < ls then (t.release ⟨id, rr.who, ls, 0, 0⟩ sd pr).2 else t) with L := B1, M := B2 }.tell 1 id q p) by
      rw [FT.swap, if_neg (by simp [HSWE.out]), HFB.out]; dsimp only; rw [if_pos (by rw [← HKP.out]), HLS.out, HPR.out, hB.1, hB.2])
    have hq : ∀ j, a.R j → j < w.heap.size := H.out.r_lt
    have lp : ∀ {A : Option Addr} {c : Nat} {K : List Lv} {v : List (Option Addr × Nat)}, OwnLv w6 w.heap.size A c K v → ∃ xs, LP (fun j => ¬ a.R j) w6 A K xs := fun o => o.lpB.imp fun _ y => y.on ⟨Nat.le_refl _, fun j hp hj => ⟨rfl, fun e => by have := hq j e; omega⟩⟩
    have HL1 := Lib.hid (lp O1.out); have HL2 := Lib.hid (lp O2.out)
    clear hq lp
    clear hB o2 o4 o5 o6 o10 o11 o12 o13 o14 o15 o16 o17
    by_cases hp : 0 < ls
    · have cR := frelease_any t lo a ⟨id, rr.who, ls, 0, 0⟩ sd pr w6 F6.out HOK.out.pu.1
      unfold FOut at cR
      by_cases hc : (t.release ⟨id, rr.who, ls, 0, 0⟩ sd pr).1 = 0
      case neg => as_aux_lemma =>
        have HR2 := Lib.hid (show t.swap id p q = ((t.release ⟨id, rr.who, ls, 0, 0⟩ sd pr).1, t) by rw [HR.out, if_pos ⟨hp, hc⟩])
        rw [show errV (t.release ⟨id, rr.who, ls, 0, 0⟩ sd pr).1 = er (t.release ⟨id, rr.who, ls, 0, 0⟩ sd pr).1 by rw [errV, if_neg hc]] at cR
        have HNZ := Lib.hid hc
        have CR := Lib.hid cR
        clear hc cR HR o8 o9
        generalize (t.release ⟨id, rr.who, ls, 0, 0⟩ sd pr).1 = E at *
        go_wp2_with (go_at_call 101; refine CR.out.mono ?_; rintro e w7 ⟨rfl, HE⟩)
        go_ret
        obtain ⟨a7, hF7, hT7⟩ := HE.out
        exact fend_bad HR2.out HNZ.out (T6.out.trans hT7).ks
      case pos =>
      have HR8 := Lib.hid (show t.swap id p q = (0, { (t.release ⟨id, rr.who, ls, 0, 0⟩ sd pr).2 with L := B1, M := B2 }.tell 1 id q p) by rw [HR.out, if_neg (by simp [hc]), if_pos hp])
      rw [hc, show errV 0 = .nilIface from rfl] at cR
      have CR := Lib.hid cR
      have hev := (release_fs t ⟨id, rr.who, ls, 0, 0⟩ sd pr).ev
      clear hc cR HR o8 o9
      generalize (t.release ⟨id, rr.who, ls, 0, 0⟩ sd pr).2 = t8 at *
      go_upto_region 13 with (go_at_call 101; refine CR.out.mono ?_; rintro e w8 ⟨rfl, HE⟩)
      obtain ⟨a8, hF8, hT8⟩ := HE.out
      have F8 := Lib.hid hF8; have T8 := Lib.hid (T6.out.trans hT8)
      have HG8 := Lib.hid hT8.gs
      have b8 := hT8.bk BO.out (fun e => HN.out e)
      have L1 := Lib.hid (HL1.out.imp fun _ y => hT8.lp y)
      have L2 := Lib.hid (HL2.out.imp fun _ y => hT8.lp y)
      clear CR HE hF8 hT8 o0 o1 o3 o7 o18
      (obtain ⟨q0, q1, q2, q3, q4, q5, q6⟩ := box7 F8.out.b; have z1 := F8.out.b.free 1; have z2 := F8.out.b.free 2; (rw [HG8.out] at q1 q2 z1 z2); obtain ⟨o0, o1, o2, o3, o4, o5, o6, o7, o8, o9, o10, o11, o12, o13, o14, o15, o16, o17, o18⟩ := box19 b8; obtain ⟨a9, w9, hw9, hF9, hT9, hG9⟩ : ∃ a9 w9, w9 = (w8.setCell ⟨a.gs, 1, none⟩ (.slice D1 B1.length d1)).setCell ⟨a.gs, 2, none⟩ (.slice D2 B2.length d2) ∧ FSt w9 lo a9 { t8 with L := B1, M := B2 } ∧ FTo a8 w8 a9 w9 ∧ a9.gs = a.gs := (by have hx := F8.out.booked L1.out L2.out O1.out.z0 O2.out.z0; exact ⟨_, _, by rw [HG8.out], hx.1, hx.2, HG8.out⟩); have F9 := Lib.hid hF9; have T9 := Lib.hid (T8.out.trans hT9); have HW9 := Lib.hid hw9; have HG9 := Lib.hid hG9; clear hF9 hT9 hG9 hw9 b8 q0 q3 q4 q5 q6 o0 o1 o2 o3 o4 o5 o6 o7 o10 o11 o12 o13 o14 o15 o16 o17 o18; go_upto_region 14 with fail; (rw [← HW9.out]); have cT := tell_any { t8 with L := B1, M := B2 } lo a9 1 id q p w9 F9.out (by show t8.ev.length ≤ _; omega) (by have := T9.out.ks.size; omega); (rw [HG9.out] at cT); have CT := Lib.hid cT; clear cT q1 q2 z1 z2 o8 o9 HW9; go_wp2_with (go_at_call 75; refine CT.out.mono ?_; rintro e w10 ⟨rfl, HE⟩); go_ret; obtain ⟨a10, hF10, hT10⟩ := HE.out; exact ⟨by rw [HR8.out]; rfl, Lib.hid (fun _ => by rw [HR8.out]; exact ⟨a10, hF10, T9.out.trans hT10⟩), Lib.hid (T9.out.trans hT10).ks⟩)
    · have HR8 := Lib.hid (show t.swap id p q = (0, { t with L := B1, M := B2 }.tell 1 id q p) by rw [HR.out, if_neg (fun h => hp h.1), if_neg hp])
      have hev : t.ev.length ≤ t.ev.length + 0 := Nat.le_refl _
      clear HR o0 o1 o3 o8 o9
      go_upto_region 13 with fail
      have F8 := Lib.hid F6.out; have T8 := Lib.hid T6.out
      have HG8 := Lib.hid (rfl : a.gs = a.gs)
      have b8 := BO.out
      have L1 := Lib.hid HL1.out; have L2 := Lib.hid HL2.out
      obtain ⟨t8, ht8⟩ : ∃ t8, t8 = t := ⟨_, rfl⟩
      have HEQ := Lib.hid ht8
      have F8 : Hid (FSt w6 lo a t8) := Lib.hid (by rw [HEQ.out]; exact F8.out)
      have HR8 := Lib.hid (show t.swap id p q = (0, { t8 with L := B1, M := B2 }.tell 1 id q p) by rw [HR8.out, HEQ.out])
      have hev : t8.ev.length ≤ t.ev.length + 0 := by rw [HEQ.out]; exact hev
      clear ht8 HEQ
      obtain ⟨a8, HA8⟩ : ∃ a8, a8 = a := ⟨_, rfl⟩
      obtain ⟨w8, HW8⟩ : ∃ w8, w8 = w6 := ⟨_, rfl⟩
      have HA := Lib.hid HA8
      clear HA8
      have F8 : Hid (FSt w6 lo a8 t8) := Lib.hid (by rw [HA.out]; exact F8.out)
      have T8 : Hid (FTo a w a8 w6) := Lib.hid (by rw [HA.out]; exact T8.out)
      have HG8 : Hid (a8.gs = a.gs) := Lib.hid (by rw [HA.out])
      have L1 : Hid (∃ xs, LP (fun k => ¬ a8.R k) w6 D1 B1 xs) := Lib.hid (by rw [HA.out]; exact L1.out)
      have L2 : Hid (∃ xs, LP (fun k => ¬ a8.R k) w6 D2 B2 xs) := Lib.hid (by rw [HA.out]; exact L2.out)
      subst HW8
      clear HA
      (obtain ⟨q0, q1, q2, q3, q4, q5, q6⟩ := box7 F8.out.b; have z1 := F8.out.b.free 1; have z2 := F8.out.b.free 2; (rw [HG8.out] at q1 q2 z1 z2); obtain ⟨o0, o1, o2, o3, o4, o5, o6, o7, o8, o9, o10, o11, o12, o13, o14, o15, o16, o17, o18⟩ := box19 b8; obtain ⟨a9, w9, hw9, hF9, hT9, hG9⟩ : ∃ a9 w9, w9 = (w8.setCell ⟨a.gs, 1, none⟩ (.slice D1 B1.length d1)).setCell ⟨a.gs, 2, none⟩ (.slice D2 B2.length d2) ∧ FSt w9 lo a9 { t8 with L := B1, M := B2 } ∧ FTo a8 w8 a9 w9 ∧ a9.gs = a.gs := (by have hx := F8.out.booked L1.out L2.out O1.out.z0 O2.out.z0; exact ⟨_, _, by rw [HG8.out], hx.1, hx.2, HG8.out⟩); have F9 := Lib.hid hF9; have T9 := Lib.hid (T8.out.trans hT9); have HW9 := Lib.hid hw9; have HG9 := Lib.hid hG9; clear hF9 hT9 hG9 hw9 b8 q0 q3 q4 q5 q6 o0 o1 o2 o3 o4 o5 o6 o7 o10 o11 o12 o13 o14 o15 o16 o17 o18; go_upto_region 14 with fail; (rw [← HW9.out]); have cT := tell_any { t8 with L := B1, M := B2 } lo a9 1 id q p w9 F9.out (by show t8.ev.length ≤ _; omega) (by have := T9.out.ks.size; omega); (rw [HG9.out] at cT); have CT := Lib.hid cT; clear cT q1 q2 z1 z2 o8 o9 HW9; go_wp2_with (go_at_call 75; refine CT.out.mono ?_; rintro e w10 ⟨rfl, HE⟩); go_ret; obtain ⟨a10, hF10, hT10⟩ := HE.out; exact ⟨by rw [HR8.out]; rfl, Lib.hid (fun _ => by rw [HR8.out]; exact ⟨a10, hF10, T9.out.trans hT10⟩), Lib.hid (T9.out.trans hT10).ks⟩)
end Go.Proofs.YtkdgpdijbobmkaaGreat
namespace Go.Proofs.YtkdgpdijbobmkaaGreat
set_option linter.all false
open Go Go.RowKit
/-- a floor that is right, and has told so much more -/
structure FMore (t t' : FT) (n : Nat) : Prop where
  ok : FOk t'
  mode : t'.mode = t.mode
  ev : t'.ev.length ≤ t.ev.length + n
theorem FMore.trans {t t1 t2 : FT} {n m : Nat} (h : FMore t t1 n) (h2 : FMore t1 t2 m) : FMore t t2 (n + m) := ⟨h2.ok, h2.mode.trans h.mode, by have := h.ev; have := h2.ev; omega⟩
theorem FMore.mono {t t' : FT} {n m : Nat} (h : FMore t t' n) (hn : n ≤ m) : FMore t t' m := ⟨h.ok, h.mode, by have := h.ev; omega⟩
theorem FSame.more {t t' : FT} {n : Nat} (h : FSame t t' n) (hok : FOk t) : FMore t t' n :=
  ⟨⟨by rw [h.L, h.M]; exact hok.bk, h.pu hok.pu, by rw [h.st]; exact hok.st, by rw [h.st]; exact hok.few⟩, h.mode, h.ev⟩
theorem wait_ok {l : List Order} {o : Order} (h : ∀ o ∈ l, o.err = 0) (hl : l.length ≤ 20) (ho : o.err = 0) : (∀ y ∈ waitL l o, y.err = 0) ∧ (waitL l o).length ≤ 20 := by
  unfold waitL
  split
  · rename_i he
    refine ⟨fun x hx => ?_, ?_⟩
    · rcases List.mem_append.1 hx with hx | hx
      · exact h x hx
      · rw [List.mem_singleton] at hx; rw [hx]; exact ho
    · unfold waitE at he
      rw [List.length_append, List.length_singleton]
      repeat' split at he
      all_goals omega
  · exact ⟨h, hl⟩
theorem gone_ok {l : List Order} (id : Int) (h : ∀ o ∈ l, o.err = 0) (hl : l.length ≤ 20) : (∀ y ∈ goneL l id, y.err = 0) ∧ (goneL l id).length ≤ 20 := by
  unfold goneL
  split
  · exact ⟨h, hl⟩
  · exact ⟨fun o ho => h o ((List.eraseIdx_sublist _ _).subset ho), by have := (List.eraseIdx_sublist l (whereI l id).toNat).length_le; omega⟩
theorem place_ok {t : FT} {o : Order} (h : FOk t) (h0 : (t.place o).1 = 0) : FMore t (t.place o).2 463 := by
  unfold FT.place at h0 ⊢
  split at h0
  · rename_i h1; exact absurd h0 h1
  rename_i ho
  rw [if_neg ho]
  split at h0
  · cases h0
  rename_i h2
  rw [if_neg h2]
  split at h0
  · rename_i h1; exact absurd h0 h1
  rename_i h3
  rw [if_neg h3]
  have a := (hold_fs t o).more h
  have ho0 : o.err = 0 := by simpa using ho
  split at h0
  · rename_i h4
    rw [if_pos h4]
    obtain ⟨b1, _, b2, b3⟩ := come_ok a.ok ho0 (.inr h0)
    exact (a.trans ⟨b1, b2, b3⟩).mono (by omega)
  rename_i h4
  rw [if_neg h4]
  split at h0
  · rename_i h1; exact absurd h0 h1
  rename_i h5
  rw [if_neg h5]
  have hw := wait_ok (o := o) h.st h.few ho0
  have b : FMore (t.hold o).2 { (t.hold o).2 with st := waitL t.st o } 0 := ⟨⟨a.ok.bk, a.ok.pu, hw.1, hw.2⟩, rfl, by show (t.hold o).2.ev.length ≤ _; omega⟩
  exact ((a.trans b).trans ((tell_same _ _ _ _ _).more b.ok)).mono (by omega)
theorem cancel_ok {t : FT} {id : Int} (h : FOk t) (h0 : (t.cancel id).1 = 0) : FMore t (t.cancel id).2 1 := by
  cases hf : findB t.L t.M id with
  | some z =>
    obtain ⟨s, i, k, x, r⟩ := z
    obtain ⟨a, _, b, c⟩ := cancel_rest h hf h0
    exact ⟨a, b, c⟩
  | none =>
    unfold FT.cancel at h0 ⊢
    rw [hf] at h0 ⊢
    dsimp only at h0 ⊢
    split at h0
    · rename_i h1; exact absurd h0 h1
    rename_i h1
    rw [if_neg h1]
    have hw := gone_ok id h.st h.few
    have b : FMore t { t with st := goneL t.st id } 0 := ⟨⟨h.bk, h.pu, hw.1, hw.2⟩, rfl, by show t.ev.length ≤ _; omega⟩
    have c := b.trans ((tell_same _ 3 id (goneO t.st id).qty (goneO t.st id).price).more b.ok)
    exact (c.trans ((unhold_fs _ (goneO t.st id)).more c.ok)).mono (by omega)
theorem swap_ok {t : FT} {id p q : Int} (h : FOk t) (h0 : (t.swap id p q).1 = 0) : FMore t (t.swap id p q).2 464 := by
  by_cases hE : swE t.L t.M id p q = 0
  case neg =>
    unfold FT.swap at h0
    rw [if_pos hE] at h0
    exact absurd h0 hE
  obtain ⟨_, _, hq, s, i, k, x, r, hat⟩ := swE_at hE
  have hs0 : s ≠ 0 := by rcases side_two hat.side with h | h <;> omega
  have hf := findB_at hat hs0
  unfold FT.swap at h0 ⊢
  rw [if_neg (by simp [hE]), hf] at h0 ⊢
  dsimp only at h0 ⊢
  by_cases hk : keepB x r p q = true
  · rw [if_pos hk] at h0 ⊢
    split at h0
    · rename_i h1; exact absurd h0 h1.2
    rename_i h1
    rw [if_neg h1]
    have hq1 : 1 ≤ q := by exact (inb_t hq).1
    have kp := kept_of h.bk hat hq1 hk
    have a : FMore t (if 0 < lessOf r q then (t.release ⟨id, r.who, lessOf r q, 0, 0⟩ s x.price).2 else t) 0 := by
      split
      · exact (release_fs t _ s x.price).more h
      · exact ⟨h, rfl, by omega⟩
    generalize (if 0 < lessOf r q then (t.release ⟨id, r.who, lessOf r q, 0, 0⟩ s x.price).2 else t) = t1 at a ⊢
    have b : FMore t1 { t1 with L := setRL s i k (keptR r q) t.L, M := setRM s i k (keptR r q) t.M } 0 := ⟨⟨kp.ok, a.ok.pu, a.ok.st, a.ok.few⟩, rfl, by show t1.ev.length ≤ _; omega⟩
    exact ((a.trans b).trans ((tell_same _ _ _ _ _).more b.ok)).mono (by omega)
  · rw [if_neg hk] at h0 ⊢
    split at h0
    · rename_i h1; exact absurd h0 h1
    rename_i h1
    rw [if_neg h1]
    have a := cancel_ok h (by simpa using h1)
    exact (a.trans (place_ok a.ok h0)).mono (by omega)
theorem act_ok {t : FT} {c : Cmd} (h : FOk t) (h0 : (t.act c).1 = 0) : FMore t (t.act c).2 464 := by
  unfold FT.act at h0 ⊢
  by_cases h1 : c.what = 4
  · rw [if_pos h1]
    exact ⟨⟨h.bk, (pay_step h.pu _ _).1, h.st, h.few⟩, rfl, by show t.ev.length ≤ _; omega⟩
  rw [if_neg h1] at h0 ⊢
  by_cases h2 : c.what = 5
  · rw [if_pos h2]
    exact ⟨⟨h.bk, (give_step h.pu _ _).1, h.st, h.few⟩, rfl, by show t.ev.length ≤ _; omega⟩
  rw [if_neg h2] at h0 ⊢
  by_cases h3 : c.what = 1
  · rw [if_pos h3] at h0 ⊢
    exact (place_ok h h0).mono (by omega)
  rw [if_neg h3] at h0 ⊢
  by_cases h4 : c.what = 2
  · rw [if_pos h4] at h0 ⊢
    exact (cancel_ok h h0).mono (by omega)
  rw [if_neg h4] at h0 ⊢
  by_cases h5 : c.what = 3
  · rw [if_pos h5] at h0 ⊢
    exact swap_ok h h0
  rw [if_neg h5] at h0
  exact absurd h0 (by show ¬ (1 : Int) = 0; decide)
end Go.Proofs.YtkdgpdijbobmkaaGreat
namespace Go.Proofs.YtkdgpdijbobmkaaGreat
set_option linter.all false
open Go Go.RowKit
theorem left_st {t : FT} (h : FOk t) (p : Int) : FMore t { t with st := leftS p t.st } 0 :=
  ⟨⟨h.bk, h.pu, fun o ho => h.st o (List.mem_filter.1 ho).1, Nat.le_trans (leftS_len p t.st) h.few⟩, rfl, by show t.ev.length ≤ _; omega⟩
theorem wakeL_err {t : FT} (h : FOk t) (p : Int) : ∀ o ∈ wakeL p t.st, o.err = 0 := fun o ho => by
  rw [wakeL, List.mem_map] at ho
  obtain ⟨o', ho', rfl⟩ := ho
  exact stop0_err (h.st o' (List.mem_filter.1 ((isort_mem _).1 ho')).1)
theorem wakeF_ok : ∀ (n : Nat) (row : List Order) (tr : Bool) (t : FT), FOk t → (∀ o ∈ row, o.err = 0) → (wakeF n row tr t).1 = 0 → FMore t (wakeF n row tr t).2 (464 * n)
  | 0, _, _, t, h, _, _ => ⟨h, rfl, by show t.ev.length ≤ _; omega⟩
  | n + 1, row, tr, t, h, hr, h0 => by
    unfold wakeF at h0 ⊢
    split at h0
    · cases h0
    rename_i h1
    rw [if_neg h1]
    have hrow : ∀ o ∈ (if tr = true then row ++ wakeL t.last t.st else row), o.err = 0 := fun o ho => by
      split at ho
      · rcases List.mem_append.1 ho with ho | ho
        · exact hr o ho
        · exact wakeL_err h t.last o ho
      · exact hr o ho
    have ha : FMore t (if tr = true then { t with st := leftS t.last t.st } else t) 0 := by
      split
      · exact left_st h t.last
      · exact ⟨h, rfl, by omega⟩
    generalize (if tr = true then row ++ wakeL t.last t.st else row) = R at hrow h0 ⊢
    cases R with
    | nil => exact ha.mono (by omega)
    | cons o l =>
      dsimp only at h0 ⊢
      have ho := hrow o (by simp)
      have hl : ∀ y ∈ l, y.err = 0 := fun y hy => hrow y (by simp [hy])
      have hb := ha.trans ((tell_same (if tr = true then { t with st := leftS t.last t.st } else t) 4 o.id o.qty t.last).more ha.ok)
      generalize ((if tr = true then { t with st := leftS t.last t.st } else t).tell 4 o.id o.qty t.last) = t1 at hb h0 ⊢
      split at h0
      · rename_i h2; exact absurd h0 h2.1
      rename_i h2
      rw [if_neg h2]
      split at h0
      · rename_i h3
        rw [if_pos h3]
        split at h0
        · rename_i h4; exact absurd h0 h4
        rename_i h4
        rw [if_neg h4]
        have hc := hb.trans ((unhold_fs t1 o).more hb.ok)
        have hd := hc.trans ((tell_same _ 3 o.id o.qty o.price).more hc.ok)
        exact (hd.trans (wakeF_ok n l _ _ hd.ok hl h0)).mono (by omega)
      · rename_i h3
        rw [if_neg h3]
        obtain ⟨c1, _, c2, c3⟩ := come_ok hb.ok ho (.inr (by simpa using h3))
        have hc : FMore t1 (t1.come o).2.2 462 := ⟨c1, c2, c3⟩
        exact ((hb.trans hc).trans (wakeF_ok n l _ _ c1 hl h0)).mono (by omega)
/-- a floor that is right stays right -/
structure FSOk (f : FS) : Prop where
  bk : BookOk f.L f.M
  pu : PInv f.S
  st : ∀ o ∈ f.st, o.err = 0
  few : f.st.length ≤ 20
theorem FSOk.open {f : FS} (h : FSOk f) : FOk f.open := ⟨h.bk, h.pu, h.st, h.few⟩
theorem FOk.shut {t : FT} (h : FOk t) : FSOk t.shut := ⟨h.bk, h.pu, h.st, h.few⟩
theorem FSOk.do {f : FS} (h : FSOk f) (c : Cmd) : FSOk (f.doS c) := by
  unfold FS.doS
  split
  · exact h
  · rename_i h1
    have h1 : (f.run c).1 = 0 := by simpa using h1
    unfold FS.run at h1 ⊢
    split at h1
    · rename_i h2; exact absurd h1 h2
    rename_i h2
    rw [if_neg h2]
    have a := act_ok h.open (by simpa using h2)
    exact (wakeF_ok 100 [] _ _ a.ok (fun o ho => by cases ho) h1).ok.shut
end Go.Proofs.YtkdgpdijbobmkaaGreat
namespace Go.Proofs.YtkdgpdijbobmkaaGreat
set_option linter.all false
open Go Go.RowKit
theorem trades_le : ∀ (T : List Trade) (t : FT), t.ev.length ≤ (tradesF T t).2.ev.length
  | [], _ => Nat.le_refl _
  | x :: l, t => by
    unfold tradesF
    split
    · exact Nat.le_refl _
    · refine Nat.le_trans ?_ (trades_le l _)
      show t.ev.length ≤ (t.ev ++ [_]).length
      simp
theorem went_le (L M : List Lv) : ∀ (W : List Int) (t : FT), t.ev.length ≤ (wentF L M W t).2.ev.length
  | [], _ => Nat.le_refl _
  | id :: l, t => by
    unfold wentF
    cases findB L M id with
    | none => exact Nat.le_refl _
    | some z =>
      obtain ⟨s, i, k, x, r⟩ := z
      dsimp only
      split
      · exact Nat.le_refl _
      · refine Nat.le_trans ?_ (went_le L M l _)
        show t.ev.length ≤ ((t.release r s x.price).2.ev ++ [_]).length
        rw [release_ev, List.length_append]
        omega
theorem tell_le (t : FT) (a b c d : Int) : t.ev.length ≤ (t.tell a b c d).ev.length := by show _ ≤ (t.ev ++ [_]).length; simp
theorem settle_le (t : FT) (o : Order) (T : List Trade) (W : List Int) (left gone : Int) (K1 K2 : List Lv) : t.ev.length ≤ (t.settle o T W left gone K1 K2).2.ev.length := by
  have h := Nat.le_trans (trades_le T t) (went_le t.L t.M W (tradesF T t).2)
  unfold FT.settle
  split
  · exact Nat.le_refl _
  split
  · exact Nat.le_refl _
  split
  · exact Nat.le_refl _
  split
  · exact Nat.le_refl _
  dsimp only
  generalize (wentF t.L t.M W (tradesF T t).2).2 = t5 at *
  generalize (freeP t5.S o.who (backR o T gone).2.1 (backR o T gone).2.2).2 = S7
  have h8 : ∀ (t7 : FT) (x y z : Int), t7.ev.length ≤ (if 0 < x then t7.tell 3 y x z else t7).ev.length := fun t7 x y z => by
    split
    · exact tell_le _ _ _ _ _
    · exact Nat.le_refl _
  have h9 : ∀ (t7 : FT) (x y z : Int), t7.ev.length ≤ (if 0 < x then t7.tell 1 y x z else t7).ev.length := fun t7 x y z => by
    split
    · exact tell_le _ _ _ _ _
    · exact Nat.le_refl _
  exact Nat.le_trans h (Nat.le_trans (h8 { t5 with S := S7 } gone o.id o.price) (h9 _ (left - gone) o.id o.price))
theorem come_le (t : FT) (o : Order) : t.ev.length ≤ (t.come o).2.2.ev.length := by
  cases hm : met t.L t.M o t.mode with
  | none => rw [FT.come_none hm]; exact Nat.le_refl _
  | some s =>
    rw [FT.come_some hm]
    unfold FT.comeS
    split
    · exact Nat.le_refl _
    split
    · exact Nat.le_refl _
    split
    · exact settle_le _ _ _ _ _ _ _ _
    · exact settle_le _ _ _ _ _ _ _ _
theorem come_out {t : FT} {o : Order} (h : (t.come o).1 = false) : (t.come o).2.2 = t := by
  cases hm : met t.L t.M o t.mode with
  | none => rw [FT.come_none hm]
  | some s =>
    rw [FT.come_some hm] at h ⊢
    unfold FT.comeS at h ⊢
    split
    · rfl
    rename_i h1
    rw [if_neg h1] at h
    split
    · rfl
    rename_i h2
    rw [if_neg h2] at h
    split at h <;> cases h
/-- those that are to come, and the floor, behind a look at those that wait -/
def wkRow (tr : Bool) (row : List Order) (t : FT) : List Order := if tr = true then row ++ wakeL t.last t.st else row
def wkT (tr : Bool) (t : FT) : FT := if tr = true then { t with st := leftS t.last t.st } else t
theorem wk_len (tr : Bool) (row : List Order) (t : FT) : (wkRow tr row t).length + (wkT tr t).st.length = row.length + t.st.length := by
  unfold wkRow wkT
  split
  · have := wake_all (p := t.last) (S := t.st)
    rw [List.length_append]
    show row.length + _ + (leftS t.last t.st).length = _
    omega
  · rfl
theorem wk_ok {tr : Bool} {row : List Order} {t : FT} (h : FOk t) (hr : ∀ o ∈ row, o.err = 0) : FOk (wkT tr t) ∧ ∀ o ∈ wkRow tr row t, o.err = 0 := by
  unfold wkRow wkT
  split
  · refine ⟨(left_st h t.last).ok, fun o ho => ?_⟩
    rcases List.mem_append.1 ho with ho | ho
    · exact hr o ho
    · exact wakeL_err h t.last o ho
  · exact ⟨h, hr⟩
theorem wk_ev (tr : Bool) (t : FT) : (wkT tr t).ev = t.ev ∧ (wkT tr t).last = t.last := by unfold wkT; split <;> exact ⟨rfl, rfl⟩
theorem wakeF_no {n : Nat} {row : List Order} {tr : Bool} {t : FT} (h : tr = true) (hp : vp t.last = false) : wakeF (n + 1) row tr t = (1, t) := by
  unfold wakeF; rw [if_pos ⟨h, hp⟩]
theorem wakeF_end {n : Nat} {row : List Order} {tr : Bool} {t : FT} (h : ¬ (tr = true ∧ vp t.last = false)) (hr : wkRow tr row t = []) : wakeF (n + 1) row tr t = (0, wkT tr t) := by
  unfold wkRow at hr
  unfold wakeF
  rw [if_neg h, hr]; rfl
/-- one that wakes -/
def wkStep (n : Nat) (l : List Order) (o : Order) (t0 t2 t1 : FT) (c : Bool × Int × FT) : Int × FT :=
  if c.2.1 ≠ 0 ∧ c.1 = true then (c.2.1, t0)
  else if c.2.1 ≠ 0 then
    if (t1.unhold o).1 ≠ 0 then ((t1.unhold o).1, t0)
    else wakeF n l (tradedF ((t1.unhold o).2.tell 3 o.id o.qty o.price).ev t2.ev.length) ((t1.unhold o).2.tell 3 o.id o.qty o.price)
  else wakeF n l (tradedF c.2.2.ev t2.ev.length) c.2.2
theorem wakeF_one {n : Nat} {row l : List Order} {o : Order} {tr : Bool} {t : FT} (h : ¬ (tr = true ∧ vp t.last = false)) (hr : wkRow tr row t = o :: l) :
    wakeF (n + 1) row tr t = wkStep n l o t (wkT tr t) ((wkT tr t).tell 4 o.id o.qty (wkT tr t).last) (((wkT tr t).tell 4 o.id o.qty (wkT tr t).last).come o) := by
  rw [(wk_ev tr t).2]
  unfold wkRow at hr
  unfold wakeF
  rw [if_neg h, hr]
  unfold wkStep
  rw [(wk_ev tr t).1]
  rfl
/-- a row that is none of the state's -/
theorem OwnS.ks {Q : Nat → Prop} {w w' : World} {base s n cap : Nat} {A : Option Addr} {xs : List Value} (o : OwnS w base s A n cap xs) (h : Ks Q w w') (hn : ∀ k, rowOf A cap = some k → ¬ Q k) : OwnS w' base s A n cap xs := by
  refine ⟨o.len, o.le, o.max, fun hc => ?_⟩
  obtain ⟨g, off, e, hb, hl, h1, h2⟩ := o.lies hc
  have hr : rowOf A cap = some g := by rw [rowOf, if_neg (by omega), e]; rfl
  have hblk := h.block g hl (hn g hr)
  refine ⟨g, off, e, hb, Nat.lt_of_lt_of_le hl h.size, fun j hj => ?_, fun j hj => ⟨?_, ?_⟩⟩
  · exact (World.cell?_of_block (a := ⟨g, off + j, none⟩) hblk).trans (h1 j hj)
  · exact (congrArg Option.isSome (World.cell?_of_block (a := ⟨g, off + j, none⟩) hblk)).trans (h2 j hj).1
  · exact (World.frozen?_of_block (a := ⟨g, off + j, none⟩) hblk).trans (h2 j hj).2
/-- a block of others is written -/
theorem FSt.rowed {w w' : World} {lo : Nat} {a : FA} {t : FT} {r : Option Nat} {X' : Nat → Prop} (h : FSt w lo a t) (hg : w.grownBy w' r) (hr : ∀ k, r = some k → ¬ a.Q k ∧ a.X k) (hx : ∀ k, X' k → a.X k ∨ w.heap.size ≤ k) (hl : ∀ k, X' k → k < w'.heap.size) : FSt w' lo { a with X := X' } t := by
  have hn : ∀ k, a.Q k → some k ≠ r := fun k hq e => (hr k e.symm).1 hq
  have hk : Kp (fun k => ¬ a.R k) (fun k => ¬ FA.R { a with X := X' } k) w w' := Kp.grown hg (fun k hp hk => ⟨fun e => hp (.inr (hr k e.symm).2), fun e => e.elim (fun e => hp (.inl e)) (fun e => (hx k e).elim (fun e => hp (.inr e)) (fun h' => by omega))⟩)
  have no : ∀ {s n c : Nat} {A : Option Addr} {xs : List Value}, (∀ k, rowOf A c = some k → a.Q k) → OwnS w lo s A n c xs → OwnS w' lo s A n c xs := fun {s n c A xs} hq o => by
    cases hrw : rowOf A c with
    | none => exact o.apart0 hg (.inl hrw)
    | some k => exact o.keep hg (.inr (by rw [hrw]; exact hn k (hq k hrw)))
  exact ⟨h.b.grown hg (hn _ (.inl rfl)), ⟨h.st.b.grown hg (hn _ (.inr (.inl rfl))), no (fun k e => .inr (.inr (.inr (.inl e)))) h.st.own, h.st.apart, h.st.z⟩, h.ps.keep hg (hn _ (.inr (.inr (.inl rfl)))), no (fun k e => .inr (.inr (.inr (.inr e)))) h.ev, h.los, h.lot, h.lop, h.st_, h.sp_, h.tp_, h.ts, h.tp, h.es, h.et, h.ep, h.er_, h.bl.imp fun _ x => x.on hk, h.bm.imp fun _ x => x.on hk, h.z1, h.z2, hl⟩
theorem FSt.others {w : World} {lo : Nat} {a : FA} {t : FT} {X' : Nat → Prop} (h : FSt w lo a t) (hx : ∀ k, X' k → a.X k) : FSt w lo { a with X := X' } t :=
  h.rowed (grown_of_below (Below.refl _ _) none) (fun k e => by cases e) (fun k e => .inl (hx k e)) (fun k e => h.xl k (hx k e))
/-- a floor and a row of orders of the call's own beside it -/
structure WSt (w0 : World) (lo : Nat) (a : FA) (w : World) (a2 : FA) (t2 : FT) (A : Option Addr) (n c : Nat) (row : List Order) : Prop where
  f : FSt w lo a2 t2
  ft : FTo a w0 { a2 with X := a.X } w
  own : OwnS w w0.heap.size 8 A n c (ords row)
  len : row.length = n
  nq : ∀ k, rowOf A c = some k → ¬ a2.Q k
  x : a2.X = fun k => a.X k ∨ rowOf A c = some k
section
variable {w0 w w' w1 : World} {lo n c : Nat} {a a2 a3 : FA} {t2 t3 : FT} {A : Option Addr} {row l : List Order} {o : Order}
theorem WSt.start (h : FSt w lo a t2) : WSt w lo a w a t2 none 0 0 [] :=
  ⟨h, FTo.refl a w, OwnS.nil _ _ _ _, rfl, fun k e => (by cases e), by funext k; simp [rowOf]⟩
theorem WSt.step (h : WSt w0 lo a w a2 t2 A n c row) (hf : FSt w' lo a3 t3) (ht : FTo a2 w a3 w') : WSt w0 lo a w' a3 t3 A n c row := by
  have ht' : FTo { a2 with X := a.X } w { a3 with X := a.X } w' := ⟨ht.gs, ht.gt, ht.gp, ht.q, ht.ks, rfl⟩
  refine ⟨hf, h.ft.trans ht', h.own.ks ht.ks h.nq, h.len, fun k e hq => ?_, ht.x.trans h.x⟩
  rcases ht.q k hq with h1 | h1
  · exact h.nq k e h1
  · have := (h.own.row_lt k e).2; omega
theorem WSt.below (h : WSt w0 lo a w a2 t2 A n c row) (hb : Below w.heap.size w w') : WSt w0 lo a w' a2 t2 A n c row := h.step (h.f.below hb) (.of_below hb)
theorem WSt.grew {A' : Option Addr} {c' : Nat} (h : WSt w0 lo a w a2 t2 A n c row) (hb : Below w.heap.size w w1) (gr : Grew w1 w0.heap.size 8 A c (n + 1) (ords row ++ o.vals) A' c' w') :
    WSt w0 lo a w' { a2 with X := fun k => a.X k ∨ rowOf A' c' = some k } t2 A' (n + 1) c' (row ++ [o]) := by
  have h1 := h.below hb
  have hlt := h1.f.q_lt
  have hrow : ∀ k, rowOf A' c' = some k → rowOf A c = some k ∨ k = w1.heap.size := fun k e => by
    rcases gr.row with r | r
    · exact .inl (r ▸ e)
    · rw [r] at e; cases e; exact .inr rfl
  have h0 := h1.ft.ks.size
  have hks : Ks (fun k => w0.heap.size ≤ k) w1 w' := Ks.grown gr.grown (fun k e => .inl (h1.own.row_lt k e).1)
  refine ⟨h1.f.rowed gr.grown (fun k e => ⟨h1.nq k e, by rw [h1.x]; exact .inr e⟩) (fun k e => ?_) (fun k e => ?_), ⟨h1.ft.gs, h1.ft.gt, h1.ft.gp, h1.ft.q, h1.ft.ks.trans hks (fun k e => .inr e), rfl⟩, ?_, by rw [List.length_append, h1.len]; rfl, fun k e hq => ?_, rfl⟩
  · rcases e with e | e
    · exact .inl (by rw [h1.x]; exact .inl e)
    · rcases hrow k e with e | e
      · exact .inl (by rw [h1.x]; exact .inr e)
      · exact .inr (by omega)
  · rcases e with e | e
    · exact Nat.lt_of_lt_of_le (h1.f.xl k (by rw [h1.x]; exact .inl e)) gr.grown.size
    · exact (gr.own.row_lt k e).2
  · have e : ords (row ++ [o]) = ords row ++ o.vals := by rw [ords_app]; simp [ords]
    rw [e]; exact gr.own
  · rcases hrow k e with e | e
    · exact h1.nq k e hq
    · have := (hlt k hq).2; omega
theorem WSt.tail {g off : Nat} (h : WSt w0 lo a w a2 t2 (some ⟨g, off, none⟩) (n + 1) c (o :: l)) :
    WSt w0 lo a w { a2 with X := fun k => a.X k ∨ rowOf (some (if c = 1 then ⟨g, off, none⟩ else ⟨g, off + 8, none⟩)) (c - 1) = some k } t2 (some (if c = 1 then ⟨g, off, none⟩ else ⟨g, off + 8, none⟩)) n (c - 1) l := by
  have hrow : ∀ k, rowOf (some (if c = 1 then (⟨g, off, none⟩ : Addr) else ⟨g, off + 8, none⟩)) (c - 1) = some k → rowOf (some (⟨g, off, none⟩ : Addr)) c = some k := fun k e => by
    unfold rowOf at e ⊢
    split at e
    · cases e
    rw [if_neg (by omega)]
    split at e <;> exact e
  refine ⟨h.f.others (fun k e => ?_), ⟨h.ft.gs, h.ft.gt, h.ft.gp, h.ft.q, h.ft.ks, rfl⟩, ?_, by have := h.len; simp at this; exact this, fun k e => h.nq k (hrow k e), rfl⟩
  · rw [h.x]
    exact e.imp id (hrow k)
  · have := h.own.tail
    rwa [ords_cons, List.drop_left' o.vals_len] at this
end
end Go.Proofs.YtkdgpdijbobmkaaGreat
namespace Go.Proofs.YtkdgpdijbobmkaaGreat
set_option linter.all false
open Go Go.RowKit
theorem Kb.imp {rs qs : List (Option Nat)} {w w' : World} (h : Kb rs w w') (hi : ∀ k, some k ∈ rs → some k ∈ qs) : Kb qs w w' :=
  ⟨h.os, h.tape, h.output, h.size, fun b hb hn => h.block b hb (fun e => hn (hi b e))⟩
set_option maxRecDepth 100000 in
set_option maxHeartbeats 8000000 in
theorem wake_any (t : FT) (lo : Nat) (a : FA) (tr : Bool) (w : World) (h : FSt w lo a t) (hok : FOk t) (hlo : lo ≤ w.heap.size) (hl : t.ev.length ≤ 40000) :
    Calls Tryz.prog 38 #[.pointer (some ⟨a.gs, 0, none⟩), .bool tr] w (FOutE lo a (wakeF 100 [] tr t) w) := by
  have H := Lib.hid (WSt.start h); have HOK := Lib.hid hok
  have HL := Lib.hid (And.intro hl hlo)
  have hgs := h.b.lt
  obtain ⟨i0, hi, hz0, hz1, hz2⟩ := info_parts info_ord
  have HI := Lib.hid hi; have H0 := Lib.hid hz0; have H1 := Lib.hid hz1; have H2 := Lib.hid hz2
  clear h hok hl hlo hi hz0 hz1 hz2
  go_enter Tryz.func38, Tryz.ntmps38
  go_wp2
  go_loopg [5, 1] 100 (fun n v b wr => ∃ (row : List Order) (m : Nat) (trk : Bool) (ak : FA) (tk : FT) (A : Option Addr) (c : Nat), v = .slice A m c ∧ b = .bool trk ∧ Hid (WSt w lo a wr ak tk A m c row) ∧ Hid (FOk tk ∧ ∀ o ∈ row, o.err = 0) ∧ Hid (wakeF 100 [] tr t = wakeF n row trk tk) ∧ Hid (row.length + tk.st.length + 1 ≤ n ∧ row.length + tk.st.length ≤ 20 ∧ tk.ev.length + 464 * n ≤ t.ev.length + 46400))
  case atStart => exact ⟨[], 0, tr, a, t, none, 0, rfl, rfl, H, Lib.hid ⟨HOK.out, fun o ho => by cases ho⟩, Lib.hid rfl, Lib.hid (by have := HOK.out.few; simp; omega)⟩
  case round =>
    obtain ⟨row, m, trk, ak, tk, A, c, rfl, rfl, HW, HO, HR, HN⟩ := hrel
    have hg : ak.gs = a.gs := HW.out.ft.gs
    have HG := Lib.hid hg
    have HGT := Lib.hid (show ak.gt = a.gt from HW.out.ft.gt)
    have HN1 := Lib.hid (show gk = (gk - 1) + 1 by have := HN.out.1; omega)
    obtain ⟨row2, hrow2⟩ : ∃ r, r = wkRow trk row tk := ⟨_, rfl⟩
    obtain ⟨t2, ht2⟩ : ∃ x, x = wkT trk tk := ⟨_, rfl⟩
    have HR2 := Lib.hid hrow2; have HT2 := Lib.hid ht2
    clear hg hrow2 ht2
    go_upto_if 15 with fail
    go_cut [5, 1, 6, 7, 9] from 15 to 97 (fun v b _ _ _ wx => ∃ a2 A2 n2 c2, v = .slice A2 n2 c2 ∧ b = .bool false ∧ Hid (WSt w lo a wx a2 t2 A2 n2 c2 row2) ∧ Hid (¬ (trk = true ∧ vp tk.last = false)))
    case first => --<first
      cases trk with
      | false =>
        have HX := Lib.hid (show WSt w lo a wr ak t2 A m c row2 by rw [HT2.out, HR2.out]; exact HW.out)
        go_wp2
        go_meet
        case rel => exact ⟨ak, A, m, c, rfl, rfl, HX, Lib.hid (by simp)⟩
      | true =>
        have Wd := Lib.hid (HW.out.below (Below.refl wr.heap.size wr).drew)
        obtain ⟨q0, q1, q2, q3, q4, q5, q6⟩ := box7 HW.out.f.b
        rw [HG.out] at q3 q5
        rw [HGT.out] at q3
        clear q0 q1 q2 q4 q6
        go_upto_region 3 with fail
        rcases (show vp tk.last = false ∨ vp tk.last = true by cases vp tk.last <;> simp) with hp | hp
        · as_aux_lemma =>
          have CW := Lib.hid (wwake_bad tk.last a.gt wr.drew hp)
          have HX := Lib.hid (show wakeF 100 [] tr t = (1, tk) by rw [HR.out, HN1.out]; exact wakeF_no rfl hp)
          clear hp
          go_cut [6, 7] from 15 to 97 (fun v e wx => e = er 1 ∧ wx = wr.drew)
          case first =>
            go_region_held3 (fun w' => w'.cell? ⟨a.gs, 3, none⟩ = some (.pointer (some ⟨a.gt, 0, none⟩)) ∧ w'.cell? ⟨a.gs, 5, none⟩ = some (.int .i64 tk.last)) ((repeat' apply And.intro) <;> first | assumption | (exact cell_alloc_drew (by assumption) _) | (exact cell_alloc (by assumption) _) | (exact cell_drew (by assumption)) | (exact below_alloc_drew (by assumption) (Nat.le_refl _) _) | (exact below_alloc (by assumption) (Nat.le_refl _) _) | (exact Below.drew (by assumption))) ((go_at_call 74; (with_reducible refine CW.out.mono ?_); rintro e w2 ⟨rfl, rfl⟩; have p3 := cell_drew q3; have p5 := cell_drew q5))
            go_wp2
            go_meet
            case rel => exact ⟨rfl, rfl⟩
          obtain ⟨rfl, rfl⟩ := hcut
          go_wp2
          go_ret
          exact fend_bad HX.out (by decide) Wd.out.ft.ks
        · --<wake
          have hst := Wd.out.f.st
          rw [HGT.out] at hst
          have cW := wwake_any tk.last tk.st a.gt lo ak.At ak.ct wr.drew hst (by have := HO.out.1.few; omega) hp (by have := Wd.out.ft.ks.size; have := HL.out.2; omega)
          unfold WakeS at cW
          have CW := Lib.hid cW
          have HP := Lib.hid hp
          clear hst cW hp
          obtain ⟨l, hl⟩ : ∃ x, x = wakeL tk.last tk.st := ⟨_, rfl⟩
          rw [← hl] at CW
          have HLW := Lib.hid hl
          clear hl
          have HXX := Lib.hid (show ∀ (w2 : World) (A' : Option Addr) (c' : Nat), Hid (StM w2 a.gt lo A' c' (leftS tk.last tk.st)) → Hid (Kb [some a.gt] wr.drew w2) → (∀ k, rowOf A' c' = some k → wr.drew.heap.size ≤ k) → ∃ a2, FSt w2 lo a2 t2 ∧ FTo ak wr.drew a2 w2 ∧ w2.cell? ⟨a.gs, 3, none⟩ = some (.pointer (some ⟨a.gt, 0, none⟩)) ∧ w2.cell? ⟨a.gs, 5, none⟩ = some (.int .i64 tk.last) from fun w2 A' c' HSS HKK hAt => by
            have hs := HSS.out
            have hk := HKK.out
            rw [← HGT.out] at hs hk
            have hx := Wd.out.f.stopped hs (hk.imp (fun k e => by simp only [List.mem_cons, List.not_mem_nil, or_false] at e ⊢; exact .inl e)) (.inr hAt)
            obtain ⟨_, _, _, p3, _, p5, _⟩ := box7 hx.1.b
            rw [HT2.out, ← HG.out, ← HGT.out]
            exact ⟨_, hx.1, hx.2, p3, p5⟩)
          go_cut [6, 7] from 15 to 97 (fun v e wx => ∃ AO cO a2, v = .slice AO l.length cO ∧ e = .nilIface ∧ Hid (FSt wx lo a2 t2) ∧ Hid (FTo ak wr.drew a2 wx) ∧ Hid (OwnS wx wr.heap.size 8 AO l.length cO (ords l)))
          case first =>
            go_region_held3 (fun w' => w'.cell? ⟨a.gs, 3, none⟩ = some (.pointer (some ⟨a.gt, 0, none⟩)) ∧ w'.cell? ⟨a.gs, 5, none⟩ = some (.int .i64 tk.last)) ((repeat' apply And.intro) <;> first | assumption | (exact cell_alloc_drew (by assumption) _) | (exact cell_alloc (by assumption) _) | (exact cell_drew (by assumption)) | (exact below_alloc_drew (by assumption) (Nat.le_refl _) _) | (exact below_alloc (by assumption) (Nat.le_refl _) _) | (exact Below.drew (by assumption))) ((go_at_call 74; (with_reducible refine CW.out.mono ?_); rintro e w2 ⟨AO, cO, A', c', rfl, HOO, HSS, HKK, hAt, hap⟩; have HX := HXX.out w2 A' c' HSS HKK hAt; clear HSS HKK hAt hap; obtain ⟨a2, hF2, hT2, p3, p5⟩ := HX))
            go_wp2
            go_meet
            case rel => exact ⟨AO, cO, a2, rfl, rfl, Lib.hid hF2, Lib.hid hT2, HOO⟩
          obtain ⟨AO, cO, a2, rfl, rfl, hF2, hT2, HOO⟩ := hcut
          have W2 := Lib.hid (Wd.out.step hF2.out hT2.out)
          have OO := Lib.hid (HOO.out.lower (Nat.zero_le _))
          have hap2 : Hid (∀ k, rowOf A c = some k → rowOf AO cO ≠ some k) := Lib.hid (fun k e e2 => by
            have := (HW.out.own.row_lt k e).2
            have := (HOO.out.row_lt k e2).1
            omega)
          have hl20 : l.length ≤ 20 := by have := HN.out.2.1; have := wake_all (p := tk.last) (S := tk.st); rw [HLW.out]; omega
          have hm20 : m ≤ 20 := by have := HN.out.2.1; have := HW.out.len; omega
          clear hF2 hT2 HOO CW HXX q3 q5
          go_wp2
          go_loopw [5, 33] (fun v i wx => ∃ (k n3 : Nat) (A3 : Option Addr) (c3 : Nat) (a3 : FA), k ≤ l.length ∧ i = .int .i64 k ∧ v = .slice A3 n3 c3 ∧ n3 ≤ m + k ∧ Hid (WSt w lo a wx a3 t2 A3 n3 c3 (row ++ l.take k)) ∧ Hid (OwnS wx 0 8 AO l.length cO (ords l)) ∧ Hid (∀ k, rowOf A3 c3 = some k → rowOf AO cO ≠ some k)) (fun _ i _ => l.length - (intOf i).toNat)
          case atStart => exact ⟨0, m, A, c, a2, by omega, rfl, rfl, by omega, Lib.hid (by simpa using W2.out), OO, hap2⟩
          case round =>
            obtain ⟨k, n3, A3, c3, a3, hk, rfl, rfl, hn3, W3, O3, hap3⟩ := hrel
            by_cases hlt : k < l.length
            · obtain ⟨b, off, o, hA, hbl, ht, e0, e1, e2, e3, e4, e5, e6, e7⟩ := ord_at (O3.out.rdO) hlt
              have j0 : (0 : Int) ≤ (k : Int) := by omega
              have j1 : (k : Int) < (l.length : Int) := by omega
              have HT := Lib.hid ht
              subst hA
              clear ht
              have bx := Bk.new wr 31 #[.int .i64 o.id, .int .i64 o.who, .int .i64 o.side, .int .i64 o.kind, .int .i64 o.price, .int .i64 o.qty, .int .i64 o.show_, .int .i64 o.stop]
              have hba : Below wr.heap.size wr (wr.alloc (.cells #[.int .i64 o.id, .int .i64 o.who, .int .i64 o.side, .int .i64 o.kind, .int .i64 o.price, .int .i64 o.qty, .int .i64 o.show_, .int .i64 o.stop] 31)) := (Below.refl _ _).alloc (Nat.le_refl _) _
              have W4 := Lib.hid (W3.out.below hba); have O4 := Lib.hid (O3.out.below hba)
              clear hba
              go_upto_region 9 with fail
              generalize wr.alloc (.cells #[.int .i64 o.id, .int .i64 o.who, .int .i64 o.side, .int .i64 o.kind, .int .i64 o.price, .int .i64 o.qty, .int .i64 o.show_, .int .i64 o.stop] 31) = w4 at *
              clear e0 e1 e2 e3 e4 e5 e6 e7
              obtain ⟨o0, o1, o2, o3, o4, o5, o6, o7⟩ := obox bx
              have hz4 : w.heap.size ≤ w4.heap.size := W4.out.ft.ks.size
              go_wp2_with (at_builtin; go_loud (refine wpList_append_S (base := w.heap.size) (s := 8) (n := n3) (cap := c3) rfl _ _ _ _ rfl 31 i0 _ 64 Tryz.underlying45 HI.out H0.out H1.out H2.out rfl rfl (W4.out.own.alloc _) (by simp; omega) _ rfl 1 o.vals (src_block (m := 1) (Bk.new w4 31 #[.int .i64 o.id, .int .i64 o.who, .int .i64 o.side, .int .i64 o.kind, .int .i64 o.price, .int .i64 o.qty, .int .i64 o.show_, .int .i64 o.stop]) Tryz.underlying45 rfl o.vals_one 1) (by unfold maxLen; omega) (by omega) ?_); intro A5 c5 w5 gr)
              have hb4 : Below w4.heap.size w4 (w4.alloc (.cells #[.int .i64 o.id, .int .i64 o.who, .int .i64 o.side, .int .i64 o.kind, .int .i64 o.price, .int .i64 o.qty, .int .i64 o.show_, .int .i64 o.stop] 31)) := (Below.refl _ _).alloc (Nat.le_refl _) _
              have W5 := Lib.hid (W4.out.grew hb4 gr)
              have O5 := Lib.hid ((O4.out.alloc (.cells #[.int .i64 o.id, .int .i64 o.who, .int .i64 o.side, .int .i64 o.kind, .int .i64 o.price, .int .i64 o.qty, .int .i64 o.show_, .int .i64 o.stop] 31)).apart0 gr.grown (by
                cases hr : rowOf (some (⟨b, off, none⟩ : Addr)) cO with
                | none => exact .inl rfl
                | some k => exact .inr (fun e => hap3.out k e.symm hr)))
              have hap5 : Hid (∀ k, rowOf A5 c5 = some k → rowOf (some (⟨b, off, none⟩ : Addr)) cO ≠ some k) := Lib.hid (fun k e e2 => by
                rcases gr.row with r | r
                · exact hap3.out k (r ▸ e) e2
                · rw [r] at e; cases e
                  have h9 := (O4.out.row_lt _ e2).2
                  have h10 := hb4.size
                  omega)
              have HTK := Lib.hid (show row ++ l.take (k + 1) = (row ++ l.take k) ++ [o] by rw [List.take_add_one, HT.out]; simp)
              clear gr hb4 W3 W4 O3 O4
              go_roundw
              case rel => exact ⟨k + 1, n3 + 1, A5, c5, _, by omega, by go_num, by simp, by omega, Lib.hid (by rw [HTK.out]; exact W5.out), O5, hap5⟩
              case measure => simp [intOf]; omega
            · obtain rfl : k = l.length := by omega
              rw [List.take_length] at W3
              have HX := Lib.hid (show WSt w lo a wr a3 t2 A3 n3 c3 row2 by rw [HR2.out]; show WSt _ _ _ _ _ _ _ _ _ (if true = true then row ++ wakeL tk.last tk.st else row); rw [if_pos rfl, ← HLW.out]; exact W3.out)
              go_wp2
              go_meet
              case rel => exact ⟨a3, A3, n3, c3, rfl, rfl, HX, Lib.hid (by rw [HP.out]; simp)⟩
          -->wake
      -->first
    --<rest
    obtain ⟨a2, A2, n2, c2, rfl, rfl, W2, HV⟩ := hcut
    have hok2 := wk_ok (tr := trk) HO.out.1 HO.out.2
    rw [← HT2.out, ← HR2.out] at hok2
    have HO2 := Lib.hid hok2
    have hlen := wk_len trk row tk
    rw [← HT2.out, ← HR2.out] at hlen
    have HLN := Lib.hid hlen
    have hev := wk_ev trk tk
    rw [← HT2.out] at hev
    have HEV := Lib.hid hev
    clear hok2 hlen hev
    cases row2 with
    | nil =>
      obtain rfl : n2 = 0 := W2.out.len.symm
      have HX := Lib.hid (show wakeF 100 [] tr t = (0, t2) by rw [HR.out, HN1.out, HT2.out]; exact wakeF_end HV.out HR2.out.symm)
      go_wp2
      go_ret
      exact ⟨by rw [HX.out]; rfl, Lib.hid (fun _ => by rw [HX.out]; exact ⟨_, W2.out.f.others (X' := a.X) (fun k e => by rw [W2.out.x]; exact .inl e), W2.out.ft⟩), Lib.hid W2.out.ft.ks⟩
    | cons o l =>
      obtain ⟨m2, hm2⟩ : ∃ m2, n2 = m2 + 1 := ⟨l.length, by have := W2.out.len; simpa using this.symm⟩
      subst hm2
      have HX := Lib.hid (show wakeF 100 [] tr t = wkStep (gk - 1) l o tk t2 (t2.tell 4 o.id o.qty t2.last) ((t2.tell 4 o.id o.qty t2.last).come o) by rw [HR.out, HN1.out, HT2.out]; exact wakeF_one HV.out HR2.out.symm)
      have ho : o.err = 0 := HO2.out.2 o (by simp)
      have HOE := Lib.hid ho
      obtain ⟨b, off, o', hA, hbl, ht, e0, e1, e2, e3, e4, e5, e6, e7⟩ := ord_at (l := o :: l) (k := 0) (OwnS.rdO (base := w.heap.size) (cap := c2) (A := A2) (by rw [W2.out.len]; exact W2.out.own)) (by simp)
      obtain rfl : o = o' := by simpa using ht
      rw [show off + 0 * 8 = off by omega] at e0 e1 e2 e3 e4 e5 e6 e7
      have j1 : (0 : Int) < ((m2 + 1 : Nat) : Int) := by omega
      have hc2 : m2 + 1 ≤ c2 := W2.out.own.le
      have hcm : c2 ≤ maxLen := W2.out.own.max
      subst hA
      clear ht ho
      have bx := Bk.new wc 31 #[.int .i64 o.id, .int .i64 o.who, .int .i64 o.side, .int .i64 o.kind, .int .i64 o.price, .int .i64 o.qty, .int .i64 o.show_, .int .i64 o.stop]
      have hba : Below wc.heap.size wc (wc.alloc (.cells #[.int .i64 o.id, .int .i64 o.who, .int .i64 o.side, .int .i64 o.kind, .int .i64 o.price, .int .i64 o.qty, .int .i64 o.show_, .int .i64 o.stop] 31)) := (Below.refl _ _).alloc (Nat.le_refl _) _
      obtain ⟨A3, hA3⟩ : ∃ A3 : Addr, A3 = (if c2 = 1 then ⟨b, off, none⟩ else ⟨b, off + 8, none⟩) := ⟨_, rfl⟩
      obtain ⟨a4, hW4, hnq⟩ : ∃ a4, WSt w lo a (wc.alloc (.cells #[.int .i64 o.id, .int .i64 o.who, .int .i64 o.side, .int .i64 o.kind, .int .i64 o.price, .int .i64 o.qty, .int .i64 o.show_, .int .i64 o.stop] 31)) a4 t2 (some A3) m2 (c2 - 1) l ∧ ¬ a4.Q wc.heap.size := by
        rw [hA3]
        exact ⟨_, (W2.out.below hba).tail, fun e => by have := (W2.out.f.q_lt _ e).2; omega⟩
      have W4 := Lib.hid hW4; have HNQ := Lib.hid hnq; have HG4 := Lib.hid (show a4.gs = a.gs from hW4.ft.gs)
      have HA3 := Lib.hid hA3
      clear hba hW4 hnq hA3
      go_upto_region 15 with fail
      generalize wc.alloc (.cells #[.int .i64 o.id, .int .i64 o.who, .int .i64 o.side, .int .i64 o.kind, .int .i64 o.price, .int .i64 o.qty, .int .i64 o.show_, .int .i64 o.stop] 31) = w1 at *
      generalize wc.heap.size = gB at *
      clear e0 e1 e2 e3 e4 e5 e6 e7
      have BX := Lib.hid bx
      clear bx
      go_cut [5] from 15 to 97 (fun v wx => v = .slice (some A3) m2 (c2 - 1) ∧ wx = w1)
      case first =>
        unfold maxLen at hcm
        have k1 : (1 : Int) ≤ ((m2 + 1 : Nat) : Int) := by omega
        have k2 : ((m2 + 1 : Nat) : Int) ≤ (c2 : Int) := by omega
        by_cases hc1 : c2 = 1
        · have HA4 := Lib.hid (show A3 = ⟨b, off, none⟩ by rw [HA3.out, if_pos hc1])
          obtain rfl : m2 = 0 := by omega
          subst hc1
          go_wp2
          go_meet
          case rel => exact ⟨by rw [HA4.out], rfl⟩
        · have HA4 := Lib.hid (show A3 = ⟨b, off + 8, none⟩ by rw [HA3.out, if_neg hc1])
          have hc3 : ¬ ((c2 : Int) ≤ 1) := by omega
          have hc4 : (1 : Int) ≤ (c2 : Int) := by omega
          go_wp2
          go_meet
          case rel => exact ⟨by rw [HA4.out], rfl⟩
      obtain ⟨rfl, rfl⟩ := hcut
      obtain ⟨w1, rfl⟩ : ∃ x : World, x = wc := ⟨_, rfl⟩
      have Wd := Lib.hid (W4.out.below (Below.refl w1.heap.size w1).drew)
      have hev2 : t2.ev.length ≤ 86500 := by have := HN.out.2.2; have := HL.out.1; have := HEV.out.1; rw [this]; omega
      have cT := tell_any t2 lo a4 4 o.id o.qty t2.last w1.drew Wd.out.f (by omega) (by have := Wd.out.ft.ks.size; have := HL.out.2; omega)
      rw [HG4.out] at cT
      have CT := Lib.hid cT
      obtain ⟨q0, q1, q2, q3, q4, q5, q6⟩ := box7 W4.out.f.b
      rw [HG4.out] at q5 q6
      obtain ⟨o0, o1, o2, o3, o4, o5, o6, o7⟩ := obox BX.out
      clear cT q0 q1 q2 q3 q4 o1 o2 o3 o4 o6 o7 j1
      go_upto_region 17 with fail
      clear q6
      go_still_tail 9, (by kernel_rfl)
      change wpList _ _ _ _ _ w1.drew
      clear q5 o0 o5
      go_upto_region 18 with (go_at_call 75; refine CT.out.mono ?_; rintro e w5 ⟨rfl, HE⟩)
      obtain ⟨a5, hF5, hT5⟩ := HE.out
      have W5 := Lib.hid (Wd.out.step hF5 hT5)
      have B5 := Lib.hid (hT5.bk BX.out.drew HNQ.out)
      have HNQ5 := Lib.hid (show ¬ a5.Q gB from fun e => (hT5.q gB e).elim HNQ.out (fun h' => by have := BX.out.lt; simp at h'; omega))
      have HG5 := Lib.hid (show a5.gs = a.gs from W5.out.ft.gs)
      clear CT HE hF5 hT5 Wd W4 W2 HG4 HNQ BX
      have HT1 := Lib.hid (show FOk (t2.tell 4 o.id o.qty t2.last) ∧ (t2.tell 4 o.id o.qty t2.last).st = t2.st ∧ (t2.tell 4 o.id o.qty t2.last).ev.length = t2.ev.length + 1 from ⟨((tell_same t2 4 o.id o.qty t2.last).more HO2.out.1).ok, rfl, by show (t2.ev ++ [_]).length = _; simp⟩)
      generalize t2.tell 4 o.id o.qty t2.last = t1 at *
      have cC := come_any t1 lo a5 o w5 W5.out.f HT1.out.1.pu HT1.out.1.bk HOE.out (by have := W5.out.ft.ks.size; have := HL.out.2; omega) (by rw [HT1.out.2.2]; omega)
      rw [HG5.out] at cC
      unfold FOutC at cC
      have HC := Lib.hid (And.intro (come_le t1 o) (And.intro (come_out (t := t1) (o := o)) (come_ok HT1.out.1 HOE.out)))
      generalize t1.come o = r at *
      obtain ⟨bin, k, t3⟩ := r
      dsimp only at cC
      have HC2 := Lib.hid (show t1.ev.length ≤ t3.ev.length ∧ (bin = false → t3 = t1) ∧ (bin = false ∨ k = 0 → FOk t3 ∧ t3.st = t1.st ∧ t3.mode = t1.mode ∧ t3.ev.length ≤ t1.ev.length + 462) from HC.out)
      obtain ⟨o0, o1, o2, o3, o4, o5, o6, o7⟩ := obox B5.out
      clear HC
      by_cases hk : k = 0
      · --<in
        subst hk
        have HX2 := Lib.hid (show wakeF 100 [] tr t = wakeF (gk - 1) l (tradedF t3.ev t2.ev.length) t3 by rw [HX.out]; exact (if_neg (by simp)).trans (if_neg (by simp)))
        rw [show errV 0 = .nilIface from rfl] at cC
        have CC := Lib.hid cC
        clear cC HX
        go_upto_region 19 with (go_at_call 76; refine CC.out.mono ?_; rintro e w6 ⟨rfl, HE, HK⟩)
        obtain ⟨a6, hF6, hT6⟩ := HE.out (by simp)
        have W6 := Lib.hid (W5.out.step hF6 hT6)
        have HF6 := Lib.hid (show FOk t3 ∧ t3.st = t2.st ∧ t2.ev.length ≤ t3.ev.length ∧ t3.ev.length ≤ t2.ev.length + 464 from by
          obtain ⟨h1, _, h2⟩ := HC2.out
          obtain ⟨h3, h4, _, h5⟩ := h2 (by simp)
          have := HT1.out.2.2
          exact ⟨h3, h4.trans HT1.out.2.1, by omega, by omega⟩)
        clear CC HE HK hF6 hT6 o0 o1 o2 o3 o4 o5 o6 o7
        generalize t3 = t5 at *
        (have HG9 := Lib.hid (show a6.gs = a.gs from W6.out.ft.gs); have cR := traded_any t5 lo a6 t2.ev.length w6 W6.out.f HF6.out.2.2.1 (by have := HF6.out.2.2.2; omega); rw [HG9.out] at cR; have CR := Lib.hid cR; clear cR; obtain ⟨tr5, htr5⟩ : ∃ x, x = tradedF t5.ev t2.ev.length := ⟨_, rfl⟩; rw [← htr5] at CR; have HTR := Lib.hid htr5; clear htr5; go_wp2_with (go_at_call 39; refine CR.out.mono ?_; rintro e w9 ⟨rfl, hb9⟩); go_roundg (gk - 1)); (case measure => have := HN1.out; omega); (case rel => exact ⟨l, m2, tr5, a6, t5, some A3, c2 - 1, rfl, rfl, Lib.hid (W6.out.below hb9), Lib.hid ⟨HF6.out.1, fun y hy => HO2.out.2 y (by simp [hy])⟩, Lib.hid (by rw [HX2.out, HTR.out]), Lib.hid (by have h1 := HN.out; have h2 := HLN.out; have h3 := HF6.out; have h4 := HEV.out.1; have h5 := HN1.out; rw [h3.2.1]; rw [h4] at h3; simp only [List.length_cons] at h2; refine ⟨by omega, by omega, by omega⟩)⟩)
        -->in
      · --<out
        have HK0 := Lib.hid hk
        rw [show errV k = er k by rw [errV, if_neg hk]] at cC
        have CC := Lib.hid cC
        clear cC hk
        cases bin with
        | true => as_aux_lemma =>
          have HX2 := Lib.hid (show wakeF 100 [] tr t = (k, tk) by rw [HX.out]; exact if_pos ⟨HK0.out, rfl⟩)
          go_upto_region 19 with (go_at_call 76; refine CC.out.mono ?_; rintro e w6 ⟨rfl, HE, HK⟩)
          go_wp2
          go_ret
          exact fend_bad HX2.out HK0.out (W5.out.ft.ks.trans HK.out W5.out.ft.q)
        | false =>
          go_upto_region 19 with (go_at_call 76; refine CC.out.mono ?_; rintro e w6 ⟨rfl, HE, HK⟩)
          obtain ⟨a6, hF6, hT6⟩ := HE.out (by simp)
          obtain rfl : t3 = t1 := HC2.out.2.1 (by simp)
          have W6 := Lib.hid (W5.out.step hF6 hT6)
          have B6 := Lib.hid (hT6.bk B5.out HNQ5.out)
          have HNQ6 := Lib.hid (show ¬ a6.Q gB from fun e => (hT6.q gB e).elim HNQ5.out (fun h' => by have := B5.out.lt; omega))
          have HG6 := Lib.hid (show a6.gs = a.gs from W6.out.ft.gs)
          clear CC HE HK hF6 hT6 o0 o1 o2 o3 o4 o5 o6 o7
          obtain ⟨o0, o1, o2, o3, o4, o5, o6, o7⟩ := obox B6.out
          have cU := funhold_any t3 lo a6 o w6 W6.out.f HT1.out.1.pu.1
          rw [HG6.out] at cU
          unfold FOut at cU
          by_cases hu : (t3.unhold o).1 = 0
          · --<back
            rw [hu, show errV 0 = .nilIface from rfl] at cU
            have CU := Lib.hid cU
            have HX2 := Lib.hid (show wakeF 100 [] tr t = wakeF (gk - 1) l (tradedF ((t3.unhold o).2.tell 3 o.id o.qty o.price).ev t2.ev.length) ((t3.unhold o).2.tell 3 o.id o.qty o.price) by
              rw [HX.out]; exact (if_neg (by simp)).trans ((if_pos HK0.out).trans (if_neg (by simpa using hu))))
            have HF6 := Lib.hid (show FOk ((t3.unhold o).2.tell 3 o.id o.qty o.price) ∧ ((t3.unhold o).2.tell 3 o.id o.qty o.price).st = t2.st ∧ t2.ev.length ≤ ((t3.unhold o).2.tell 3 o.id o.qty o.price).ev.length ∧ ((t3.unhold o).2.tell 3 o.id o.qty o.price).ev.length ≤ t2.ev.length + 464 from by
              have h1 := (unhold_fs t3 o).more HT1.out.1
              have h2 := (tell_same (t3.unhold o).2 3 o.id o.qty o.price).more h1.ok
              have e1 : ((t3.unhold o).2.tell 3 o.id o.qty o.price).ev.length = t3.ev.length + 1 := by
                show ((t3.unhold o).2.ev ++ [_]).length = _
                rw [unhold_ev, List.length_append]; rfl
              have := HT1.out.2.2
              exact ⟨h2.ok, (unhold_fs t3 o).st.trans HT1.out.2.1, by omega, by omega⟩)
            have HE6 := Lib.hid (show (t3.unhold o).2.ev.length ≤ 100000 by rw [unhold_ev, HT1.out.2.2]; omega)
            clear cU hu HX
            generalize (t3.unhold o).2 = t4 at *
            go_upto_region 23 with (go_at_call 77; refine CU.out.mono ?_; rintro e w7 ⟨rfl, HE⟩)
            obtain ⟨a7, hF7, hT7⟩ := HE.out
            have W7 := Lib.hid (W6.out.step hF7 hT7)
            have B7 := Lib.hid (hT7.bk B6.out HNQ6.out)
            have HG7 := Lib.hid (show a7.gs = a.gs from W7.out.ft.gs)
            clear CU HE hF7 hT7 o0 o1 o2 o3 o4 o5 o6 o7
            obtain ⟨o0, o1, o2, o3, o4, o5, o6, o7⟩ := obox B7.out
            have cT := tell_any t4 lo a7 3 o.id o.qty o.price w7 W7.out.f HE6.out (by have := W7.out.ft.ks.size; have := HL.out.2; omega)
            rw [HG7.out] at cT
            have CT := Lib.hid cT
            clear cT o1 o2 o3 o6 o7
            go_upto_region 26 with (go_at_call 75; refine CT.out.mono ?_; rintro e w8 ⟨rfl, HE⟩)
            obtain ⟨a8, hF8, hT8⟩ := HE.out
            have W8 := Lib.hid (W7.out.step hF8 hT8)
            clear CT HE hF8 hT8 o0 o4 o5 W6 W7 HG6 HG7
            generalize t4.tell 3 o.id o.qty o.price = t5 at *
            obtain ⟨a6, W6⟩ : ∃ a6, Hid (WSt w lo a w8 a6 t5 (some A3) m2 (c2 - 1) l) := ⟨a8, W8⟩
            obtain ⟨w6, rfl⟩ : ∃ w6 : World, w6 = w8 := ⟨_, rfl⟩
            clear W8
            (have HG9 := Lib.hid (show a6.gs = a.gs from W6.out.ft.gs); have cR := traded_any t5 lo a6 t2.ev.length w6 W6.out.f HF6.out.2.2.1 (by have := HF6.out.2.2.2; omega); rw [HG9.out] at cR; have CR := Lib.hid cR; clear cR; obtain ⟨tr5, htr5⟩ : ∃ x, x = tradedF t5.ev t2.ev.length := ⟨_, rfl⟩; rw [← htr5] at CR; have HTR := Lib.hid htr5; clear htr5; go_wp2_with (go_at_call 39; refine CR.out.mono ?_; rintro e w9 ⟨rfl, hb9⟩); go_roundg (gk - 1)); (case measure => have := HN1.out; omega); (case rel => exact ⟨l, m2, tr5, a6, t5, some A3, c2 - 1, rfl, rfl, Lib.hid (W6.out.below hb9), Lib.hid ⟨HF6.out.1, fun y hy => HO2.out.2 y (by simp [hy])⟩, Lib.hid (by rw [HX2.out, HTR.out]), Lib.hid (by have h1 := HN.out; have h2 := HLN.out; have h3 := HF6.out; have h4 := HEV.out.1; have h5 := HN1.out; rw [h3.2.1]; rw [h4] at h3; simp only [List.length_cons] at h2; refine ⟨by omega, by omega, by omega⟩)⟩)
            -->back
          · as_aux_lemma =>
            rw [show errV (t3.unhold o).1 = er (t3.unhold o).1 by rw [errV, if_neg hu]] at cU
            have CU := Lib.hid cU
            have HX2 := Lib.hid (show wakeF 100 [] tr t = ((t3.unhold o).1, tk) by
              rw [HX.out]; exact (if_neg (by simp)).trans ((if_pos HK0.out).trans (if_pos hu)))
            have HNZ := Lib.hid hu
            clear cU hu HX
            generalize t3.unhold o = ru at *
            go_wp2_with (go_at_call 77; refine CU.out.mono ?_; rintro e w7 ⟨rfl, HE⟩)
            go_ret
            obtain ⟨a7, hF7, hT7⟩ := HE.out
            exact fend_bad HX2.out HNZ.out (W6.out.ft.ks.trans hT7.ks W6.out.ft.q)
        -->out
    -->rest
end Go.Proofs.YtkdgpdijbobmkaaGreat
