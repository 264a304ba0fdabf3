/- The contract of swap.Of. -/
import Derived.Test.YtkdgpdijbobmkaaGreatGrpAB
namespace Go.Proofs.YtkdgpdijbobmkaaGreat
set_option linter.all false
open Go Go.RowKit
/-- how Of ends -/
def SwPost (E sd pr : Int) (r : Rest) (kp : Bool) (K1 K2 : List Lv) (an : Order) (ls : Int) (w : World) (e : Ending) (w' : World) : Prop :=
  ∃ B1 d1 u1 B2 d2 u2, e = .returned (.tuple #[.agg #[.int .i64 sd, .int .i64 pr, .int .i64 r.id, .int .i64 r.who, .int .i64 r.qty, .int .i64 r.hidden, .int .i64 r.show_, .bool kp, .slice B1 K1.length d1, .slice B2 K2.length d2, .int .i64 an.id, .int .i64 an.who, .int .i64 an.side, .int .i64 an.kind, .int .i64 an.price, .int .i64 an.qty, .int .i64 an.show_, .int .i64 an.stop, .int .i64 ls], errV E]) ∧
    Hid (OwnLv w' w.heap.size B1 d1 K1 u1 ∧ OwnLv w' w.heap.size B2 d2 K2 u2) ∧ Below w.heap.size w w'
theorem OwnLv.nil (w : World) (base : Nat) : OwnLv w base none 0 [] [] := ⟨rfl, OwnS.nil _ _ _ _, fun i x v h => by simp at h, fun i j v u _ h => by simp at h⟩
theorem sw_bad {L M K1 K2 : List Lv} {id p q E sd pr ls e0 : Int} {r : Rest} {kp : Bool} {an : Order} {w w' : World} (h : SW L M id p q E sd pr r kp K1 K2 an ls) (he : swE L M id p q = e0) (h0 : e0 ≠ 0) (hb : Below w.heap.size w w') :
    SwPost E sd pr r kp K1 K2 an ls w (.returned (.tuple #[.agg #[.int .i64 0, .int .i64 0, .int .i64 0, .int .i64 0, .int .i64 0, .int .i64 0, .int .i64 0, .bool false, .slice none 0 0, .slice none 0 0, .int .i64 0, .int .i64 0, .int .i64 0, .int .i64 0, .int .i64 0, .int .i64 0, .int .i64 0, .int .i64 0, .int .i64 0], er e0])) w' := by
  obtain ⟨rfl, rfl, rfl, rfl, rfl, rfl, rfl, rfl, rfl⟩ := h.bad he h0
  exact ⟨none, 0, [], none, 0, [], by rw [errV, if_neg h0]; rfl, Lib.hid ⟨OwnLv.nil _ _, OwnLv.nil _ _⟩, hb⟩
theorem sw_keep {L M K1 K2 : List Lv} {id p q E sd pr ls : Int} {rr : Rest} {kp : Bool} {an : Order} {w w' : World} (h : SW L M id p q E sd pr rr kp K1 K2 an ls) (he : swE L M id p q = 0) {s : Int} {i k : Nat} {x : Lv} {r : Rest} (ha : BAt L M id s i k x r) (hk : keepB x r p q = true) {lz H : Int} (hlz : lz = lessOf r q) (hH : H = max 0 (r.hidden - lz))
    {base f1 f2 : Nat} {D1 D2 : Option Addr} {u1 u2 : List (Option Addr × Nat)} (hbw : w.heap.size ≤ base) (o1 : OwnLv w' base D1 f1 (setRL s i k ⟨r.id, r.who, q - H, H, r.show_⟩ L) u1) (o2 : OwnLv w' base D2 f2 (setRM s i k ⟨r.id, r.who, q - H, H, r.show_⟩ M) u2) (hb : Below w.heap.size w w') :
    SwPost E sd pr rr kp K1 K2 an ls w (.returned (.tuple #[.agg #[.int .i64 s, .int .i64 x.price, .int .i64 r.id, .int .i64 r.who, .int .i64 r.qty, .int .i64 r.hidden, .int .i64 r.show_, .bool true, .slice D1 L.length f1, .slice D2 M.length f2, .int .i64 0, .int .i64 0, .int .i64 0, .int .i64 0, .int .i64 0, .int .i64 0, .int .i64 0, .int .i64 0, .int .i64 lz], .nilIface])) w' := by
  obtain ⟨rfl, rfl, rfl, rfl, rfl, rfl, h5, _⟩ := h.good he ha
  obtain ⟨rfl, rfl, rfl⟩ := h5 hk
  subst hH
  subst hlz
  exact ⟨D1, f1, u1, D2, f2, u2, by rw [setRL_len, setRM_len, hk]; rfl, Lib.hid ⟨o1.lower hbw, o2.lower hbw⟩, hb⟩
theorem sw_anew {L M K1 K2 : List Lv} {id p q E sd pr ls : Int} {rr : Rest} {kp : Bool} {an : Order} {w w' : World} (h : SW L M id p q E sd pr rr kp K1 K2 an ls) (he : swE L M id p q = 0) {s : Int} {i k : Nat} {x : Lv} {r : Rest} (ha : BAt L M id s i k x r) (hk : keepB x r p q = false) {lz : Int} (hlz : lz = lessOf r q)
    {base g1 g2 : Nat} {G1 G2 : Option Addr} {u1 u2 : List (Option Addr × Nat)} (hbw : w.heap.size ≤ base) (o1 : OwnLv w' base G1 g1 (cutL s i k L) u1) (o2 : OwnLv w' base G2 g2 (cutM s i k M) u2) (hb : Below w.heap.size w w') :
    SwPost E sd pr rr kp K1 K2 an ls w (.returned (.tuple #[.agg #[.int .i64 s, .int .i64 x.price, .int .i64 r.id, .int .i64 r.who, .int .i64 r.qty, .int .i64 r.hidden, .int .i64 r.show_, .bool false, .slice G1 (cutL s i k L).length g1, .slice G2 (cutM s i k M).length g2, .int .i64 id, .int .i64 r.who, .int .i64 s, .int .i64 1, .int .i64 p, .int .i64 q, .int .i64 (min r.show_ q), .int .i64 0, .int .i64 lz], .nilIface])) w' := by
  obtain ⟨rfl, rfl, rfl, rfl, rfl, rfl, _, h5⟩ := h.good he ha
  obtain ⟨rfl, rfl, rfl⟩ := h5 hk
  subst hlz
  exact ⟨G1, g1, u1, G2, g2, u2, by rw [hk]; rfl, Lib.hid ⟨o1.lower hbw, o2.lower hbw⟩, hb⟩
theorem ordr_size : (Tryz.prog.info? 31).map (·.size) = some 8 := by kernel_rfl
theorem ordr_one {a0 a1 a2 a3 a4 a5 a6 a7 : Int} : (#[Value.int .i64 a0, .int .i64 a1, .int .i64 a2, .int .i64 a3, .int .i64 a4, .int .i64 a5, .int .i64 a6, .int .i64 a7] : Array Value).all (·.oneCell') = true := by
  refine one_all (cs := [_, _, _, _, _, _, _, _]) (fun v hv => ?_)
  simp only [List.mem_cons, List.not_mem_nil, or_false] at hv
  rcases hv with rfl | rfl | rfl | rfl | rfl | rfl | rfl | rfl <;> rfl
theorem anew_build (a b c d e f : Int) (w : World) : (Instr.build 31 #[(0, .int .i64 a), (1, .int .i64 b), (2, .int .i64 c), (3, .int .i64 1), (4, .int .i64 d), (5, .int .i64 e), (6, .int .i64 f)]).run Tryz.prog w = .ok (.agg #[.int .i64 a, .int .i64 b, .int .i64 c, .int .i64 1, .int .i64 d, .int .i64 e, .int .i64 f, .int .i64 0]) w := by kernel_rfl
set_option maxRecDepth 100000 in
set_option maxHeartbeats 8000000 in
theorem swof_any (L M : List Lv) (id p q : Int) (E sd pr : Int) (rr : Rest) (kp : Bool) (K1 K2 : List Lv) (an : Order) (ls : Int) (hsw : SW L M id p q E sd pr rr kp K1 K2 an ls) (A1 A2 : Option Addr) (c1 c2 : Nat) (w : World) (h1 : RdLv w w.heap.size A1 L) (h2 : RdLv w w.heap.size A2 M) (hl1 : L.length ≤ maxLen) (hl2 : M.length ≤ maxLen) (hA1 : A1 = none → c1 = 0) (hA2 : A2 = none → c2 = 0) :
    Calls Tryz.prog 100 #[.agg #[.slice A1 L.length c1, .slice A2 M.length c2], .int .i64 id, .int .i64 p, .int .i64 q] w (SwPost E sd pr rr kp K1 K2 an ls w) := by
  have HL := Lib.hid h1; have HM := Lib.hid h2; have HSW := Lib.hid hsw
  have cC := Lib.hid (fun w' h h' => bcheck_any L M A1 A2 c1 c2 w' h h' hl1 hl2)
  have hb : Below w.heap.size w ((w.alloc (.cells #[.slice A1 L.length c1, .slice A2 M.length c2] 54)).alloc (.cells #[.int .i64 0, .int .i64 0, .int .i64 0, .int .i64 0, .int .i64 0, .int .i64 0, .int .i64 0, .bool false, .slice none 0 0, .slice none 0 0, .int .i64 0, .int .i64 0, .int .i64 0, .int .i64 0, .int .i64 0, .int .i64 0, .int .i64 0, .int .i64 0, .int .i64 0] 161)) := below_then_alloc ((Below.refl _ _).alloc (Nat.le_refl _) _)
  have bb := (Bk.new w 54 #[.slice A1 L.length c1, .slice A2 M.length c2]).alloc (.cells #[.int .i64 0, .int .i64 0, .int .i64 0, .int .i64 0, .int .i64 0, .int .i64 0, .int .i64 0, .bool false, .slice none 0 0, .slice none 0 0, .int .i64 0, .int .i64 0, .int .i64 0, .int .i64 0, .int .i64 0, .int .i64 0, .int .i64 0, .int .i64 0, .int .i64 0] 161)
  have br := Bk.at_ (w := w.alloc (.cells #[.slice A1 L.length c1, .slice A2 M.length c2] 54)) (g' := w.heap.size + 1) (by simp) 161 #[.int .i64 0, .int .i64 0, .int .i64 0, .int .i64 0, .int .i64 0, .int .i64 0, .int .i64 0, .bool false, .slice none 0 0, .slice none 0 0, .int .i64 0, .int .i64 0, .int .i64 0, .int .i64 0, .int .i64 0, .int .i64 0, .int .i64 0, .int .i64 0, .int .i64 0]
  have HA1 := Lib.hid hA1; have HA2 := Lib.hid hA2
  clear h1 h2 hl1 hl2 hA1 hA2 hsw
  go_enter Tryz.func100, Tryz.ntmps100
  go_upto_region 1 with fail
  generalize (w.alloc (.cells #[.slice A1 L.length c1, .slice A2 M.length c2] 54)).alloc (.cells #[.int .i64 0, .int .i64 0, .int .i64 0, .int .i64 0, .int .i64 0, .int .i64 0, .int .i64 0, .bool false, .slice none 0 0, .slice none 0 0, .int .i64 0, .int .i64 0, .int .i64 0, .int .i64 0, .int .i64 0, .int .i64 0, .int .i64 0, .int .i64 0, .int .i64 0] 161) = w0 at *
  obtain ⟨q0, q1⟩ := box2 bb
  go_wp2_with fail
  go_at_call 18
  refine (cC.out _ (HL.out.on hb) (HM.out.on hb)).mono ?_
  rintro e w1 ⟨rfl, hb1⟩
  replace bb := bb.keep hb1; replace br := br.keep hb1; replace hb := below_then hb1 hb
  clear hb1 cC q0 q1
  by_cases h1 : bookE L M = 0
  case neg => as_aux_lemma =>
    --<bad1
    have HE := Lib.hid (show swE L M id p q = bookE L M by rw [swE, if_pos h1])
    have HN := Lib.hid h1
    rw [show errV (bookE L M) = er (bookE L M) by rw [errV, if_neg h1]]
    (have HTH := Lib.hid br.there; have HBX := Lib.hid (br.setCs (vs := (#[.int .i64 0, .int .i64 0, .int .i64 0, .int .i64 0, .int .i64 0, .int .i64 0, .int .i64 0, .bool false, .slice none 0 0, .slice none 0 0, .int .i64 0, .int .i64 0, .int .i64 0, .int .i64 0, .int .i64 0, .int .i64 0, .int .i64 0, .int .i64 0, .int .i64 0] : Array Value).toList) rfl); have HF := Lib.hid (below_Cs (vs := (#[.int .i64 0, .int .i64 0, .int .i64 0, .int .i64 0, .int .i64 0, .int .i64 0, .int .i64 0, .bool false, .slice none 0 0, .slice none 0 0, .int .i64 0, .int .i64 0, .int .i64 0, .int .i64 0, .int .i64 0, .int .i64 0, .int .i64 0, .int .i64 0, .int .i64 0] : Array Value).toList) (i := 0) (g := w.heap.size + 1) (by omega) hb); have kb := swap_zero; have HRD := Lib.hid (swap_read HBX.out rfl))
    clear h1 bb br hb
    generalize bookE L M = y at *
    go_wp2_with (refine wpList_store_mid (by rfl) 161 _ _ (by rfl) _ 0 #[.int .i64 0, .int .i64 0, .int .i64 0, .int .i64 0, .int .i64 0, .int .i64 0, .int .i64 0, .bool false, .slice none 0 0, .slice none 0 0, .int .i64 0, .int .i64 0, .int .i64 0, .int .i64 0, .int .i64 0, .int .i64 0, .int .i64 0, .int .i64 0, .int .i64 0] (by rfl) (by rfl) HTH.out swap_size swap_one ?_)
    exact bodyPost_ret (v := .tuple #[.agg #[.int .i64 0, .int .i64 0, .int .i64 0, .int .i64 0, .int .i64 0, .int .i64 0, .int .i64 0, .bool false, .slice none 0 0, .slice none 0 0, .int .i64 0, .int .i64 0, .int .i64 0, .int .i64 0, .int .i64 0, .int .i64 0, .int .i64 0, .int .i64 0, .int .i64 0], er y]) (results_ct Tryz.results100 rfl rfl HRD.out) rfl (sw_bad HSW.out HE.out HN.out HF.out)
    -->bad1
  have HE0 := Lib.hid (show swE L M id p q = if (whereB L M id).1 = 0 then 5 else if vp p = true ∧ inb q 1 10000 = true then 0 else 1 by rw [swE, if_neg (by simpa using h1)])
  have zz := bookE_zero h1
  have O1 := LvOk.of zz.1
  have O2 := LvOk.of zz.2.1
  have cW := Lib.hid (fun w' h h' => bwhere_any L M A1 A2 c1 c2 id w' h h' O1 O2)
  have cOwn := Lib.hid (fun w' h h' => bown2_any L M A1 A2 c1 c2 w' h h' O1 O2 HA1.out HA2.out)
  have HBK := Lib.hid (bookE_iff.1 h1)
  rw [h1, show errV 0 = .nilIface from rfl]
  clear h1 zz O1 O2 HA1 HA2
  obtain ⟨q0, q1⟩ := box2 bb
  go_wp2_with fail
  go_at_call 93
  refine (cW.out _ (HL.out.on hb) (HM.out.on hb)).mono ?_
  rintro e w2 ⟨rfl, hb2⟩
  replace bb := bb.keep hb2; replace br := br.keep hb2; replace hb := below_then hb2 hb
  clear hb2 cW q0 q1
  by_cases h2 : (whereB L M id).1 = 0
  · as_aux_lemma =>
    --<bad5
    have HE := Lib.hid (show swE L M id p q = 5 by rw [HE0.out, if_pos h2])
    have h2' : ((whereB L M id).1 == 0) = true := by simpa using h2
    (have HTH := Lib.hid br.there; have HBX := Lib.hid (br.setCs (vs := (#[.int .i64 0, .int .i64 0, .int .i64 0, .int .i64 0, .int .i64 0, .int .i64 0, .int .i64 0, .bool false, .slice none 0 0, .slice none 0 0, .int .i64 0, .int .i64 0, .int .i64 0, .int .i64 0, .int .i64 0, .int .i64 0, .int .i64 0, .int .i64 0, .int .i64 0] : Array Value).toList) rfl); have HF := Lib.hid (below_Cs (vs := (#[.int .i64 0, .int .i64 0, .int .i64 0, .int .i64 0, .int .i64 0, .int .i64 0, .int .i64 0, .bool false, .slice none 0 0, .slice none 0 0, .int .i64 0, .int .i64 0, .int .i64 0, .int .i64 0, .int .i64 0, .int .i64 0, .int .i64 0, .int .i64 0, .int .i64 0] : Array Value).toList) (i := 0) (g := w.heap.size + 1) (by omega) hb); have kb := swap_zero; have HRD := Lib.hid (swap_read HBX.out rfl))
    clear h2 bb br hb
    generalize (whereB L M id).1 = a1 at *
    generalize (whereB L M id).2.1 = a2 at *
    generalize (whereB L M id).2.2 = a3 at *
    go_wp2_with (refine wpList_store_mid (by rfl) 161 _ _ (by rfl) _ 0 #[.int .i64 0, .int .i64 0, .int .i64 0, .int .i64 0, .int .i64 0, .int .i64 0, .int .i64 0, .bool false, .slice none 0 0, .slice none 0 0, .int .i64 0, .int .i64 0, .int .i64 0, .int .i64 0, .int .i64 0, .int .i64 0, .int .i64 0, .int .i64 0, .int .i64 0] (by rfl) (by rfl) HTH.out swap_size swap_one ?_)
    exact bodyPost_ret (v := .tuple #[.agg #[.int .i64 0, .int .i64 0, .int .i64 0, .int .i64 0, .int .i64 0, .int .i64 0, .int .i64 0, .bool false, .slice none 0 0, .slice none 0 0, .int .i64 0, .int .i64 0, .int .i64 0, .int .i64 0, .int .i64 0, .int .i64 0, .int .i64 0, .int .i64 0, .int .i64 0], er 5]) (results_ct Tryz.results100 rfl rfl HRD.out) rfl (sw_bad HSW.out HE.out (by decide) HF.out)
    -->bad5
  have HE1 := Lib.hid (show swE L M id p q = if vp p = true ∧ inb q 1 10000 = true then 0 else 1 by rw [HE0.out, if_neg h2])
  obtain ⟨s, i, k, x, r, hat⟩ := whereB_at h2
  have hsz : s ≠ 0 := by have := hat.where_; rw [this] at h2; exact h2
  have hs0 : (s == 0) = false := by simpa using hsz
  rw [hat.where_]
  dsimp only
  have HAT := Lib.hid hat
  clear h2 hat HE0 hsz
  have VALS : vp p = true ∧ inb q 1 10000 = true ∨ (vp p = false ∨ vp p = true ∧ inb q 1 10000 = false) := by
    cases vp p <;> cases inb q 1 10000 <;> simp
  rcases VALS with ⟨hv, hq⟩ | hbad
  case inr => as_aux_lemma =>
    --<bad6
    have HE := Lib.hid (show swE L M id p q = 1 by rw [HE1.out, if_neg (by rintro ⟨a, b⟩; rcases hbad with h | ⟨_, h⟩; rw [a] at h; cases h; rw [b] at h; cases h)])
    (have HTH := Lib.hid br.there; have HBX := Lib.hid (br.setCs (vs := (#[.int .i64 0, .int .i64 0, .int .i64 0, .int .i64 0, .int .i64 0, .int .i64 0, .int .i64 0, .bool false, .slice none 0 0, .slice none 0 0, .int .i64 0, .int .i64 0, .int .i64 0, .int .i64 0, .int .i64 0, .int .i64 0, .int .i64 0, .int .i64 0, .int .i64 0] : Array Value).toList) rfl); have HF := Lib.hid (below_Cs (vs := (#[.int .i64 0, .int .i64 0, .int .i64 0, .int .i64 0, .int .i64 0, .int .i64 0, .int .i64 0, .bool false, .slice none 0 0, .slice none 0 0, .int .i64 0, .int .i64 0, .int .i64 0, .int .i64 0, .int .i64 0, .int .i64 0, .int .i64 0, .int .i64 0, .int .i64 0] : Array Value).toList) (i := 0) (g := w.heap.size + 1) (by omega) hb); have kb := swap_zero; have HRD := Lib.hid (swap_read HBX.out rfl))
    have cV := Lib.hid (fun w => valid_any p w)
    have cQ := Lib.hid (fun w => qty_any q w)
    clear bb br hb
    rcases hbad with h | ⟨h, h'⟩
    · rw [h] at cV
      clear h
      go_wp2_with (first | (refine wpList_store_mid (by rfl) 161 _ _ (by rfl) _ 0 #[.int .i64 0, .int .i64 0, .int .i64 0, .int .i64 0, .int .i64 0, .int .i64 0, .int .i64 0, .bool false, .slice none 0 0, .slice none 0 0, .int .i64 0, .int .i64 0, .int .i64 0, .int .i64 0, .int .i64 0, .int .i64 0, .int .i64 0, .int .i64 0, .int .i64 0] (by rfl) (by rfl) HTH.out swap_size swap_one ?_) | (go_at_call 51; refine (cV.out _).mono ?_; rintro e w' ⟨rfl, rfl⟩))
      exact bodyPost_ret (v := .tuple #[.agg #[.int .i64 0, .int .i64 0, .int .i64 0, .int .i64 0, .int .i64 0, .int .i64 0, .int .i64 0, .bool false, .slice none 0 0, .slice none 0 0, .int .i64 0, .int .i64 0, .int .i64 0, .int .i64 0, .int .i64 0, .int .i64 0, .int .i64 0, .int .i64 0, .int .i64 0], er 1]) (results_ct Tryz.results100 rfl rfl HRD.out) rfl (sw_bad HSW.out HE.out (by decide) HF.out)
    · rw [h] at cV
      rw [h'] at cQ
      clear h h'
      go_wp2_with (first | (refine wpList_store_mid (by rfl) 161 _ _ (by rfl) _ 0 #[.int .i64 0, .int .i64 0, .int .i64 0, .int .i64 0, .int .i64 0, .int .i64 0, .int .i64 0, .bool false, .slice none 0 0, .slice none 0 0, .int .i64 0, .int .i64 0, .int .i64 0, .int .i64 0, .int .i64 0, .int .i64 0, .int .i64 0, .int .i64 0, .int .i64 0] (by rfl) (by rfl) HTH.out swap_size swap_one ?_) | (go_at_call 51; refine (cV.out _).mono ?_; rintro e w' ⟨rfl, rfl⟩) | (go_at_call 63; refine (cQ.out _).mono ?_; rintro e w' ⟨rfl, rfl⟩))
      exact bodyPost_ret (v := .tuple #[.agg #[.int .i64 0, .int .i64 0, .int .i64 0, .int .i64 0, .int .i64 0, .int .i64 0, .int .i64 0, .bool false, .slice none 0 0, .slice none 0 0, .int .i64 0, .int .i64 0, .int .i64 0, .int .i64 0, .int .i64 0, .int .i64 0, .int .i64 0, .int .i64 0, .int .i64 0], er 1]) (results_ct Tryz.results100 rfl rfl HRD.out) rfl (sw_bad HSW.out HE.out (by decide) HF.out)
    -->bad6
  have HE := Lib.hid (show swE L M id p q = 0 by rw [HE1.out, if_pos ⟨hv, hq⟩])
  have HG := Lib.hid (HSW.out.good HE.out HAT.out)
  have cV := Lib.hid (fun w => valid_any p w)
  have cQ := Lib.hid (fun w => qty_any q w)
  rw [hv] at cV
  rw [hq] at cQ
  have hqb : 1 ≤ q ∧ q ≤ 10000 := of_decide_eq_true hq
  obtain ⟨hq1, hq2⟩ := hqb
  have hx := HAT.out.at_.lv
  have hrk := HAT.out.at_.rest
  have hi : i < (sidL s L M).length := (List.getElem?_eq_some_iff.1 hx).1
  have hk : k < x.rs.length := (List.getElem?_eq_some_iff.1 hrk).1
  have HRS : Hid (∀ w', Below w.heap.size w w' → RdLv w' w.heap.size (sid s A1 A2) (sidL s L M)) := Lib.hid (fun w' hb => by
    rcases side_two HAT.out.side with rfl | rfl
    · exact HL.out.below hb
    · exact HM.out.below hb)
  have hsd : ∃ d, SideOk d (sidL s L M) := by
    rcases side_two HAT.out.side with rfl | rfl
    · exact ⟨_, HBK.out.buys⟩
    · exact ⟨_, HBK.out.sells⟩
  obtain ⟨dd, hsd⟩ := hsd
  have hx60 : x.rs.length ≤ 60 := Nat.le_trans (len_cnt (List.mem_of_getElem? hx)) hsd.few
  have hre := err0 (hsd.sound x (List.mem_of_getElem? hx) r (List.mem_of_getElem? hrk))
  have hl1 : L.length ≤ 1000 := by have := full_len HBK.out.buys.full; have := HBK.out.buys.few; omega
  have hl2 : M.length ≤ 1000 := by have := full_len HBK.out.sells.full; have := HBK.out.sells.few; omega
  have cOf := Lib.hid (fun (B1 B2 : Option Addr) (d1 d2 : Nat) w => ofs_any s HAT.out.side L M B1 B2 d1 d2 w)
  have cCut := Lib.hid (fun (B1 B2 : Option Addr) (d1 d2 : Nat) (v1 v2 : List (Option Addr × Nat)) (base : Nat) (w' : World) o1 o2 hf hb => cutb_any s HAT.out.side L M B1 B2 d1 d2 v1 v2 base i k x w' o1 o2 hf hb HAT.out.at_.lv hk ⟨hl1, hl2⟩ (by omega))
  have hs12 : 1 ≤ s ∧ s ≤ 2 := by have := vs_t HAT.out.side; omega
  obtain ⟨q0, q1⟩ := box2 bb
  clear hv hq HE1 hsd
  --<main
  go_wp2_with (first | (go_at_call 51; refine (cV.out _).mono ?_; rintro e w' ⟨rfl, rfl⟩) | (go_at_call 63; refine (cQ.out _).mono ?_; rintro e w' ⟨rfl, rfl⟩))
  go_at_call 47
  refine (cOf.out A1 A2 c1 c2 _).mono ?_
  rintro e w3 ⟨rfl, hb3⟩
  replace bb := bb.keep hb3; replace br := br.keep hb3; replace hb := below_then hb3 hb
  clear hb3 q0 q1 cV cQ
  generalize hK : sidL s L M = K at *
  have HK := Lib.hid hK
  clear hK
  generalize hAK : sid s A1 A2 = AK at *
  generalize hcK : sid s c1 c2 = cK at *
  clear hAK hcK
  obtain ⟨b, off, y, Ar, cr, rfl, hbl, hy, d0, d1, g1, g2, g3⟩ := lv_at (HRS.out w3 hb) hi
  obtain rfl : x = y := Option.some.inj (hx.symm.trans hy)
  have i0 : (0 : Int) ≤ (i : Int) := by omega
  have i1 : (i : Int) < (K.length : Int) := by omega
  have k0 : (0 : Int) ≤ (k : Int) := by omega
  have k1 : (k : Int) < (x.rs.length : Int) := by omega
  go_upto_region 10 with fail
  have bx := Bk.new w3 60 #[.int .i64 x.price, .slice Ar x.rs.length cr]
  have hba : Below w3.heap.size w3 (w3.alloc (.cells #[.int .i64 x.price, .slice Ar x.rs.length cr] 60)) := (Below.refl _ _).alloc (Nat.le_refl _) _
  have hz3 := hb.size
  have g4 := g3.below (hba.mono hz3)
  replace bb := bb.keep hba; replace br := br.keep hba; replace hb := below_then hba hb
  have HX := Lib.hid hx; have HRK := Lib.hid hrk
  clear hba hy d0 d1 g3 HRS hx hrk
  generalize w3.alloc (.cells #[.int .i64 x.price, .slice Ar x.rs.length cr] 60) = w4 at *
  obtain ⟨gx, hgx⟩ : ∃ g, g = w3.heap.size := ⟨_, rfl⟩
  rw [← hgx] at bx ⊢
  have HGX := Lib.hid hgx
  clear hgx
  obtain ⟨b', off', t, rfl, hbl', ht, e0, e1, e2, e3, e4⟩ := rest_at g4 hk
  obtain rfl : r = t := Option.some.inj (HRK.out.symm.trans ht)
  obtain ⟨x0, x1⟩ := box2 bx
  clear ht g4
  go_upto_region 11 with fail
  have bR := Bk.new w4 62 #[.int .i64 r.id, .int .i64 r.who, .int .i64 r.qty, .int .i64 r.hidden, .int .i64 r.show_]
  have hba : Below w4.heap.size w4 (w4.alloc (.cells #[.int .i64 r.id, .int .i64 r.who, .int .i64 r.qty, .int .i64 r.hidden, .int .i64 r.show_] 62)) := (Below.refl _ _).alloc (Nat.le_refl _) _
  replace bb := bb.keep hba; replace br := br.keep hba; replace bx := bx.keep hba; replace hb := below_then hba hb
  clear hba e0 e1 e2 e3 e4 x0 x1
  generalize w4.alloc (.cells #[.int .i64 r.id, .int .i64 r.who, .int .i64 r.qty, .int .i64 r.hidden, .int .i64 r.show_] 62) = w5 at *
  obtain ⟨gr, hgr⟩ : ∃ g, g = w4.heap.size := ⟨_, rfl⟩
  rw [← hgr] at bR ⊢
  have HGR := Lib.hid hgr
  clear hgr
  obtain ⟨x0, x1⟩ := box2 bx
  obtain ⟨r0, r1, r2, r3, r4⟩ := pbox5 bR
  obtain ⟨h1, h2, h3, h4, h5, h6, _, _⟩ := hre
  have kb := fun z w => swap_build s x.price r.id r.who r.qty r.hidden r.show_ z w
  have bO0 := Bk.new w5 161 #[.int .i64 0, .int .i64 0, .int .i64 0, .int .i64 0, .int .i64 0, .int .i64 0, .int .i64 0, .bool false, .slice none 0 0, .slice none 0 0, .int .i64 0, .int .i64 0, .int .i64 0, .int .i64 0, .int .i64 0, .int .i64 0, .int .i64 0, .int .i64 0, .int .i64 0]
  have HT0 := Lib.hid bO0.there
  have bO : Bk ((w5.alloc (.cells #[.int .i64 0, .int .i64 0, .int .i64 0, .int .i64 0, .int .i64 0, .int .i64 0, .int .i64 0, .bool false, .slice none 0 0, .slice none 0 0, .int .i64 0, .int .i64 0, .int .i64 0, .int .i64 0, .int .i64 0, .int .i64 0, .int .i64 0, .int .i64 0, .int .i64 0] 161)).setCells w5.heap.size 0 [.int .i64 s, .int .i64 x.price, .int .i64 r.id, .int .i64 r.who, .int .i64 r.qty, .int .i64 r.hidden, .int .i64 r.show_, .bool false, .slice none 0 0, .slice none 0 0, .int .i64 0, .int .i64 0, .int .i64 0, .int .i64 0, .int .i64 0, .int .i64 0, .int .i64 0, .int .i64 0, .int .i64 (r.qty + r.hidden - q)]) w5.heap.size 161 #[.int .i64 s, .int .i64 x.price, .int .i64 r.id, .int .i64 r.who, .int .i64 r.qty, .int .i64 r.hidden, .int .i64 r.show_, .bool false, .slice none 0 0, .slice none 0 0, .int .i64 0, .int .i64 0, .int .i64 0, .int .i64 0, .int .i64 0, .int .i64 0, .int .i64 0, .int .i64 0, .int .i64 (r.qty + r.hidden - q)] := bO0.setCs (vs := [.int .i64 s, .int .i64 x.price, .int .i64 r.id, .int .i64 r.who, .int .i64 r.qty, .int .i64 r.hidden, .int .i64 r.show_, .bool false, .slice none 0 0, .slice none 0 0, .int .i64 0, .int .i64 0, .int .i64 0, .int .i64 0, .int .i64 0, .int .i64 0, .int .i64 0, .int .i64 0, .int .i64 (r.qty + r.hidden - q)]) rfl
  have hbo : Below w5.heap.size w5 ((w5.alloc (.cells #[.int .i64 0, .int .i64 0, .int .i64 0, .int .i64 0, .int .i64 0, .int .i64 0, .int .i64 0, .bool false, .slice none 0 0, .slice none 0 0, .int .i64 0, .int .i64 0, .int .i64 0, .int .i64 0, .int .i64 0, .int .i64 0, .int .i64 0, .int .i64 0, .int .i64 0] 161)).setCells w5.heap.size 0 [.int .i64 s, .int .i64 x.price, .int .i64 r.id, .int .i64 r.who, .int .i64 r.qty, .int .i64 r.hidden, .int .i64 r.show_, .bool false, .slice none 0 0, .slice none 0 0, .int .i64 0, .int .i64 0, .int .i64 0, .int .i64 0, .int .i64 0, .int .i64 0, .int .i64 0, .int .i64 0, .int .i64 (r.qty + r.hidden - q)]) := below_Cs (vs := [.int .i64 s, .int .i64 x.price, .int .i64 r.id, .int .i64 r.who, .int .i64 r.qty, .int .i64 r.hidden, .int .i64 r.show_, .bool false, .slice none 0 0, .slice none 0 0, .int .i64 0, .int .i64 0, .int .i64 0, .int .i64 0, .int .i64 0, .int .i64 0, .int .i64 0, .int .i64 0, .int .i64 (r.qty + r.hidden - q)]) (Nat.le_refl _) ((Below.refl _ _).alloc (Nat.le_refl _) _)
  have HBO0 := Lib.hid bO; have HBL := Lib.hid hbo
  clear bO0 bO hbo
  go_upto_region 12 with (refine wpList_store_mid (by rfl) 161 _ _ (by rfl) _ 0 #[.int .i64 s, .int .i64 x.price, .int .i64 r.id, .int .i64 r.who, .int .i64 r.qty, .int .i64 r.hidden, .int .i64 r.show_, .bool false, .slice none 0 0, .slice none 0 0, .int .i64 0, .int .i64 0, .int .i64 0, .int .i64 0, .int .i64 0, .int .i64 0, .int .i64 0, .int .i64 0, .int .i64 (r.qty + r.hidden - q)] (by rfl) (by rfl) HT0.out swap_size swap_one ?_)
  have bO := HBO0.out; have hbo := HBL.out
  clear HBO0 HBL HT0 kb
  have n0 := bb.lt; have n1 := br.lt; have n2 := bx.lt; have n3 := bR.lt
  replace bb := bb.keep hbo; replace br := br.keep hbo; replace bx := bx.keep hbo; replace bR := bR.keep hbo; replace hb := below_then hbo hb
  have hz5 : w.heap.size ≤ w5.heap.size := by omega
  generalize ((w5.alloc (.cells #[.int .i64 0, .int .i64 0, .int .i64 0, .int .i64 0, .int .i64 0, .int .i64 0, .int .i64 0, .bool false, .slice none 0 0, .slice none 0 0, .int .i64 0, .int .i64 0, .int .i64 0, .int .i64 0, .int .i64 0, .int .i64 0, .int .i64 0, .int .i64 0, .int .i64 0] 161)).setCells w5.heap.size 0 [.int .i64 s, .int .i64 x.price, .int .i64 r.id, .int .i64 r.who, .int .i64 r.qty, .int .i64 r.hidden, .int .i64 r.show_, .bool false, .slice none 0 0, .slice none 0 0, .int .i64 0, .int .i64 0, .int .i64 0, .int .i64 0, .int .i64 0, .int .i64 0, .int .i64 0, .int .i64 0, .int .i64 (r.qty + r.hidden - q)]) = w6 at *
  obtain ⟨gs, hgs⟩ : ∃ g, g = w5.heap.size := ⟨_, rfl⟩
  rw [← hgs] at bO n0 n1 n2 n3 hz5 ⊢
  have HGS := Lib.hid hgs
  clear hgs hbo
  obtain ⟨lz, hlz⟩ : ∃ z, z = r.qty + r.hidden - q := ⟨_, rfl⟩
  rw [← hlz] at bO ⊢
  have l1 : -10000 ≤ lz := by omega
  have l2 : lz ≤ 20000 := by omega
  have HLZ := Lib.hid (show lz = lessOf r q from hlz)
  clear hlz
  obtain ⟨kv, hkv⟩ : ∃ z, z = keepB x r p q := ⟨_, rfl⟩
  have HKV := Lib.hid hkv
  clear hkv
  obtain ⟨x0, x1⟩ := box2 bx
  obtain ⟨o0, o1, o2, o3, o4, o5, o6, o7, o8, o9, o10, o11, o12, o13, o14, o15, o16, o17, o18⟩ := box19 bO
  have f7 := bO.free 7
  clear o0 o1 o2 o3 o4 o5 o6 o8 o9 o10 o11 o12 o13 o14 o15 o16 o17 r0 r1 r2 r3 r4
  go_frame
  go_cut [] from 18 to 133 (fun wx => Bk wx gs 161 #[.int .i64 s, .int .i64 x.price, .int .i64 r.id, .int .i64 r.who, .int .i64 r.qty, .int .i64 r.hidden, .int .i64 r.show_, .bool kv, .slice none 0 0, .slice none 0 0, .int .i64 0, .int .i64 0, .int .i64 0, .int .i64 0, .int .i64 0, .int .i64 0, .int .i64 0, .int .i64 0, .int .i64 lz] ∧ Below gs w6 wx)
  case first =>
    --<k12
    have ways : (p = x.price ∧ 0 ≤ lz) ∨ (p = x.price ∧ lz < 0) ∨ p ≠ x.price := by omega
    have HB := Lib.hid bO
    clear bO
    rcases ways with ⟨a1, a2⟩ | ⟨a1, a2⟩ | a1
    · have HE := Lib.hid (show kv = true by rw [HKV.out]; exact decide_eq_true ⟨a1, by rw [← HLZ.out]; exact a2⟩)
      have e1 : (p == x.price) = true := by simpa using a1
      have e2 : decide (0 ≤ lz) = true := decide_eq_true a2
      clear a1 a2
      go_wp2
      go_meet
      case rel => exact ⟨by rw [HE.out]; exact HB.out.set_ 7 _, (Below.refl _ _).setCell (p := ⟨gs, 7, none⟩) (Nat.le_refl _) _⟩
    · have HE := Lib.hid (show kv = false by rw [HKV.out]; exact decide_eq_false (fun h => by have := h.2; rw [← HLZ.out] at this; omega))
      have e1 : (p == x.price) = true := by simpa using a1
      have e2 : decide (0 ≤ lz) = false := decide_eq_false (by omega)
      clear a1 a2
      go_wp2
      go_meet
      case rel => exact ⟨by rw [HE.out]; exact HB.out.set_ 7 _, (Below.refl _ _).setCell (p := ⟨gs, 7, none⟩) (Nat.le_refl _) _⟩
    · have HE := Lib.hid (show kv = false by rw [HKV.out]; exact decide_eq_false (fun h => a1 h.1))
      have e1 : (p == x.price) = false := by simpa using a1
      clear a1
      go_wp2
      go_meet
      case rel => exact ⟨by rw [HE.out]; exact HB.out.set_ 7 _, (Below.refl _ _).setCell (p := ⟨gs, 7, none⟩) (Nat.le_refl _) _⟩
    -->k12
  obtain ⟨bO, hbc⟩ := hcut
  replace bb := bb.below hbc n0; replace br := br.below hbc n1; replace bx := bx.below hbc n2; replace bR := bR.below hbc n3
  replace hb := hb.trans (hbc.mono hz5)
  clear hbc x0 x1 f7 o7 o18
  --<r13
  obtain ⟨q0, q1⟩ := box2 bb
  go_wp2_with fail
  go_at_call 45
  refine (cOwn.out _ (HL.out.on hb) (HM.out.on hb)).mono ?_
  rintro e w7 ⟨D1, f1, u1, D2, f2, u2, rfl, ow1, ow2, hb7, far⟩
  have hgl := bO.lt
  obtain ⟨base, hbase⟩ : ∃ z, z = wc.heap.size := ⟨_, rfl⟩
  rw [← hbase] at ow1 ow2 hgl
  have hbz : base ≤ w7.heap.size := by rw [hbase]; exact hb7.size
  have hbw : w.heap.size ≤ base := by rw [hbase]; exact hb.size
  replace bb := bb.keep hb7; replace br := br.keep hb7; replace bx := bx.keep hb7; replace bR := bR.keep hb7; replace bO := bO.keep hb7; replace hb := below_then hb7 hb
  have HBA := Lib.hid hbase
  have FAR := Lib.hid far
  clear hbase hb7 q0 q1 far cOwn
  obtain ⟨o0, o1, o2, o3, o4, o5, o6, o7, o8, o9, o10, o11, o12, o13, o14, o15, o16, o17, o18⟩ := box19 bO
  have f8 := bO.free 8
  have f9 := bO.free 9
  have HB := Lib.hid bO; have HO1 := Lib.hid ow1; have HO2 := Lib.hid ow2
  clear o0 o1 o2 o3 o4 o5 o6 o7 o10 o11 o12 o13 o14 o15 o16 o17 o18 bO ow1 ow2
  go_upto_region 14 with fail
  have bO2 : Bk ((w7.setCell ⟨gs, 8, none⟩ (.slice D1 L.length f1)).setCell ⟨gs, 9, none⟩ (.slice D2 M.length f2)) gs 161 #[.int .i64 s, .int .i64 x.price, .int .i64 r.id, .int .i64 r.who, .int .i64 r.qty, .int .i64 r.hidden, .int .i64 r.show_, .bool kv, .slice D1 L.length f1, .slice D2 M.length f2, .int .i64 0, .int .i64 0, .int .i64 0, .int .i64 0, .int .i64 0, .int .i64 0, .int .i64 0, .int .i64 0, .int .i64 lz] := (HB.out.set_ 8 _).set_ 9 _
  have ow1 := HO1.out.far2 (i := 8) (j := 9) hgl (.slice D1 L.length f1) (.slice D2 M.length f2)
  have ow2 := HO2.out.far2 (i := 8) (j := 9) hgl (.slice D1 L.length f1) (.slice D2 M.length f2)
  have HN := HGS.out
  have g0 : w.heap.size ≠ gs := by omega
  have g1' : w.heap.size + 1 ≠ gs := by omega
  have g2' : gx ≠ gs := by omega
  have g3' : gr ≠ gs := by omega
  replace bb := (bb.far (p := ⟨gs, 8, none⟩) g0 (.slice D1 L.length f1)).far (p := ⟨gs, 9, none⟩) g0 (.slice D2 M.length f2)
  replace br := (br.far (p := ⟨gs, 8, none⟩) g1' (.slice D1 L.length f1)).far (p := ⟨gs, 9, none⟩) g1' (.slice D2 M.length f2)
  replace bR := (bR.far (p := ⟨gs, 8, none⟩) g3' (.slice D1 L.length f1)).far (p := ⟨gs, 9, none⟩) g3' (.slice D2 M.length f2)
  replace hb := (hb.setCell (p := ⟨gs, 8, none⟩) (by show w.heap.size ≤ gs; omega) (.slice D1 L.length f1)).setCell (p := ⟨gs, 9, none⟩) (by show w.heap.size ≤ gs; omega) (.slice D2 M.length f2)
  have hbz8 : base ≤ ((w7.setCell ⟨gs, 8, none⟩ (.slice D1 L.length f1)).setCell ⟨gs, 9, none⟩ (.slice D2 M.length f2)).heap.size := by simpa using hbz
  clear HB HO1 HO2 o8 o9 f8 f9 hbz bx HN g2'
  generalize (w7.setCell ⟨gs, 8, none⟩ (.slice D1 L.length f1)).setCell ⟨gs, 9, none⟩ (.slice D2 M.length f2) = w8 at *
  rcases (show kv = true ∨ kv = false by cases kv <;> simp) with e | e
  · --<keep
    subst e
    obtain ⟨o0, o1, o2, o3, o4, o5, o6, o7, o8, o9, o10, o11, o12, o13, o14, o15, o16, o17, o18⟩ := box19 bO2
    clear o0 o1 o2 o3 o4 o5 o6 o10 o11 o12 o13 o14 o15 o16 o17
    obtain ⟨r0, r1, r2, r3, r4⟩ := pbox5 bR
    clear r0 r1 r2 r4 bb
    go_wp2_with fail
    go_at_call 47
    refine (cOf.out D1 D2 f1 f2 _).mono ?_
    rintro e w9 ⟨rfl, hb9⟩
    replace ow1 := ow1.below hb9; replace ow2 := ow2.below hb9; replace bO2 := bO2.keep hb9; replace br := br.keep hb9; replace bR := bR.keep hb9; replace hb := below_then hb9 hb
    have hbz9 : base ≤ w9.heap.size := Nat.le_trans hbz8 hb9.size
    clear hb9 o7 o8 o9 o18 r3 hbz8
    obtain ⟨o0, o1, o2, o3, o4, o5, o6, o7, o8, o9, o10, o11, o12, o13, o14, o15, o16, o17, o18⟩ := box19 bO2
    clear o0 o1 o2 o3 o4 o5 o6 o7 o8 o9 o10 o11 o12 o13 o14 o15 o16 o17
    obtain ⟨r0, r1, r2, r3, r4⟩ := pbox5 bR
    clear r0 r1 r2 r4 bR
    have OS := own_side HAT.out.side ow1 ow2
    rw [HK.out] at OS
    obtain ⟨g, o, b', off', cr', hD, hv, hbb, e1, e2, e3, e4, e5⟩ := own_rest OS HX.out HRK.out
    rw [hD]
    have HV := Lib.hid hv; have HO1 := Lib.hid ow1; have HO2 := Lib.hid ow2; have HB2 := Lib.hid bO2; have HBR := Lib.hid br
    clear OS hv ow1 ow2 bO2 br hD
    have b0 : w.heap.size + 1 ≠ b' := by omega
    have b1 : gs ≠ b' := by omega
    have b2 : w.heap.size ≤ b' := by omega
    have HBB := Lib.hid (And.intro b0 (And.intro b1 b2))
    clear b0 b1 b2
    go_upto_region 17 with fail
    obtain ⟨H, hH⟩ : ∃ z, z = max 0 (r.hidden - lz) := ⟨_, rfl⟩
    rw [← hH]
    have hh1 : 0 ≤ H := by omega
    have hh2 : H ≤ 30000 := by omega
    have HH := Lib.hid hH
    clear hH
    have c3 : (w9.setCell ⟨b', off' + k * 5 + 3, none⟩ (.int .i64 H)).cell? ⟨b', off' + k * 5 + 3, none⟩ = some (.int .i64 H) := World.cell?_setCell_same' w9 _ _ (by rw [e3]; rfl)
    have c2 : (w9.setCell ⟨b', off' + k * 5 + 3, none⟩ (.int .i64 H)).cell? ⟨b', off' + k * 5 + 2, none⟩ = some (.int .i64 r.qty) := (World.cell?_setCell_other w9 _ _ _ (by intro e'; injection e' with _ e2'; omega)).trans e2
    have d2 : (w9.setCell ⟨b', off' + k * 5 + 3, none⟩ (.int .i64 H)).frozen? ⟨b', off' + k * 5 + 2, none⟩ = false := (World.frozen?_setCell _ _ _ _).trans e4
    have BOTH := own_setBoth HAT.out.side HO1.out HO2.out FAR.out (by rw [HK.out]; exact HX.out) HV.out HRK.out (q - H) H
    rw [show off' + (k * 5 + 3) = off' + k * 5 + 3 by omega, show off' + (k * 5 + 2) = off' + k * 5 + 2 by omega] at BOTH
    have HB11 := (HB2.out.far (p := ⟨b', off' + k * 5 + 3, none⟩) HBB.out.2.1 (.int .i64 H)).far (p := ⟨b', off' + k * 5 + 2, none⟩) HBB.out.2.1 (.int .i64 (q - H))
    have HR11 := (HBR.out.far (p := ⟨b', off' + k * 5 + 3, none⟩) HBB.out.1 (.int .i64 H)).far (p := ⟨b', off' + k * 5 + 2, none⟩) HBB.out.1 (.int .i64 (q - H))
    have hb11 := (hb.setCell (p := ⟨b', off' + k * 5 + 3, none⟩) HBB.out.2.2 (.int .i64 H)).setCell (p := ⟨b', off' + k * 5 + 2, none⟩) HBB.out.2.2 (.int .i64 (q - H))
    have HALL := Lib.hid (And.intro BOTH (And.intro HB11 (And.intro HR11 hb11)))
    clear BOTH HB11 HR11 hb11 hb HO1 HO2 HB2 HBR e1 e2 e3 e4 e5 o18 r3
    go_upto_region 18 with fail
    obtain ⟨⟨ow1, ow2⟩, bO, br, hb⟩ := HALL.out
    clear HALL c2 c3 d2
    generalize (w9.setCell ⟨b', off' + k * 5 + 3, none⟩ (.int .i64 H)).setCell ⟨b', off' + k * 5 + 2, none⟩ (.int .i64 (q - H)) = w11 at *
    have HRG := Lib.hid bO.range
    have HTH := Lib.hid br.there
    have HBX := Lib.hid (br.setCs (vs := (#[.int .i64 s, .int .i64 x.price, .int .i64 r.id, .int .i64 r.who, .int .i64 r.qty, .int .i64 r.hidden, .int .i64 r.show_, .bool true, .slice D1 L.length f1, .slice D2 M.length f2, .int .i64 0, .int .i64 0, .int .i64 0, .int .i64 0, .int .i64 0, .int .i64 0, .int .i64 0, .int .i64 0, .int .i64 lz] : Array Value).toList) rfl)
    have HF := Lib.hid (below_Cs (vs := (#[.int .i64 s, .int .i64 x.price, .int .i64 r.id, .int .i64 r.who, .int .i64 r.qty, .int .i64 r.hidden, .int .i64 r.show_, .bool true, .slice D1 L.length f1, .slice D2 M.length f2, .int .i64 0, .int .i64 0, .int .i64 0, .int .i64 0, .int .i64 0, .int .i64 0, .int .i64 0, .int .i64 0, .int .i64 lz] : Array Value).toList) (i := 0) (g := w.heap.size + 1) (by omega) hb)
    have HW := Lib.hid (And.intro (ow1.underCs (vs := (#[.int .i64 s, .int .i64 x.price, .int .i64 r.id, .int .i64 r.who, .int .i64 r.qty, .int .i64 r.hidden, .int .i64 r.show_, .bool true, .slice D1 L.length f1, .slice D2 M.length f2, .int .i64 0, .int .i64 0, .int .i64 0, .int .i64 0, .int .i64 0, .int .i64 0, .int .i64 0, .int .i64 0, .int .i64 lz] : Array Value).toList) (i := 0) (g := w.heap.size + 1) (by omega)) (ow2.underCs (vs := (#[.int .i64 s, .int .i64 x.price, .int .i64 r.id, .int .i64 r.who, .int .i64 r.qty, .int .i64 r.hidden, .int .i64 r.show_, .bool true, .slice D1 L.length f1, .slice D2 M.length f2, .int .i64 0, .int .i64 0, .int .i64 0, .int .i64 0, .int .i64 0, .int .i64 0, .int .i64 0, .int .i64 0, .int .i64 lz] : Array Value).toList) (i := 0) (g := w.heap.size + 1) (by omega)))
    have HRD := Lib.hid (swap_read HBX.out rfl)
    have HBW := Lib.hid hbw
    clear ow1 ow2 bO br hb
    go_wp2_with (first | (refine wpList_store_mid (by rfl) 161 _ _ (by rfl) _ 0 #[.int .i64 s, .int .i64 x.price, .int .i64 r.id, .int .i64 r.who, .int .i64 r.qty, .int .i64 r.hidden, .int .i64 r.show_, .bool true, .slice D1 L.length f1, .slice D2 M.length f2, .int .i64 0, .int .i64 0, .int .i64 0, .int .i64 0, .int .i64 0, .int .i64 0, .int .i64 0, .int .i64 0, .int .i64 lz] (by rfl) (by rfl) HTH.out swap_size swap_one ?_) | (refine wpList_load_mid (by rfl) 161 _ (by rfl) gs 0 (by rfl) (#[.int .i64 s, .int .i64 x.price, .int .i64 r.id, .int .i64 r.who, .int .i64 r.qty, .int .i64 r.hidden, .int .i64 r.show_, .bool true, .slice D1 L.length f1, .slice D2 M.length f2, .int .i64 0, .int .i64 0, .int .i64 0, .int .i64 0, .int .i64 0, .int .i64 0, .int .i64 0, .int .i64 0, .int .i64 lz] : Array Value).toList _ HRG.out Tryz.underlying161 rfl swap_size ?_))
    exact bodyPost_ret (v := .tuple #[.agg #[.int .i64 s, .int .i64 x.price, .int .i64 r.id, .int .i64 r.who, .int .i64 r.qty, .int .i64 r.hidden, .int .i64 r.show_, .bool true, .slice D1 L.length f1, .slice D2 M.length f2, .int .i64 0, .int .i64 0, .int .i64 0, .int .i64 0, .int .i64 0, .int .i64 0, .int .i64 0, .int .i64 0, .int .i64 lz], .nilIface]) (results_ct Tryz.results100 rfl rfl HRD.out) rfl (sw_keep HSW.out HE.out HAT.out HKV.out.symm HLZ.out HH.out HBW.out HW.out.1 HW.out.2 HF.out)
    -->keep
  · --<anew
    subst e
    obtain ⟨o0, o1, o2, o3, o4, o5, o6, o7, o8, o9, o10, o11, o12, o13, o14, o15, o16, o17, o18⟩ := box19 bO2
    clear o0 o1 o2 o3 o4 o5 o6 o10 o11 o12 o13 o14 o15 o16 o17 o18 bb
    have HW := Lib.hid (And.intro ow1 ow2)
    clear ow1 ow2
    go_wp2_with fail
    go_at_call 99
    refine (cCut.out D1 D2 f1 f2 u1 u2 base _ HW.out.1 HW.out.2 FAR.out hbz8).mono ?_
    rintro e w9 ⟨G1, g1, v1, G2, g2, v2, rfl, oc1, oc2, hb9⟩
    have n4 := n1; have n5 := n3
    replace bO2 := bO2.below hb9 hgl; replace br := br.below hb9 (by omega); replace bR := bR.below hb9 (by omega); replace hb := hb.trans (hb9.mono hbw)
    clear hb9 o7 o8 o9 HW hbz8
    obtain ⟨o0, o1, o2, o3, o4, o5, o6, o7, o8, o9, o10, o11, o12, o13, o14, o15, o16, o17, o18⟩ := box19 bO2
    clear o0 o1 o2 o3 o4 o5 o6 o7 o10 o11 o12 o13 o14 o15 o16 o17 o18
    have f8 := bO2.free 8
    have f9 := bO2.free 9
    have HB := Lib.hid bO2; have HO := Lib.hid (And.intro oc1 oc2)
    clear bO2 oc1 oc2
    go_upto_region 20 with fail
    have bO3 : Bk ((w9.setCell ⟨gs, 8, none⟩ (.slice G1 (cutL s i k L).length g1)).setCell ⟨gs, 9, none⟩ (.slice G2 (cutM s i k M).length g2)) gs 161 #[.int .i64 s, .int .i64 x.price, .int .i64 r.id, .int .i64 r.who, .int .i64 r.qty, .int .i64 r.hidden, .int .i64 r.show_, .bool false, .slice G1 (cutL s i k L).length g1, .slice G2 (cutM s i k M).length g2, .int .i64 0, .int .i64 0, .int .i64 0, .int .i64 0, .int .i64 0, .int .i64 0, .int .i64 0, .int .i64 0, .int .i64 lz] := (HB.out.set_ 8 _).set_ 9 _
    have oc1 := HO.out.1.far2 (i := 8) (j := 9) hgl (.slice G1 (cutL s i k L).length g1) (.slice G2 (cutM s i k M).length g2)
    have oc2 := HO.out.2.far2 (i := 8) (j := 9) hgl (.slice G1 (cutL s i k L).length g1) (.slice G2 (cutM s i k M).length g2)
    replace br := (br.far (p := ⟨gs, 8, none⟩) g1' (.slice G1 (cutL s i k L).length g1)).far (p := ⟨gs, 9, none⟩) g1' (.slice G2 (cutM s i k M).length g2)
    replace bR := (bR.far (p := ⟨gs, 8, none⟩) g3' (.slice G1 (cutL s i k L).length g1)).far (p := ⟨gs, 9, none⟩) g3' (.slice G2 (cutM s i k M).length g2)
    replace hb := (hb.setCell (p := ⟨gs, 8, none⟩) (by show w.heap.size ≤ gs; omega) (.slice G1 (cutL s i k L).length g1)).setCell (p := ⟨gs, 9, none⟩) (by show w.heap.size ≤ gs; omega) (.slice G2 (cutM s i k M).length g2)
    clear HB HO o8 o9 f8 f9
    generalize (w9.setCell ⟨gs, 8, none⟩ (.slice G1 (cutL s i k L).length g1)).setCell ⟨gs, 9, none⟩ (.slice G2 (cutM s i k M).length g2) = w10 at *
    obtain ⟨r0, r1, r2, r3, r4⟩ := pbox5 bR
    clear r0 r2 r3 bR
    have kb := fun w => anew_build id r.who s p q (min r.show_ q) w
    have HT10 := Lib.hid (bO3.there_at (o := 10) (n := 8) (by simp))
    have bO4 : Bk (w10.setCells gs 10 [.int .i64 id, .int .i64 r.who, .int .i64 s, .int .i64 1, .int .i64 p, .int .i64 q, .int .i64 (min r.show_ q), .int .i64 0]) gs 161 #[.int .i64 s, .int .i64 x.price, .int .i64 r.id, .int .i64 r.who, .int .i64 r.qty, .int .i64 r.hidden, .int .i64 r.show_, .bool false, .slice G1 (cutL s i k L).length g1, .slice G2 (cutM s i k M).length g2, .int .i64 id, .int .i64 r.who, .int .i64 s, .int .i64 1, .int .i64 p, .int .i64 q, .int .i64 (min r.show_ q), .int .i64 0, .int .i64 lz] := bO3.put8 _ _ _ _ _ _ _ _
    have br4 : Bk (w10.setCells gs 10 [.int .i64 id, .int .i64 r.who, .int .i64 s, .int .i64 1, .int .i64 p, .int .i64 q, .int .i64 (min r.show_ q), .int .i64 0]) (w.heap.size + 1) 161 #[.int .i64 0, .int .i64 0, .int .i64 0, .int .i64 0, .int .i64 0, .int .i64 0, .int .i64 0, .bool false, .slice none 0 0, .slice none 0 0, .int .i64 0, .int .i64 0, .int .i64 0, .int .i64 0, .int .i64 0, .int .i64 0, .int .i64 0, .int .i64 0, .int .i64 0] := br.farCs g1'
    have hb4 : Below w.heap.size w (w10.setCells gs 10 [.int .i64 id, .int .i64 r.who, .int .i64 s, .int .i64 1, .int .i64 p, .int .i64 q, .int .i64 (min r.show_ q), .int .i64 0]) := below_Cs (by omega) hb
    have o14 : OwnLv (w10.setCells gs 10 [.int .i64 id, .int .i64 r.who, .int .i64 s, .int .i64 1, .int .i64 p, .int .i64 q, .int .i64 (min r.show_ q), .int .i64 0]) base G1 g1 (cutL s i k L) v1 := oc1.underCs hgl
    have o24 : OwnLv (w10.setCells gs 10 [.int .i64 id, .int .i64 r.who, .int .i64 s, .int .i64 1, .int .i64 p, .int .i64 q, .int .i64 (min r.show_ q), .int .i64 0]) base G2 g2 (cutM s i k M) v2 := oc2.underCs hgl
    have HALL := Lib.hid (And.intro bO4 (And.intro br4 (And.intro hb4 (And.intro o14 o24))))
    clear bO4 br4 hb4 o14 o24 br hb bO3 oc1 oc2
    go_upto_region 21 with (refine wpList_store_mid (by rfl) 31 _ _ (by rfl) gs 10 #[.int .i64 id, .int .i64 r.who, .int .i64 s, .int .i64 1, .int .i64 p, .int .i64 q, .int .i64 (min r.show_ q), .int .i64 0] (by rfl) (by rfl) HT10.out ordr_size ordr_one ?_)
    obtain ⟨bO, br, hb, ow1, ow2⟩ := HALL.out
    clear HALL HT10 kb
    generalize w10.setCells gs 10 [.int .i64 id, .int .i64 r.who, .int .i64 s, .int .i64 1, .int .i64 p, .int .i64 q, .int .i64 (min r.show_ q), .int .i64 0] = w11 at *
    have HRG := Lib.hid bO.range
    have HTH := Lib.hid br.there
    have HBX := Lib.hid (br.setCs (vs := (#[.int .i64 s, .int .i64 x.price, .int .i64 r.id, .int .i64 r.who, .int .i64 r.qty, .int .i64 r.hidden, .int .i64 r.show_, .bool false, .slice G1 (cutL s i k L).length g1, .slice G2 (cutM s i k M).length g2, .int .i64 id, .int .i64 r.who, .int .i64 s, .int .i64 1, .int .i64 p, .int .i64 q, .int .i64 (min r.show_ q), .int .i64 0, .int .i64 lz] : Array Value).toList) rfl)
    have HF := Lib.hid (below_Cs (vs := (#[.int .i64 s, .int .i64 x.price, .int .i64 r.id, .int .i64 r.who, .int .i64 r.qty, .int .i64 r.hidden, .int .i64 r.show_, .bool false, .slice G1 (cutL s i k L).length g1, .slice G2 (cutM s i k M).length g2, .int .i64 id, .int .i64 r.who, .int .i64 s, .int .i64 1, .int .i64 p, .int .i64 q, .int .i64 (min r.show_ q), .int .i64 0, .int .i64 lz] : Array Value).toList) (i := 0) (g := w.heap.size + 1) (by omega) hb)
    have HW := Lib.hid (And.intro (ow1.underCs (vs := (#[.int .i64 s, .int .i64 x.price, .int .i64 r.id, .int .i64 r.who, .int .i64 r.qty, .int .i64 r.hidden, .int .i64 r.show_, .bool false, .slice G1 (cutL s i k L).length g1, .slice G2 (cutM s i k M).length g2, .int .i64 id, .int .i64 r.who, .int .i64 s, .int .i64 1, .int .i64 p, .int .i64 q, .int .i64 (min r.show_ q), .int .i64 0, .int .i64 lz] : Array Value).toList) (i := 0) (g := w.heap.size + 1) (by omega)) (ow2.underCs (vs := (#[.int .i64 s, .int .i64 x.price, .int .i64 r.id, .int .i64 r.who, .int .i64 r.qty, .int .i64 r.hidden, .int .i64 r.show_, .bool false, .slice G1 (cutL s i k L).length g1, .slice G2 (cutM s i k M).length g2, .int .i64 id, .int .i64 r.who, .int .i64 s, .int .i64 1, .int .i64 p, .int .i64 q, .int .i64 (min r.show_ q), .int .i64 0, .int .i64 lz] : Array Value).toList) (i := 0) (g := w.heap.size + 1) (by omega)))
    have HRD := Lib.hid (swap_read HBX.out rfl)
    have HBW := Lib.hid hbw
    clear ow1 ow2 bO br hb
    go_wp2_with (first | (refine wpList_store_mid (by rfl) 161 _ _ (by rfl) _ 0 #[.int .i64 s, .int .i64 x.price, .int .i64 r.id, .int .i64 r.who, .int .i64 r.qty, .int .i64 r.hidden, .int .i64 r.show_, .bool false, .slice G1 (cutL s i k L).length g1, .slice G2 (cutM s i k M).length g2, .int .i64 id, .int .i64 r.who, .int .i64 s, .int .i64 1, .int .i64 p, .int .i64 q, .int .i64 (min r.show_ q), .int .i64 0, .int .i64 lz] (by rfl) (by rfl) HTH.out swap_size swap_one ?_) | (refine wpList_load_mid (by rfl) 161 _ (by rfl) gs 0 (by rfl) (#[.int .i64 s, .int .i64 x.price, .int .i64 r.id, .int .i64 r.who, .int .i64 r.qty, .int .i64 r.hidden, .int .i64 r.show_, .bool false, .slice G1 (cutL s i k L).length g1, .slice G2 (cutM s i k M).length g2, .int .i64 id, .int .i64 r.who, .int .i64 s, .int .i64 1, .int .i64 p, .int .i64 q, .int .i64 (min r.show_ q), .int .i64 0, .int .i64 lz] : Array Value).toList _ HRG.out Tryz.underlying161 rfl swap_size ?_))
    exact bodyPost_ret (v := .tuple #[.agg #[.int .i64 s, .int .i64 x.price, .int .i64 r.id, .int .i64 r.who, .int .i64 r.qty, .int .i64 r.hidden, .int .i64 r.show_, .bool false, .slice G1 (cutL s i k L).length g1, .slice G2 (cutM s i k M).length g2, .int .i64 id, .int .i64 r.who, .int .i64 s, .int .i64 1, .int .i64 p, .int .i64 q, .int .i64 (min r.show_ q), .int .i64 0, .int .i64 lz], .nilIface]) (results_ct Tryz.results100 rfl rfl HRD.out) rfl (sw_anew HSW.out HE.out HAT.out HKV.out.symm HLZ.out HBW.out HW.out.1 HW.out.2 HF.out)
    -->anew
  -->r13
  -->main
end Go.Proofs.YtkdgpdijbobmkaaGreat
