/- The contracts of swap.Keeps, swap.Do. -/
import Derived.Test.YtiaofbkhnodbhaaSwapOf
import Derived.Test.YtiaofbkhnodbhaaKOut
namespace Go.Proofs.Ytiaofbkhnodbhaa
set_option linter.all false
set_option linter.all false
open Go Go.RowKit
theorem OwnLv.nil0 {w : World} {base c : Nat} {A : Option Addr} {L : List Lv} {v : List (Option Addr × Nat)} (h : OwnLv w base A c L v) : A = none → c = 0 := fun e => by
  rcases Nat.eq_zero_or_pos c with h0 | h0
  · exact h0
  · obtain ⟨g, off, e', _⟩ := h.own.lies h0
    rw [e] at e'; cases e'
/-- how Keeps ends -/
def SKeepPost (E : Int) (kp : Bool) (w : World) (e : Ending) (w' : World) : Prop := e = .returned (.tuple #[.bool kp, errV E]) ∧ Below w.heap.size w w'
set_option maxRecDepth 100000 in
set_option maxHeartbeats 4000000 in
theorem skeeps_any (L M : List Lv) (id p q : Int) (E sd pr : Int) (rr : Rest) (kp : Bool) (B1 B2 : List Lv) (an : Order) (ls : Int) (hsw : SW L M id p q E sd pr rr kp B1 B2 an ls) (A1 A2 : Option Addr) (c1 c2 : Nat) (w : World) (h1 : RdLv w w.heap.size A1 L) (h2 : RdLv w w.heap.size A2 M) (hl1 : L.length ≤ maxLen) (hl2 : M.length ≤ maxLen) (hA1 : A1 = none → c1 = 0) (hA2 : A2 = none → c2 = 0) :
    Calls Try.prog 8 #[.agg #[.slice A1 L.length c1, .slice A2 M.length c2], .int .i64 id, .int .i64 p, .int .i64 q] w (SKeepPost E kp w) := by
  have HL := Lib.hid h1; have HM := Lib.hid h2
  have cS := Lib.hid (fun w' h h' => swof_any L M id p q E sd pr rr kp B1 B2 an ls hsw A1 A2 c1 c2 w' h h' hl1 hl2 hA1 hA2)
  have hb : Below w.heap.size w (w.alloc (.cells #[.slice A1 L.length c1, .slice A2 M.length c2] 29)) := (Below.refl _ _).alloc (Nat.le_refl _) _
  have bb := Bk.new w 29 #[.slice A1 L.length c1, .slice A2 M.length c2]
  clear h1 h2 hl1 hl2 hA1 hA2 hsw
  go_enter Try.func8, Try.ntmps8
  go_upto_region 1 with fail
  generalize w.alloc (.cells #[.slice A1 L.length c1, .slice A2 M.length c2] 29) = w0 at *
  obtain ⟨q0, q1⟩ := box2 bb
  go_wp2_with fail
  go_at_call 27
  refine (cS.out _ (HL.out.on hb) (HM.out.on hb)).mono ?_
  rintro e w1 ⟨D1, d1, u1, D2, d2, u2, rfl, _, hb1⟩
  replace hb := below_then hb1 hb
  clear hb1 q0 q1 bb cS
  obtain ⟨V, hV⟩ : ∃ V, V = (#[.int .i64 sd, .int .i64 pr, .int .i64 rr.id, .int .i64 rr.who, .int .i64 rr.qty, .int .i64 rr.hidden, .int .i64 rr.show_, .bool kp, .slice D1 B1.length d1, .slice D2 B2.length d2, .int .i64 an.id, .int .i64 an.who, .int .i64 an.side, .int .i64 an.kind, .int .i64 an.price, .int .i64 an.qty, .int .i64 an.show_, .int .i64 an.stop, .int .i64 ls] : Array Value) := ⟨_, rfl⟩
  rw [← hV]
  have bO0 := Bk.new w1 74 #[.int .i64 0, .int .i64 0, .int .i64 0, .int .i64 0, .int .i64 0, .int .i64 0, .int .i64 0, .bool false, .slice none 0 0, .slice none 0 0, .int .i64 0, .int .i64 0, .int .i64 0, .int .i64 0, .int .i64 0, .int .i64 0, .int .i64 0, .int .i64 0, .int .i64 0]
  have HT0 := Lib.hid (show World.there _ _ _ V.size by rw [hV]; exact bO0.there)
  have bO : Bk ((w1.alloc (.cells #[.int .i64 0, .int .i64 0, .int .i64 0, .int .i64 0, .int .i64 0, .int .i64 0, .int .i64 0, .bool false, .slice none 0 0, .slice none 0 0, .int .i64 0, .int .i64 0, .int .i64 0, .int .i64 0, .int .i64 0, .int .i64 0, .int .i64 0, .int .i64 0, .int .i64 0] 74)).setCells w1.heap.size 0 V.toList) w1.heap.size 74 #[.int .i64 sd, .int .i64 pr, .int .i64 rr.id, .int .i64 rr.who, .int .i64 rr.qty, .int .i64 rr.hidden, .int .i64 rr.show_, .bool kp, .slice D1 B1.length d1, .slice D2 B2.length d2, .int .i64 an.id, .int .i64 an.who, .int .i64 an.side, .int .i64 an.kind, .int .i64 an.price, .int .i64 an.qty, .int .i64 an.show_, .int .i64 an.stop, .int .i64 ls] := by rw [hV]; exact bO0.setCs (vs := [.int .i64 sd, .int .i64 pr, .int .i64 rr.id, .int .i64 rr.who, .int .i64 rr.qty, .int .i64 rr.hidden, .int .i64 rr.show_, .bool kp, .slice D1 B1.length d1, .slice D2 B2.length d2, .int .i64 an.id, .int .i64 an.who, .int .i64 an.side, .int .i64 an.kind, .int .i64 an.price, .int .i64 an.qty, .int .i64 an.show_, .int .i64 an.stop, .int .i64 ls]) rfl
  have hbo : Below w1.heap.size w1 ((w1.alloc (.cells #[.int .i64 0, .int .i64 0, .int .i64 0, .int .i64 0, .int .i64 0, .int .i64 0, .int .i64 0, .bool false, .slice none 0 0, .slice none 0 0, .int .i64 0, .int .i64 0, .int .i64 0, .int .i64 0, .int .i64 0, .int .i64 0, .int .i64 0, .int .i64 0, .int .i64 0] 74)).setCells w1.heap.size 0 V.toList) := below_Cs (vs := V.toList) (Nat.le_refl _) ((Below.refl _ _).alloc (Nat.le_refl _) _)
  have HVS := Lib.hid (show (Try.prog.info? 74).map (·.size) = some V.size by rw [hV]; exact swap_size)
  have HV1 := Lib.hid (show V.all (·.oneCell') = true by rw [hV]; exact swap_one)
  clear hV
  have HALL := Lib.hid (And.intro bO (below_then hbo hb))
  clear bO0 bO hbo hb
  go_upto_region 2 with (refine wpList_store_mid (by rfl) 74 _ _ (by rfl) _ 0 V (by rfl) (by rfl) HT0.out HVS.out HV1.out ?_)
  obtain ⟨bO, hb⟩ := HALL.out
  clear HALL HT0 HVS HV1
  generalize ((w1.alloc (.cells #[.int .i64 0, .int .i64 0, .int .i64 0, .int .i64 0, .int .i64 0, .int .i64 0, .int .i64 0, .bool false, .slice none 0 0, .slice none 0 0, .int .i64 0, .int .i64 0, .int .i64 0, .int .i64 0, .int .i64 0, .int .i64 0, .int .i64 0, .int .i64 0, .int .i64 0] 74)).setCells w1.heap.size 0 V.toList) = w6 at *
  obtain ⟨o0, o1, o2, o3, o4, o5, o6, o7, o8, o9, o10, o11, o12, o13, o14, o15, o16, o17, o18⟩ := box19 bO
  clear o0 o1 o2 o3 o4 o5 o6 o8 o9 o10 o11 o12 o13 o14 o15 o16 o17 o18 bO
  try go_frame
  go_wp2
  go_ret2
  exact ⟨rfl, hb⟩
/-- what a swap does, out of what Of tells -/
def SX (E : Int) (kp : Bool) (B1 B2 : List Lv) (an : Order) (F : Int) (K1 K2 : List Lv) (T : List Trade) (gone : Int) : Prop :=
  (E ≠ 0 ∧ F = E ∧ K1 = [] ∧ K2 = [] ∧ T = [] ∧ gone = 0) ∨ (E = 0 ∧ kp = true ∧ F = 0 ∧ K1 = B1 ∧ K2 = B2 ∧ T = [] ∧ gone = 0) ∨ (E = 0 ∧ kp = false ∧ ∃ W, KO B1 B2 an 0 F K1 K2 T gone W)
theorem sx_ex (E : Int) (kp : Bool) (B1 B2 : List Lv) (an : Order) : ∃ F K1 K2 T gone, SX E kp B1 B2 an F K1 K2 T gone := by
  by_cases h : E = 0
  · cases kp
    · obtain ⟨F, K1, K2, T, gone, W, hk⟩ := ko_ex B1 B2 an 0
      exact ⟨F, K1, K2, T, gone, .inr (.inr ⟨h, rfl, W, hk⟩)⟩
    · exact ⟨_, _, _, _, _, .inr (.inl ⟨h, rfl, rfl, rfl, rfl, rfl, rfl⟩)⟩
  · exact ⟨_, _, _, _, _, .inl ⟨h, rfl, rfl, rfl, rfl, rfl⟩⟩
theorem outL_le (L : List Lv) (i k : Nat) : (outL L i k).length ≤ L.length := by
  cases hx : L[i]? with
  | none => simp [outL, hx]
  | some x =>
    by_cases h : (x.rs.eraseIdx k).length = 0
    · rw [outL_erase hx h]; have := (List.getElem?_eq_some_iff.1 hx).1; rw [List.length_eraseIdx]; split <;> omega
    · rw [outL_set hx h]; simp
theorem SW.short {L M B1 B2 : List Lv} {id p q E sd pr ls : Int} {r : Rest} {kp : Bool} {an : Order} (h : SW L M id p q E sd pr r kp B1 B2 an ls) : B1.length ≤ 1000 ∧ B2.length ≤ 1000 := by
  by_cases he : swE L M id p q = 0
  · obtain ⟨hbk, _, _, s, i, k, x, r', ha⟩ := swE_at he
    obtain ⟨_, _, _, _, _, _, h5, h6⟩ := h.good he ha
    have hl1 : L.length ≤ 1000 := by have := full_len hbk.buys.full; have := hbk.buys.few; omega
    have hl2 : M.length ≤ 1000 := by have := full_len hbk.sells.full; have := hbk.sells.few; omega
    cases hk : keepB x r' p q
    · obtain ⟨rfl, rfl, _⟩ := h6 hk
      unfold cutL cutM
      constructor
      · split
        · have := outL_le L i k; omega
        · exact hl1
      · split
        · exact hl2
        · have := outL_le M i k; omega
    · obtain ⟨rfl, rfl, _⟩ := h5 hk
      rw [setRL_len, setRM_len]; exact ⟨hl1, hl2⟩
  · obtain ⟨_, _, _, _, _, rfl, rfl, _⟩ := h.bad rfl he
    simp
/-- how Do ends -/
def SDoPost (F : Int) (kp : Bool) (K1 K2 : List Lv) (T : List Trade) (gone : Int) (w : World) (e : Ending) (w' : World) : Prop :=
  ∃ A1 c1 A2 c2 AT cT, e = .returned (.tuple #[.agg #[.slice A1 K1.length c1, .slice A2 K2.length c2], .slice AT T.length cT, .int .i64 gone, errV F]) ∧ Hid (RdLv w' w'.heap.size A1 K1 ∧ RdLv w' w'.heap.size A2 K2 ∧ Rd w' w'.heap.size AT T.length 6 (tcell T) ∧ (kp = true → ∃ u1 u2, OwnLv w' w.heap.size A1 c1 K1 u1 ∧ OwnLv w' w.heap.size A2 c2 K2 u2)) ∧ Below w.heap.size w w'
theorem sdo_bad {E F gone : Int} {kp : Bool} {B1 B2 K1 K2 : List Lv} {an : Order} {T : List Trade} (h : SX E kp B1 B2 an F K1 K2 T gone) (h0 : E ≠ 0) {w w' : World} (hb : Below w.heap.size w w') : SDoPost F kp K1 K2 T gone w (.returned (.tuple #[.agg #[.slice none 0 0, .slice none 0 0], .slice none 0 0, .int .i64 0, er E])) w' := by
  rcases h with ⟨_, rfl, rfl, rfl, rfl, rfl⟩ | ⟨h, _⟩ | ⟨h, _⟩
  · exact ⟨none, 0, none, 0, none, 0, by rw [errV, if_neg h0]; rfl, Lib.hid ⟨RdLv.nil, RdLv.nil, rd_nil6, fun _ => ⟨[], [], OwnLv.nil _ _, OwnLv.nil _ _⟩⟩, hb⟩
  · exact absurd h h0
  · exact absurd h h0
theorem sdo_keep {E F gone : Int} {kp : Bool} {B1 B2 K1 K2 : List Lv} {an : Order} {T : List Trade} (h : SX E kp B1 B2 an F K1 K2 T gone) (h0 : E = 0) (hk : kp = true) {w w' : World} (hb : Below w.heap.size w w') {base d1 d2 : Nat} {D1 D2 : Option Addr} {u1 u2 : List (Option Addr × Nat)} (o1 : OwnLv w' base D1 d1 B1 u1) (o2 : OwnLv w' base D2 d2 B2 u2) (hbw : w.heap.size ≤ base) :
    SDoPost F kp K1 K2 T gone w (.returned (.tuple #[.agg #[.slice D1 B1.length d1, .slice D2 B2.length d2], .slice none 0 0, .int .i64 0, .nilIface])) w' := by
  rcases h with ⟨h, _⟩ | ⟨_, _, rfl, rfl, rfl, rfl, rfl⟩ | ⟨_, h, _⟩
  · exact absurd h0 h
  · exact ⟨D1, d1, D2, d2, none, 0, rfl, Lib.hid ⟨o1.rd, o2.rd, rd_nil6, fun _ => ⟨_, _, o1.lower hbw, o2.lower hbw⟩⟩, hb⟩
  · rw [hk] at h; cases h
theorem sdo_anew {B1 B2 K1 K2 : List Lv} {an : Order} {F gone : Int} {T : List Trade} {W : List Int} (hx : KO B1 B2 an 0 F K1 K2 T gone W) {y : Int} (hy : y = readyE B1 B2 an) {R : Option MSt} (hR : R = met B1 B2 an 0) {k : MSt → Nat} (hk : k = kOut an (pick an.side B1 B2)) {z : MSt → Int} (hz : z = fun s => putE (kL an.side B1 s) (kM an.side B2 s) an.side an.price (restOf an s.left))
    {base n1 g1 n2 g2 nT cT : Nat} {G1 G2 AT : Option Addr} {gn : Int} {ev : Value} {w w7 w' : World} (hK : (y ≠ 0 ∧ ev = er y ∧ nT = 0 ∧ gn = 0 ∧ n1 = 0 ∧ n2 = 0) ∨ (y = 0 ∧ ∃ AW nW cW, KR R k z an B1 B2 base w7 G1 n1 g1 G2 n2 g2 AT nT cT gn AW nW cW ev))
    (f : ∀ (A : Option Addr) (c : Nat) (L : List Lv) (v : List (Option Addr × Nat)), OwnLv w7 base A c L v → OwnLv w' base A c L v) (g : ∀ (s : Nat) (A : Option Addr) (n c : Nat) (xs : List Value), OwnS w7 base s A n c xs → OwnS w' base s A n c xs) (hb : Below w.heap.size w w') :
    SDoPost F false K1 K2 T gone w (.returned (.tuple #[.agg #[.slice G1 n1 g1, .slice G2 n2 g2], .slice AT nT cT, .int .i64 gn, ev])) w' := by
  subst hy; subst hR; subst hk; subst hz
  have hg : ∃ AW nW, GotK F K1 K2 T gone W w' G1 n1 G2 n2 AT nT gn AW nW ev := by
    rcases hK with ⟨hy, rfl, rfl, rfl, rfl, rfl⟩ | ⟨hy, AW, nW, cW, hk⟩
    · rcases hx with ⟨_, rfl, rfl, rfl, rfl, rfl, rfl⟩ | ⟨h0, _⟩ | ⟨h0, _⟩
      · exact ⟨none, 0, gotk_zero (er_errV hy)⟩
      · exact absurd h0 hy
      · exact absurd h0 hy
    · exact ⟨AW, nW, (hk.move f g).out hx hy⟩
  obtain ⟨AW, nW, rfl, rfl, rfl, rfl, _, rfl, r1, r2, r3, _⟩ := hg
  exact ⟨_, _, _, _, _, _, rfl, Lib.hid ⟨r1, r2, r3, fun h => by cases h⟩, hb⟩
set_option maxRecDepth 100000 in
set_option maxHeartbeats 8000000 in
theorem swdo_any (L M : List Lv) (id p q : Int) (E sd pr : Int) (rr : Rest) (kp : Bool) (B1 B2 : List Lv) (an : Order) (ls : Int) (hsw : SW L M id p q E sd pr rr kp B1 B2 an ls) (F : Int) (K1 K2 : List Lv) (T : List Trade) (gone : Int) (hx : SX E kp B1 B2 an F K1 K2 T gone) (A1 A2 : Option Addr) (c1 c2 : Nat) (w : World) (h1 : RdLv w w.heap.size A1 L) (h2 : RdLv w w.heap.size A2 M) (hl1 : L.length ≤ maxLen) (hl2 : M.length ≤ maxLen) (hA1 : A1 = none → c1 = 0) (hA2 : A2 = none → c2 = 0) :
    Calls Try.prog 9 #[.agg #[.slice A1 L.length c1, .slice A2 M.length c2], .int .i64 id, .int .i64 p, .int .i64 q] w (SDoPost F kp K1 K2 T gone w) := by
  have HL := Lib.hid h1; have HM := Lib.hid h2; have HX := Lib.hid hx
  have cS := Lib.hid (fun w' h h' => swof_any L M id p q E sd pr rr kp B1 B2 an ls hsw A1 A2 c1 c2 w' h h' hl1 hl2 hA1 hA2)
  have hsh := hsw.short
  have hb1m : B1.length ≤ maxLen := by unfold maxLen; omega
  have hb2m : B2.length ≤ maxLen := by unfold maxLen; omega
  have HSH := Lib.hid (And.intro hb1m hb2m)
  have hb : Below w.heap.size w ((w.alloc (.cells #[.slice A1 L.length c1, .slice A2 M.length c2] 29)).alloc (.cells #[.slice none 0 0, .slice none 0 0] 29)) := below_then_alloc ((Below.refl _ _).alloc (Nat.le_refl _) _)
  have bb := (Bk.new w 29 #[.slice A1 L.length c1, .slice A2 M.length c2]).alloc (.cells #[.slice none 0 0, .slice none 0 0] 29)
  have br := Bk.at_ (w := w.alloc (.cells #[.slice A1 L.length c1, .slice A2 M.length c2] 29)) (g' := w.heap.size + 1) (by simp) 29 #[.slice none 0 0, .slice none 0 0]
  clear h1 h2 hl1 hl2 hA1 hA2 hsw hx hsh hb1m hb2m
  go_enter Try.func9, Try.ntmps9
  go_upto_region 1 with fail
  generalize (w.alloc (.cells #[.slice A1 L.length c1, .slice A2 M.length c2] 29)).alloc (.cells #[.slice none 0 0, .slice none 0 0] 29) = w0 at *
  have hg0 : w.heap.size + 1 < w0.heap.size := br.lt
  obtain ⟨q0, q1⟩ := box2 bb
  go_wp2_with fail
  go_at_call 27
  refine (cS.out _ (HL.out.on hb) (HM.out.on hb)).mono ?_
  rintro e w1 ⟨D1, d1, u1, D2, d2, u2, rfl, HO, hb1⟩
  have hg1 : w.heap.size + 1 < w1.heap.size := Nat.lt_of_lt_of_le hg0 hb1.size
  replace br := br.keep hb1; replace hb := below_then hb1 hb
  clear hb1 q0 q1 bb cS
  obtain ⟨V, hV⟩ : ∃ V, V = (#[.int .i64 sd, .int .i64 pr, .int .i64 rr.id, .int .i64 rr.who, .int .i64 rr.qty, .int .i64 rr.hidden, .int .i64 rr.show_, .bool kp, .slice D1 B1.length d1, .slice D2 B2.length d2, .int .i64 an.id, .int .i64 an.who, .int .i64 an.side, .int .i64 an.kind, .int .i64 an.price, .int .i64 an.qty, .int .i64 an.show_, .int .i64 an.stop, .int .i64 ls] : Array Value) := ⟨_, rfl⟩
  rw [← hV]
  have bO0 := Bk.new w1 74 #[.int .i64 0, .int .i64 0, .int .i64 0, .int .i64 0, .int .i64 0, .int .i64 0, .int .i64 0, .bool false, .slice none 0 0, .slice none 0 0, .int .i64 0, .int .i64 0, .int .i64 0, .int .i64 0, .int .i64 0, .int .i64 0, .int .i64 0, .int .i64 0, .int .i64 0]
  have HT0 := Lib.hid (show World.there _ _ _ V.size by rw [hV]; exact bO0.there)
  have bO : Bk ((w1.alloc (.cells #[.int .i64 0, .int .i64 0, .int .i64 0, .int .i64 0, .int .i64 0, .int .i64 0, .int .i64 0, .bool false, .slice none 0 0, .slice none 0 0, .int .i64 0, .int .i64 0, .int .i64 0, .int .i64 0, .int .i64 0, .int .i64 0, .int .i64 0, .int .i64 0, .int .i64 0] 74)).setCells w1.heap.size 0 V.toList) w1.heap.size 74 #[.int .i64 sd, .int .i64 pr, .int .i64 rr.id, .int .i64 rr.who, .int .i64 rr.qty, .int .i64 rr.hidden, .int .i64 rr.show_, .bool kp, .slice D1 B1.length d1, .slice D2 B2.length d2, .int .i64 an.id, .int .i64 an.who, .int .i64 an.side, .int .i64 an.kind, .int .i64 an.price, .int .i64 an.qty, .int .i64 an.show_, .int .i64 an.stop, .int .i64 ls] := by rw [hV]; exact bO0.setCs (vs := [.int .i64 sd, .int .i64 pr, .int .i64 rr.id, .int .i64 rr.who, .int .i64 rr.qty, .int .i64 rr.hidden, .int .i64 rr.show_, .bool kp, .slice D1 B1.length d1, .slice D2 B2.length d2, .int .i64 an.id, .int .i64 an.who, .int .i64 an.side, .int .i64 an.kind, .int .i64 an.price, .int .i64 an.qty, .int .i64 an.show_, .int .i64 an.stop, .int .i64 ls]) rfl
  have hbo : Below w1.heap.size w1 ((w1.alloc (.cells #[.int .i64 0, .int .i64 0, .int .i64 0, .int .i64 0, .int .i64 0, .int .i64 0, .int .i64 0, .bool false, .slice none 0 0, .slice none 0 0, .int .i64 0, .int .i64 0, .int .i64 0, .int .i64 0, .int .i64 0, .int .i64 0, .int .i64 0, .int .i64 0, .int .i64 0] 74)).setCells w1.heap.size 0 V.toList) := below_Cs (vs := V.toList) (Nat.le_refl _) ((Below.refl _ _).alloc (Nat.le_refl _) _)
  have HVS := Lib.hid (show (Try.prog.info? 74).map (·.size) = some V.size by rw [hV]; exact swap_size)
  have HV1 := Lib.hid (show V.all (·.oneCell') = true by rw [hV]; exact swap_one)
  clear hV
  have HALL := Lib.hid (And.intro bO (And.intro (below_then hbo hb) (And.intro hbo (br.keep hbo))))
  clear bO0 bO hbo hb br
  go_upto_region 2 with (refine wpList_store_mid (by rfl) 74 _ _ (by rfl) _ 0 V (by rfl) (by rfl) HT0.out HVS.out HV1.out ?_)
  obtain ⟨bO, hb, hbo, br⟩ := HALL.out
  clear HALL HT0 HVS HV1
  generalize ((w1.alloc (.cells #[.int .i64 0, .int .i64 0, .int .i64 0, .int .i64 0, .int .i64 0, .int .i64 0, .int .i64 0, .bool false, .slice none 0 0, .slice none 0 0, .int .i64 0, .int .i64 0, .int .i64 0, .int .i64 0, .int .i64 0, .int .i64 0, .int .i64 0, .int .i64 0, .int .i64 0] 74)).setCells w1.heap.size 0 V.toList) = w6 at *
  have HO2 := Lib.hid (And.intro (HO.out.1.below hbo) (HO.out.2.below hbo))
  have HN := Lib.hid (And.intro hg0 (And.intro hg1 bO.lt))
  clear HO hbo
  try go_frame
  by_cases h0 : E = 0
  case neg =>
    have H0 := Lib.hid h0
    rw [show errV E = er E by rw [errV, if_neg h0]]
    obtain ⟨r0, r1⟩ := box2 br
    have f0 := br.free 0; have f1 := br.free 1
    have kx := box2 (br.set2 (.slice none 0 0) (.slice none 0 0))
    have HF := Lib.hid ((hb.setCell (p := ⟨w.heap.size + 1, 0, none⟩) (by show w.heap.size ≤ w.heap.size + 1; omega) (.slice none 0 0)).setCell (p := ⟨w.heap.size + 1, 1, none⟩) (by show w.heap.size ≤ w.heap.size + 1; omega) (.slice none 0 0))
    clear h0 bO br hb
    go_wp2
    exact bodyPost_ret (v := .tuple #[.agg #[.slice none 0 0, .slice none 0 0], .slice none 0 0, .int .i64 0, er E]) (by simp [results, Try.results9, go_sem, kx]) rfl (sdo_bad HX.out H0.out HF.out)
  case pos =>
  have H0 := Lib.hid h0
  rw [h0, show errV 0 = .nilIface from rfl]
  clear h0
  rcases (show kp = true ∨ kp = false by cases kp <;> simp) with e | e
  · have HK := Lib.hid e
    rw [e] at bO
    rw [e]
    clear e
    obtain ⟨o0, o1, o2, o3, o4, o5, o6, o7, o8, o9, o10, o11, o12, o13, o14, o15, o16, o17, o18⟩ := box19 bO
    clear o0 o1 o2 o3 o4 o5 o6 o10 o11 o12 o13 o14 o15 o16 o17 o18 bO
    obtain ⟨r0, r1⟩ := box2 br
    have f0 := br.free 0; have f1 := br.free 1
    have kx := box2 (br.set2 (.slice D1 B1.length d1) (.slice D2 B2.length d2))
    have HF := Lib.hid ((hb.setCell (p := ⟨w.heap.size + 1, 0, none⟩) (by show w.heap.size ≤ w.heap.size + 1; omega) (.slice D1 B1.length d1)).setCell (p := ⟨w.heap.size + 1, 1, none⟩) (by show w.heap.size ≤ w.heap.size + 1; omega) (.slice D2 B2.length d2))
    have HW := Lib.hid (And.intro (HO2.out.1.far2 (i := 0) (j := 1) (show w.heap.size + 1 < w0.heap.size from HN.out.1) (.slice D1 B1.length d1) (.slice D2 B2.length d2)) (HO2.out.2.far2 (i := 0) (j := 1) (show w.heap.size + 1 < w0.heap.size from HN.out.1) (.slice D1 B1.length d1) (.slice D2 B2.length d2)))
    clear br hb
    go_wp2
    exact bodyPost_ret (v := .tuple #[.agg #[.slice D1 B1.length d1, .slice D2 B2.length d2], .slice none 0 0, .int .i64 0, .nilIface]) (by simp [results, Try.results9, go_sem, kx]) rfl (sdo_keep HX.out H0.out HK.out HF.out HW.out.1 HW.out.2 (by have := HN.out.1; omega))
  · have hx := HX.out
    rcases hx with ⟨hx, _⟩ | ⟨_, hx, _⟩ | ⟨_, _, W, hx⟩
    · exact absurd H0.out hx
    · rw [e] at hx; cases hx
    have HK := Lib.hid e
    obtain ⟨y, hy⟩ : ∃ y, y = readyE B1 B2 an := ⟨_, rfl⟩
    obtain ⟨R, hR⟩ : ∃ R, R = met B1 B2 an 0 := ⟨_, rfl⟩
    obtain ⟨kk, hk⟩ : ∃ k, k = kOut an (pick an.side B1 B2) := ⟨_, rfl⟩
    obtain ⟨zz, hz⟩ : ∃ z, z = fun s => putE (kL an.side B1 s) (kM an.side B2 s) an.side an.price (restOf an s.left) := ⟨_, rfl⟩
    have cD := Lib.hid (fun w' h h' => kdo_any B1 B2 an D1 D2 d1 d2 w' h h' HSH.out.1 HSH.out.2 HO2.out.1.nil0 HO2.out.2.nil0 y hy R hR kk hk zz hz (fun _ => putCon))
    have HX := Lib.hid hx; have HY := Lib.hid hy; have HR := Lib.hid hR; have HKK := Lib.hid hk; have HZ := Lib.hid hz
    clear hy hR hk hz
    rw [e] at bO
    rw [e]
    clear e hx
    obtain ⟨o0, o1, o2, o3, o4, o5, o6, o7, o8, o9, o10, o11, o12, o13, o14, o15, o16, o17, o18⟩ := box19 bO
    clear o0 o1 o2 o3 o4 o5 o6 o18 bO
    go_wp2_with fail
    go_at_call 15
    refine (cD.out _ HO2.out.1.rd HO2.out.2.rd).mono ?_
    rintro e w7 ⟨G1, n1, g1, G2, n2, g2, AT, nT, cT, gn, ev, rfl, hK, hb7⟩
    have hg7 : w.heap.size + 1 < w6.heap.size := Nat.lt_trans HN.out.2.1 HN.out.2.2
    replace br := br.keep hb7; replace hb := below_then hb7 hb
    obtain ⟨r0, r1⟩ := box2 br
    have f0 := br.free 0; have f1 := br.free 1
    have kx := box2 (br.set2 (.slice G1 n1 g1) (.slice G2 n2 g2))
    have HF := Lib.hid ((hb.setCell (p := ⟨w.heap.size + 1, 0, none⟩) (by show w.heap.size ≤ w.heap.size + 1; omega) (.slice G1 n1 g1)).setCell (p := ⟨w.heap.size + 1, 1, none⟩) (by show w.heap.size ≤ w.heap.size + 1; omega) (.slice G2 n2 g2))
    have HFIN := Lib.hid (sdo_anew HX.out HY.out HR.out HKK.out HZ.out hK.out (fun A c L v h => h.far2 (g := w.heap.size + 1) (i := 0) (j := 1) hg7 (.slice G1 n1 g1) (.slice G2 n2 g2)) (fun s A n c xs h => (h.under (p := ⟨w.heap.size + 1, 0, none⟩) hg7 (.slice G1 n1 g1)).under (p := ⟨w.heap.size + 1, 1, none⟩) hg7 (.slice G2 n2 g2)) HF.out)
    clear br hb hK hb7 hg7
    go_wp2
    exact bodyPost_ret (v := .tuple #[.agg #[.slice G1 n1 g1, .slice G2 n2 g2], .slice AT nT cT, .int .i64 gn, ev]) (by simp [results, Try.results9, go_sem, kx]) rfl (by rw [HK.out]; exact HFIN.out)
end Go.Proofs.Ytiaofbkhnodbhaa
