/- MeetSweeps holds: for all arguments the law's function returns true. No condition. -/
import Derived.Test.YtbnjkcgkdpildaaMeetDo
import Derived.Test.YtbnjkcgkdpildaaSweepLaw
namespace Go.Proofs.Ytbnjkcgkdpildaa
set_option linter.all false
open Go Go.RowKit Go.ChangeShapes Go.WideShapes
/-- one level more -/
theorem OwnLv.snoc {w w' : World} {base cap cap' cr : Nat} {A A' Ar : Option Addr} {L : List Lv} {x : Lv} {vs : List (Option Addr × Nat)} (h : OwnLv w base A cap L vs) (o : OwnS w base 5 Ar x.rs.length cr (rows x.rs)) (oA : Ap (rowOf Ar cr) (rowOf A cap)) (ov : ∀ (i : Nat) u, vs[i]? = some u → Ap (rowOf Ar cr) (rowOf u.1 u.2))
    (gr : Grew w base 2 A cap (L.length + 1) (lvCells L vs ++ [.int .i64 x.price, .slice Ar x.rs.length cr]) A' cap' w') : OwnLv w' base A' cap' (L ++ [x]) (vs ++ [(Ar, cr)]) := by
  have new : ∀ r : Option Nat, Ap r (rowOf A cap) → (∀ k, r = some k → k < w.heap.size) → Ap r (rowOf A' cap') := by
    intro r h1 h2
    rcases gr.row with e | e
    · rw [e]; exact h1
    · rw [e]
      cases r with
      | none => exact .inl rfl
      | some k => exact .inr fun e2 => by cases e2; have := h2 _ rfl; omega
  have hlen := h.len
  refine ⟨by simp [h.len], ?_, ?_, ?_⟩
  · rw [lvCells_snoc h.len, List.length_append]; exact gr.own
  · intro i y u hy hu
    rcases Nat.lt_or_ge i L.length with hi | hi
    · rw [List.getElem?_append_left hi] at hy
      rw [List.getElem?_append_left (by omega)] at hu
      have he := h.each i y u hy hu
      exact ⟨he.1.apart gr.grown he.2, new _ he.2 (fun k hk => (he.1.row_lt k hk).2)⟩
    · have hik : i = L.length := by have := (List.getElem?_eq_some_iff.1 hy).1; simp at this; omega
      subst hik
      rw [List.getElem?_append_right (Nat.le_refl _), Nat.sub_self] at hy
      rw [List.getElem?_append_right (by omega), show L.length - vs.length = 0 by omega] at hu
      cases hy; cases hu
      exact ⟨o.apart gr.grown oA, new _ oA (fun k hk => (o.row_lt k hk).2)⟩
  · intro i j u v hij hu hv
    rcases Nat.lt_or_ge i vs.length with hi | hi <;> rcases Nat.lt_or_ge j vs.length with hj | hj
    · rw [List.getElem?_append_left hi] at hu
      rw [List.getElem?_append_left hj] at hv
      exact h.apart i j u v hij hu hv
    · rw [List.getElem?_append_left hi] at hu
      have : j = vs.length := by have := (List.getElem?_eq_some_iff.1 hv).1; simp at this; omega
      rw [List.getElem?_append_right hj, this, Nat.sub_self] at hv
      cases hv
      exact (ov i u hu).symm
    · rw [List.getElem?_append_left hj] at hv
      have : i = vs.length := by have := (List.getElem?_eq_some_iff.1 hu).1; simp at this; omega
      rw [List.getElem?_append_right hi, this, Nat.sub_self] at hu
      cases hu
      exact ov j v hv
    · exfalso
      have h1 := (List.getElem?_eq_some_iff.1 hu).1
      have h2 := (List.getElem?_eq_some_iff.1 hv).1
      simp at h1 h2
      omega
theorem lv_one (p : Int) (A : Option Addr) (n c : Nat) : ∀ u ∈ (#[Value.int .i64 p, .slice A n c] : Array Value).toList, u.oneCell' = true := by
  intro u hu
  simp only [List.mem_cons, List.not_mem_nil, or_false] at hu
  rcases hu with rfl | rfl <;> rfl
/-- a block of one's own, as a slice -/
theorem Bk.own {w : World} {g base s n : Nat} {t : TypeId} {cs : Array Value} (h : Bk w g t cs) (hb : base ≤ g) (hn : cs.size = n * s) (hm : n ≤ maxLen) : OwnS w base s (some ⟨g, 0, none⟩) n n cs.toList := by
  refine ⟨by simpa using hn, Nat.le_refl _, hm, fun h0 => ⟨g, 0, rfl, hb, h.lt, fun j hj => ?_, fun j hj => ⟨?_, h.free _⟩⟩⟩
  · rw [Nat.zero_add, h.cell, Array.getElem?_toList]
  · rw [Nat.zero_add, h.cell, Array.getElem?_eq_getElem (by omega)]; rfl
/-- what Do gives there -/
def SwPost (n : Nat) (qty want : Int) (w : World) (e : Ending) (w' : World) : Prop :=
  ∃ A1 n1 c1 A2 n2 c2 AT cT T left, e = .returned (.tuple #[.agg #[.slice A1 n1 c1, .slice A2 n2 c2], .slice AT (T : List Trade).length cT, .int .i64 left, .nilIface]) ∧ Hid (Swept qty 0 n want ⟨[], left, T, [], false⟩ ∧ T.length ≤ 400) ∧ Hid (Rd w' w'.heap.size AT T.length 6 (tcell T)) ∧ Below w.heap.size w w'
theorem sweeps_do {n : Nat} {qty want : Int} (hn : n ≤ 30) (h1 : 1 ≤ qty) (h2 : qty ≤ 100) (h3 : 1 ≤ want) (h4 : want ≤ 10000) (A : Option Addr) (c base : Nat) (vs : List (Option Addr × Nat)) (w : World) (h : OwnLv w base A c (swL qty 0 n) vs) :
    Calls Try.prog 11 #[.agg #[.slice none 0 0, .slice A n c], .agg #[.int .i64 99, .int .i64 2, .int .i64 1, .int .i64 2, .int .i64 0, .int .i64 want, .int .i64 0, .int .i64 0]] w (SwPost n qty want w) := by
  obtain ⟨e, hmet, hs⟩ := swept (n := n) (qty := qty) (want := want) hn h1 h3 h4
  have hr := sw_ready (n := n) (qty := qty) (want := want) hn h1 h2 h3 h4
  have hc := mdo_any [] (swL qty 0 n) (swO want) none A 0 c w RdLv.nil h.rd (by unfold maxLen; simp) (by rw [swL_len]; unfold maxLen; omega) (fun _ => rfl) (fun e => (h.own.none_cap e).2) 0 hr.symm (some e) hmet.symm
  rw [swL_len] at hc
  refine hc.mono ?_
  rintro x w' (⟨h0, _⟩ | ⟨_, h0, _⟩ | ⟨_, s, A1, c1, v1, A2, c2, v2, AT, cT, h0, hok, rfl, _, _, ot, hb⟩)
  · exact absurd rfl h0
  · cases h0
  · cases h0
    refine ⟨A1, _, c1, A2, _, c2, AT, cT, e.T, e.left, rfl, Lib.hid ⟨⟨hs.each, hs.all, hs.some_⟩, hok.trades⟩, Lib.hid (ot.rd (fun i j hi hj => trows_get hi hj)), hb⟩
set_option maxRecDepth 100000 in
set_option maxHeartbeats 2000000 in
theorem meetSweeps_in (n : Nat) (qty want : Int) (h0 : 1 ≤ n) (hn : n ≤ 30) (h1 : 1 ≤ qty) (h2 : qty ≤ 100) (h3 : 1 ≤ want) (h4 : want ≤ 10000) (w : World) :
    Calls Try.prog 3 #[.int .i64 n, .int .i64 qty, .int .i64 want] w fun e w' => e = .returned (.bool true) ∧ Below w.heap.size w w' := by
  have hp0 : 0 ≤ (n : Int) * qty := Int.mul_nonneg (by omega) (by omega)
  have hp1 : (n : Int) * qty ≤ 30 * 100 := Int.mul_le_mul (by omega) h2 (by omega) (by omega)
  have i1 : (1 : Int) ≤ (n : Int) := by omega
  have i2 : (n : Int) ≤ 30 := by omega
  have hx : IntKind.i64.wrap ((n : Int) * qty) = (n : Int) * qty := IntWalk.i64_in _ (by omega)
  have cD := Lib.hid (fun A c base vs w' h => sweeps_do (n := n) hn h1 h2 h3 h4 A c base vs w' h)
  obtain ⟨i0, hi0, hz1, hz2, hz3⟩ := info_parts info_lv
  have HI := Lib.hid hi0; have H0 := Lib.hid hz1; have H1 := Lib.hid hz2; have H2 := Lib.hid hz3
  clear hi0 hz1 hz2 hz3
  have B0 := Lib.hid (Bk.new w 24 #[.slice none 0 0, .slice none 0 0])
  go_enter Try.func3, Try.ntmps3
  go_wp2_with fail
  go_loopw [8] (fun i wr => ∃ (m : Nat) (A : Option Addr) (cap : Nat) (vs : List (Option Addr × Nat)), m ≤ n ∧ i = .int .i64 m ∧ Bk wr w.heap.size 24 #[.slice none 0 0, .slice A m cap] ∧ Hid (OwnLv wr (w.heap.size + 1) A cap (swL qty 0 m) vs) ∧ Below w.heap.size w wr) (fun i _ => n - (intOf i).toNat)
  case atStart =>
    refine ⟨0, none, 0, [], by omega, rfl, B0.out, Lib.hid ⟨rfl, OwnS.nil _ _ _ _, fun i x v h => by simp [swL] at h, fun i j v u _ h => by simp at h⟩, (Below.refl _ _).alloc (Nat.le_refl _) _⟩
  case round =>
    obtain ⟨m, A, cap, vs, hm, rfl, hbk, hown, hb⟩ := hrel
    obtain ⟨q0, q1⟩ := box2 hbk
    have hgb := hbk.lt
    by_cases hlt : m < n
    · have f1 := hbk.free 1
      have hlt' : (m : Int) < (n : Int) := by omega
      have hbk2 := Lib.hid ((hbk.alloc (.cells #[.int .i64 ((m : Int) + 1), .int .i64 1, .int .i64 qty, .int .i64 0, .int .i64 0] 26)).alloc (.cells #[.int .i64 (100 + (m : Int)), .slice (some ⟨wr.heap.size, 0, none⟩) 1 1] 29))
      have hl := swL_len qty 0 m
      have ho : OwnS wr (w.heap.size + 1) 2 A m cap (lvCells (swL qty 0 m) vs) := by have := hown.out.own; rwa [hl] at this
      have HO := Lib.hid ho
      have hne := Lib.hid (show some w.heap.size ≠ rowOf A cap from fun e => by have := (ho.row_lt _ e.symm).1; omega)
      clear ho hbk hl
      go_wp2_with (at_builtin; go_loud (refine wpList_append_S (base := w.heap.size + 1) (s := 2) (n := m) (xs := lvCells (swL qty 0 m) vs) rfl _ _ _ _ rfl 29 i0 _ 32 Try.underlying22 HI.out H0.out H1.out H2.out rfl rfl ((HO.out.alloc _).alloc _) (by simp; omega) _ rfl 1 [.int .i64 (100 + (m : Int)), .slice (some ⟨wr.heap.size, 0, none⟩) 1 1] (src_block (m := 1) (Bk.at_ (by simp) 29 #[.int .i64 (100 + (m : Int)), .slice (some ⟨wr.heap.size, 0, none⟩) 1 1]) Try.underlying22 rfl (lv_one _ _ _ _) 1) (by unfold maxLen; omega) (by omega) ?_); intro A' cap' w2 gr; go_loud (have b2 := hbk2.out.grown gr.grown hne.out); have t1 := b2.cell 1; (simp at t1); have g1 := b2.free 1)
      go_roundw
      case rel =>
        have hba : Below wr.heap.size wr ((wr.alloc (.cells #[.int .i64 ((m : Int) + 1), .int .i64 1, .int .i64 qty, .int .i64 0, .int .i64 0] 26)).alloc (.cells #[.int .i64 (100 + (m : Int)), .slice (some ⟨wr.heap.size, 0, none⟩) 1 1] 29)) := below_then_alloc ((Below.refl _ _).alloc (Nat.le_refl _) _)
        have hbz := hb.size
        have o1 := ((Bk.new wr 26 #[.int .i64 ((m : Int) + 1), .int .i64 1, .int .i64 qty, .int .i64 0, .int .i64 0]).alloc (.cells #[.int .i64 (100 + (m : Int)), .slice (some ⟨wr.heap.size, 0, none⟩) 1 1] 29)).own (base := w.heap.size + 1) (s := 5) (n := 1) (by omega) rfl (by unfold maxLen; omega)
        have hr1 : rowOf (some (⟨wr.heap.size, 0, none⟩ : Addr)) 1 = some wr.heap.size := rfl
        have hO := (hown.out.below hba).snoc (x := swLv qty m) (Ar := some ⟨wr.heap.size, 0, none⟩) (cr := 1) (by exact o1)
          (Ap.new (n := wr.heap.size) (fun k hk => by cases hk; exact Nat.le_refl _) (fun k hk => (hown.out.row_lt k hk).2))
          (fun i u hu => Ap.new (n := wr.heap.size) (fun k hk => by cases hk; exact Nat.le_refl _) (fun k hk => (hown.out.each_lt hu k hk).2)) (by rw [swL_len]; exact gr)
        rw [← swL_snoc] at hO
        have hb2 := below_then hba hb
        exact ⟨m + 1, A', cap', _, by omega, by go_num, by simpa using b2.set_ 1 (.slice A' (m + 1) cap'), Lib.hid (hO.far (p := ⟨w.heap.size, 1, none⟩) (by show w.heap.size < w.heap.size + 1; omega) _), (hb2.grown gr.grown hb2.size (fun k hk => by have := (HO.out.row_lt k hk).1; omega)).setCell (p := ⟨w.heap.size, 1, none⟩) (Nat.le_refl _) _⟩
      case measure => simp [intOf]; omega
    · obtain rfl : m = n := by omega
      have KD := Lib.hid (cD.out A cap _ vs wr hown.out)
      clear hown
      go_wp2_with fail
      go_at_call 11
      refine KD.out.mono ?_
      rintro e w3 ⟨A1, n1, c1, A2, n2, c2, AT, cT, T, left, rfl, hsw, hrd, hb3⟩
      have hbw := below_then hb3 hb
      clear hb3 hb KD hbk q0 q1 hgb
      have hTl : T.length ≤ 400 := hsw.out.2
      have hba := below_then_alloc (o := .cells #[.slice A1 n1 c1, .slice A2 n2 c2] 24) hbw
      have hrd2 := Lib.hid (hrd.out.below ((Below.refl w3.heap.size w3).alloc (Nat.le_refl _) (.cells #[.slice A1 n1 c1, .slice A2 n2 c2] 24)))
      go_wp2_with fail
      generalize w3.alloc (.cells #[.slice A1 n1 c1, .slice A2 n2 c2] 24) = w4 at *
      go_loop [14] (fun i => ∃ k : Nat, k ≤ T.length ∧ i = .int .i64 k) (fun i => T.length - (intOf i).toNat)
      case atStart => exact ⟨0, by omega, rfl⟩
      case round =>
        obtain ⟨k, hk, rfl⟩ := hrel
        by_cases hlt2 : k < T.length
        · obtain ⟨b, off, t, rfl, hbl, ht, e0, e1, e2, e3, e4, e5⟩ := tr_at hrd2.out hlt2
          have hE := hsw.out.1.each k t ht
          rw [hE.1] at e4
          rw [hE.2] at e0
          have hlt3 : (k : Int) < (T.length : Int) := by omega
          clear ht hE
          go_wp2
          go_round
          case rel => exact ⟨k + 1, by omega, by go_num⟩
          case measure => simp [intOf]; omega
        · obtain rfl : k = T.length := by omega
          clear hlt2
          have hS := hsw.out.1
          by_cases hw : (m : Int) * qty ≤ want
          · obtain ⟨hA, hB⟩ := hS.all hw
            dsimp only at hA hB
            have hx2 : IntKind.i64.wrap (want - (m : Int) * qty) = want - (m : Int) * qty := IntWalk.i64_in _ (by omega)
            rw [hB]
            have hA' : T.length = m := by omega
            clear hA hB hS
            generalize (m : Int) * qty = p at *
            rw [hA']
            go_wp2
            go_ret
            exact ⟨ret_bool (by simp), hba⟩
          · obtain ⟨hA, hB, hC⟩ := hS.some_ (by omega)
            dsimp only at hA hB hC
            have hd := ceil_div (q := qty) (w := want) (x := (T.length : Int)) h1 (by omega) (by simpa using hB) (by simpa using hC)
            rw [hA]
            clear hA hB hC hS
            generalize (m : Int) * qty = p at *
            have hx3 : IntKind.i64.wrap (T.length : Int) = (T.length : Int) := IntWalk.i64_in _ (by omega)
            have hq0 : (qty == 0) = false := by rw [beq_eq_false_iff_ne]; omega
            go_wp2
            go_ret
            exact ⟨ret_bool (by simp [hd]), hba⟩
theorem meetSweeps_law {H : Type} {enc : TypeId × Value → H} {v0 v1 v2 : Value} {d0 d1 d2 : DataW H} {p0 p1 p2 : List MemPlace} {base : Nat} {W : World}
    (h0 : Arg enc W base 3 v0 d0 p0) (h1 : Arg enc W base 3 v1 d1 p1) (h2 : Arg enc W base 3 v2 d2 p2) :
    Calls Try.prog 3 #[v0, v1, v2] W fun e w' => e = .returned (.bool true) ∧ Below W.heap.size W w' := by
  obtain ⟨n, rfl, _⟩ := h0.int
  obtain ⟨q, rfl, _⟩ := h1.int
  obtain ⟨t, rfl, _⟩ := h2.int
  clear h0 h1 h2
  rcases (show n < 1 ∨ (1 ≤ n ∧ 30 < n) ∨ (1 ≤ n ∧ n ≤ 30 ∧ q < 1) ∨ (1 ≤ n ∧ n ≤ 30 ∧ 1 ≤ q ∧ 100 < q) ∨ (1 ≤ n ∧ n ≤ 30 ∧ 1 ≤ q ∧ q ≤ 100 ∧ t < 1) ∨ (1 ≤ n ∧ n ≤ 30 ∧ 1 ≤ q ∧ q ≤ 100 ∧ 1 ≤ t ∧ 10000 < t) ∨ (1 ≤ n ∧ n ≤ 30 ∧ 1 ≤ q ∧ q ≤ 100 ∧ 1 ≤ t ∧ t ≤ 10000) by omega) with h | ⟨a, h⟩ | ⟨a, b, h⟩ | ⟨a, b, c, h⟩ | ⟨a, b, c, d, h⟩ | ⟨a, b, c, d, f, h⟩ | ⟨a, b, c, d, f, h⟩
  case inr.inr.inr.inr.inr.inr =>
    obtain ⟨N, rfl⟩ := Int.eq_ofNat_of_zero_le (show 0 ≤ n by omega)
    exact meetSweeps_in N q t (by omega) (by omega) c d f h W
  all_goals
    go_enter Try.func3, Try.ntmps3
    go_wp2
    go_ret
    exact ⟨rfl, Below.refl _ _⟩
end Go.Proofs.Ytbnjkcgkdpildaa
