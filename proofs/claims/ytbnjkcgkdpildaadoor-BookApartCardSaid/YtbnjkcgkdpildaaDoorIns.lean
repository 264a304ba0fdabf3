/- The contract of slices.Insert over levels: one put in. -/
import Derived.Test.YtbnjkcgkdpildaaDoorOwnDel
import Derived.Test.YtbnjkcgkdpildaaDoorLvCopy
import Derived.Test.YtbnjkcgkdpildaaDoorMeetMem
import Derived.Test.YtbnjkcgkdpildaaDoorTake2
import Derived.Shelf.Spec.SlicesInsert
namespace Go.Proofs.YtbnjkcgkdpildaaDoor
set_option linter.all false
open Go Go.RowKit
theorem size_lv (w : World) : (Go.sizeOf 26).run Tryd.prog w = .ok 2 w := by kernel_rfl
/-- copy of elements of two cells -/
theorem run_copy_two (w : World) (sT ty : TypeId) (b o dLen dCap : Nat) (a : Addr) (sLen sCap m : Nat) (cs : List Value)
    (hn : Nat.min sLen dLen = m) (hl : cs.length = m * 2)
    (hsrc : ∀ j v, cs[j]? = some v → w.cell? (a.add j) = some v) (hc : ∀ j, j < cs.length → (w.cell? ⟨b, o + j, none⟩).isSome = true) (hf : ∀ j, j < cs.length → w.frozen? ⟨b, o + j, none⟩ = false) (h1 : ∀ v ∈ cs, v.oneCell' = true) :
    (Builtin.copy_ #[27, sT] ty #[.slice (some ⟨b, o, none⟩) dLen dCap, .slice (some a) sLen sCap]).run Tryd.prog w = .ok (goInt m) (w.setCells b o cs) := by
  have hl' := run_firstCells_some (P := Tryd.prog) w 2 m a sLen sCap cs hl hsrc
  have hst := run_storeCells_cells (P := Tryd.prog) b o cs 0 w (by simpa using hc) (by simpa using hf) h1
  simp only [Nat.add_zero] at hst
  simp [Builtin.copy_, run_underlying Tryd.underlying27, Builtin.lenOf, size_lv, hn, hl', hst]
/-- how Insert ends -/
def InsPost (n i : Nat) (p : Int) (A : Option Addr) (c base : Nat) (xs : List Value) (w : World) (e : Ending) (w' : World) : Prop :=
  ∃ A' c', e = .returned (.slice A' (n + 1) c') ∧ OwnS w' base 2 A' (n + 1) c' (xs.take (i * 2) ++ [.int .i64 p, .slice none 0 0] ++ xs.drop (i * 2)) ∧ w.grownBy w' (rowOf A c) ∧ (rowOf A' c' = rowOf A c ∨ rowOf A' c' = some w.heap.size)
theorem two_one (p : Int) : ∀ u ∈ (#[Value.int .i64 p, .slice none 0 0] : Array Value).toList, u.oneCell' = true := by
  intro u hu
  simp only [List.mem_cons, List.not_mem_nil, or_false] at hu
  rcases hu with rfl | rfl <;> rfl
theorem shape_of_cell {w : World} {b o : Nat} (h : (w.cell? ⟨b, o, none⟩).isSome = true) : ∃ t k, w.shape? b = some (t, k) ∧ k ≠ 0 := by
  unfold World.cell? at h
  unfold World.shape?
  cases hq : w.heap[b]? with
  | none => simp [hq] at h
  | some x =>
    cases x with
    | cells c e f =>
      refine ⟨e, c.size, rfl, fun h0 => ?_⟩
      simp [hq, h0] at h
    | _ => simp [hq] at h
theorem two_ones (p : Int) : ∀ v ∈ [Value.int .i64 p, .slice none 0 0], v.oneCell' = true := two_one p
theorem grown_of_drew' {w w1 : World} {row : Option Nat} (h : w.drew.grownBy w1 row) : w.grownBy w1 row := ⟨h.os, h.tape, h.output, h.size, h.block⟩
/-- two cells put in, what stood behind moved up -/
theorem ins_own {w : World} {base c b off n i : Nat} {xs news : List Value} (h : OwnS w base 2 (some ⟨b, off, none⟩) n c xs) (hi : i < n) (hroom : n + 1 ≤ c) (hnw : news.length = 2) :
    OwnS ((w.drew.setCells b (off + (i + 1) * 2) (xs.drop (i * 2))).setCells b (off + i * 2) news) base 2 (some ⟨b, off, none⟩) (n + 1) c (xs.take (i * 2) ++ news ++ xs.drop (i * 2)) := by
  have hxl := h.len
  have hdl : (xs.drop (i * 2)).length = n * 2 - i * 2 := by rw [List.length_drop, hxl]
  have h1l : (xs.take ((i + 1) * 2) ++ xs.drop (i * 2)).length = (n + 1) * 2 := by rw [List.length_append, hdl, List.length_take, hxl]; omega
  obtain ⟨g, o, e, _, _, hcell, _⟩ := h.drew.cell (by omega)
  cases e
  have a1 := h.drew.put (p := (i + 1) * 2) (n' := n + 1) (xs' := xs.take ((i + 1) * 2) ++ xs.drop (i * 2)) (news := xs.drop (i * 2)) (by omega) (by rw [hdl]; omega) h1l hroom (fun j hj => by
    by_cases h3 : (i + 1) * 2 ≤ j
    · rw [if_pos (by rw [hdl]; omega), List.getElem?_append_right (by rw [List.length_take, hxl]; omega), List.length_take, hxl]
      congr 1
      omega
    · rw [if_neg (by omega), List.getElem?_append_left (by rw [List.length_take, hxl]; omega), List.getElem?_take_of_lt (by omega)]
      exact (hcell j (by omega)).symm)
  obtain ⟨g', o', e, _, _, hcell1, _⟩ := a1.cell (by omega)
  cases e
  have h2l : (xs.take (i * 2) ++ news ++ xs.drop (i * 2)).length = (n + 1) * 2 := by rw [List.length_append, List.length_append, hdl, List.length_take, hxl, hnw]; omega
  refine a1.put (p := i * 2) (n' := n + 1) (by omega) (by rw [hnw]; omega) h2l hroom (fun j hj => ?_)
  have htl : (xs.take (i * 2)).length = i * 2 := by rw [List.length_take, hxl]; omega
  by_cases h3 : j < i * 2
  · rw [if_neg (by omega), hcell1 j (by omega), List.append_assoc, List.getElem?_append_left (by omega), List.getElem?_append_left (by rw [List.length_take, hxl]; omega), List.getElem?_take_of_lt h3, List.getElem?_take_of_lt (by omega)]
  · by_cases h4 : j < i * 2 + 2
    · rw [if_pos (by omega), List.append_assoc, List.getElem?_append_right (by omega), List.getElem?_append_left (by omega), htl]
    · rw [if_neg (by omega), hcell1 j (by omega), List.getElem?_append_right (by rw [List.length_append]; omega), List.getElem?_append_right (by rw [List.length_take, hxl]; omega), List.length_append, htl, hnw, List.length_take, hxl]
      congr 1
      omega
set_option maxRecDepth 100000 in
set_option maxHeartbeats 2000000 in
/-- at the end -/
theorem ins_end (n : Nat) (p : Int) (A : Option Addr) (c base vb : Nat) (xs : List Value) (w : World) (h : OwnS w base 2 A n c xs) (hb : base ≤ w.heap.size) (hv : Bk w vb 26 #[.int .i64 p, .slice none 0 0]) (hn : n ≤ 1000) :
    Calls Tryd.prog 63 #[.slice A n c, .int .i64 n, .slice (some ⟨vb, 0, none⟩) 1 1] w (InsPost n n p A c base xs w) := by
  obtain ⟨i0, hi0, hz1, hz2, hz3⟩ := info_parts info_lv
  have HI := Lib.hid hi0; have H0 := Lib.hid hz1; have H1 := Lib.hid hz2; have H2 := Lib.hid hz3
  have HO := Lib.hid h
  have HV := Lib.hid hv
  have hle := h.le; have hmx := h.max
  unfold maxLen at hmx
  clear hi0 hz1 hz2 hz3 h hv
  have key : ∀ A' c' w', Grew w base 2 A c (n + 1) (xs ++ [.int .i64 p, .slice none 0 0]) A' c' w' → InsPost n n p A c base xs w (.returned (.slice A' (n + 1) c')) w' := by
    intro A' c' w' gr
    refine ⟨A', c', rfl, ?_, gr.grown, gr.row⟩
    have hl := HO.out.len
    rw [List.take_of_length_le (by omega), List.drop_eq_nil_of_le (by omega), List.append_nil]
    exact gr.own
  have KEY := Lib.hid key
  clear key
  cases A with
  | none =>
    obtain ⟨rfl, rfl⟩ := HO.out.none_cap rfl
    go_enter Tryd.func63, Tryd.ntmps63
    go_wp2_with (at_builtin; go_loud (refine wpList_append_S (base := base) (s := 2) (n := 0) (xs := xs) rfl _ _ _ _ rfl 26 i0 _ 32 Tryd.underlying27 HI.out H0.out H1.out H2.out rfl rfl HO.out hb _ rfl 1 [.int .i64 p, .slice none 0 0] (src_block (m := 1) HV.out Tryd.underlying27 rfl (two_one p) 1) (by unfold maxLen; omega) (by omega) ?_); intro A' c' w' gr)
    go_ret
    exact KEY.out _ _ _ gr
  | some a =>
    by_cases hc : c = n
    · subst hc
      go_enter Tryd.func63, Tryd.ntmps63
      go_wp2_with (at_builtin; go_loud (refine wpList_append_S (base := base) (s := 2) (n := c) (xs := xs) rfl _ _ _ _ rfl 26 i0 _ 32 Tryd.underlying27 HI.out H0.out H1.out H2.out rfl rfl HO.out hb _ rfl 1 [.int .i64 p, .slice none 0 0] (src_block (m := 1) HV.out Tryd.underlying27 rfl (two_one p) 1) (by unfold maxLen; omega) (by omega) ?_); intro A' c' w' gr)
      go_ret
      exact KEY.out _ _ _ gr
    · have hc1 : (n : Int) < (c : Int) := by omega
      have hc2 : ¬ (c = n) := hc
      go_enter Tryd.func63, Tryd.ntmps63
      go_wp2_with (at_builtin; go_loud (refine wpList_append_S (base := base) (s := 2) (n := n) (xs := xs) rfl _ _ _ _ rfl 26 i0 _ 32 Tryd.underlying27 HI.out H0.out H1.out H2.out rfl rfl HO.out hb _ rfl 1 [.int .i64 p, .slice none 0 0] (src_block (m := 1) HV.out Tryd.underlying27 rfl (two_one p) 1) (by unfold maxLen; omega) (by omega) ?_); intro A' c' w' gr)
      go_ret
      exact KEY.out _ _ _ gr
set_option maxRecDepth 100000 in
set_option maxHeartbeats 4000000 in
/-- in the midst, where there is room -/
theorem ins_shift (n i : Nat) (p : Int) (A : Option Addr) (c base vb : Nat) (xs : List Value) (w : World) (h : OwnS w base 2 A n c xs) (hone : ∀ v ∈ xs, v.oneCell' = true) (hv : Bk w vb 26 #[.int .i64 p, .slice none 0 0]) (hne : some vb ≠ rowOf A c) (hi : i < n) (hroom : n + 1 ≤ c) (hn : n ≤ 1000) :
    Calls Tryd.prog 63 #[.slice A n c, .int .i64 i, .slice (some ⟨vb, 0, none⟩) 1 1] w (InsPost n i p A c base xs w) := by
  obtain ⟨b, off, rfl, hbb, hlt, hcell, hfree⟩ := h.cell (by omega)
  have hmx := h.max
  unfold maxLen at hmx
  have hxl := h.len
  have hrow : rowOf (some (⟨b, off, none⟩ : Addr)) c = some b := by rw [rowOf, if_neg (by omega)]; rfl
  have hvb : vb ≠ b := fun e => hne (by rw [hrow, e])
  have hsh : w.shape? vb = some (26, 2) := by
    unfold Bk at hv
    simp [World.shape?, hv]
  obtain ⟨tB, kB, hsb, hkB⟩ := shape_of_cell (hfree 0 (by omega)).1
  have hov : ∀ lb cb, (callFunc 83 #[.slice (some ⟨vb, 0, none⟩) 1 1, .slice (some ⟨b, off + (i + 1) * 2, none⟩) lb cb]).run Tryd.prog w = .ok (.value (.bool false)) w := fun lb cb => by
    rw [run_callFunc_extern (e := Extern.SlicesOverlaps.overlaps #[27, 27] #[4]) Tryd.func83 (by kernel_rfl) (by kernel_rfl) (by kernel_rfl) (by kernel_rfl),
      Lib.run_overlaps_apart w 27 4 26 Tryd.underlying27 2 size_lv ⟨vb, 0, none⟩ ⟨b, off + (i + 1) * 2, none⟩ 1 1 lb cb hvb _ _ 2 kB hsh hsb hkB (hv.free 0) (hv.free 2)]
    rfl
  have hdl : (xs.drop (i * 2)).length = (n - i) * 2 := by rw [List.length_drop, hxl, ← Nat.sub_mul]
  have hcp1 : ∀ ty dc sc dl sl, Nat.min sl dl = n - i → (Builtin.copy_ #[27, 27] ty #[.slice (some ⟨b, off + (i + 1) * 2, none⟩) dl dc, .slice (some ⟨b, off + i * 2, none⟩) sl sc]).run Tryd.prog w.drew = .ok (goInt (n - i : Nat)) (w.drew.setCells b (off + (i + 1) * 2) (xs.drop (i * 2))) := fun ty dc sc dl sl hmn =>
    run_copy_two w.drew _ ty b (off + (i + 1) * 2) dl dc ⟨b, off + i * 2, none⟩ sl sc (n - i) (xs.drop (i * 2)) hmn hdl
      (fun j v hj => by
        rw [Addr.add_lit, Nat.add_assoc]
        rw [List.getElem?_drop] at hj
        have hlt2 : i * 2 + j < n * 2 := by rw [← hxl]; exact (List.getElem?_eq_some_iff.1 hj).1
        exact (hcell _ hlt2).trans hj)
      (fun j hj => by rw [Nat.add_assoc]; exact (hfree _ (by omega)).1) (fun j hj => by rw [Nat.add_assoc]; exact (hfree _ (by omega)).2) (fun v hv => hone v (List.mem_of_mem_drop hv))
  obtain ⟨W1, hW1⟩ : ∃ W1, W1 = w.drew.setCells b (off + (i + 1) * 2) (xs.drop (i * 2)) := ⟨_, rfl⟩
  have hsp1 : ∀ k, k < c * 2 → (W1.cell? ⟨b, off + k, none⟩).isSome = true := fun k hk => by
    rw [hW1]
    exact isSome_setCells b _ _ _ (fun j hj => by rw [Nat.add_assoc]; exact (hfree _ (by omega)).1) _ (hfree k hk).1
  have hcp2 : ∀ (W : World), (∀ x, W.cell? x = W1.cell? x) → (∀ x, W.frozen? x = W1.frozen? x) → ∀ ty dc dl, 1 ≤ dl → (Builtin.copy_ #[27, 27] ty #[.slice (some ⟨b, off + i * 2, none⟩) dl dc, .slice (some ⟨vb, 0, none⟩) 1 1]).run Tryd.prog W = .ok (goInt (1 : Nat)) (W.setCells b (off + i * 2) [.int .i64 p, .slice none 0 0]) := fun W hWc hWf ty dc dl hdl1 =>
    run_copy_two W _ ty b (off + i * 2) dl dc ⟨vb, 0, none⟩ 1 1 1 [.int .i64 p, .slice none 0 0] (by simp only [Nat.min_def]; split <;> omega) rfl
      (fun j v hj => by
        rw [Addr.add_lit, hWc, hW1, World.cell?_setCells_out b _ _ _ _ (fun h _ => absurd h hvb)]
        have := hv.cell (0 + j)
        rw [Nat.zero_add] at this ⊢
        exact this.trans (by simpa using hj))
      (fun j hj => by simp only [List.length_cons, List.length_nil] at hj; rw [hWc, Nat.add_assoc]; exact hsp1 _ (by omega)) (fun j hj => by simp only [List.length_cons, List.length_nil] at hj; rw [hWf, hW1, World.frozen?_setCells, Nat.add_assoc]; exact (hfree _ (by omega)).2) (two_ones p)
  rw [← hW1] at hcp1
  have hz2 : ¬ ((i : Int) = (n : Int)) := by omega
  have hw1 : IntKind.i64.wrap ((i : Int) + 1) = (i : Int) + 1 := IntWalk.i64_in _ (by omega)
  have hb1 : (0 : Int) ≤ (i : Int) + 1 := by omega
  have hin : i ≤ n := by omega
  have htn : ((i : Int) + 1).toNat = i + 1 := by omega
  have hb2 : ¬ (c = i + 1) := by omega
  have hb3 : (i : Int) ≤ (n : Int) + 1 := by omega
  have hb4 : ¬ (c = i) := by omega
  have hb5 : (n : Int) + 1 ≤ (c : Int) := by omega
  have HC := Lib.hid hcell; have HF := Lib.hid hfree; have HONE := Lib.hid hone; have HV := Lib.hid hv; have HOW := Lib.hid h; have HW1 := Lib.hid hW1
  clear hcell hfree hone hv h hne hsp1 hW1 hdl hsh hsb
  go_enter Tryd.func63, Tryd.ntmps63
  go_wp2_with (simp only [hov])
  have mixed : Tryd.prog.follows .mixedOrders = true := by kernel_rfl
  go_region_law_o (refine step_copy_runI rfl _ _ 27 27 rfl (.slice (some ⟨b, off + (i + 1) * 2, none⟩) (n - i) (c - (i + 1))) (.slice (some ⟨b, off + i * 2, none⟩) (n + 1 - i) (c - i)) (by simp [Act.eval, Act.put]) (by simp [Act.eval, Act.put]) (hcp1 _ _ _ _ _ (by simp only [Nat.min_def]; split <;> omega)) ?_)
  go_wp2_with (refine wpList_copy_runI _ rfl _ _ 27 27 rfl _ _ rfl rfl (hcp2 W1 (fun _ => rfl) (fun _ => rfl) _ (c - i) (n + 1 - i) (by omega)) ?_)
  go_ret
  refine ⟨some ⟨b, off, none⟩, c, rfl, ?_, ?_, .inl rfl⟩
  · rw [HW1.out]
    exact ins_own HOW.out (by omega) hroom rfl
  · rw [HW1.out, hrow]
    exact (grown_of_drew' ((grown_setCells w.drew b _ _).trans (grown_setCells _ b _ _)))
end Go.Proofs.YtbnjkcgkdpildaaDoor
