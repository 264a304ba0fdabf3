/- The contract of slices.Insert over levels: one put in. The contract of slices.Insert over levels, where there is no room. slices.Insert over levels of the call's own: a level without rests put in. One level of the call's own has other rests; what adding a rest does: plain. -/
import Derived.Test.YtkdgpdijbobmkaaGreatGrpH
import Derived.Test.YtkdgpdijbobmkaaGreatGrpF
import Derived.Test.YtkdgpdijbobmkaaGreatGrpG
import Derived.Test.YtkdgpdijbobmkaaGreatGrpD
import Derived.Shelf.Spec.SlicesInsert
namespace Go.Proofs.YtkdgpdijbobmkaaGreat
set_option linter.all false
open Go Go.RowKit
theorem size_lv (w : World) : (Go.sizeOf 60).run Tryz.prog w = .ok 2 w := by kernel_rfl
/-- copy of elements of two cells -/
theorem run_copy_two (w : World) (sT ty : TypeId) (b o dLen dCap : Nat) (a : Addr) (sLen sCap m : Nat) (cs : List Value)
    (hn : Nat.min sLen dLen = m) (hl : cs.length = m * 2)
    (hsrc : ∀ j v, cs[j]? = some v → w.cell? (a.add j) = some v) (hc : ∀ j, j < cs.length → (w.cell? ⟨b, o + j, none⟩).isSome = true) (hf : ∀ j, j < cs.length → w.frozen? ⟨b, o + j, none⟩ = false) (h1 : ∀ v ∈ cs, v.oneCell' = true) :
    (Builtin.copy_ #[52, sT] ty #[.slice (some ⟨b, o, none⟩) dLen dCap, .slice (some a) sLen sCap]).run Tryz.prog w = .ok (goInt m) (w.setCells b o cs) := by
  have hl' := run_firstCells_some (P := Tryz.prog) w 2 m a sLen sCap cs hl hsrc
  have hst := run_storeCells_cells (P := Tryz.prog) b o cs 0 w (by simpa using hc) (by simpa using hf) h1
  simp only [Nat.add_zero] at hst
  simp [Builtin.copy_, run_underlying Tryz.underlying52, Builtin.lenOf, size_lv, hn, hl', hst]
/-- how Insert ends -/
def InsPost (n i : Nat) (p : Int) (A : Option Addr) (c base : Nat) (xs : List Value) (w : World) (e : Ending) (w' : World) : Prop :=
  ∃ A' c', e = .returned (.slice A' (n + 1) c') ∧ OwnS w' base 2 A' (n + 1) c' (xs.take (i * 2) ++ [.int .i64 p, .slice none 0 0] ++ xs.drop (i * 2)) ∧ w.grownBy w' (rowOf A c) ∧ (rowOf A' c' = rowOf A c ∨ rowOf A' c' = some w.heap.size)
theorem two_one (p : Int) : ∀ u ∈ (#[Value.int .i64 p, .slice none 0 0] : Array Value).toList, u.oneCell' = true := by
  intro u hu
  simp only [List.mem_cons, List.not_mem_nil, or_false] at hu
  rcases hu with rfl | rfl <;> rfl
theorem shape_of_cell {w : World} {b o : Nat} (h : (w.cell? ⟨b, o, none⟩).isSome = true) : ∃ t k, w.shape? b = some (t, k) ∧ k ≠ 0 := by
  unfold World.cell? at h
  unfold World.shape?
  cases hq : w.heap[b]? with
  | none => simp [hq] at h
  | some x =>
    cases x with
    | cells c e f =>
      refine ⟨e, c.size, rfl, fun h0 => ?_⟩
      simp [hq, h0] at h
    | _ => simp [hq] at h
theorem two_ones (p : Int) : ∀ v ∈ [Value.int .i64 p, .slice none 0 0], v.oneCell' = true := two_one p
theorem grown_of_drew' {w w1 : World} {row : Option Nat} (h : w.drew.grownBy w1 row) : w.grownBy w1 row := ⟨h.os, h.tape, h.output, h.size, h.block⟩
/-- two cells put in, what stood behind moved up -/
theorem ins_own {w : World} {base c b off n i : Nat} {xs news : List Value} (h : OwnS w base 2 (some ⟨b, off, none⟩) n c xs) (hi : i < n) (hroom : n + 1 ≤ c) (hnw : news.length = 2) :
    OwnS ((w.drew.setCells b (off + (i + 1) * 2) (xs.drop (i * 2))).setCells b (off + i * 2) news) base 2 (some ⟨b, off, none⟩) (n + 1) c (xs.take (i * 2) ++ news ++ xs.drop (i * 2)) := by
  have hxl := h.len
  have hdl : (xs.drop (i * 2)).length = n * 2 - i * 2 := by rw [List.length_drop, hxl]
  have h1l : (xs.take ((i + 1) * 2) ++ xs.drop (i * 2)).length = (n + 1) * 2 := by rw [List.length_append, hdl, List.length_take, hxl]; omega
  obtain ⟨g, o, e, _, _, hcell, _⟩ := h.drew.cell (by omega)
  cases e
  have a1 := h.drew.put (p := (i + 1) * 2) (n' := n + 1) (xs' := xs.take ((i + 1) * 2) ++ xs.drop (i * 2)) (news := xs.drop (i * 2)) (by omega) (by rw [hdl]; omega) h1l hroom (fun j hj => by
    by_cases h3 : (i + 1) * 2 ≤ j
    · rw [if_pos (by rw [hdl]; omega), List.getElem?_append_right (by rw [List.length_take, hxl]; omega), List.length_take, hxl]
      congr 1
      omega
    · rw [if_neg (by omega), List.getElem?_append_left (by rw [List.length_take, hxl]; omega), List.getElem?_take_of_lt (by omega)]
      exact (hcell j (by omega)).symm)
  obtain ⟨g', o', e, _, _, hcell1, _⟩ := a1.cell (by omega)
  cases e
  have h2l : (xs.take (i * 2) ++ news ++ xs.drop (i * 2)).length = (n + 1) * 2 := by rw [List.length_append, List.length_append, hdl, List.length_take, hxl, hnw]; omega
  refine a1.put (p := i * 2) (n' := n + 1) (by omega) (by rw [hnw]; omega) h2l hroom (fun j hj => ?_)
  have htl : (xs.take (i * 2)).length = i * 2 := by rw [List.length_take, hxl]; omega
  by_cases h3 : j < i * 2
  · rw [if_neg (by omega), hcell1 j (by omega), List.append_assoc, List.getElem?_append_left (by omega), List.getElem?_append_left (by rw [List.length_take, hxl]; omega), List.getElem?_take_of_lt h3, List.getElem?_take_of_lt (by omega)]
  · by_cases h4 : j < i * 2 + 2
    · rw [if_pos (by omega), List.append_assoc, List.getElem?_append_right (by omega), List.getElem?_append_left (by omega), htl]
    · rw [if_neg (by omega), hcell1 j (by omega), List.getElem?_append_right (by rw [List.length_append]; omega), List.getElem?_append_right (by rw [List.length_take, hxl]; omega), List.length_append, htl, hnw, List.length_take, hxl]
      congr 1
      omega
set_option maxRecDepth 100000 in
set_option maxHeartbeats 2000000 in
/-- at the end -/
theorem ins_end (n : Nat) (p : Int) (A : Option Addr) (c base vb : Nat) (xs : List Value) (w : World) (h : OwnS w base 2 A n c xs) (hb : base ≤ w.heap.size) (hv : Bk w vb 60 #[.int .i64 p, .slice none 0 0]) (hn : n ≤ 1000) :
    Calls Tryz.prog 162 #[.slice A n c, .int .i64 n, .slice (some ⟨vb, 0, none⟩) 1 1] w (InsPost n n p A c base xs w) := by
  obtain ⟨i0, hi0, hz1, hz2, hz3⟩ := info_parts info_lv
  have HI := Lib.hid hi0; have H0 := Lib.hid hz1; have H1 := Lib.hid hz2; have H2 := Lib.hid hz3
  have HO := Lib.hid h
  have HV := Lib.hid hv
  have hle := h.le; have hmx := h.max
  unfold maxLen at hmx
  clear hi0 hz1 hz2 hz3 h hv
  have key : ∀ A' c' w', Grew w base 2 A c (n + 1) (xs ++ [.int .i64 p, .slice none 0 0]) A' c' w' → InsPost n n p A c base xs w (.returned (.slice A' (n + 1) c')) w' := by
    intro A' c' w' gr
    refine ⟨A', c', rfl, ?_, gr.grown, gr.row⟩
    have hl := HO.out.len
    rw [List.take_of_length_le (by omega), List.drop_eq_nil_of_le (by omega), List.append_nil]
    exact gr.own
  have KEY := Lib.hid key
  clear key
  cases A with
  | none =>
    obtain ⟨rfl, rfl⟩ := HO.out.none_cap rfl
    go_enter Tryz.func162, Tryz.ntmps162
    go_wp2_with (at_builtin; go_loud (refine wpList_append_S (base := base) (s := 2) (n := 0) (xs := xs) rfl _ _ _ _ rfl 60 i0 _ 32 Tryz.underlying52 HI.out H0.out H1.out H2.out rfl rfl HO.out hb _ rfl 1 [.int .i64 p, .slice none 0 0] (src_block (m := 1) HV.out Tryz.underlying52 rfl (two_one p) 1) (by unfold maxLen; omega) (by omega) ?_); intro A' c' w' gr)
    go_ret
    exact KEY.out _ _ _ gr
  | some a =>
    by_cases hc : c = n
    · subst hc
      go_enter Tryz.func162, Tryz.ntmps162
      go_wp2_with (at_builtin; go_loud (refine wpList_append_S (base := base) (s := 2) (n := c) (xs := xs) rfl _ _ _ _ rfl 60 i0 _ 32 Tryz.underlying52 HI.out H0.out H1.out H2.out rfl rfl HO.out hb _ rfl 1 [.int .i64 p, .slice none 0 0] (src_block (m := 1) HV.out Tryz.underlying52 rfl (two_one p) 1) (by unfold maxLen; omega) (by omega) ?_); intro A' c' w' gr)
      go_ret
      exact KEY.out _ _ _ gr
    · have hc1 : (n : Int) < (c : Int) := by omega
      have hc2 : ¬ (c = n) := hc
      go_enter Tryz.func162, Tryz.ntmps162
      go_wp2_with (at_builtin; go_loud (refine wpList_append_S (base := base) (s := 2) (n := n) (xs := xs) rfl _ _ _ _ rfl 60 i0 _ 32 Tryz.underlying52 HI.out H0.out H1.out H2.out rfl rfl HO.out hb _ rfl 1 [.int .i64 p, .slice none 0 0] (src_block (m := 1) HV.out Tryz.underlying52 rfl (two_one p) 1) (by unfold maxLen; omega) (by omega) ?_); intro A' c' w' gr)
      go_ret
      exact KEY.out _ _ _ gr
set_option maxRecDepth 100000 in
set_option maxHeartbeats 4000000 in
/-- in the midst, where there is room -/
theorem ins_shift (n i : Nat) (p : Int) (A : Option Addr) (c base vb : Nat) (xs : List Value) (w : World) (h : OwnS w base 2 A n c xs) (hone : ∀ v ∈ xs, v.oneCell' = true) (hv : Bk w vb 60 #[.int .i64 p, .slice none 0 0]) (hne : some vb ≠ rowOf A c) (hi : i < n) (hroom : n + 1 ≤ c) (hn : n ≤ 1000) :
    Calls Tryz.prog 162 #[.slice A n c, .int .i64 i, .slice (some ⟨vb, 0, none⟩) 1 1] w (InsPost n i p A c base xs w) := by
  obtain ⟨b, off, rfl, hbb, hlt, hcell, hfree⟩ := h.cell (by omega)
  have hmx := h.max
  unfold maxLen at hmx
  have hxl := h.len
  have hrow : rowOf (some (⟨b, off, none⟩ : Addr)) c = some b := by rw [rowOf, if_neg (by omega)]; rfl
  have hvb : vb ≠ b := fun e => hne (by rw [hrow, e])
  have hsh : w.shape? vb = some (60, 2) := by
    unfold Bk at hv
    simp [World.shape?, hv]
  obtain ⟨tB, kB, hsb, hkB⟩ := shape_of_cell (hfree 0 (by omega)).1
  have hov : ∀ lb cb, (callFunc 165 #[.slice (some ⟨vb, 0, none⟩) 1 1, .slice (some ⟨b, off + (i + 1) * 2, none⟩) lb cb]).run Tryz.prog w = .ok (.value (.bool false)) w := fun lb cb => by
    rw [run_callFunc_extern (e := Extern.SlicesOverlaps.overlaps #[52, 52] #[4]) Tryz.func165 (by kernel_rfl) (by kernel_rfl) (by kernel_rfl) (by kernel_rfl),
      Lib.run_overlaps_apart w 52 4 60 Tryz.underlying52 2 size_lv ⟨vb, 0, none⟩ ⟨b, off + (i + 1) * 2, none⟩ 1 1 lb cb hvb _ _ 2 kB hsh hsb hkB (hv.free 0) (hv.free 2)]
    rfl
  have hdl : (xs.drop (i * 2)).length = (n - i) * 2 := by rw [List.length_drop, hxl, ← Nat.sub_mul]
  have hcp1 : ∀ ty dc sc dl sl, Nat.min sl dl = n - i → (Builtin.copy_ #[52, 52] ty #[.slice (some ⟨b, off + (i + 1) * 2, none⟩) dl dc, .slice (some ⟨b, off + i * 2, none⟩) sl sc]).run Tryz.prog w.drew = .ok (goInt (n - i : Nat)) (w.drew.setCells b (off + (i + 1) * 2) (xs.drop (i * 2))) := fun ty dc sc dl sl hmn =>
    run_copy_two w.drew _ ty b (off + (i + 1) * 2) dl dc ⟨b, off + i * 2, none⟩ sl sc (n - i) (xs.drop (i * 2)) hmn hdl
      (fun j v hj => by
        rw [Addr.add_lit, Nat.add_assoc]
        rw [List.getElem?_drop] at hj
        have hlt2 : i * 2 + j < n * 2 := by rw [← hxl]; exact (List.getElem?_eq_some_iff.1 hj).1
        exact (hcell _ hlt2).trans hj)
      (fun j hj => by rw [Nat.add_assoc]; exact (hfree _ (by omega)).1) (fun j hj => by rw [Nat.add_assoc]; exact (hfree _ (by omega)).2) (fun v hv => hone v (List.mem_of_mem_drop hv))
  obtain ⟨W1, hW1⟩ : ∃ W1, W1 = w.drew.setCells b (off + (i + 1) * 2) (xs.drop (i * 2)) := ⟨_, rfl⟩
  have hsp1 : ∀ k, k < c * 2 → (W1.cell? ⟨b, off + k, none⟩).isSome = true := fun k hk => by
    rw [hW1]
    exact isSome_setCells b _ _ _ (fun j hj => by rw [Nat.add_assoc]; exact (hfree _ (by omega)).1) _ (hfree k hk).1
  have hcp2 : ∀ (W : World), (∀ x, W.cell? x = W1.cell? x) → (∀ x, W.frozen? x = W1.frozen? x) → ∀ ty dc dl, 1 ≤ dl → (Builtin.copy_ #[52, 52] ty #[.slice (some ⟨b, off + i * 2, none⟩) dl dc, .slice (some ⟨vb, 0, none⟩) 1 1]).run Tryz.prog W = .ok (goInt (1 : Nat)) (W.setCells b (off + i * 2) [.int .i64 p, .slice none 0 0]) := fun W hWc hWf ty dc dl hdl1 =>
    run_copy_two W _ ty b (off + i * 2) dl dc ⟨vb, 0, none⟩ 1 1 1 [.int .i64 p, .slice none 0 0] (by simp only [Nat.min_def]; split <;> omega) rfl
      (fun j v hj => by
        rw [Addr.add_lit, hWc, hW1, World.cell?_setCells_out b _ _ _ _ (fun h _ => absurd h hvb)]
        have := hv.cell (0 + j)
        rw [Nat.zero_add] at this ⊢
        exact this.trans (by simpa using hj))
      (fun j hj => by simp only [List.length_cons, List.length_nil] at hj; rw [hWc, Nat.add_assoc]; exact hsp1 _ (by omega)) (fun j hj => by simp only [List.length_cons, List.length_nil] at hj; rw [hWf, hW1, World.frozen?_setCells, Nat.add_assoc]; exact (hfree _ (by omega)).2) (two_ones p)
  rw [← hW1] at hcp1
  have hz2 : ¬ ((i : Int) = (n : Int)) := by omega
  have hw1 : IntKind.i64.wrap ((i : Int) + 1) = (i : Int) + 1 := IntWalk.i64_in _ (by omega)
  have hb1 : (0 : Int) ≤ (i : Int) + 1 := by omega
  have hin : i ≤ n := by omega
  have htn : ((i : Int) + 1).toNat = i + 1 := by omega
  have hb2 : ¬ (c = i + 1) := by omega
  have hb3 : (i : Int) ≤ (n : Int) + 1 := by omega
  have hb4 : ¬ (c = i) := by omega
  have hb5 : (n : Int) + 1 ≤ (c : Int) := by omega
  have HC := Lib.hid hcell; have HF := Lib.hid hfree; have HONE := Lib.hid hone; have HV := Lib.hid hv; have HOW := Lib.hid h; have HW1 := Lib.hid hW1
  clear hcell hfree hone hv h hne hsp1 hW1 hdl hsh hsb
  go_enter Tryz.func162, Tryz.ntmps162
  go_wp2_with (simp only [hov])
  have mixed : Tryz.prog.follows .mixedOrders = true := by kernel_rfl
  go_region_law_o (refine step_copy_runI rfl _ _ 52 52 rfl (.slice (some ⟨b, off + (i + 1) * 2, none⟩) (n - i) (c - (i + 1))) (.slice (some ⟨b, off + i * 2, none⟩) (n + 1 - i) (c - i)) (by simp [Act.eval, Act.put]) (by simp [Act.eval, Act.put]) (hcp1 _ _ _ _ _ (by simp only [Nat.min_def]; split <;> omega)) ?_)
  go_wp2_with (refine wpList_copy_runI _ rfl _ _ 52 52 rfl _ _ rfl rfl (hcp2 W1 (fun _ => rfl) (fun _ => rfl) _ (c - i) (n + 1 - i) (by omega)) ?_)
  go_ret
  refine ⟨some ⟨b, off, none⟩, c, rfl, ?_, ?_, .inl rfl⟩
  · rw [HW1.out]
    exact ins_own HOW.out (by omega) hroom rfl
  · rw [HW1.out, hrow]
    exact (grown_of_drew' ((grown_setCells w.drew b _ _).trans (grown_setCells _ b _ _)))
end Go.Proofs.YtkdgpdijbobmkaaGreat
namespace Go.Proofs.YtkdgpdijbobmkaaGreat
set_option linter.all false
open Go Go.RowKit
/-- a new row with two cells put in -/
theorem ins_new {W : World} {base G n i : Nat} {xs news : List Value} {ROW : Array Value} {N : Nat} {E : TypeId} (hB : Bk W N E ROW) (hb : base ≤ N) (hs : ROW.size = G * 2) (hG : n + 1 ≤ G) (hGm : G ≤ maxLen) (hxl : xs.length = n * 2) (hi : i < n) (hnw : news.length = 2)
    (hrow : ∀ j, j < i * 2 → ROW[j]? = xs[j]?) : OwnS ((W.setCells N (0 + i * 2) news).setCells N (0 + (i + 1) * 2) (xs.drop (i * 2))) base 2 (some ⟨N, 0, none⟩) (n + 1) G (xs.take (i * 2) ++ news ++ xs.drop (i * 2)) := by
  have hdl : (xs.drop (i * 2)).length = n * 2 - i * 2 := by rw [List.length_drop, hxl]
  have htl : (xs.take (i * 2)).length = i * 2 := by rw [List.length_take, hxl]; omega
  have a0 : OwnS W base 2 (some ⟨N, 0, none⟩) (n + 1) G (ROW.toList.take ((n + 1) * 2)) := by
    refine ⟨by rw [List.length_take, Array.length_toList]; omega, hG, hGm, fun _ => ⟨N, 0, rfl, hb, hB.lt, fun j hj => ?_, fun j hj => ⟨?_, hB.free _⟩⟩⟩
    · rw [Nat.zero_add, hB.cell, List.getElem?_take_of_lt hj, Array.getElem?_toList]
    · rw [Nat.zero_add, hB.cell, Array.getElem?_eq_getElem (by omega)]; rfl
  have h1l : (xs.take (i * 2) ++ news ++ (ROW.toList.take ((n + 1) * 2)).drop ((i + 1) * 2)).length = (n + 1) * 2 := by
    rw [List.length_append, List.length_append, htl, hnw, List.length_drop, List.length_take, Array.length_toList]; omega
  have a1 := a0.put (p := i * 2) (n' := n + 1) (xs' := xs.take (i * 2) ++ news ++ (ROW.toList.take ((n + 1) * 2)).drop ((i + 1) * 2)) (news := news) (by omega) (by rw [hnw]; omega) h1l hG (fun j hj => by
    by_cases h3 : j < i * 2
    · rw [if_neg (by omega), List.append_assoc, List.getElem?_append_left (by omega), List.getElem?_take_of_lt h3, Nat.zero_add, hB.cell, hrow j h3]
    · by_cases h4 : j < i * 2 + 2
      · rw [if_pos (by omega), List.append_assoc, List.getElem?_append_right (by omega), List.getElem?_append_left (by omega), htl]
      · rw [if_neg (by omega), List.getElem?_append_right (by rw [List.length_append]; omega), List.length_append, htl, hnw, List.getElem?_drop, Nat.zero_add, hB.cell, show (i + 1) * 2 + (j - (i * 2 + 2)) = j by omega, List.getElem?_take_of_lt hj, Array.getElem?_toList])
  obtain ⟨g', o', e, _, _, hcell1, _⟩ := a1.cell (by omega)
  cases e
  have h2l : (xs.take (i * 2) ++ news ++ xs.drop (i * 2)).length = (n + 1) * 2 := by rw [List.length_append, List.length_append, hdl, htl, hnw]; omega
  refine a1.put (p := (i + 1) * 2) (n' := n + 1) (by omega) (by rw [hdl]; omega) h2l hG (fun j hj => ?_)
  by_cases h3 : j < (i + 1) * 2
  · have e1 : ∀ Z : List Value, (xs.take (i * 2) ++ news ++ Z)[j]? = (xs.take (i * 2) ++ news)[j]? := fun Z => List.getElem?_append_left (by rw [List.length_append]; omega)
    rw [if_neg (by omega), hcell1 j hj, e1, e1]
  · rw [if_pos (by rw [hdl]; omega), List.getElem?_append_right (by rw [List.length_append]; omega), List.length_append, htl, hnw]
    congr 1
    omega
theorem ins_new' {W : World} {base G n i : Nat} {xs news : List Value} {ROW : Array Value} {N : Nat} {E : TypeId} (hB : Bk W N E ROW) (hb : base ≤ N) (hs : ROW.size = G * 2) (hG : n + 1 ≤ G) (hGm : G ≤ maxLen) (hxl : xs.length = n * 2) (hi : i < n) (hnw : news.length = 2)
    (hrow : ∀ j, j < i * 2 → ROW[j]? = xs[j]?) : OwnS ((W.setCells N (i * 2) news).setCells N ((i + 1) * 2) (xs.drop (i * 2))) base 2 (some ⟨N, 0, none⟩) (n + 1) G (xs.take (i * 2) ++ news ++ xs.drop (i * 2)) := by
  have h := ins_new hB hb hs hG hGm hxl hi hnw hrow
  rw [Nat.zero_add, Nat.zero_add] at h
  exact h
set_option maxRecDepth 100000 in
set_option maxHeartbeats 4000000 in
/-- in the midst, where there is no room -/
theorem ins_grow (n i : Nat) (p : Int) (A : Option Addr) (c base vb : Nat) (xs : List Value) (w : World) (h : OwnS w base 2 A n c xs) (hbase : base ≤ w.heap.size) (hone : ∀ v ∈ xs, v.oneCell' = true) (hv : Bk w vb 60 #[.int .i64 p, .slice none 0 0]) (hi : i < n) (hroom : c < n + 1) (hn : n ≤ 1000) :
    Calls Tryz.prog 162 #[.slice A n c, .int .i64 i, .slice (some ⟨vb, 0, none⟩) 1 1] w (InsPost n i p A c base xs w) := by
  obtain ⟨b, off, rfl, hbb, hlt, hcell, hfree⟩ := h.cell (by omega)
  have hle := h.le
  obtain rfl : c = n := by omega
  have hxl := h.len
  have hvw := hv.lt
  obtain ⟨i0, hi0, hz0, hzs, hzb⟩ := info_parts info_lv
  have hdl : (xs.drop (i * 2)).length = (c - i) * 2 := by rw [List.length_drop, hxl, ← Nat.sub_mul]
  have hold : (Builtin.firstCells i0.size i (.slice (some ⟨b, off, none⟩) i c)).run Tryz.prog w.drew = .ok (xs.take (i * 2)).toArray w.drew := by
    rw [hzs]
    exact run_firstCells_some w.drew 2 i ⟨b, off, none⟩ i c (xs.take (i * 2)) (by rw [List.length_take]; omega) (fun j v hj => by
      rw [Addr.add_lit]
      rw [List.getElem?_take] at hj
      split at hj
      · exact (hcell j (by omega)).trans hj
      · cases hj)
  have hik : i + (c + 1 - i) = c + 1 := by omega
  have hkk : (c : Int) + 1 - (i : Int) = ((c + 1 - i : Nat) : Int) := by omega
  have hrz : ∀ ty, (Builtin.append_ #[52, 3] ty #[.slice (some ⟨b, off, none⟩) i c, .int .i64 ((c : Int) + 1 - (i : Int))]).run Tryz.prog w =
      .ok (.slice (some ⟨w.heap.size, 0, none⟩) (c + 1) (grownCap w (c + 1) c 60)) (w.drew.alloc (.cells ((xs.take (i * 2)).toArray ++ Builtin.zeroCells (Value.agg #[.int .i64 0, .slice none 0 0]).cells (c + 1 - i) ++ Builtin.zeroCells (Value.agg #[.int .i64 0, .slice none 0 0]).cells (grownCap w (c + 1) c 60 - (c + 1))) 60)) := fun ty => by
    have h := Lib.run_append_grow_zeros w 52 3 ty 60 i0 _ .i64 .i64 Tryz.underlying52 Tryz.underlying3 hi0 hz0 (some ⟨b, off, none⟩) i c (xs.take (i * 2)) hold (c + 1 - i) (by omega) (by rw [hzs]; decide) (by omega) (by omega) (by rw [hzb]; omega) (by rw [hzb, hik]; exact growslice_fits (by omega) (by omega))
    rw [hik] at h
    rw [hkk]
    exact h
  have hGn : c + 1 ≤ grownCap w (c + 1) c 60 := grownCap_ge w _ _ _
  have hGm := grownCap_le_maxLen w (c + 1) c 60 (by unfold maxLen; omega)
  generalize grownCap w (c + 1) c 60 = G at *
  obtain ⟨ROW, hROW⟩ : ∃ ROW : Array Value, ROW = (xs.take (i * 2)).toArray ++ Builtin.zeroCells (Value.agg #[.int .i64 0, .slice none 0 0]).cells (c + 1 - i) ++ Builtin.zeroCells (Value.agg #[.int .i64 0, .slice none 0 0]).cells (G - (c + 1)) := ⟨_, rfl⟩
  rw [← hROW] at hrz
  have htl : (xs.take (i * 2)).length = i * 2 := by rw [List.length_take, hxl]; omega
  have hRl : ROW.size = G * 2 := by
    rw [hROW]
    simp [Builtin.zeroCells, Value.cells, hxl]
    omega
  have hrow : ∀ j, j < i * 2 → ROW[j]? = xs[j]? := fun j hj => by
    rw [hROW, Array.append_assoc, Array.getElem?_append_left (by simp [hxl]; omega), List.getElem?_toArray, List.getElem?_take_of_lt hj]
  obtain ⟨W1, hW1⟩ : ∃ W1, W1 = w.drew.alloc (.cells ROW 60) := ⟨_, rfl⟩
  rw [← hW1] at hrz
  have hB1 : Bk W1 w.heap.size 60 ROW := by rw [hW1]; exact Bk.at_ (w := w.drew) (by simp) _ _
  have hOb : ∀ x : Addr, x.block < w.heap.size → W1.cell? x = w.cell? x := fun x hx => by rw [hW1]; exact World.cell?_alloc_lt w.drew _ _ hx
  have hcpA : ∀ (W : World), (∀ x, W.cell? x = W1.cell? x) → (∀ x, W.frozen? x = W1.frozen? x) → ∀ ty dc dl, 1 ≤ dl → (Builtin.copy_ #[52, 52] ty #[.slice (some ⟨w.heap.size, i * 2, none⟩) dl dc, .slice (some ⟨vb, 0, none⟩) 1 1]).run Tryz.prog W = .ok (goInt (1 : Nat)) (W.setCells w.heap.size (i * 2) [.int .i64 p, .slice none 0 0]) := fun W hWc hWf ty dc dl hdl1 =>
    run_copy_two W _ ty w.heap.size (i * 2) dl dc ⟨vb, 0, none⟩ 1 1 1 [.int .i64 p, .slice none 0 0] (by simp only [Nat.min_def]; split <;> omega) rfl
      (fun j v hj => by
        rw [Addr.add_lit, hWc, hOb _ hvw]
        have := hv.cell (0 + j)
        rw [Nat.zero_add] at this ⊢
        exact this.trans (by simpa using hj))
      (fun j hj => by simp only [List.length_cons, List.length_nil] at hj; rw [hWc, hB1.cell, Array.getElem?_eq_getElem (by omega)]; rfl) (fun j hj => by rw [hWf]; exact hB1.free _) (two_ones p)
  have hbN : b ≠ w.heap.size := by omega
  have hcpB : ∀ (W : World), (∀ x, W.cell? x = (W1.setCells w.heap.size (i * 2) [.int .i64 p, .slice none 0 0]).cell? x) → (∀ x, W.frozen? x = (W1.setCells w.heap.size (i * 2) [.int .i64 p, .slice none 0 0]).frozen? x) → ∀ ty dc sc dl sl, Nat.min sl dl = c - i → (Builtin.copy_ #[52, 52] ty #[.slice (some ⟨w.heap.size, (i + 1) * 2, none⟩) dl dc, .slice (some ⟨b, off + i * 2, none⟩) sl sc]).run Tryz.prog W = .ok (goInt (c - i : Nat)) (W.setCells w.heap.size ((i + 1) * 2) (xs.drop (i * 2))) := fun W hWc hWf ty dc sc dl sl hmn =>
    run_copy_two W _ ty w.heap.size ((i + 1) * 2) dl dc ⟨b, off + i * 2, none⟩ sl sc (c - i) (xs.drop (i * 2)) hmn hdl
      (fun j v hj => by
        rw [Addr.add_lit, hWc, World.cell?_setCells_out _ _ _ _ _ (fun h _ => absurd h hbN), hOb _ hlt, Nat.add_assoc]
        rw [List.getElem?_drop] at hj
        have hlt2 : i * 2 + j < c * 2 := by rw [← hxl]; exact (List.getElem?_eq_some_iff.1 hj).1
        exact (hcell _ hlt2).trans hj)
      (fun j hj => by rw [hWc]; exact isSome_setCells _ _ _ _ (fun t ht => by simp only [List.length_cons, List.length_nil] at ht; rw [hB1.cell, Array.getElem?_eq_getElem (by omega)]; rfl) _ (by rw [hB1.cell, Array.getElem?_eq_getElem (by omega)]; rfl))
      (fun j hj => by rw [hWf, World.frozen?_setCells]; exact hB1.free _) (fun v hv => hone v (List.mem_of_mem_drop hv))
  have hz2 : ¬ ((i : Int) = (c : Int)) := by omega
  have hw1 : IntKind.i64.wrap ((i : Int) + 1) = (i : Int) + 1 := IntWalk.i64_in _ (by omega)
  have hb1 : (0 : Int) ≤ (i : Int) + 1 := by omega
  have hin : i ≤ c := by omega
  have htn : ((i : Int) + 1).toNat = i + 1 := by omega
  have hGi : ¬ (G = i) := by omega
  have hGim : ¬ (G = i + 1) := by omega
  have hci : ¬ (c = i) := by omega
  have hb3 : (i : Int) ≤ (c : Int) := by omega
  have hz3 : (c : Int) < (c : Int) + 1 := by omega
  have HOW := Lib.hid h; have HV := Lib.hid hv; have HB1 := Lib.hid hB1; have HC := Lib.hid hcell; have HF := Lib.hid hfree; have HR := Lib.hid hrow; have HRl := Lib.hid hRl; have HGm := Lib.hid hGm; have HW1 := Lib.hid hW1
  have mixed : Tryz.prog.follows .mixedOrders = true := by kernel_rfl
  clear h hv hB1 hcell hfree hrow hRl hOb hold hROW hkk hik hone hGm hW1 hdl
  go_enter Tryz.func162, Tryz.ntmps162
  go_wp2_with (first
    | (at_builtin; refine Lib.wpList_append_run _ rfl _ _ _ _ rfl _ _ rfl rfl _ _ (hrz _) ?_)
    | (refine wpList_copy_runI _ rfl _ _ 52 52 rfl _ _ rfl rfl (hcpA W1 (fun _ => rfl) (fun _ => rfl) _ (G - i) (c + 1 - i) (by omega)) ?_))
  have hF1 : ∀ x, ((W1.setCells w.heap.size (i * 2) [.int .i64 p, .slice none 0 0]).drew).cell? x = (W1.setCells w.heap.size (i * 2) [.int .i64 p, .slice none 0 0]).cell? x := fun _ => rfl
  have hF2 : ∀ x, ((W1.setCells w.heap.size (i * 2) [.int .i64 p, .slice none 0 0]).drew).frozen? x = (W1.setCells w.heap.size (i * 2) [.int .i64 p, .slice none 0 0]).frozen? x := fun _ => rfl
  go_region_law_o (refine step_copy_runI rfl _ _ 52 52 rfl (.slice (some ⟨w.heap.size, (i + 1) * 2, none⟩) (c - i) (G - (i + 1))) (.slice (some ⟨b, off + i * 2, none⟩) (c - i) (c - i)) (by simp [Act.eval, Act.put]) (by simp [Act.eval, Act.put]) (hcpB _ hF1 hF2 _ _ _ _ _ (by simp only [Nat.min_def]; split <;> omega)) ?_)
  go_wp2
  go_ret
  have hsz : (W1.setCells w.heap.size (i * 2) [.int .i64 p, .slice none 0 0]).drew.heap.size = w.heap.size + 1 := by
    show (W1.setCells w.heap.size (i * 2) [.int .i64 p, .slice none 0 0]).heap.size = _
    rw [size_setCells, HW1.out]; simp
  have e2 : ((W1.setCells w.heap.size (i * 2) [.int .i64 p, .slice none 0 0]).drew).setCells w.heap.size ((i + 1) * 2) (xs.drop (i * 2)) = ((W1.drew).setCells w.heap.size (i * 2) [.int .i64 p, .slice none 0 0]).setCells w.heap.size ((i + 1) * 2) (xs.drop (i * 2)) := by rw [drew_setCells]
  refine ⟨some ⟨w.heap.size, 0, none⟩, G, rfl, ?_, ?_, .inr (by rw [rowOf, if_neg (by omega)]; rfl)⟩
  · rw [e2]
    exact ins_new' HB1.out.drew hbase HRl.out hGn HGm.out hxl hi rfl HR.out
  · rw [e2, HW1.out]
    have g0 : w.grownBy (w.drew.alloc (.cells ROW 60)).drew none := ⟨rfl, rfl, rfl, by simp, fun k hk _ => Below.heap_alloc w.drew _ k hk⟩
    have g1 := grown_setCells (w.drew.alloc (.cells ROW 60)).drew w.heap.size (i * 2) [.int .i64 p, .slice none 0 0]
    have g2 := g1.trans (grown_setCells _ w.heap.size ((i + 1) * 2) (xs.drop (i * 2)))
    exact ⟨g2.os.trans g0.os, g2.tape.trans g0.tape, g2.output.trans g0.output, Nat.le_trans g0.size g2.size, fun k hk _ => (g2.block k (Nat.lt_of_lt_of_le hk g0.size) (by simp; omega)).trans (g0.block k hk (by simp))⟩
end Go.Proofs.YtkdgpdijbobmkaaGreat
namespace Go.Proofs.YtkdgpdijbobmkaaGreat
set_option linter.all false
open Go Go.RowKit
/-- put in at i -/
def insAt {α : Type} (l : List α) (i : Nat) (x : α) : List α := l.take i ++ x :: l.drop i
section
variable {α : Type} {l : List α} {i j : Nat} {x : α}
theorem insAt_len (hi : i ≤ l.length) : (insAt l i x).length = l.length + 1 := by simp [insAt]; omega
theorem insAt_lt (hi : i ≤ l.length) (h : j < i) : (insAt l i x)[j]? = l[j]? := by
  rw [insAt, List.getElem?_append_left (by rw [List.length_take]; omega), List.getElem?_take_of_lt h]
theorem insAt_eq (hi : i ≤ l.length) : (insAt l i x)[i]? = some x := by
  rw [insAt, List.getElem?_append_right (by rw [List.length_take]; omega), List.length_take, show i - min i l.length = 0 by omega]; rfl
theorem insAt_gt (hi : i ≤ l.length) (h : i < j) : (insAt l i x)[j]? = l[j - 1]? := by
  rw [insAt, List.getElem?_append_right (by rw [List.length_take]; omega), List.length_take, show j - min i l.length = (j - i - 1) + 1 by omega, List.getElem?_cons_succ, List.getElem?_drop]
  congr 1
  omega
end
theorem zip_take {α β : Type} : ∀ (i : Nat) (l : List α) (m : List β), (l.take i).zip (m.take i) = (l.zip m).take i
  | 0, _, _ => by simp
  | i + 1, [], _ => by simp
  | i + 1, _ :: _, [] => by simp
  | i + 1, a :: l, b :: m => by simp [zip_take i l m]
theorem zip_drop {α β : Type} : ∀ (i : Nat) (l : List α) (m : List β), (l.drop i).zip (m.drop i) = (l.zip m).drop i
  | 0, _, _ => by simp
  | i + 1, [], _ => by simp
  | i + 1, _ :: _, [] => by simp
  | i + 1, a :: l, b :: m => by simp [zip_drop i l m]
theorem lvCells_take {L : List Lv} {vs : List (Option Addr × Nat)} (h : vs.length = L.length) (i : Nat) : lvCells (L.take i) (vs.take i) = (lvCells L vs).take (i * 2) := by
  unfold lvCells
  rw [zip_take]
  generalize L.zip vs = z
  induction z generalizing i with
  | nil => simp
  | cons a z ih =>
    cases i with
    | zero => simp
    | succ i =>
      rw [List.take_succ_cons, List.flatMap_cons, List.flatMap_cons, ih, show (i + 1) * 2 = i * 2 + 1 + 1 by omega]
      rfl
theorem lvCells_drop {L : List Lv} {vs : List (Option Addr × Nat)} (h : vs.length = L.length) (i : Nat) : lvCells (L.drop i) (vs.drop i) = (lvCells L vs).drop (i * 2) := by
  unfold lvCells
  rw [zip_drop]
  generalize L.zip vs = z
  induction z generalizing i with
  | nil => simp
  | cons a z ih =>
    cases i with
    | zero => simp
    | succ i =>
      rw [List.drop_succ_cons, List.flatMap_cons, ih, show (i + 1) * 2 = i * 2 + 1 + 1 by omega]
      rfl
theorem lvCells_ins {L : List Lv} {vs : List (Option Addr × Nat)} (h : vs.length = L.length) {i : Nat} (hi : i ≤ L.length) (p : Int) :
    lvCells (insAt L i ⟨p, []⟩) (insAt vs i (none, 0)) = (lvCells L vs).take (i * 2) ++ [.int .i64 p, .slice none 0 0] ++ (lvCells L vs).drop (i * 2) := by
  rw [← lvCells_take h, ← lvCells_drop h]
  unfold insAt lvCells
  rw [List.zip_append (by rw [List.length_take, List.length_take, h]), List.flatMap_append, List.zip_cons_cons, List.flatMap_cons, List.append_assoc]
  rfl
theorem OwnLv.insert {w w' : World} {base cap c' i : Nat} {A A' : Option Addr} {L : List Lv} {vs : List (Option Addr × Nat)} {p : Int} (h : OwnLv w base A cap L vs) (hi : i ≤ L.length)
    (o : OwnS w' base 2 A' (L.length + 1) c' ((lvCells L vs).take (i * 2) ++ [.int .i64 p, .slice none 0 0] ++ (lvCells L vs).drop (i * 2))) (hg : w.grownBy w' (rowOf A cap)) (hr : rowOf A' c' = rowOf A cap ∨ rowOf A' c' = some w.heap.size) :
    OwnLv w' base A' c' (insAt L i ⟨p, []⟩) (insAt vs i (none, 0)) := by
  have hlen := h.len
  have new : ∀ r : Option Nat, Ap r (rowOf A cap) → (∀ k, r = some k → k < w.heap.size) → Ap r (rowOf A' c') := by
    intro r h1 h2
    rcases hr with e | e
    · rw [e]; exact h1
    · rw [e]
      cases r with
      | none => exact .inl rfl
      | some k => exact .inr fun e2 => by cases e2; have := h2 _ rfl; omega
  refine ⟨by rw [insAt_len hi, insAt_len (by omega), hlen], ?_, ?_, ?_⟩
  · rw [lvCells_ins hlen hi, insAt_len hi]; exact o
  · intro j y u hy hu
    rcases Nat.lt_trichotomy j i with hj | rfl | hj
    · rw [insAt_lt hi hj] at hy
      rw [insAt_lt (by omega) hj] at hu
      have he := h.each j y u hy hu
      exact ⟨he.1.apart hg he.2, new _ he.2 (fun k hk => (he.1.row_lt k hk).2)⟩
    · rw [insAt_eq hi] at hy
      rw [insAt_eq (by omega)] at hu
      cases hy; cases hu
      exact ⟨OwnS.nil _ _ _ _, .inl rfl⟩
    · rw [insAt_gt hi hj] at hy
      rw [insAt_gt (by omega) hj] at hu
      have he := h.each (j - 1) y u hy hu
      exact ⟨he.1.apart hg he.2, new _ he.2 (fun k hk => (he.1.row_lt k hk).2)⟩
  · have key : ∀ (a : Nat) (u : Option Addr × Nat), (insAt vs i (none, 0))[a]? = some u → rowOf u.1 u.2 = none ∨ ∃ b, vs[b]? = some u ∧ (a < i ∧ b = a ∨ i < a ∧ b = a - 1) := by
      intro a u hu
      rcases Nat.lt_trichotomy a i with ha | rfl | ha
      · rw [insAt_lt (by omega) ha] at hu; exact .inr ⟨a, hu, .inl ⟨ha, rfl⟩⟩
      · rw [insAt_eq (by omega)] at hu; cases hu; exact .inl rfl
      · rw [insAt_gt (by omega) ha] at hu; exact .inr ⟨a - 1, hu, .inr ⟨ha, rfl⟩⟩
    intro a b u v hab hu hv
    rcases key a u hu with e | ⟨a', ha', h1⟩
    · exact .inl e
    · rcases key b v hv with e | ⟨b', hb', h2⟩
      · exact (Ap.symm (.inl e))
      · exact h.apart a' b' u v (by omega) ha' hb'
theorem lvCells_one {L : List Lv} {vs : List (Option Addr × Nat)} : ∀ v ∈ lvCells L vs, v.oneCell' = true := by
  refine flat_all (fun r u hu => ?_) _
  simp only [List.mem_cons, List.not_mem_nil, or_false] at hu
  rcases hu with rfl | rfl <;> rfl
/-- Insert, whatever the room -/
theorem insert_lv {L : List Lv} {vs : List (Option Addr × Nat)} (i : Nat) (p : Int) (A : Option Addr) (c base vb : Nat) (w : World) (h : OwnLv w base A c L vs) (hb : base ≤ w.heap.size) (hv : Bk w vb 60 #[.int .i64 p, .slice none 0 0]) (hne : some vb ≠ rowOf A c) (hi : i ≤ L.length) (hn : L.length ≤ 1000) :
    Calls Tryz.prog 162 #[.slice A L.length c, .int .i64 i, .slice (some ⟨vb, 0, none⟩) 1 1] w fun e w' => ∃ A' c', e = .returned (.slice A' (insAt L i ⟨p, []⟩).length c') ∧ OwnLv w' base A' c' (insAt L i ⟨p, []⟩) (insAt vs i (none, 0)) ∧ w.grownBy w' (rowOf A c) ∧ (rowOf A' c' = rowOf A c ∨ rowOf A' c' = some w.heap.size) := by
  have fin : ∀ e w', InsPost L.length i p A c base (lvCells L vs) w e w' → ∃ A' c', e = .returned (.slice A' (insAt L i ⟨p, []⟩).length c') ∧ OwnLv w' base A' c' (insAt L i ⟨p, []⟩) (insAt vs i (none, 0)) ∧ w.grownBy w' (rowOf A c) ∧ (rowOf A' c' = rowOf A c ∨ rowOf A' c' = some w.heap.size) := by
    rintro e w' ⟨A', c', rfl, o, hg, hr⟩
    exact ⟨A', c', by rw [insAt_len hi], h.insert hi o hg hr, hg, hr⟩
  by_cases h1 : i = L.length
  · subst h1
    exact (ins_end L.length p A c base vb _ w h.own hb hv hn).mono fin
  · by_cases h2 : L.length + 1 ≤ c
    · exact (ins_shift L.length i p A c base vb _ w h.own lvCells_one hv hne (by omega) h2 hn).mono fin
    · exact (ins_grow L.length i p A c base vb _ w h.own hb lvCells_one hv (by omega) (by omega) hn).mono fin
end Go.Proofs.YtkdgpdijbobmkaaGreat
namespace Go.Proofs.YtkdgpdijbobmkaaGreat
set_option linter.all false
open Go Go.RowKit
theorem lvCells_set {L : List Lv} {vs : List (Option Addr × Nat)} {k : Nat} {x : Lv} {v : Option Addr × Nat} (h : vs.length = L.length) (hx : L[k]? = some x) (hv : vs[k]? = some v) (rs : List Rest) (A' : Option Addr) (c' : Nat) :
    lvCells (L.set k ⟨x.price, rs⟩) (vs.set k (A', c')) = (lvCells L vs).set (k * 2 + 1) (.slice A' rs.length c') := by
  induction L generalizing vs k with
  | nil => simp at hx
  | cons a L ih =>
    cases vs with
    | nil => simp at h
    | cons b vs =>
      cases k with
      | zero => cases hx; cases hv; rfl
      | succ k =>
        have e := ih (vs := vs) (k := k) (by simpa using h) (by simpa using hx) (by simpa using hv)
        show lvCells (a :: L.set k ⟨x.price, rs⟩) (b :: vs.set k (A', c')) = _
        have e1 : ∀ (L' : List Lv) (vs' : List (Option Addr × Nat)), lvCells (a :: L') (b :: vs') = [.int .i64 a.price, .slice b.1 a.rs.length b.2] ++ lvCells L' vs' := fun _ _ => rfl
        rw [e1, e1, e, show (k + 1) * 2 + 1 = (k * 2 + 1) + 1 + 1 by omega]
        rfl
theorem OwnLv.setAt {w w1 : World} {base cap c' g off k : Nat} {A' : Option Addr} {L : List Lv} {x : Lv} {v : Option Addr × Nat} {vs : List (Option Addr × Nat)} {rs : List Rest} (h : OwnLv w base (some ⟨g, off, none⟩) cap L vs) (hx : L[k]? = some x) (hv : vs[k]? = some v) (hg : w.grownBy w1 (rowOf v.1 v.2)) (o : OwnS w1 base 5 A' rs.length c' (rows rs))
    (hr : rowOf A' c' = none ∨ rowOf A' c' = rowOf v.1 v.2 ∨ ∃ k, rowOf A' c' = some k ∧ w.heap.size ≤ k) :
    OwnLv (w1.setCell ⟨g, off + (k * 2 + 1), none⟩ (.slice A' rs.length c')) base (some ⟨g, off, none⟩) cap (L.set k ⟨x.price, rs⟩) (vs.set k (A', c')) := by
  have hk : k < L.length := (List.getElem?_eq_some_iff.1 hx).1
  have hcap : 0 < cap := by have := h.own.le; omega
  have hrow : rowOf (some (⟨g, off, none⟩ : Addr)) cap = some g := by rw [rowOf, if_neg (by omega)]; rfl
  have hvg : Ap (rowOf v.1 v.2) (some g) := by rw [← hrow]; exact (h.each k x v hx hv).2
  have hglt := h.own.row_lt g hrow
  have hA'g : Ap (rowOf A' c') (some g) := by
    rcases hr with e | e | ⟨k', e, hk'⟩
    · exact .inl e
    · rw [e]; exact hvg
    · rw [e]; exact .inr (by intro e; cases e; omega)
  have far : ∀ {s n c : Nat} {B : Option Addr} {xs : List Value}, OwnS w1 base s B n c xs → Ap (rowOf B c) (some g) → OwnS (w1.setCell ⟨g, off + (k * 2 + 1), none⟩ (.slice A' rs.length c')) base s B n c xs :=
    fun o hp => o.apart (grown_set w1 ⟨g, off + (k * 2 + 1), none⟩ _) hp
  have own1 : OwnS w1 base 2 (some ⟨g, off, none⟩) L.length cap (lvCells L vs) := h.own.apart hg (by rw [hrow]; exact hvg.symm)
  have hn : ∀ (i : Nat) u, i ≠ k → vs[i]? = some u → Ap (rowOf A' c') (rowOf u.1 u.2) := by
    intro i u hik hu
    rcases hr with e | e | ⟨k', e, hk'⟩
    · exact .inl e
    · rw [e]; exact h.apart k i v u (Ne.symm hik) hv hu
    · rw [e]
      refine .inr fun e2 => ?_
      have := (h.each_lt hu k' e2.symm).2
      omega
  have hlen := h.len
  refine ⟨by simpa using hlen, ?_, ?_, ?_⟩
  · rw [lvCells_set hlen hx hv, List.length_set]
    exact own1.set (j := k * 2 + 1) (by omega) (.slice A' rs.length c')
  · intro i y u hy hu
    by_cases hik : i = k
    · subst hik
      rw [List.getElem?_set_self hk] at hy
      rw [List.getElem?_set_self (by omega)] at hu
      cases hy; cases hu
      exact ⟨far o hA'g, by rw [hrow]; exact hA'g⟩
    · rw [List.getElem?_set_ne (Ne.symm hik)] at hy hu
      have he := h.each i y u hy hu
      exact ⟨far (he.1.apart hg (h.apart i k u v hik hu hv)) (by rw [← hrow]; exact he.2), he.2⟩
  · intro i j u u' hij hu hu'
    by_cases hik : i = k
    · subst hik
      rw [List.getElem?_set_self (by omega)] at hu
      rw [List.getElem?_set_ne hij] at hu'
      cases hu
      exact hn j u' (Ne.symm hij) hu'
    · rw [List.getElem?_set_ne (Ne.symm hik)] at hu
      by_cases hjk : j = k
      · subst hjk
        rw [List.getElem?_set_self (by omega)] at hu'
        cases hu'
        exact (hn i u hik hu).symm
      · rw [List.getElem?_set_ne (Ne.symm hjk)] at hu'
        exact h.apart i j u u' hij hu hu'
/-- all ahead, then the price itself -/
theorem addL_at {s p : Int} {r : Rest} : ∀ {L : List Lv} {k : Nat} {x : Lv}, L[k]? = some x → (∀ j y, j < k → L[j]? = some y → sAhd s y.price p = true) → sAhd s x.price p = false → x.price = p → addL s p r L = L.set k ⟨x.price, x.rs ++ [r]⟩
  | [], _, _, h, _, _, _ => by simp at h
  | a :: L, 0, x, h, _, h2, h3 => by
    cases h
    rw [addL, h2, h3]
    simp
  | a :: L, k + 1, x, h, h1, h2, h3 => by
    have ha := h1 0 a (by omega) rfl
    rw [addL, if_pos ha, addL_at (L := L) (k := k) (by simpa using h) (fun j y hj hy => h1 (j + 1) y (by omega) (by simpa using hy)) h2 h3]
    rfl
/-- all ahead, then none of the price -/
theorem addL_new {s p : Int} {r : Rest} : ∀ {L : List Lv} {k : Nat}, k ≤ L.length → (∀ j y, j < k → L[j]? = some y → sAhd s y.price p = true) → (∀ x, L[k]? = some x → sAhd s x.price p = false ∧ x.price ≠ p) → addL s p r L = (insAt L k ⟨p, []⟩).set k ⟨p, [] ++ [r]⟩
  | [], 0, _, _, _ => rfl
  | [], k + 1, h, _, _ => by simp at h
  | a :: L, 0, _, _, h2 => by
    obtain ⟨e1, e2⟩ := h2 a rfl
    rw [addL, e1]
    simp [e2, insAt]
  | a :: L, k + 1, h, h1, h2 => by
    have ha := h1 0 a (by omega) rfl
    rw [addL, if_pos ha, addL_new (L := L) (k := k) (by simpa using h) (fun j y hj hy => h1 (j + 1) y (by omega) (by simpa using hy)) (fun x hx => h2 x (by simpa using hx))]
    rfl
end Go.Proofs.YtkdgpdijbobmkaaGreat
