/- The contract of slices.Insert over levels, where there is no room. -/
import Derived.Test.YtbnjkcgkdpildaaDoorIns
namespace Go.Proofs.YtbnjkcgkdpildaaDoor
set_option linter.all false
open Go Go.RowKit
/-- a new row with two cells put in -/
theorem ins_new {W : World} {base G n i : Nat} {xs news : List Value} {ROW : Array Value} {N : Nat} {E : TypeId} (hB : Bk W N E ROW) (hb : base ≤ N) (hs : ROW.size = G * 2) (hG : n + 1 ≤ G) (hGm : G ≤ maxLen) (hxl : xs.length = n * 2) (hi : i < n) (hnw : news.length = 2)
    (hrow : ∀ j, j < i * 2 → ROW[j]? = xs[j]?) : OwnS ((W.setCells N (0 + i * 2) news).setCells N (0 + (i + 1) * 2) (xs.drop (i * 2))) base 2 (some ⟨N, 0, none⟩) (n + 1) G (xs.take (i * 2) ++ news ++ xs.drop (i * 2)) := by
  have hdl : (xs.drop (i * 2)).length = n * 2 - i * 2 := by rw [List.length_drop, hxl]
  have htl : (xs.take (i * 2)).length = i * 2 := by rw [List.length_take, hxl]; omega
  have a0 : OwnS W base 2 (some ⟨N, 0, none⟩) (n + 1) G (ROW.toList.take ((n + 1) * 2)) := by
    refine ⟨by rw [List.length_take, Array.length_toList]; omega, hG, hGm, fun _ => ⟨N, 0, rfl, hb, hB.lt, fun j hj => ?_, fun j hj => ⟨?_, hB.free _⟩⟩⟩
    · rw [Nat.zero_add, hB.cell, List.getElem?_take_of_lt hj, Array.getElem?_toList]
    · rw [Nat.zero_add, hB.cell, Array.getElem?_eq_getElem (by omega)]; rfl
  have h1l : (xs.take (i * 2) ++ news ++ (ROW.toList.take ((n + 1) * 2)).drop ((i + 1) * 2)).length = (n + 1) * 2 := by
    rw [List.length_append, List.length_append, htl, hnw, List.length_drop, List.length_take, Array.length_toList]; omega
  have a1 := a0.put (p := i * 2) (n' := n + 1) (xs' := xs.take (i * 2) ++ news ++ (ROW.toList.take ((n + 1) * 2)).drop ((i + 1) * 2)) (news := news) (by omega) (by rw [hnw]; omega) h1l hG (fun j hj => by
    by_cases h3 : j < i * 2
    · rw [if_neg (by omega), List.append_assoc, List.getElem?_append_left (by omega), List.getElem?_take_of_lt h3, Nat.zero_add, hB.cell, hrow j h3]
    · by_cases h4 : j < i * 2 + 2
      · rw [if_pos (by omega), List.append_assoc, List.getElem?_append_right (by omega), List.getElem?_append_left (by omega), htl]
      · rw [if_neg (by omega), List.getElem?_append_right (by rw [List.length_append]; omega), List.length_append, htl, hnw, List.getElem?_drop, Nat.zero_add, hB.cell, show (i + 1) * 2 + (j - (i * 2 + 2)) = j by omega, List.getElem?_take_of_lt hj, Array.getElem?_toList])
  obtain ⟨g', o', e, _, _, hcell1, _⟩ := a1.cell (by omega)
  cases e
  have h2l : (xs.take (i * 2) ++ news ++ xs.drop (i * 2)).length = (n + 1) * 2 := by rw [List.length_append, List.length_append, hdl, htl, hnw]; omega
  refine a1.put (p := (i + 1) * 2) (n' := n + 1) (by omega) (by rw [hdl]; omega) h2l hG (fun j hj => ?_)
  by_cases h3 : j < (i + 1) * 2
  · have e1 : ∀ Z : List Value, (xs.take (i * 2) ++ news ++ Z)[j]? = (xs.take (i * 2) ++ news)[j]? := fun Z => List.getElem?_append_left (by rw [List.length_append]; omega)
    rw [if_neg (by omega), hcell1 j hj, e1, e1]
  · rw [if_pos (by rw [hdl]; omega), List.getElem?_append_right (by rw [List.length_append]; omega), List.length_append, htl, hnw]
    congr 1
    omega
theorem ins_new' {W : World} {base G n i : Nat} {xs news : List Value} {ROW : Array Value} {N : Nat} {E : TypeId} (hB : Bk W N E ROW) (hb : base ≤ N) (hs : ROW.size = G * 2) (hG : n + 1 ≤ G) (hGm : G ≤ maxLen) (hxl : xs.length = n * 2) (hi : i < n) (hnw : news.length = 2)
    (hrow : ∀ j, j < i * 2 → ROW[j]? = xs[j]?) : OwnS ((W.setCells N (i * 2) news).setCells N ((i + 1) * 2) (xs.drop (i * 2))) base 2 (some ⟨N, 0, none⟩) (n + 1) G (xs.take (i * 2) ++ news ++ xs.drop (i * 2)) := by
  have h := ins_new hB hb hs hG hGm hxl hi hnw hrow
  rw [Nat.zero_add, Nat.zero_add] at h
  exact h
set_option maxRecDepth 100000 in
set_option maxHeartbeats 4000000 in
/-- in the midst, where there is no room -/
theorem ins_grow (n i : Nat) (p : Int) (A : Option Addr) (c base vb : Nat) (xs : List Value) (w : World) (h : OwnS w base 2 A n c xs) (hbase : base ≤ w.heap.size) (hone : ∀ v ∈ xs, v.oneCell' = true) (hv : Bk w vb 26 #[.int .i64 p, .slice none 0 0]) (hi : i < n) (hroom : c < n + 1) (hn : n ≤ 1000) :
    Calls Tryd.prog 63 #[.slice A n c, .int .i64 i, .slice (some ⟨vb, 0, none⟩) 1 1] w (InsPost n i p A c base xs w) := by
  obtain ⟨b, off, rfl, hbb, hlt, hcell, hfree⟩ := h.cell (by omega)
  have hle := h.le
  obtain rfl : c = n := by omega
  have hxl := h.len
  have hvw := hv.lt
  obtain ⟨i0, hi0, hz0, hzs, hzb⟩ := info_parts info_lv
  have hdl : (xs.drop (i * 2)).length = (c - i) * 2 := by rw [List.length_drop, hxl, ← Nat.sub_mul]
  have hold : (Builtin.firstCells i0.size i (.slice (some ⟨b, off, none⟩) i c)).run Tryd.prog w.drew = .ok (xs.take (i * 2)).toArray w.drew := by
    rw [hzs]
    exact run_firstCells_some w.drew 2 i ⟨b, off, none⟩ i c (xs.take (i * 2)) (by rw [List.length_take]; omega) (fun j v hj => by
      rw [Addr.add_lit]
      rw [List.getElem?_take] at hj
      split at hj
      · exact (hcell j (by omega)).trans hj
      · cases hj)
  have hik : i + (c + 1 - i) = c + 1 := by omega
  have hkk : (c : Int) + 1 - (i : Int) = ((c + 1 - i : Nat) : Int) := by omega
  have hrz : ∀ ty, (Builtin.append_ #[27, 3] ty #[.slice (some ⟨b, off, none⟩) i c, .int .i64 ((c : Int) + 1 - (i : Int))]).run Tryd.prog w =
      .ok (.slice (some ⟨w.heap.size, 0, none⟩) (c + 1) (grownCap w (c + 1) c 26)) (w.drew.alloc (.cells ((xs.take (i * 2)).toArray ++ Builtin.zeroCells (Value.agg #[.int .i64 0, .slice none 0 0]).cells (c + 1 - i) ++ Builtin.zeroCells (Value.agg #[.int .i64 0, .slice none 0 0]).cells (grownCap w (c + 1) c 26 - (c + 1))) 26)) := fun ty => by
    have h := Lib.run_append_grow_zeros w 27 3 ty 26 i0 _ .i64 .i64 Tryd.underlying27 Tryd.underlying3 hi0 hz0 (some ⟨b, off, none⟩) i c (xs.take (i * 2)) hold (c + 1 - i) (by omega) (by rw [hzs]; decide) (by omega) (by omega) (by rw [hzb]; omega) (by rw [hzb, hik]; exact growslice_fits (by omega) (by omega))
    rw [hik] at h
    rw [hkk]
    exact h
  have hGn : c + 1 ≤ grownCap w (c + 1) c 26 := grownCap_ge w _ _ _
  have hGm := grownCap_le_maxLen w (c + 1) c 26 (by unfold maxLen; omega)
  generalize grownCap w (c + 1) c 26 = G at *
  obtain ⟨ROW, hROW⟩ : ∃ ROW : Array Value, ROW = (xs.take (i * 2)).toArray ++ Builtin.zeroCells (Value.agg #[.int .i64 0, .slice none 0 0]).cells (c + 1 - i) ++ Builtin.zeroCells (Value.agg #[.int .i64 0, .slice none 0 0]).cells (G - (c + 1)) := ⟨_, rfl⟩
  rw [← hROW] at hrz
  have htl : (xs.take (i * 2)).length = i * 2 := by rw [List.length_take, hxl]; omega
  have hRl : ROW.size = G * 2 := by
    rw [hROW]
    simp [Builtin.zeroCells, Value.cells, hxl]
    omega
  have hrow : ∀ j, j < i * 2 → ROW[j]? = xs[j]? := fun j hj => by
    rw [hROW, Array.append_assoc, Array.getElem?_append_left (by simp [hxl]; omega), List.getElem?_toArray, List.getElem?_take_of_lt hj]
  obtain ⟨W1, hW1⟩ : ∃ W1, W1 = w.drew.alloc (.cells ROW 26) := ⟨_, rfl⟩
  rw [← hW1] at hrz
  have hB1 : Bk W1 w.heap.size 26 ROW := by rw [hW1]; exact Bk.at_ (w := w.drew) (by simp) _ _
  have hOb : ∀ x : Addr, x.block < w.heap.size → W1.cell? x = w.cell? x := fun x hx => by rw [hW1]; exact World.cell?_alloc_lt w.drew _ _ hx
  have hcpA : ∀ (W : World), (∀ x, W.cell? x = W1.cell? x) → (∀ x, W.frozen? x = W1.frozen? x) → ∀ ty dc dl, 1 ≤ dl → (Builtin.copy_ #[27, 27] ty #[.slice (some ⟨w.heap.size, i * 2, none⟩) dl dc, .slice (some ⟨vb, 0, none⟩) 1 1]).run Tryd.prog W = .ok (goInt (1 : Nat)) (W.setCells w.heap.size (i * 2) [.int .i64 p, .slice none 0 0]) := fun W hWc hWf ty dc dl hdl1 =>
    run_copy_two W _ ty w.heap.size (i * 2) dl dc ⟨vb, 0, none⟩ 1 1 1 [.int .i64 p, .slice none 0 0] (by simp only [Nat.min_def]; split <;> omega) rfl
      (fun j v hj => by
        rw [Addr.add_lit, hWc, hOb _ hvw]
        have := hv.cell (0 + j)
        rw [Nat.zero_add] at this ⊢
        exact this.trans (by simpa using hj))
      (fun j hj => by simp only [List.length_cons, List.length_nil] at hj; rw [hWc, hB1.cell, Array.getElem?_eq_getElem (by omega)]; rfl) (fun j hj => by rw [hWf]; exact hB1.free _) (two_ones p)
  have hbN : b ≠ w.heap.size := by omega
  have hcpB : ∀ (W : World), (∀ x, W.cell? x = (W1.setCells w.heap.size (i * 2) [.int .i64 p, .slice none 0 0]).cell? x) → (∀ x, W.frozen? x = (W1.setCells w.heap.size (i * 2) [.int .i64 p, .slice none 0 0]).frozen? x) → ∀ ty dc sc dl sl, Nat.min sl dl = c - i → (Builtin.copy_ #[27, 27] ty #[.slice (some ⟨w.heap.size, (i + 1) * 2, none⟩) dl dc, .slice (some ⟨b, off + i * 2, none⟩) sl sc]).run Tryd.prog W = .ok (goInt (c - i : Nat)) (W.setCells w.heap.size ((i + 1) * 2) (xs.drop (i * 2))) := fun W hWc hWf ty dc sc dl sl hmn =>
    run_copy_two W _ ty w.heap.size ((i + 1) * 2) dl dc ⟨b, off + i * 2, none⟩ sl sc (c - i) (xs.drop (i * 2)) hmn hdl
      (fun j v hj => by
        rw [Addr.add_lit, hWc, World.cell?_setCells_out _ _ _ _ _ (fun h _ => absurd h hbN), hOb _ hlt, Nat.add_assoc]
        rw [List.getElem?_drop] at hj
        have hlt2 : i * 2 + j < c * 2 := by rw [← hxl]; exact (List.getElem?_eq_some_iff.1 hj).1
        exact (hcell _ hlt2).trans hj)
      (fun j hj => by rw [hWc]; exact isSome_setCells _ _ _ _ (fun t ht => by simp only [List.length_cons, List.length_nil] at ht; rw [hB1.cell, Array.getElem?_eq_getElem (by omega)]; rfl) _ (by rw [hB1.cell, Array.getElem?_eq_getElem (by omega)]; rfl))
      (fun j hj => by rw [hWf, World.frozen?_setCells]; exact hB1.free _) (fun v hv => hone v (List.mem_of_mem_drop hv))
  have hz2 : ¬ ((i : Int) = (c : Int)) := by omega
  have hw1 : IntKind.i64.wrap ((i : Int) + 1) = (i : Int) + 1 := IntWalk.i64_in _ (by omega)
  have hb1 : (0 : Int) ≤ (i : Int) + 1 := by omega
  have hin : i ≤ c := by omega
  have htn : ((i : Int) + 1).toNat = i + 1 := by omega
  have hGi : ¬ (G = i) := by omega
  have hGim : ¬ (G = i + 1) := by omega
  have hci : ¬ (c = i) := by omega
  have hb3 : (i : Int) ≤ (c : Int) := by omega
  have hz3 : (c : Int) < (c : Int) + 1 := by omega
  have HOW := Lib.hid h; have HV := Lib.hid hv; have HB1 := Lib.hid hB1; have HC := Lib.hid hcell; have HF := Lib.hid hfree; have HR := Lib.hid hrow; have HRl := Lib.hid hRl; have HGm := Lib.hid hGm; have HW1 := Lib.hid hW1
  have mixed : Tryd.prog.follows .mixedOrders = true := by kernel_rfl
  clear h hv hB1 hcell hfree hrow hRl hOb hold hROW hkk hik hone hGm hW1 hdl
  go_enter Tryd.func63, Tryd.ntmps63
  go_wp2_with (first
    | (at_builtin; refine Lib.wpList_append_run _ rfl _ _ _ _ rfl _ _ rfl rfl _ _ (hrz _) ?_)
    | (refine wpList_copy_runI _ rfl _ _ 27 27 rfl _ _ rfl rfl (hcpA W1 (fun _ => rfl) (fun _ => rfl) _ (G - i) (c + 1 - i) (by omega)) ?_))
  have hF1 : ∀ x, ((W1.setCells w.heap.size (i * 2) [.int .i64 p, .slice none 0 0]).drew).cell? x = (W1.setCells w.heap.size (i * 2) [.int .i64 p, .slice none 0 0]).cell? x := fun _ => rfl
  have hF2 : ∀ x, ((W1.setCells w.heap.size (i * 2) [.int .i64 p, .slice none 0 0]).drew).frozen? x = (W1.setCells w.heap.size (i * 2) [.int .i64 p, .slice none 0 0]).frozen? x := fun _ => rfl
  go_region_law_o (refine step_copy_runI rfl _ _ 27 27 rfl (.slice (some ⟨w.heap.size, (i + 1) * 2, none⟩) (c - i) (G - (i + 1))) (.slice (some ⟨b, off + i * 2, none⟩) (c - i) (c - i)) (by simp [Act.eval, Act.put]) (by simp [Act.eval, Act.put]) (hcpB _ hF1 hF2 _ _ _ _ _ (by simp only [Nat.min_def]; split <;> omega)) ?_)
  go_wp2
  go_ret
  have hsz : (W1.setCells w.heap.size (i * 2) [.int .i64 p, .slice none 0 0]).drew.heap.size = w.heap.size + 1 := by
    show (W1.setCells w.heap.size (i * 2) [.int .i64 p, .slice none 0 0]).heap.size = _
    rw [size_setCells, HW1.out]; simp
  have e2 : ((W1.setCells w.heap.size (i * 2) [.int .i64 p, .slice none 0 0]).drew).setCells w.heap.size ((i + 1) * 2) (xs.drop (i * 2)) = ((W1.drew).setCells w.heap.size (i * 2) [.int .i64 p, .slice none 0 0]).setCells w.heap.size ((i + 1) * 2) (xs.drop (i * 2)) := by rw [drew_setCells]
  refine ⟨some ⟨w.heap.size, 0, none⟩, G, rfl, ?_, ?_, .inr (by rw [rowOf, if_neg (by omega)]; rfl)⟩
  · rw [e2]
    exact ins_new' HB1.out.drew hbase HRl.out hGn HGm.out hxl hi rfl HR.out
  · rw [e2, HW1.out]
    have g0 : w.grownBy (w.drew.alloc (.cells ROW 26)).drew none := ⟨rfl, rfl, rfl, by simp, fun k hk _ => Below.heap_alloc w.drew _ k hk⟩
    have g1 := grown_setCells (w.drew.alloc (.cells ROW 26)).drew w.heap.size (i * 2) [.int .i64 p, .slice none 0 0]
    have g2 := g1.trans (grown_setCells _ w.heap.size ((i + 1) * 2) (xs.drop (i * 2)))
    exact ⟨g2.os.trans g0.os, g2.tape.trans g0.tape, g2.output.trans g0.output, Nat.le_trans g0.size g2.size, fun k hk _ => (g2.block k (Nat.lt_of_lt_of_le hk g0.size) (by simp; omega)).trans (g0.block k hk (by simp))⟩
end Go.Proofs.YtbnjkcgkdpildaaDoor
