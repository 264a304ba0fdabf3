/- The contracts of slices.Clone over rests, and of queue.First. -/
import Derived.Test.YtbnjkcgkdpildaaDoorQueue3
import Derived.Test.YtbnjkcgkdpildaaDoorOwn
namespace Go.Proofs.YtbnjkcgkdpildaaDoor
set_option linter.all false
open Go Go.RowKit
structure Fill where
  id : Int
  who : Int
  qty : Int
  deriving DecidableEq
def Fill.vals (f : Fill) : List Value := [.int .i64 f.id, .int .i64 f.who, .int .i64 f.qty]
/-- the cells of rests -/
def rows (l : List Rest) : List Value := l.flatMap Rest.vals
theorem rows_len (l : List Rest) : (rows l).length = l.length * 5 := flat_len (fun r => r.vals_len) l
theorem rows_get {l : List Rest} {i j : Nat} (hi : i < l.length) (hj : j < 5) : (rows l)[i * 5 + j]? = some (rcell l i j) := by
  rw [rows, flat_get (fun r => r.vals_len) (List.getElem?_eq_getElem hi) hj]
  have hg : l.getD i rest0 = l[i] := by simp [hi]
  simp only [rcell, hg]
  rw [List.getElem?_eq_getElem (by rw [Rest.vals_len]; exact hj)]
  rfl
theorem rows_one (l : List Rest) : ∀ u ∈ rows l, u.oneCell' = true := by
  refine flat_all (fun r u hu => ?_) l
  simp only [Rest.vals, List.mem_cons, List.not_mem_nil, or_false] at hu
  rcases hu with rfl | rfl | rfl | rfl | rfl <;> rfl
theorem rows_cons (r : Rest) (t : List Rest) : rows (r :: t) = r.vals ++ rows t := rfl
theorem rows_app (a b : List Rest) : rows (a ++ b) = rows a ++ rows b := List.flatMap_append
theorem info_rest : (Tryd.prog.info? 23).map (fun i => (i.zero, i.size, i.bytes)) = some (some (.agg #[.int .i64 0, .int .i64 0, .int .i64 0, .int .i64 0, .int .i64 0]), 5, 40) := by kernel_rfl
/-- what First does -/
def qFirst (r : Rest) (t : List Rest) (n : Int) : Fill × List Rest :=
  if n < r.qty then (⟨r.id, r.who, n⟩, { r with qty := r.qty - n } :: t)
  else if 0 < r.hidden then (⟨r.id, r.who, r.qty⟩, t ++ [{ r with qty := min r.show_ r.hidden, hidden := r.hidden - min r.show_ r.hidden }])
  else (⟨r.id, r.who, r.qty⟩, t)
/-- how First ends -/
def FirstPost (r : Rest) (t : List Rest) (n : Int) (base : Nat) (A : Option Addr) (cap : Nat) (w : World) (e : Ending) (w' : World) : Prop :=
  ∃ A' cap', e = .returned (.tuple #[.agg #[.int .i64 (qFirst r t n).1.id, .int .i64 (qFirst r t n).1.who, .int .i64 (qFirst r t n).1.qty], .slice A' (qFirst r t n).2.length cap']) ∧
    OwnS w' base 5 A' (qFirst r t n).2.length cap' (rows (qFirst r t n).2) ∧ w.grownBy w' (rowOf A cap) ∧ (rowOf A' cap' = none ∨ rowOf A' cap' = rowOf A cap ∨ ∃ k, rowOf A' cap' = some k ∧ w.heap.size ≤ k)
theorem grown_set (w : World) (p : Addr) (u : Value) : w.grownBy (w.setCell p u) (some p.block) := ⟨rfl, rfl, rfl, by simp, fun k _ hk => Below.heap_setCell w p u k (fun e => hk (by rw [e]))⟩
theorem grown_alloc {w w' : World} {row : Option Nat} (h : w.grownBy w' row) (o : Obj) : w.grownBy (w'.alloc o) row := h.trans (World.grownBy_alloc w' o row)
theorem grown_refl (w : World) (row : Option Nat) : w.grownBy w row := ⟨rfl, rfl, rfl, Nat.le_refl _, fun _ _ _ => rfl⟩
theorem rowOf_some {g off cap : Nat} (h : 0 < cap) : rowOf (some ⟨g, off, none⟩) cap = some g := by rw [rowOf, if_neg (by omega)]; rfl
set_option maxHeartbeats 1000000 in
theorem first_part (r : Rest) (t : List Rest) (n : Int) (base : Nat) (A : Option Addr) (cap : Nat) (w : World) (h : OwnS w base 5 A (t.length + 1) cap (rows (r :: t))) (hn : 1 ≤ n) (hq : n < r.qty) (hq2 : r.qty ≤ 10000) (hl : t.length ≤ 100) :
    Calls Tryd.prog 72 #[.slice A (t.length + 1) cap, .int .i64 n] w (FirstPost r t n base A cap w) := by
  have hle := h.le
  (obtain ⟨g, off, rfl, hg, hlt, hc, hf⟩ := h.cell (by omega)); (have c0 : w.cell? ⟨g, off, none⟩ = some (.int .i64 r.id) := hc 0 (by omega)); (have c1 : w.cell? ⟨g, off + 1, none⟩ = some (.int .i64 r.who) := hc 1 (by omega)); (have c2 : w.cell? ⟨g, off + 2, none⟩ = some (.int .i64 r.qty) := hc 2 (by omega)); (have c3 : w.cell? ⟨g, off + 3, none⟩ = some (.int .i64 r.hidden) := hc 3 (by omega)); (have c4 : w.cell? ⟨g, off + 4, none⟩ = some (.int .i64 r.show_) := hc 4 (by omega)); (have f2 : w.frozen? ⟨g, off + 2, none⟩ = false := (hf 2 (by have := h.le; omega)).2); clear hc hf; (have l1 : g < w.heap.size + 1 := by omega); (have l2 : g < w.heap.size + 1 + 1 := by omega); (have l3 : g < w.heap.size + 1 + 1 + 1 := by omega)
  have H := Lib.hid h; clear h
  obtain ⟨id, who, qty, hidden, show_⟩ := r
  dsimp only at c0 c1 c2 c3 c4 hq hq2 ⊢
  have hmin : min n qty = n := by omega
  go_enter Tryd.func72, Tryd.ntmps72
  go_wp2
  refine bodyPost_ret (v := .tuple #[.agg #[.int .i64 id, .int .i64 who, .int .i64 n], .slice (some ⟨g, off, none⟩) (t.length + 1) cap]) (by simp [results, Tryd.results72, go_sem]) rfl ?_
  have e : qFirst ⟨id, who, qty, hidden, show_⟩ t n = (⟨id, who, n⟩, ⟨id, who, qty - n, hidden, show_⟩ :: t) := by rw [qFirst, if_pos hq]
  rw [FirstPost, e]
  refine ⟨_, cap, rfl, ((((H.out.set (j := 2) (by omega) (.int .i64 (qty - n))).alloc _).alloc _).alloc _), ?_, .inr (.inl rfl)⟩
  rw [rowOf_some (by omega)]
  exact grown_alloc (grown_alloc (grown_alloc (grown_set w _ _) _) _) _
set_option maxHeartbeats 1000000 in
theorem first_whole (r : Rest) (t : List Rest) (n : Int) (base : Nat) (A : Option Addr) (cap : Nat) (w : World) (h : OwnS w base 5 A (t.length + 1) cap (rows (r :: t))) (hn : 1 ≤ r.qty) (hq : r.qty ≤ n) (hh : r.hidden ≤ 0) (hl : t.length ≤ 100) :
    Calls Tryd.prog 72 #[.slice A (t.length + 1) cap, .int .i64 n] w (FirstPost r t n base A cap w) := by
  have hle := h.le
  have hmx := h.max
  unfold maxLen at hmx
  (obtain ⟨g, off, rfl, hg, hlt, hc, hf⟩ := h.cell (by omega)); (have c0 : w.cell? ⟨g, off, none⟩ = some (.int .i64 r.id) := hc 0 (by omega)); (have c1 : w.cell? ⟨g, off + 1, none⟩ = some (.int .i64 r.who) := hc 1 (by omega)); (have c2 : w.cell? ⟨g, off + 2, none⟩ = some (.int .i64 r.qty) := hc 2 (by omega)); (have c3 : w.cell? ⟨g, off + 3, none⟩ = some (.int .i64 r.hidden) := hc 3 (by omega)); (have c4 : w.cell? ⟨g, off + 4, none⟩ = some (.int .i64 r.show_) := hc 4 (by omega)); (have f2 : w.frozen? ⟨g, off + 2, none⟩ = false := (hf 2 (by have := h.le; omega)).2); clear hc hf; (have l1 : g < w.heap.size + 1 := by omega); (have l2 : g < w.heap.size + 1 + 1 := by omega); (have l3 : g < w.heap.size + 1 + 1 + 1 := by omega)
  have T := Lib.hid h.tail; clear h
  obtain ⟨id, who, qty, hidden, show_⟩ := r
  dsimp only at c0 c1 c2 c3 c4 hq hh hn ⊢
  have e : qFirst ⟨id, who, qty, hidden, show_⟩ t n = (⟨id, who, qty⟩, t) := by rw [qFirst, if_neg (by dsimp only; omega), if_neg (by dsimp only; omega)]
  have E := Lib.hid e; clear e
  rcases Int.lt_or_eq_of_le hq with hq | rfl
  all_goals
    by_cases hc1 : cap = 1
    · subst hc1
      obtain rfl : t = [] := List.eq_nil_of_length_eq_zero (by omega)
      go_enter Tryd.func72, Tryd.ntmps72
      go_wp2
      refine bodyPost_ret (v := .tuple #[.agg #[.int .i64 id, .int .i64 who, .int .i64 qty], .slice (some ⟨g, off, none⟩) 0 0]) (by simp [results, Tryd.results72, go_sem]) rfl ?_
      rw [FirstPost, E.out]
      exact ⟨_, 0, rfl, OwnS.nil _ _ _ _, grown_alloc (grown_alloc (grown_alloc (grown_refl w _) _) _) _, .inl rfl⟩
    · have hcc : (1 : Int) < (cap : Int) := by omega
      have hc2 : 1 < cap := by omega
      go_enter Tryd.func72, Tryd.ntmps72
      go_wp2
      refine bodyPost_ret (v := .tuple #[.agg #[.int .i64 id, .int .i64 who, .int .i64 qty], .slice (some ⟨g, off + 5, none⟩) t.length (cap - 1)]) (by simp [results, Tryd.results72, go_sem]) rfl ?_
      rw [FirstPost, E.out]
      have T2 := T.out
      rw [if_neg hc1] at T2
      exact ⟨_, cap - 1, rfl, ((T2.alloc _).alloc _).alloc _, grown_alloc (grown_alloc (grown_alloc (grown_refl w _) _) _) _, .inr (.inl (by rw [rowOf_some (by omega), rowOf_some (by omega)]))⟩
theorem first_end {w w0 w' : World} {base s cap c1 n cap' : Nat} {A A1 A' : Option Addr} {xs : List Value} (hg : w.grownBy w0 none) (hr : rowOf A1 c1 = rowOf A cap ∨ rowOf A1 c1 = none) (gr : Grew w0 base s A1 c1 n xs A' cap' w') :
    OwnS w' base s A' n cap' xs ∧ w.grownBy w' (rowOf A cap) ∧ (rowOf A' cap' = none ∨ rowOf A' cap' = rowOf A cap ∨ ∃ k, rowOf A' cap' = some k ∧ w.heap.size ≤ k) := by
  have hg' : w.grownBy w0 (rowOf A cap) := ⟨hg.os, hg.tape, hg.output, hg.size, fun k hk _ => hg.block k hk (by simp)⟩
  refine ⟨gr.own, ?_, ?_⟩
  · refine hg'.trans ?_
    rcases hr with hr | hr
    · rw [← hr]; exact gr.grown
    · have := gr.grown
      rw [hr] at this
      exact ⟨this.os, this.tape, this.output, this.size, fun k hk _ => this.block k hk (by simp)⟩
  · rcases gr.row with h | h
    · rw [h]
      rcases hr with hr | hr
      · exact .inr (.inl hr)
      · exact .inl hr
    · exact .inr (.inr ⟨_, h, hg.size⟩)
theorem first_done {w w0 w' : World} {base s cap c1 n cap' b : Nat} {A A1 A' : Option Addr} {xs : List Value} (hg : w.grownBy w0 none) (hr : rowOf A1 c1 = rowOf A cap ∨ rowOf A1 c1 = none) (gr : Grew w0 base s A1 c1 n xs A' cap' w') (hb : w.heap.size ≤ b) (hb0 : b < w0.heap.size) (hne : some b ≠ rowOf A1 c1) (x y z : Value) :
    OwnS (((w'.setCell ⟨b, 0, none⟩ x).setCell ⟨b, 1, none⟩ y).setCell ⟨b, 2, none⟩ z) base s A' n cap' xs ∧ w.grownBy (((w'.setCell ⟨b, 0, none⟩ x).setCell ⟨b, 1, none⟩ y).setCell ⟨b, 2, none⟩ z) (rowOf A cap) ∧ (rowOf A' cap' = none ∨ rowOf A' cap' = rowOf A cap ∨ ∃ k, rowOf A' cap' = some k ∧ w.heap.size ≤ k) := by
  have f := first_end hg hr gr
  have hn : rowOf A' cap' ≠ some b := by
    rcases gr.row with h | h
    · rw [h]; exact Ne.symm hne
    · rw [h]; intro e; cases e; omega
  refine ⟨((f.1.far hn x).far hn y).far hn z, ?_, f.2.2⟩
  have g1 : ∀ {w1 : World} {o : Nat} {u : Value}, w.grownBy w1 (rowOf A cap) → w.grownBy (w1.setCell ⟨b, o, none⟩ u) (rowOf A cap) := fun {w1 o u} h1 =>
    ⟨h1.os, h1.tape, h1.output, by have := h1.size; simpa using this, fun k hk hk2 => (Below.heap_setCell w1 _ u k (by simp; omega)).trans (h1.block k hk hk2)⟩
  exact g1 (g1 (g1 f.2.1))
theorem row_ne {w : World} {base s n cap b : Nat} {A : Option Addr} {xs : List Value} (h : OwnS w base s A n cap xs) (hb : w.heap.size ≤ b) : some b ≠ rowOf A cap := fun e => by
  have := (h.row_lt b e.symm).2
  omega
theorem rest_one (a b c d e : Int) : ∀ u ∈ (#[Value.int .i64 a, .int .i64 b, .int .i64 c, .int .i64 d, .int .i64 e] : Array Value).toList, u.oneCell' = true := by
  intro u hu
  simp only [List.mem_cons, List.not_mem_nil, or_false] at hu
  rcases hu with rfl | rfl | rfl | rfl | rfl <;> rfl
set_option maxRecDepth 20000 in
set_option maxHeartbeats 4000000 in
theorem first_again (r : Rest) (t : List Rest) (n : Int) (base : Nat) (A : Option Addr) (cap : Nat) (w : World) (h : OwnS w base 5 A (t.length + 1) cap (rows (r :: t))) (hb : base ≤ w.heap.size) (hn : 1 ≤ r.qty) (hq : r.qty ≤ n) (hh : 0 < r.hidden) (hh2 : r.hidden ≤ 10000) (hs : 0 ≤ r.show_) (hl : t.length ≤ 100) :
    Calls Tryd.prog 72 #[.slice A (t.length + 1) cap, .int .i64 n] w (FirstPost r t n base A cap w) := by
  have hle := h.le
  have hmx := h.max
  unfold maxLen at hmx
  (obtain ⟨g, off, rfl, hg, hlt, hc, hf⟩ := h.cell (by omega)); (have c0 : w.cell? ⟨g, off, none⟩ = some (.int .i64 r.id) := hc 0 (by omega)); (have c1 : w.cell? ⟨g, off + 1, none⟩ = some (.int .i64 r.who) := hc 1 (by omega)); (have c2 : w.cell? ⟨g, off + 2, none⟩ = some (.int .i64 r.qty) := hc 2 (by omega)); (have c3 : w.cell? ⟨g, off + 3, none⟩ = some (.int .i64 r.hidden) := hc 3 (by omega)); (have c4 : w.cell? ⟨g, off + 4, none⟩ = some (.int .i64 r.show_) := hc 4 (by omega)); (have f2 : w.frozen? ⟨g, off + 2, none⟩ = false := (hf 2 (by have := h.le; omega)).2); clear hc hf; (have l1 : g < w.heap.size + 1 := by omega); (have l2 : g < w.heap.size + 1 + 1 := by omega); (have l3 : g < w.heap.size + 1 + 1 + 1 := by omega)
  have T := Lib.hid h.tail; clear h
  obtain ⟨id, who, qty, hidden, show_⟩ := r
  dsimp only at c0 c1 c2 c3 c4 hq hh hh2 hs hn ⊢
  obtain ⟨i0, hi, hz0, hz1, hz2⟩ := info_parts info_rest
  have HI := Lib.hid hi; have H0 := Lib.hid hz0; have H1 := Lib.hid hz1; have H2 := Lib.hid hz2; clear hi hz0 hz1 hz2
  have e : qFirst ⟨id, who, qty, hidden, show_⟩ t n = (⟨id, who, qty⟩, t ++ [⟨id, who, min show_ hidden, hidden - min show_ hidden, show_⟩]) := by rw [qFirst, if_neg (by dsimp only; omega), if_pos (by dsimp only; omega)]
  have E := Lib.hid e; clear e
  have key : ∀ (q h' : Int), (⟨id, who, q, h', show_⟩ : Rest) = ⟨id, who, min show_ hidden, hidden - min show_ hidden, show_⟩ → ∀ (w0 w' : World) (A1 A' : Option Addr) (c1 cap' : Nat), w.grownBy w0 none → (rowOf A1 c1 = rowOf (some ⟨g, off, none⟩) cap ∨ rowOf A1 c1 = none) → Grew w0 base 5 A1 c1 (t.length + 1) (rows t ++ Rest.vals ⟨id, who, q, h', show_⟩) A' cap' w' → w.heap.size < w0.heap.size → some w.heap.size ≠ rowOf A1 c1 →
      ∀ x y z, FirstPost ⟨id, who, qty, hidden, show_⟩ t n base (some ⟨g, off, none⟩) cap w (.returned (.tuple #[.agg #[.int .i64 id, .int .i64 who, .int .i64 qty], .slice A' (t.length + 1) cap'])) (((w'.setCell ⟨w.heap.size, 0, none⟩ x).setCell ⟨w.heap.size, 1, none⟩ y).setCell ⟨w.heap.size, 2, none⟩ z) := by
    intro q h' hr w0 w' A1 A' c1 cap' hg hrow gr hlt hne x y z
    have f := first_done hg hrow gr (Nat.le_refl _) hlt hne x y z
    rw [FirstPost, E.out, ← hr]
    refine ⟨A', cap', by simp, ?_, f.2⟩
    have e2 : rows t ++ Rest.vals ⟨id, who, q, h', show_⟩ = rows (t ++ [⟨id, who, q, h', show_⟩]) := by rw [rows_app]; rfl
    rw [← e2, List.length_append]
    exact f.1
  have KEY := Lib.hid key; clear key E
  have hm : hidden < show_ ∨ show_ ≤ hidden := by omega
  rcases hm with hm | hm
  · have hr : (⟨id, who, hidden, 0, show_⟩ : Rest) = ⟨id, who, min show_ hidden, hidden - min show_ hidden, show_⟩ := by rw [show min show_ hidden = hidden by omega, show hidden - hidden = 0 by omega]
    have HR := Lib.hid hr; clear hr
    rcases Int.lt_or_eq_of_le hq with hq | rfl
    all_goals
      by_cases hc1 : cap = 1
      · subst hc1
        obtain rfl : t = [] := List.eq_nil_of_length_eq_zero (by omega)
        clear T
        have TT : OwnS w base 5 (some ⟨g, off, none⟩) 0 0 [] := OwnS.nil _ _ _ _
        go_enter Tryd.func72, Tryd.ntmps72
        go_wp2_with (at_builtin; go_loud (refine wpList_append_S (base := base) (s := 5) (n := 0) rfl _ _ _ _ rfl 23 i0 _ 40 Tryd.underlying24 HI.out H0.out H1.out H2.out rfl rfl (((((TT.alloc _).alloc _).alloc _).alloc _)) (by simp; omega) _ rfl 1 (Rest.vals ⟨id, who, hidden, 0, show_⟩) (src_block (m := 1) (Bk.at_ (by simp) 23 #[.int .i64 id, .int .i64 who, .int .i64 (hidden), .int .i64 (0), .int .i64 show_]) Tryd.underlying24 rfl (rest_one _ _ _ _ _) 1) (by unfold maxLen; omega) (by omega) ?_); intro A' cap' w' gr; go_loud (have bF : Bk w' (w.heap.size + 1 + 1) 108 #[.int .i64 id, .int .i64 who, .int .i64 qty] := Bk.grown ((Bk.at_ (by simp) _ _).alloc _) gr.grown (row_ne TT (by omega))); go_loud (have bR : Bk w' w.heap.size 108 #[.int .i64 0, .int .i64 0, .int .i64 0] := Bk.grown (((((Bk.at_ rfl _ _).alloc _).alloc _).alloc _)) gr.grown (row_ne TT (by omega))); have q0 := bF.cell 0; have q1 := bF.cell 1; have q2 := bF.cell 2; have r0 := bR.cell 0; have r1 := bR.cell 1; have r2 := bR.cell 2; have f0 := bR.free 0; have f1 := bR.free 1; have f2 := bR.free 2)
        refine bodyPost_ret (v := .tuple #[.agg #[.int .i64 id, .int .i64 who, .int .i64 qty], .slice A' 1 cap']) (by simp [results, Tryd.results72, go_sem, r0, r1, r2]) rfl ?_
        exact KEY.out _ _ HR.out _ _ _ _ _ _ (grown_alloc (grown_alloc (grown_alloc (grown_alloc (grown_refl w _) _) _) _) _) (.inr rfl) gr (by simp; omega) (row_ne TT (Nat.le_refl _)) _ _ _
      · have hcc : (1 : Int) < (cap : Int) := by omega
        have hc2 : 1 < cap := by omega
        have TT := T.out
        rw [if_neg hc1] at TT
        clear T
        go_enter Tryd.func72, Tryd.ntmps72
        go_wp2_with (at_builtin; go_loud (refine wpList_append_S (base := base) (s := 5) (n := t.length) rfl _ _ _ _ rfl 23 i0 _ 40 Tryd.underlying24 HI.out H0.out H1.out H2.out rfl rfl (((((TT.alloc _).alloc _).alloc _).alloc _)) (by simp; omega) _ rfl 1 (Rest.vals ⟨id, who, hidden, 0, show_⟩) (src_block (m := 1) (Bk.at_ (by simp) 23 #[.int .i64 id, .int .i64 who, .int .i64 (hidden), .int .i64 (0), .int .i64 show_]) Tryd.underlying24 rfl (rest_one _ _ _ _ _) 1) (by unfold maxLen; omega) (by omega) ?_); intro A' cap' w' gr; go_loud (have bF : Bk w' (w.heap.size + 1 + 1) 108 #[.int .i64 id, .int .i64 who, .int .i64 qty] := Bk.grown ((Bk.at_ (by simp) _ _).alloc _) gr.grown (row_ne TT (by omega))); go_loud (have bR : Bk w' w.heap.size 108 #[.int .i64 0, .int .i64 0, .int .i64 0] := Bk.grown (((((Bk.at_ rfl _ _).alloc _).alloc _).alloc _)) gr.grown (row_ne TT (by omega))); have q0 := bF.cell 0; have q1 := bF.cell 1; have q2 := bF.cell 2; have r0 := bR.cell 0; have r1 := bR.cell 1; have r2 := bR.cell 2; have f0 := bR.free 0; have f1 := bR.free 1; have f2 := bR.free 2)
        refine bodyPost_ret (v := .tuple #[.agg #[.int .i64 id, .int .i64 who, .int .i64 qty], .slice A' (t.length + 1) cap']) (by simp [results, Tryd.results72, go_sem, r0, r1, r2]) rfl ?_
        exact KEY.out _ _ HR.out _ _ _ _ _ _ (grown_alloc (grown_alloc (grown_alloc (grown_alloc (grown_refl w _) _) _) _) _) (.inl (by rw [rowOf_some (by omega), rowOf_some (by omega)])) gr (by simp; omega) (row_ne TT (Nat.le_refl _)) _ _ _
  · have hr : (⟨id, who, show_, hidden - show_, show_⟩ : Rest) = ⟨id, who, min show_ hidden, hidden - min show_ hidden, show_⟩ := by rw [show min show_ hidden = show_ by omega]
    have HR := Lib.hid hr; clear hr
    rcases Int.lt_or_eq_of_le hq with hq | rfl
    all_goals
      by_cases hc1 : cap = 1
      · subst hc1
        obtain rfl : t = [] := List.eq_nil_of_length_eq_zero (by omega)
        clear T
        have TT : OwnS w base 5 (some ⟨g, off, none⟩) 0 0 [] := OwnS.nil _ _ _ _
        go_enter Tryd.func72, Tryd.ntmps72
        go_wp2_with (at_builtin; go_loud (refine wpList_append_S (base := base) (s := 5) (n := 0) rfl _ _ _ _ rfl 23 i0 _ 40 Tryd.underlying24 HI.out H0.out H1.out H2.out rfl rfl (((((TT.alloc _).alloc _).alloc _).alloc _)) (by simp; omega) _ rfl 1 (Rest.vals ⟨id, who, show_, hidden-show_, show_⟩) (src_block (m := 1) (Bk.at_ (by simp) 23 #[.int .i64 id, .int .i64 who, .int .i64 (show_), .int .i64 (hidden-show_), .int .i64 show_]) Tryd.underlying24 rfl (rest_one _ _ _ _ _) 1) (by unfold maxLen; omega) (by omega) ?_); intro A' cap' w' gr; go_loud (have bF : Bk w' (w.heap.size + 1 + 1) 108 #[.int .i64 id, .int .i64 who, .int .i64 qty] := Bk.grown ((Bk.at_ (by simp) _ _).alloc _) gr.grown (row_ne TT (by omega))); go_loud (have bR : Bk w' w.heap.size 108 #[.int .i64 0, .int .i64 0, .int .i64 0] := Bk.grown (((((Bk.at_ rfl _ _).alloc _).alloc _).alloc _)) gr.grown (row_ne TT (by omega))); have q0 := bF.cell 0; have q1 := bF.cell 1; have q2 := bF.cell 2; have r0 := bR.cell 0; have r1 := bR.cell 1; have r2 := bR.cell 2; have f0 := bR.free 0; have f1 := bR.free 1; have f2 := bR.free 2)
        refine bodyPost_ret (v := .tuple #[.agg #[.int .i64 id, .int .i64 who, .int .i64 qty], .slice A' 1 cap']) (by simp [results, Tryd.results72, go_sem, r0, r1, r2]) rfl ?_
        exact KEY.out _ _ HR.out _ _ _ _ _ _ (grown_alloc (grown_alloc (grown_alloc (grown_alloc (grown_refl w _) _) _) _) _) (.inr rfl) gr (by simp; omega) (row_ne TT (Nat.le_refl _)) _ _ _
      · have hcc : (1 : Int) < (cap : Int) := by omega
        have hc2 : 1 < cap := by omega
        have TT := T.out
        rw [if_neg hc1] at TT
        clear T
        go_enter Tryd.func72, Tryd.ntmps72
        go_wp2_with (at_builtin; go_loud (refine wpList_append_S (base := base) (s := 5) (n := t.length) rfl _ _ _ _ rfl 23 i0 _ 40 Tryd.underlying24 HI.out H0.out H1.out H2.out rfl rfl (((((TT.alloc _).alloc _).alloc _).alloc _)) (by simp; omega) _ rfl 1 (Rest.vals ⟨id, who, show_, hidden-show_, show_⟩) (src_block (m := 1) (Bk.at_ (by simp) 23 #[.int .i64 id, .int .i64 who, .int .i64 (show_), .int .i64 (hidden-show_), .int .i64 show_]) Tryd.underlying24 rfl (rest_one _ _ _ _ _) 1) (by unfold maxLen; omega) (by omega) ?_); intro A' cap' w' gr; go_loud (have bF : Bk w' (w.heap.size + 1 + 1) 108 #[.int .i64 id, .int .i64 who, .int .i64 qty] := Bk.grown ((Bk.at_ (by simp) _ _).alloc _) gr.grown (row_ne TT (by omega))); go_loud (have bR : Bk w' w.heap.size 108 #[.int .i64 0, .int .i64 0, .int .i64 0] := Bk.grown (((((Bk.at_ rfl _ _).alloc _).alloc _).alloc _)) gr.grown (row_ne TT (by omega))); have q0 := bF.cell 0; have q1 := bF.cell 1; have q2 := bF.cell 2; have r0 := bR.cell 0; have r1 := bR.cell 1; have r2 := bR.cell 2; have f0 := bR.free 0; have f1 := bR.free 1; have f2 := bR.free 2)
        refine bodyPost_ret (v := .tuple #[.agg #[.int .i64 id, .int .i64 who, .int .i64 qty], .slice A' (t.length + 1) cap']) (by simp [results, Tryd.results72, go_sem, r0, r1, r2]) rfl ?_
        exact KEY.out _ _ HR.out _ _ _ _ _ _ (grown_alloc (grown_alloc (grown_alloc (grown_alloc (grown_refl w _) _) _) _) _) (.inl (by rw [rowOf_some (by omega), rowOf_some (by omega)])) gr (by simp; omega) (row_ne TT (Nat.le_refl _)) _ _ _
end Go.Proofs.YtbnjkcgkdpildaaDoor
