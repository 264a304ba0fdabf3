/- A slice of the call's own, wherever in its block it begins: what appending, cutting off the first, and storing do to it. The contracts of slices.Clone over rests, and of queue.First. -/
import Derived.Test.YtkdgpdijbobmkaaGreatGrpA
import Derived.Deep.AppendSrc
import Derived.Deep.Upon
import Derived.Test.YtkdgpdijbobmkaaGreatGrpB
namespace Go.Proofs.YtkdgpdijbobmkaaGreat
set_option linter.all false
open Go Go.RowKit

/-- the slice .slice A n cap is the call's own: its cells read xs, and all its capacity may be written -/
structure OwnS (w : World) (base s : Nat) (A : Option Addr) (n cap : Nat) (xs : List Value) : Prop where
  len : xs.length = n * s
  le : n ≤ cap
  max : cap ≤ maxLen
  lies : 0 < cap → ∃ g off, A = some ⟨g, off, none⟩ ∧ base ≤ g ∧ g < w.heap.size ∧ (∀ j, j < n * s → w.cell? ⟨g, off + j, none⟩ = xs[j]?) ∧ ∀ j, j < cap * s → (w.cell? ⟨g, off + j, none⟩).isSome = true ∧ w.frozen? ⟨g, off + j, none⟩ = false
/-- its block -/
def rowOf (A : Option Addr) (cap : Nat) : Option Nat := if cap = 0 then none else A.map (·.block)
section
variable {w w' : World} {base s n cap : Nat} {A : Option Addr} {xs : List Value}
theorem OwnS.nil (w : World) (base s : Nat) (A : Option Addr) : OwnS w base s A 0 0 [] := ⟨by simp, Nat.le_refl _, Nat.zero_le _, fun h => absurd h (by omega)⟩
theorem OwnS.keep {row : Option Nat} (h : OwnS w base s A n cap xs) (hg : w.grownBy w' row) (hr : row = none ∨ rowOf A cap ≠ row) : OwnS w' base s A n cap xs := by
  refine ⟨h.len, h.le, h.max, fun hc => ?_⟩
  obtain ⟨g, off, e, hb, hl, h1, h2⟩ := h.lies hc
  have hne : some g ≠ row := by
    rcases hr with hr | hr
    · simp [hr]
    · rw [rowOf, if_neg (by omega), e] at hr
      exact hr
  have hblk := hg.block g hl hne
  refine ⟨g, off, e, hb, Nat.lt_of_lt_of_le hl hg.size, fun j hj => ?_, fun j hj => ⟨?_, ?_⟩⟩
  · exact (World.cell?_of_block (a := ⟨g, off + j, none⟩) hblk).trans (h1 j hj)
  · exact (congrArg Option.isSome (World.cell?_of_block (a := ⟨g, off + j, none⟩) hblk)).trans (h2 j hj).1
  · exact (World.frozen?_of_block (a := ⟨g, off + j, none⟩) hblk).trans (h2 j hj).2
theorem OwnS.below (h : OwnS w base s A n cap xs) (hb : Below w.heap.size w w') : OwnS w' base s A n cap xs := h.keep (grown_of_below hb none) (.inl rfl)
theorem OwnS.drew (h : OwnS w base s A n cap xs) : OwnS w.drew base s A n cap xs := h.below (Below.refl _ _).drew
theorem OwnS.drewN (h : OwnS w base s A n cap xs) (k : Nat) : OwnS (w.drewN k) base s A n cap xs := h.below (below_drewN (Below.refl _ _) k)
theorem OwnS.alloc (h : OwnS w base s A n cap xs) (o : Obj) : OwnS (w.alloc o) base s A n cap xs := h.below ((Below.refl _ _).alloc (Nat.le_refl _) o)
theorem OwnS.far (h : OwnS w base s A n cap xs) {p : Addr} (hp : rowOf A cap ≠ some p.block) (u : Value) : OwnS (w.setCell p u) base s A n cap xs :=
  h.keep (row := some p.block) ⟨rfl, rfl, rfl, by simp, fun k _ hk => Below.heap_setCell w p u k (fun e => hk (by rw [e]))⟩ (.inr hp)
theorem OwnS.lower {b : Nat} (h : OwnS w base s A n cap xs) (hb : b ≤ base) : OwnS w b s A n cap xs :=
  ⟨h.len, h.le, h.max, fun hc => by obtain ⟨g, off, e, h0, h1, h2⟩ := h.lies hc; exact ⟨g, off, e, by omega, h1, h2⟩⟩
theorem OwnS.row_lt (h : OwnS w base s A n cap xs) : ∀ k, rowOf A cap = some k → base ≤ k ∧ k < w.heap.size := by
  intro k hk
  unfold rowOf at hk
  split at hk
  · cases hk
  · obtain ⟨g, off, e, hb, hl, _⟩ := h.lies (by omega)
    rw [e] at hk
    cases hk
    exact ⟨hb, hl⟩
theorem OwnS.of_row {e : TypeId} {v : Value} (h : w.ownsRow base e s v n xs) : ∃ A cap, v = .slice A n cap ∧ OwnS w base s A n cap xs ∧ rowOf A cap = (if cap = 0 then none else v.ownBlock) := by
  rcases h.2 with ⟨rfl, rfl⟩ | ⟨g, cap, cur, rfl, hbg, hg, hnc, hcm, hcs, htake⟩
  · have : xs = [] := List.eq_nil_of_length_eq_zero (by simpa using h.1)
    subst this
    exact ⟨none, 0, rfl, OwnS.nil _ _ _ _, by simp [rowOf]⟩
  · have hl : g < w.heap.size := by
      rcases Nat.lt_or_ge g w.heap.size with hlt | hge
      · exact hlt
      · rw [Array.getElem?_eq_none hge] at hg; cases hg
    refine ⟨_, cap, rfl, ⟨h.1, hnc, hcm, fun _ => ⟨g, 0, rfl, hbg, hl, fun j hj => ?_, fun j hj => ⟨?_, ?_⟩⟩⟩, by simp [rowOf, Value.ownBlock]⟩
    · rw [cell_of_row w g (0 + j) cur e (0, 0) hg, Nat.zero_add, ← htake, List.getElem?_take_of_lt hj]
      simp
    · rw [cell_of_row w g (0 + j) cur e (0, 0) hg, Nat.zero_add, Array.getElem?_eq_getElem (by omega)]
      rfl
    · simp [World.frozen?, hg]
/-- cell j -/
theorem OwnS.cell (h : OwnS w base s A n cap xs) (h0 : 0 < n) : ∃ g off, A = some ⟨g, off, none⟩ ∧ base ≤ g ∧ g < w.heap.size ∧ (∀ j, j < n * s → w.cell? ⟨g, off + j, none⟩ = xs[j]?) ∧ ∀ j, j < cap * s → (w.cell? ⟨g, off + j, none⟩).isSome = true ∧ w.frozen? ⟨g, off + j, none⟩ = false :=
  h.lies (by have := h.le; omega)
theorem OwnS.rd {c : Nat → Nat → Value} (h : OwnS w base s A n cap xs) (hx : ∀ i j, i < n → j < s → xs[i * s + j]? = some (c i j)) : Rd w w.heap.size A n s c := by
  intro hn
  obtain ⟨g, off, e, hb, hl, h1, _⟩ := h.cell hn
  refine ⟨g, off, e, hl, fun i hi j hj => ?_⟩
  have : i * s + j < n * s := by
    have h3 : (i + 1) * s ≤ n * s := Nat.mul_le_mul_right _ (by omega)
    rw [Nat.succ_mul] at h3
    omega
  rw [h1 _ this, hx i j hi hj]
/-- the first one cut off -/
theorem OwnS.tail {g off : Nat} (h : OwnS w base s (some ⟨g, off, none⟩) (n + 1) cap xs) : OwnS w base s (some (if cap = 1 then ⟨g, off, none⟩ else ⟨g, off + s, none⟩)) n (cap - 1) (xs.drop s) := by
  have hle := h.le
  refine ⟨by rw [List.length_drop, h.len, Nat.succ_mul]; omega, by omega, by have := h.max; omega, fun hc => ?_⟩
  obtain ⟨g', off', e, hb, hl, h1, h2⟩ := h.cell (by omega)
  cases e
  refine ⟨g, off + s, by rw [if_neg (by omega)], hb, hl, fun j hj => ?_, fun j hj => ?_⟩
  · rw [List.getElem?_drop, Nat.add_assoc]
    exact h1 (s + j) (by rw [Nat.succ_mul]; omega)
  · rw [Nat.add_assoc]
    refine h2 (s + j) ?_
    have : (cap - 1 + 1) * s = cap * s := by congr 1; omega
    rw [Nat.succ_mul] at this
    omega
/-- one cell stored -/
theorem OwnS.set {g off j : Nat} (h : OwnS w base s (some ⟨g, off, none⟩) n cap xs) (hj : j < n * s) (u : Value) : OwnS (w.setCell ⟨g, off + j, none⟩ u) base s (some ⟨g, off, none⟩) n cap (xs.set j u) := by
  refine ⟨by rw [List.length_set]; exact h.len, h.le, h.max, fun hc => ?_⟩
  obtain ⟨g', off', e, hb, hl, h1, h2⟩ := h.lies hc
  cases e
  have hjc : j < cap * s := Nat.lt_of_lt_of_le hj (Nat.mul_le_mul_right _ h.le)
  refine ⟨g, off, rfl, hb, by simpa using hl, fun i hi => ?_, fun i hi => ⟨?_, ?_⟩⟩
  · by_cases e : i = j
    · subst e
      rw [List.getElem?_set_self (by rw [h.len]; exact hi)]
      exact World.cell?_setCell_same' w _ u (h2 i hjc).1
    · rw [List.getElem?_set_ne (by omega), World.cell?_setCell_other w _ _ u (by intro e'; apply e; injection e' with _ e2; omega)]
      exact h1 i hi
  · by_cases e : i = j
    · subst e; rw [World.cell?_setCell_same' w _ u (h2 i hjc).1]; rfl
    · rw [World.cell?_setCell_other w _ _ u (by intro e'; apply e; injection e' with _ e2; omega)]
      exact (h2 i hi).1
  · rw [World.frozen?_setCell]; exact (h2 i hi).2
end
theorem size_setCells (b : Nat) : ∀ (vs : List Value) (o : Nat) (w : World), (w.setCells b o vs).heap.size = w.heap.size
  | [], _, _ => rfl
  | v :: vs, o, w => by rw [World.setCells, size_setCells b vs]; simp
theorem tape_setCells (b : Nat) : ∀ (vs : List Value) (o : Nat) (w : World), (w.setCells b o vs).tape = w.tape
  | [], _, _ => rfl
  | v :: vs, o, w => by rw [World.setCells, tape_setCells b vs]; rfl
/-- how an append ends -/
structure Grew (w : World) (base s : Nat) (A : Option Addr) (cap : Nat) (n' : Nat) (xs' : List Value) (A' : Option Addr) (cap' : Nat) (w' : World) : Prop where
  own : OwnS w' base s A' n' cap' xs'
  grown : w.grownBy w' (rowOf A cap)
  row : rowOf A' cap' = rowOf A cap ∨ rowOf A' cap' = some w.heap.size
section
variable {P : Program} {w : World} {base s n cap : Nat} {A : Option Addr} {xs : List Value}
theorem run_append_S (t tx ty e : TypeId) (i : TypeInfo) (z : Value) (bytes : Nat) (ht : P.underlying t = some (.slice e)) (hi : P.info? e = some i) (hz : i.zero = some z) (hsize : i.size = s) (hby : i.bytes = bytes) (hzs : z.cells.size = s)
    (h : OwnS w base s A n cap xs) (hbase : base ≤ w.heap.size) (x : Value) (m : Nat) (news : List Value) (hs : Src P s tx x m news w) (h63 : n + m ≤ maxLen) (hbytes : (n + m) * bytes ≤ 140737488355328) :
    ∃ A' cap' w', (Builtin.append_ #[t, tx] ty #[.slice A n cap, x]).run P w = .ok (.slice A' (n + m) cap') w' ∧ Grew w base s A cap (n + m) (xs ++ news) A' cap' w' := by
  subst hsize
  subst hby
  have hsmall : n + m ≤ 9223372036854775807 := by simp only [maxLen] at h63; omega
  have hlen : (xs ++ news).length = (n + m) * i.size := by rw [List.length_append, h.len, hs.newsLen, Nat.add_mul]
  by_cases hroom : n + m ≤ cap
  · rcases Nat.eq_zero_or_pos cap with h0 | hcap
    · subst h0
      obtain rfl : n = 0 := by omega
      obtain rfl : m = 0 := by omega
      have hn : news = [] := List.eq_nil_of_length_eq_zero (by simpa using hs.newsLen)
      subst hn
      refine ⟨A, 0, w, run_append_nothing (P := P) w t tx ty e i ht hi A 0 0 (Nat.le_refl _) x hs, ?_, ⟨rfl, rfl, rfl, Nat.le_refl _, fun _ _ _ => rfl⟩, .inl rfl⟩
      simpa using h
    · obtain ⟨g, off, rfl, hb, hl, h1, h2⟩ := h.lies hcap
      have hcs : n * i.size + news.length ≤ cap * i.size := by rw [hs.newsLen, ← Nat.add_mul]; exact Nat.mul_le_mul_right _ hroom
      have hsome : ∀ j, j < news.length → (w.cell? ⟨g, off + n * i.size + j, none⟩).isSome = true := fun j hj => by rw [Nat.add_assoc]; exact (h2 _ (by omega)).1
      have hr := run_append_room_src (P := P) w t tx ty e i ht hi g off n cap x m news hs hroom hsome (fun j hj => by rw [Nat.add_assoc]; exact (h2 _ (by omega)).2)
      have hsz : (w.setCells g (off + n * i.size) news).heap.size = w.heap.size := size_setCells g _ _ w
      refine ⟨_, _, _, hr, ⟨hlen, hroom, h.max, fun _ => ⟨g, off, rfl, hb, by rw [hsz]; exact hl, fun j hj => ?_, fun j hj => ⟨?_, ?_⟩⟩⟩, ⟨World.os_setCells _ _ _ _, ?_, World.output_setCells _ _ _ _, by rw [hsz]; exact Nat.le_refl _, fun k hk hne => World.heap_setCells_other w g _ news hk (fun e => hne (by simp [rowOf, e]; omega))⟩, .inl rfl⟩
      · by_cases hjo : j < n * i.size
        · rw [World.cell?_setCells_out g _ _ _ _ (fun _ _ => Or.inl (by show off + j < off + n * i.size; omega)), List.getElem?_append_left (by rw [h.len]; exact hjo)]
          exact h1 j hjo
        · have ht' : j - n * i.size < news.length := by rw [hs.newsLen]; rw [Nat.add_mul] at hj; omega
          have := World.cell?_setCells_in g news (off + n * i.size) w hsome (j - n * i.size) ht'
          rw [show off + n * i.size + (j - n * i.size) = off + j by omega] at this
          rw [this, List.getElem?_append_right (by rw [h.len]; omega), h.len, List.getElem?_eq_getElem ht']
      · by_cases hin : n * i.size ≤ j ∧ j < n * i.size + news.length
        · have := World.cell?_setCells_in g news (off + n * i.size) w hsome (j - n * i.size) (by omega)
          rw [show off + n * i.size + (j - n * i.size) = off + j by omega] at this
          rw [this]; rfl
        · rw [World.cell?_setCells_out g _ _ _ _ (fun _ _ => by show off + j < off + n * i.size ∨ off + n * i.size + news.length ≤ off + j; omega)]
          exact (h2 j hj).1
      · exact (World.frozen?_setCells g _ _ _ _).trans (h2 j hj).2
      · exact tape_setCells g _ _ w
  · have hold : (Builtin.firstCells i.size n (.slice A n cap)).run P w.drew = .ok xs.toArray w.drew := by
      rcases Nat.eq_zero_or_pos n with h0 | hn
      · subst h0
        have hx : xs = [] := List.eq_nil_of_length_eq_zero (by simpa using h.len)
        subst hx
        cases A with
        | none => exact run_firstCells_none w.drew i.size 0 0 cap
        | some a' => exact run_firstCells_some w.drew i.size 0 a' 0 cap [] (by simp) (by intro _ _ h'; simp at h')
      · obtain ⟨g, off, rfl, hb, hl, h1, h2⟩ := h.cell hn
        refine run_firstCells_some w.drew i.size n ⟨g, off, none⟩ n cap xs h.len (fun j u hu => ?_)
        rw [Addr.add_lit]
        have hj : j < n * i.size := by rw [← h.len]; exact (List.getElem?_eq_some_iff.1 hu).1
        exact (h1 j hj).trans hu
    have hr := run_append_grow_src (P := P) w t tx ty e i z ht hi hz A n cap xs hold x m news hs (by omega) (by omega) (growslice_fits (by omega) hbytes)
    have hge := grownCap_ge w (n + m) cap e
    have hcm := grownCap_le_maxLen w (n + m) cap e h63
    refine ⟨_, _, _, hr, ⟨hlen, hge, hcm, fun _ => ⟨w.heap.size, 0, rfl, hbase, by simp, fun j hj => ?_, fun j hj => ⟨?_, ?_⟩⟩⟩, ⟨rfl, rfl, rfl, by simp, fun k hk _ => Below.heap_alloc w.drew _ k hk⟩, .inr (by simp [rowOf]; omega)⟩
    · have e1 : (w.drew.alloc (.cells ((xs ++ news).toArray ++ Builtin.zeroCells z.cells (grownCap w (n + m) cap e - (n + m))) e)).cell? ⟨w.heap.size, 0 + j, none⟩ = _ := World.cell?_alloc_new w.drew _ _ (0 + j)
      rw [e1, Nat.zero_add, Array.getElem?_append_left (by simp only [List.size_toArray]; rw [hlen]; exact hj), List.getElem?_toArray]
    · have e1 : (w.drew.alloc (.cells ((xs ++ news).toArray ++ Builtin.zeroCells z.cells (grownCap w (n + m) cap e - (n + m))) e)).cell? ⟨w.heap.size, 0 + j, none⟩ = _ := World.cell?_alloc_new w.drew _ _ (0 + j)
      rw [e1, Nat.zero_add]
      have hsz : ((xs ++ news).toArray ++ Builtin.zeroCells z.cells (grownCap w (n + m) cap e - (n + m))).size = grownCap w (n + m) cap e * i.size := by
        rw [Array.size_append, List.size_toArray, hlen, size_zeroCells, hzs, ← Nat.add_mul]
        congr 1
        omega
      rw [Array.getElem?_eq_getElem (by rw [hsz]; exact hj)]
      rfl
    · exact World.frozen?_alloc_new w.drew _ _ (0 + j)
theorem wp_append_S {o : Oper} {a : Act} {K : Act → World → Prop} {Q : Exit → Act → World → Prop} (sl x : Operand) (t tx : TypeId)
    (ho : o.op = .call { callee := .builtin .append, args := #[sl, x], argTypes := #[t, tx] }) (e : TypeId) (i : TypeInfo) (z : Value) (bytes : Nat) (ht : P.underlying t = some (.slice e)) (hi : P.info? e = some i) (hz : i.zero = some z) (hsize : i.size = s) (hby : i.bytes = bytes) (hzs : z.cells.size = s)
    (hsl : a.eval sl = .slice A n cap) (h : OwnS w base s A n cap xs) (hbase : base ≤ w.heap.size) (xv : Value) (hx : a.eval x = xv) (m : Nat) (news : List Value) (hs : Src P s tx xv m news w) (h63 : n + m ≤ maxLen) (hbytes : (n + m) * bytes ≤ 140737488355328)
    (hK : ∀ A' cap' w', Grew w base s A cap (n + m) (xs ++ news) A' cap' w' → K (a.put o.dst (.slice A' (n + m) cap')) w') : o.wp P a w K Q := by
  obtain ⟨A', cap', w', hr, h2⟩ := run_append_S (P := P) t tx o.type e i z bytes ht hi hz hsize hby hzs h hbase xv m news hs h63 hbytes
  unfold Oper.wp execOp
  simp only [ho, resolve, invoke, builtin, Sem.run_bind, Sem.run_pure, Result.andThen_ok, List.map_toArray, List.map_cons, List.map_nil, hsl, hx, hr]
  exact hK A' cap' w' h2
theorem wpList_append_S {ops : Array Oper} {rest : List Oper} {o : Oper} {a : Act} {Q : Exit → Act → World → Prop} (hgd : o.guard = none) (sl x : Operand) (t tx : TypeId)
    (ho : o.op = .call { callee := .builtin .append, args := #[sl, x], argTypes := #[t, tx] }) (e : TypeId) (i : TypeInfo) (z : Value) (bytes : Nat) (ht : P.underlying t = some (.slice e)) (hi : P.info? e = some i) (hz : i.zero = some z) (hsize : i.size = s) (hby : i.bytes = bytes) (hzs : z.cells.size = s)
    (hsl : a.eval sl = .slice A n cap) (h : OwnS w base s A n cap xs) (hbase : base ≤ w.heap.size) (xv : Value) (hx : a.eval x = xv) (m : Nat) (news : List Value) (hs : Src P s tx xv m news w) (h63 : n + m ≤ maxLen) (hbytes : (n + m) * bytes ≤ 140737488355328)
    (hK : ∀ A' cap' w', Grew w base s A cap (n + m) (xs ++ news) A' cap' w' → wpList P ops Q rest (a.put o.dst (.slice A' (n + m) cap')) w') : wpList P ops Q (o :: rest) a w :=
  wpList_plain hgd fun _ hK' => wp_append_S sl x t tx ho e i z bytes ht hi hz hsize hby hzs hsl h hbase xv hx m news hs h63 hbytes fun A' cap' w' h2 => hK' _ _ (hK A' cap' w' h2)
/-- at a step of a region that draws its order -/
theorem step_append_S {ops : Array Oper} {o : Oper} {a : Act} {K : Act → World → Prop} {Q : Exit → Act → World → Prop} {E : Prop} (hgd : o.guard = none) (sl x : Operand) (t tx : TypeId)
    (ho : o.op = .call { callee := .builtin .append, args := #[sl, x], argTypes := #[t, tx] }) (e : TypeId) (i : TypeInfo) (z : Value) (bytes : Nat) (ht : P.underlying t = some (.slice e)) (hi : P.info? e = some i) (hz : i.zero = some z) (hsize : i.size = s) (hby : i.bytes = bytes) (hzs : z.cells.size = s)
    (hsl : a.eval sl = .slice A n cap) (h : OwnS w base s A n cap xs) (hbase : base ≤ w.heap.size) (xv : Value) (hx : a.eval x = xv) (m : Nat) (news : List Value) (hs : Src P s tx xv m news w) (h63 : n + m ≤ maxLen) (hbytes : (n + m) * bytes ≤ 140737488355328)
    (hK : ∀ A' cap' w', Grew w base s A cap (n + m) (xs ++ news) A' cap' w' → K (a.put o.dst (.slice A' (n + m) cap')) w') :
    if Region.wanted o (yielded ops a.tmps) = true then Oper.wp P o a w K Q else E := by
  have hw : Region.wanted o (yielded ops a.tmps) = true := by simp [Region.wanted, hgd]
  rw [if_pos hw]
  exact wp_append_S sl x t tx ho e i z bytes ht hi hz hsize hby hzs hsl h hbase xv hx m news hs h63 hbytes hK
end
/-- a block known whole, as what is appended -/
theorem src_block {P : Program} {w : World} {g t tx e : Nat} {cs : Array Value} {m s : Nat} (h : Bk w g t cs) (hk : P.underlying tx = some (.slice e)) (hl : cs.size = m * s) (h1 : ∀ u ∈ cs.toList, u.oneCell' = true) (c : Nat) : Src P s tx (.slice (some ⟨g, 0, none⟩) m c) m cs.toList w :=
  Src.ofSlice w hk _ m c cs.toList (by simpa using hl) (World.news_of_block h) h1
/-- a slice that reads, as what is appended -/
theorem src_rd {P : Program} {w : World} {B tx e : Nat} {A : Option Addr} {n s c : Nat} {f : Nat → Nat → Value} {xs : List Value} (h : Rd w B A n s f) (hk : P.underlying tx = some (.slice e)) (hl : xs.length = n * s) (hx : ∀ i j, i < n → j < s → xs[i * s + j]? = some (f i j)) (h1 : ∀ u ∈ xs, u.oneCell' = true) (hA : A = none → n = 0) : Src P s tx (.slice A n c) n xs w := by
  cases A with
  | none =>
    obtain rfl := hA rfl
    have : xs = [] := List.eq_nil_of_length_eq_zero (by simpa using hl)
    subst this
    exact Src.ofNil w hk c
  | some a =>
    refine Src.ofSlice w hk a n c xs hl (fun j u hu => ?_) h1
    have hj : j < n * s := by rw [← hl]; exact (List.getElem?_eq_some_iff.1 hu).1
    have hs : 0 < s := by
      rcases Nat.eq_zero_or_pos s with h0 | h0
      · subst h0; simp at hj
      · exact h0
    have hn : 0 < n := by
      rcases Nat.eq_zero_or_pos n with h0 | h0
      · subst h0; simp at hj
      · exact h0
    obtain ⟨b, off, e, hb, hc⟩ := h hn
    cases e
    have h2 := hc (j / s) (Nat.div_lt_of_lt_mul (by rw [Nat.mul_comm]; exact hj)) (j % s) (Nat.mod_lt _ hs)
    have h3 := hx (j / s) (j % s) (Nat.div_lt_of_lt_mul (by rw [Nat.mul_comm]; exact hj)) (Nat.mod_lt _ hs)
    have e2 : j / s * s + j % s = j := by rw [Nat.mul_comm]; exact Nat.div_add_mod j s
    rw [e2] at h2 h3
    rw [Addr.add_lit, h2]
    rw [hu] at h3
    exact h3.symm
end Go.Proofs.YtkdgpdijbobmkaaGreat
namespace Go.Proofs.YtkdgpdijbobmkaaGreat
set_option linter.all false
open Go Go.RowKit
structure Fill where
  id : Int
  who : Int
  qty : Int
  deriving DecidableEq
def Fill.vals (f : Fill) : List Value := [.int .i64 f.id, .int .i64 f.who, .int .i64 f.qty]
/-- the cells of rests -/
def rows (l : List Rest) : List Value := l.flatMap Rest.vals
theorem rows_len (l : List Rest) : (rows l).length = l.length * 5 := flat_len (fun r => r.vals_len) l
theorem rows_get {l : List Rest} {i j : Nat} (hi : i < l.length) (hj : j < 5) : (rows l)[i * 5 + j]? = some (rcell l i j) := by
  rw [rows, flat_get (fun r => r.vals_len) (List.getElem?_eq_getElem hi) hj]
  have hg : l.getD i rest0 = l[i] := by simp [hi]
  simp only [rcell, hg]
  rw [List.getElem?_eq_getElem (by rw [Rest.vals_len]; exact hj)]
  rfl
theorem rows_one (l : List Rest) : ∀ u ∈ rows l, u.oneCell' = true := by
  refine flat_all (fun r u hu => ?_) l
  simp only [Rest.vals, List.mem_cons, List.not_mem_nil, or_false] at hu
  rcases hu with rfl | rfl | rfl | rfl | rfl <;> rfl
theorem rows_cons (r : Rest) (t : List Rest) : rows (r :: t) = r.vals ++ rows t := rfl
theorem rows_app (a b : List Rest) : rows (a ++ b) = rows a ++ rows b := List.flatMap_append
theorem info_rest : (Tryz.prog.info? 62).map (fun i => (i.zero, i.size, i.bytes)) = some (some (.agg #[.int .i64 0, .int .i64 0, .int .i64 0, .int .i64 0, .int .i64 0]), 5, 40) := by kernel_rfl
/-- what First does -/
def qFirst (r : Rest) (t : List Rest) (n : Int) : Fill × List Rest :=
  if n < r.qty then (⟨r.id, r.who, n⟩, { r with qty := r.qty - n } :: t)
  else if 0 < r.hidden then (⟨r.id, r.who, r.qty⟩, t ++ [{ r with qty := min r.show_ r.hidden, hidden := r.hidden - min r.show_ r.hidden }])
  else (⟨r.id, r.who, r.qty⟩, t)
/-- how First ends -/
def FirstPost (r : Rest) (t : List Rest) (n : Int) (base : Nat) (A : Option Addr) (cap : Nat) (w : World) (e : Ending) (w' : World) : Prop :=
  ∃ A' cap', e = .returned (.tuple #[.agg #[.int .i64 (qFirst r t n).1.id, .int .i64 (qFirst r t n).1.who, .int .i64 (qFirst r t n).1.qty], .slice A' (qFirst r t n).2.length cap']) ∧
    OwnS w' base 5 A' (qFirst r t n).2.length cap' (rows (qFirst r t n).2) ∧ w.grownBy w' (rowOf A cap) ∧ (rowOf A' cap' = none ∨ rowOf A' cap' = rowOf A cap ∨ ∃ k, rowOf A' cap' = some k ∧ w.heap.size ≤ k)
theorem grown_set (w : World) (p : Addr) (u : Value) : w.grownBy (w.setCell p u) (some p.block) := ⟨rfl, rfl, rfl, by simp, fun k _ hk => Below.heap_setCell w p u k (fun e => hk (by rw [e]))⟩
theorem grown_alloc {w w' : World} {row : Option Nat} (h : w.grownBy w' row) (o : Obj) : w.grownBy (w'.alloc o) row := h.trans (World.grownBy_alloc w' o row)
theorem grown_refl (w : World) (row : Option Nat) : w.grownBy w row := ⟨rfl, rfl, rfl, Nat.le_refl _, fun _ _ _ => rfl⟩
theorem rowOf_some {g off cap : Nat} (h : 0 < cap) : rowOf (some ⟨g, off, none⟩) cap = some g := by rw [rowOf, if_neg (by omega)]; rfl
set_option maxHeartbeats 1000000 in
theorem first_part (r : Rest) (t : List Rest) (n : Int) (base : Nat) (A : Option Addr) (cap : Nat) (w : World) (h : OwnS w base 5 A (t.length + 1) cap (rows (r :: t))) (hn : 1 ≤ n) (hq : n < r.qty) (hq2 : r.qty ≤ 10000) (hl : t.length ≤ 100) :
    Calls Tryz.prog 137 #[.slice A (t.length + 1) cap, .int .i64 n] w (FirstPost r t n base A cap w) := by
  have hle := h.le
  (obtain ⟨g, off, rfl, hg, hlt, hc, hf⟩ := h.cell (by omega)); (have c0 : w.cell? ⟨g, off, none⟩ = some (.int .i64 r.id) := hc 0 (by omega)); (have c1 : w.cell? ⟨g, off + 1, none⟩ = some (.int .i64 r.who) := hc 1 (by omega)); (have c2 : w.cell? ⟨g, off + 2, none⟩ = some (.int .i64 r.qty) := hc 2 (by omega)); (have c3 : w.cell? ⟨g, off + 3, none⟩ = some (.int .i64 r.hidden) := hc 3 (by omega)); (have c4 : w.cell? ⟨g, off + 4, none⟩ = some (.int .i64 r.show_) := hc 4 (by omega)); (have f2 : w.frozen? ⟨g, off + 2, none⟩ = false := (hf 2 (by have := h.le; omega)).2); clear hc hf; (have l1 : g < w.heap.size + 1 := by omega); (have l2 : g < w.heap.size + 1 + 1 := by omega); (have l3 : g < w.heap.size + 1 + 1 + 1 := by omega)
  have H := Lib.hid h; clear h
  obtain ⟨id, who, qty, hidden, show_⟩ := r
  dsimp only at c0 c1 c2 c3 c4 hq hq2 ⊢
  have hmin : min n qty = n := by omega
  go_enter Tryz.func137, Tryz.ntmps137
  go_wp2
  refine bodyPost_ret (v := .tuple #[.agg #[.int .i64 id, .int .i64 who, .int .i64 n], .slice (some ⟨g, off, none⟩) (t.length + 1) cap]) (by simp [results, Tryz.results137, go_sem]) rfl ?_
  have e : qFirst ⟨id, who, qty, hidden, show_⟩ t n = (⟨id, who, n⟩, ⟨id, who, qty - n, hidden, show_⟩ :: t) := by rw [qFirst, if_pos hq]
  rw [FirstPost, e]
  refine ⟨_, cap, rfl, ((((H.out.set (j := 2) (by omega) (.int .i64 (qty - n))).alloc _).alloc _).alloc _), ?_, .inr (.inl rfl)⟩
  rw [rowOf_some (by omega)]
  exact grown_alloc (grown_alloc (grown_alloc (grown_set w _ _) _) _) _
set_option maxHeartbeats 1000000 in
theorem first_whole (r : Rest) (t : List Rest) (n : Int) (base : Nat) (A : Option Addr) (cap : Nat) (w : World) (h : OwnS w base 5 A (t.length + 1) cap (rows (r :: t))) (hn : 1 ≤ r.qty) (hq : r.qty ≤ n) (hh : r.hidden ≤ 0) (hl : t.length ≤ 100) :
    Calls Tryz.prog 137 #[.slice A (t.length + 1) cap, .int .i64 n] w (FirstPost r t n base A cap w) := by
  have hle := h.le
  have hmx := h.max
  unfold maxLen at hmx
  (obtain ⟨g, off, rfl, hg, hlt, hc, hf⟩ := h.cell (by omega)); (have c0 : w.cell? ⟨g, off, none⟩ = some (.int .i64 r.id) := hc 0 (by omega)); (have c1 : w.cell? ⟨g, off + 1, none⟩ = some (.int .i64 r.who) := hc 1 (by omega)); (have c2 : w.cell? ⟨g, off + 2, none⟩ = some (.int .i64 r.qty) := hc 2 (by omega)); (have c3 : w.cell? ⟨g, off + 3, none⟩ = some (.int .i64 r.hidden) := hc 3 (by omega)); (have c4 : w.cell? ⟨g, off + 4, none⟩ = some (.int .i64 r.show_) := hc 4 (by omega)); (have f2 : w.frozen? ⟨g, off + 2, none⟩ = false := (hf 2 (by have := h.le; omega)).2); clear hc hf; (have l1 : g < w.heap.size + 1 := by omega); (have l2 : g < w.heap.size + 1 + 1 := by omega); (have l3 : g < w.heap.size + 1 + 1 + 1 := by omega)
  have T := Lib.hid h.tail; clear h
  obtain ⟨id, who, qty, hidden, show_⟩ := r
  dsimp only at c0 c1 c2 c3 c4 hq hh hn ⊢
  have e : qFirst ⟨id, who, qty, hidden, show_⟩ t n = (⟨id, who, qty⟩, t) := by rw [qFirst, if_neg (by dsimp only; omega), if_neg (by dsimp only; omega)]
  have E := Lib.hid e; clear e
  rcases Int.lt_or_eq_of_le hq with hq | rfl
  all_goals
    by_cases hc1 : cap = 1
    · subst hc1
      obtain rfl : t = [] := List.eq_nil_of_length_eq_zero (by omega)
      go_enter Tryz.func137, Tryz.ntmps137
      go_wp2
      refine bodyPost_ret (v := .tuple #[.agg #[.int .i64 id, .int .i64 who, .int .i64 qty], .slice (some ⟨g, off, none⟩) 0 0]) (by simp [results, Tryz.results137, go_sem]) rfl ?_
      rw [FirstPost, E.out]
      exact ⟨_, 0, rfl, OwnS.nil _ _ _ _, grown_alloc (grown_alloc (grown_alloc (grown_refl w _) _) _) _, .inl rfl⟩
    · have hcc : (1 : Int) < (cap : Int) := by omega
      have hc2 : 1 < cap := by omega
      go_enter Tryz.func137, Tryz.ntmps137
      go_wp2
      refine bodyPost_ret (v := .tuple #[.agg #[.int .i64 id, .int .i64 who, .int .i64 qty], .slice (some ⟨g, off + 5, none⟩) t.length (cap - 1)]) (by simp [results, Tryz.results137, go_sem]) rfl ?_
      rw [FirstPost, E.out]
      have T2 := T.out
      rw [if_neg hc1] at T2
      exact ⟨_, cap - 1, rfl, ((T2.alloc _).alloc _).alloc _, grown_alloc (grown_alloc (grown_alloc (grown_refl w _) _) _) _, .inr (.inl (by rw [rowOf_some (by omega), rowOf_some (by omega)]))⟩
theorem first_end {w w0 w' : World} {base s cap c1 n cap' : Nat} {A A1 A' : Option Addr} {xs : List Value} (hg : w.grownBy w0 none) (hr : rowOf A1 c1 = rowOf A cap ∨ rowOf A1 c1 = none) (gr : Grew w0 base s A1 c1 n xs A' cap' w') :
    OwnS w' base s A' n cap' xs ∧ w.grownBy w' (rowOf A cap) ∧ (rowOf A' cap' = none ∨ rowOf A' cap' = rowOf A cap ∨ ∃ k, rowOf A' cap' = some k ∧ w.heap.size ≤ k) := by
  have hg' : w.grownBy w0 (rowOf A cap) := ⟨hg.os, hg.tape, hg.output, hg.size, fun k hk _ => hg.block k hk (by simp)⟩
  refine ⟨gr.own, ?_, ?_⟩
  · refine hg'.trans ?_
    rcases hr with hr | hr
    · rw [← hr]; exact gr.grown
    · have := gr.grown
      rw [hr] at this
      exact ⟨this.os, this.tape, this.output, this.size, fun k hk _ => this.block k hk (by simp)⟩
  · rcases gr.row with h | h
    · rw [h]
      rcases hr with hr | hr
      · exact .inr (.inl hr)
      · exact .inl hr
    · exact .inr (.inr ⟨_, h, hg.size⟩)
theorem first_done {w w0 w' : World} {base s cap c1 n cap' b : Nat} {A A1 A' : Option Addr} {xs : List Value} (hg : w.grownBy w0 none) (hr : rowOf A1 c1 = rowOf A cap ∨ rowOf A1 c1 = none) (gr : Grew w0 base s A1 c1 n xs A' cap' w') (hb : w.heap.size ≤ b) (hb0 : b < w0.heap.size) (hne : some b ≠ rowOf A1 c1) (x y z : Value) :
    OwnS (((w'.setCell ⟨b, 0, none⟩ x).setCell ⟨b, 1, none⟩ y).setCell ⟨b, 2, none⟩ z) base s A' n cap' xs ∧ w.grownBy (((w'.setCell ⟨b, 0, none⟩ x).setCell ⟨b, 1, none⟩ y).setCell ⟨b, 2, none⟩ z) (rowOf A cap) ∧ (rowOf A' cap' = none ∨ rowOf A' cap' = rowOf A cap ∨ ∃ k, rowOf A' cap' = some k ∧ w.heap.size ≤ k) := by
  have f := first_end hg hr gr
  have hn : rowOf A' cap' ≠ some b := by
    rcases gr.row with h | h
    · rw [h]; exact Ne.symm hne
    · rw [h]; intro e; cases e; omega
  refine ⟨((f.1.far hn x).far hn y).far hn z, ?_, f.2.2⟩
  have g1 : ∀ {w1 : World} {o : Nat} {u : Value}, w.grownBy w1 (rowOf A cap) → w.grownBy (w1.setCell ⟨b, o, none⟩ u) (rowOf A cap) := fun {w1 o u} h1 =>
    ⟨h1.os, h1.tape, h1.output, by have := h1.size; simpa using this, fun k hk hk2 => (Below.heap_setCell w1 _ u k (by simp; omega)).trans (h1.block k hk hk2)⟩
  exact g1 (g1 (g1 f.2.1))
theorem row_ne {w : World} {base s n cap b : Nat} {A : Option Addr} {xs : List Value} (h : OwnS w base s A n cap xs) (hb : w.heap.size ≤ b) : some b ≠ rowOf A cap := fun e => by
  have := (h.row_lt b e.symm).2
  omega
theorem rest_one (a b c d e : Int) : ∀ u ∈ (#[Value.int .i64 a, .int .i64 b, .int .i64 c, .int .i64 d, .int .i64 e] : Array Value).toList, u.oneCell' = true := by
  intro u hu
  simp only [List.mem_cons, List.not_mem_nil, or_false] at hu
  rcases hu with rfl | rfl | rfl | rfl | rfl <;> rfl
set_option maxRecDepth 20000 in
set_option maxHeartbeats 4000000 in
theorem first_again (r : Rest) (t : List Rest) (n : Int) (base : Nat) (A : Option Addr) (cap : Nat) (w : World) (h : OwnS w base 5 A (t.length + 1) cap (rows (r :: t))) (hb : base ≤ w.heap.size) (hn : 1 ≤ r.qty) (hq : r.qty ≤ n) (hh : 0 < r.hidden) (hh2 : r.hidden ≤ 10000) (hs : 0 ≤ r.show_) (hl : t.length ≤ 100) :
    Calls Tryz.prog 137 #[.slice A (t.length + 1) cap, .int .i64 n] w (FirstPost r t n base A cap w) := by
  have hle := h.le
  have hmx := h.max
  unfold maxLen at hmx
  (obtain ⟨g, off, rfl, hg, hlt, hc, hf⟩ := h.cell (by omega)); (have c0 : w.cell? ⟨g, off, none⟩ = some (.int .i64 r.id) := hc 0 (by omega)); (have c1 : w.cell? ⟨g, off + 1, none⟩ = some (.int .i64 r.who) := hc 1 (by omega)); (have c2 : w.cell? ⟨g, off + 2, none⟩ = some (.int .i64 r.qty) := hc 2 (by omega)); (have c3 : w.cell? ⟨g, off + 3, none⟩ = some (.int .i64 r.hidden) := hc 3 (by omega)); (have c4 : w.cell? ⟨g, off + 4, none⟩ = some (.int .i64 r.show_) := hc 4 (by omega)); (have f2 : w.frozen? ⟨g, off + 2, none⟩ = false := (hf 2 (by have := h.le; omega)).2); clear hc hf; (have l1 : g < w.heap.size + 1 := by omega); (have l2 : g < w.heap.size + 1 + 1 := by omega); (have l3 : g < w.heap.size + 1 + 1 + 1 := by omega)
  have T := Lib.hid h.tail; clear h
  obtain ⟨id, who, qty, hidden, show_⟩ := r
  dsimp only at c0 c1 c2 c3 c4 hq hh hh2 hs hn ⊢
  obtain ⟨i0, hi, hz0, hz1, hz2⟩ := info_parts info_rest
  have HI := Lib.hid hi; have H0 := Lib.hid hz0; have H1 := Lib.hid hz1; have H2 := Lib.hid hz2; clear hi hz0 hz1 hz2
  have e : qFirst ⟨id, who, qty, hidden, show_⟩ t n = (⟨id, who, qty⟩, t ++ [⟨id, who, min show_ hidden, hidden - min show_ hidden, show_⟩]) := by rw [qFirst, if_neg (by dsimp only; omega), if_pos (by dsimp only; omega)]
  have E := Lib.hid e; clear e
  have key : ∀ (q h' : Int), (⟨id, who, q, h', show_⟩ : Rest) = ⟨id, who, min show_ hidden, hidden - min show_ hidden, show_⟩ → ∀ (w0 w' : World) (A1 A' : Option Addr) (c1 cap' : Nat), w.grownBy w0 none → (rowOf A1 c1 = rowOf (some ⟨g, off, none⟩) cap ∨ rowOf A1 c1 = none) → Grew w0 base 5 A1 c1 (t.length + 1) (rows t ++ Rest.vals ⟨id, who, q, h', show_⟩) A' cap' w' → w.heap.size < w0.heap.size → some w.heap.size ≠ rowOf A1 c1 →
      ∀ x y z, FirstPost ⟨id, who, qty, hidden, show_⟩ t n base (some ⟨g, off, none⟩) cap w (.returned (.tuple #[.agg #[.int .i64 id, .int .i64 who, .int .i64 qty], .slice A' (t.length + 1) cap'])) (((w'.setCell ⟨w.heap.size, 0, none⟩ x).setCell ⟨w.heap.size, 1, none⟩ y).setCell ⟨w.heap.size, 2, none⟩ z) := by
    intro q h' hr w0 w' A1 A' c1 cap' hg hrow gr hlt hne x y z
    have f := first_done hg hrow gr (Nat.le_refl _) hlt hne x y z
    rw [FirstPost, E.out, ← hr]
    refine ⟨A', cap', by simp, ?_, f.2⟩
    have e2 : rows t ++ Rest.vals ⟨id, who, q, h', show_⟩ = rows (t ++ [⟨id, who, q, h', show_⟩]) := by rw [rows_app]; rfl
    rw [← e2, List.length_append]
    exact f.1
  have KEY := Lib.hid key; clear key E
  have hm : hidden < show_ ∨ show_ ≤ hidden := by omega
  rcases hm with hm | hm
  · have hr : (⟨id, who, hidden, 0, show_⟩ : Rest) = ⟨id, who, min show_ hidden, hidden - min show_ hidden, show_⟩ := by rw [show min show_ hidden = hidden by omega, show hidden - hidden = 0 by omega]
    have HR := Lib.hid hr; clear hr
    rcases Int.lt_or_eq_of_le hq with hq | rfl
    all_goals
      by_cases hc1 : cap = 1
      · subst hc1
        obtain rfl : t = [] := List.eq_nil_of_length_eq_zero (by omega)
        clear T
        have TT : OwnS w base 5 (some ⟨g, off, none⟩) 0 0 [] := OwnS.nil _ _ _ _
        go_enter Tryz.func137, Tryz.ntmps137
        go_wp2_with (at_builtin; go_loud (refine wpList_append_S (base := base) (s := 5) (n := 0) rfl _ _ _ _ rfl 62 i0 _ 40 Tryz.underlying58 HI.out H0.out H1.out H2.out rfl rfl (((((TT.alloc _).alloc _).alloc _).alloc _)) (by simp; omega) _ rfl 1 (Rest.vals ⟨id, who, hidden, 0, show_⟩) (src_block (m := 1) (Bk.at_ (by simp) 62 #[.int .i64 id, .int .i64 who, .int .i64 (hidden), .int .i64 (0), .int .i64 show_]) Tryz.underlying58 rfl (rest_one _ _ _ _ _) 1) (by unfold maxLen; omega) (by omega) ?_); intro A' cap' w' gr; go_loud (have bF : Bk w' (w.heap.size + 1 + 1) 202 #[.int .i64 id, .int .i64 who, .int .i64 qty] := Bk.grown ((Bk.at_ (by simp) _ _).alloc _) gr.grown (row_ne TT (by omega))); go_loud (have bR : Bk w' w.heap.size 202 #[.int .i64 0, .int .i64 0, .int .i64 0] := Bk.grown (((((Bk.at_ rfl _ _).alloc _).alloc _).alloc _)) gr.grown (row_ne TT (by omega))); have q0 := bF.cell 0; have q1 := bF.cell 1; have q2 := bF.cell 2; have r0 := bR.cell 0; have r1 := bR.cell 1; have r2 := bR.cell 2; have f0 := bR.free 0; have f1 := bR.free 1; have f2 := bR.free 2)
        refine bodyPost_ret (v := .tuple #[.agg #[.int .i64 id, .int .i64 who, .int .i64 qty], .slice A' 1 cap']) (by simp [results, Tryz.results137, go_sem, r0, r1, r2]) rfl ?_
        exact KEY.out _ _ HR.out _ _ _ _ _ _ (grown_alloc (grown_alloc (grown_alloc (grown_alloc (grown_refl w _) _) _) _) _) (.inr rfl) gr (by simp; omega) (row_ne TT (Nat.le_refl _)) _ _ _
      · have hcc : (1 : Int) < (cap : Int) := by omega
        have hc2 : 1 < cap := by omega
        have TT := T.out
        rw [if_neg hc1] at TT
        clear T
        go_enter Tryz.func137, Tryz.ntmps137
        go_wp2_with (at_builtin; go_loud (refine wpList_append_S (base := base) (s := 5) (n := t.length) rfl _ _ _ _ rfl 62 i0 _ 40 Tryz.underlying58 HI.out H0.out H1.out H2.out rfl rfl (((((TT.alloc _).alloc _).alloc _).alloc _)) (by simp; omega) _ rfl 1 (Rest.vals ⟨id, who, hidden, 0, show_⟩) (src_block (m := 1) (Bk.at_ (by simp) 62 #[.int .i64 id, .int .i64 who, .int .i64 (hidden), .int .i64 (0), .int .i64 show_]) Tryz.underlying58 rfl (rest_one _ _ _ _ _) 1) (by unfold maxLen; omega) (by omega) ?_); intro A' cap' w' gr; go_loud (have bF : Bk w' (w.heap.size + 1 + 1) 202 #[.int .i64 id, .int .i64 who, .int .i64 qty] := Bk.grown ((Bk.at_ (by simp) _ _).alloc _) gr.grown (row_ne TT (by omega))); go_loud (have bR : Bk w' w.heap.size 202 #[.int .i64 0, .int .i64 0, .int .i64 0] := Bk.grown (((((Bk.at_ rfl _ _).alloc _).alloc _).alloc _)) gr.grown (row_ne TT (by omega))); have q0 := bF.cell 0; have q1 := bF.cell 1; have q2 := bF.cell 2; have r0 := bR.cell 0; have r1 := bR.cell 1; have r2 := bR.cell 2; have f0 := bR.free 0; have f1 := bR.free 1; have f2 := bR.free 2)
        refine bodyPost_ret (v := .tuple #[.agg #[.int .i64 id, .int .i64 who, .int .i64 qty], .slice A' (t.length + 1) cap']) (by simp [results, Tryz.results137, go_sem, r0, r1, r2]) rfl ?_
        exact KEY.out _ _ HR.out _ _ _ _ _ _ (grown_alloc (grown_alloc (grown_alloc (grown_alloc (grown_refl w _) _) _) _) _) (.inl (by rw [rowOf_some (by omega), rowOf_some (by omega)])) gr (by simp; omega) (row_ne TT (Nat.le_refl _)) _ _ _
  · have hr : (⟨id, who, show_, hidden - show_, show_⟩ : Rest) = ⟨id, who, min show_ hidden, hidden - min show_ hidden, show_⟩ := by rw [show min show_ hidden = show_ by omega]
    have HR := Lib.hid hr; clear hr
    rcases Int.lt_or_eq_of_le hq with hq | rfl
    all_goals
      by_cases hc1 : cap = 1
      · subst hc1
        obtain rfl : t = [] := List.eq_nil_of_length_eq_zero (by omega)
        clear T
        have TT : OwnS w base 5 (some ⟨g, off, none⟩) 0 0 [] := OwnS.nil _ _ _ _
        go_enter Tryz.func137, Tryz.ntmps137
        go_wp2_with (at_builtin; go_loud (refine wpList_append_S (base := base) (s := 5) (n := 0) rfl _ _ _ _ rfl 62 i0 _ 40 Tryz.underlying58 HI.out H0.out H1.out H2.out rfl rfl (((((TT.alloc _).alloc _).alloc _).alloc _)) (by simp; omega) _ rfl 1 (Rest.vals ⟨id, who, show_, hidden-show_, show_⟩) (src_block (m := 1) (Bk.at_ (by simp) 62 #[.int .i64 id, .int .i64 who, .int .i64 (show_), .int .i64 (hidden-show_), .int .i64 show_]) Tryz.underlying58 rfl (rest_one _ _ _ _ _) 1) (by unfold maxLen; omega) (by omega) ?_); intro A' cap' w' gr; go_loud (have bF : Bk w' (w.heap.size + 1 + 1) 202 #[.int .i64 id, .int .i64 who, .int .i64 qty] := Bk.grown ((Bk.at_ (by simp) _ _).alloc _) gr.grown (row_ne TT (by omega))); go_loud (have bR : Bk w' w.heap.size 202 #[.int .i64 0, .int .i64 0, .int .i64 0] := Bk.grown (((((Bk.at_ rfl _ _).alloc _).alloc _).alloc _)) gr.grown (row_ne TT (by omega))); have q0 := bF.cell 0; have q1 := bF.cell 1; have q2 := bF.cell 2; have r0 := bR.cell 0; have r1 := bR.cell 1; have r2 := bR.cell 2; have f0 := bR.free 0; have f1 := bR.free 1; have f2 := bR.free 2)
        refine bodyPost_ret (v := .tuple #[.agg #[.int .i64 id, .int .i64 who, .int .i64 qty], .slice A' 1 cap']) (by simp [results, Tryz.results137, go_sem, r0, r1, r2]) rfl ?_
        exact KEY.out _ _ HR.out _ _ _ _ _ _ (grown_alloc (grown_alloc (grown_alloc (grown_alloc (grown_refl w _) _) _) _) _) (.inr rfl) gr (by simp; omega) (row_ne TT (Nat.le_refl _)) _ _ _
      · have hcc : (1 : Int) < (cap : Int) := by omega
        have hc2 : 1 < cap := by omega
        have TT := T.out
        rw [if_neg hc1] at TT
        clear T
        go_enter Tryz.func137, Tryz.ntmps137
        go_wp2_with (at_builtin; go_loud (refine wpList_append_S (base := base) (s := 5) (n := t.length) rfl _ _ _ _ rfl 62 i0 _ 40 Tryz.underlying58 HI.out H0.out H1.out H2.out rfl rfl (((((TT.alloc _).alloc _).alloc _).alloc _)) (by simp; omega) _ rfl 1 (Rest.vals ⟨id, who, show_, hidden-show_, show_⟩) (src_block (m := 1) (Bk.at_ (by simp) 62 #[.int .i64 id, .int .i64 who, .int .i64 (show_), .int .i64 (hidden-show_), .int .i64 show_]) Tryz.underlying58 rfl (rest_one _ _ _ _ _) 1) (by unfold maxLen; omega) (by omega) ?_); intro A' cap' w' gr; go_loud (have bF : Bk w' (w.heap.size + 1 + 1) 202 #[.int .i64 id, .int .i64 who, .int .i64 qty] := Bk.grown ((Bk.at_ (by simp) _ _).alloc _) gr.grown (row_ne TT (by omega))); go_loud (have bR : Bk w' w.heap.size 202 #[.int .i64 0, .int .i64 0, .int .i64 0] := Bk.grown (((((Bk.at_ rfl _ _).alloc _).alloc _).alloc _)) gr.grown (row_ne TT (by omega))); have q0 := bF.cell 0; have q1 := bF.cell 1; have q2 := bF.cell 2; have r0 := bR.cell 0; have r1 := bR.cell 1; have r2 := bR.cell 2; have f0 := bR.free 0; have f1 := bR.free 1; have f2 := bR.free 2)
        refine bodyPost_ret (v := .tuple #[.agg #[.int .i64 id, .int .i64 who, .int .i64 qty], .slice A' (t.length + 1) cap']) (by simp [results, Tryz.results137, go_sem, r0, r1, r2]) rfl ?_
        exact KEY.out _ _ HR.out _ _ _ _ _ _ (grown_alloc (grown_alloc (grown_alloc (grown_alloc (grown_refl w _) _) _) _) _) (.inl (by rw [rowOf_some (by omega), rowOf_some (by omega)])) gr (by simp; omega) (row_ne TT (Nat.le_refl _)) _ _ _
end Go.Proofs.YtkdgpdijbobmkaaGreat
