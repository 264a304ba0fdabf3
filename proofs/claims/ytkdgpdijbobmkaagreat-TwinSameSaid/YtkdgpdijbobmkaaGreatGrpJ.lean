/- Levels that read, with their cells, all their blocks in a set of blocks that stay. -/
import Derived.Test.YtkdgpdijbobmkaaGreatGrpE
import Derived.Test.YtkdgpdijbobmkaaGreatGrpC
namespace Go.Proofs.YtkdgpdijbobmkaaGreat
set_option linter.all false
open Go Go.RowKit
/-- a slice reads xs, its block in P -/
def RP (P : Nat → Prop) (w : World) (A : Option Addr) (n s : Nat) (xs : List Value) : Prop :=
  0 < n → ∃ b off, A = some ⟨b, off, none⟩ ∧ P b ∧ b < w.heap.size ∧ ∀ k, k < n * s → w.cell? ⟨b, off + k, none⟩ = xs[k]?
/-- from w to w1 the blocks in P stay, and are in P' -/
def Kp (P P' : Nat → Prop) (w w1 : World) : Prop := w.heap.size ≤ w1.heap.size ∧ ∀ k, P k → k < w.heap.size → w1.heap[k]? = w.heap[k]? ∧ P' k
section
variable {P P' : Nat → Prop} {w w1 : World} {A : Option Addr} {n s : Nat} {xs ys : List Value} {L M : List Lv}
theorem Kp.grown {row : Option Nat} (hg : w.grownBy w1 row) (h : ∀ k, P k → k < w.heap.size → some k ≠ row ∧ P' k) : Kp P P' w w1 :=
  ⟨hg.size, fun k hp hk => ⟨hg.block k hk (h k hp hk).1, (h k hp hk).2⟩⟩
theorem Kp.below (hb : Below w.heap.size w w1) : Kp P P w w1 := Kp.grown (grown_of_below hb none) (fun k hp _ => ⟨by simp, hp⟩)
theorem RP.on (h : RP P w A n s xs) (hk : Kp P P' w w1) : RP P' w1 A n s xs := fun hn => by
  obtain ⟨b, off, e, hp, hb, hc⟩ := h hn
  obtain ⟨h1, h2⟩ := hk.2 b hp hb
  exact ⟨b, off, e, h2, Nat.lt_of_lt_of_le hb hk.1, fun k hk' => (World.cell?_of_block (a := ⟨b, off + k, none⟩) h1).trans (hc k hk')⟩
theorem RP.rd {l : List Rest} (h : RP P w A l.length 5 (rows l)) : Rd w w.heap.size A l.length 5 (rcell l) := fun hn => by
  obtain ⟨b, off, e, _, hb, hc⟩ := h hn
  refine ⟨b, off, e, hb, fun i hi j hj => ?_⟩
  rw [hc _ (by omega), rows_get hi hj]
theorem RP.of_rd {l : List Rest} {B : Nat} (h : Rd w B A l.length 5 (rcell l)) (hB : B ≤ w.heap.size) (hP : ∀ k, k < B → P k) : RP P w A l.length 5 (rows l) := fun hn => by
  obtain ⟨b, off, e, hb, hc⟩ := h hn
  refine ⟨b, off, e, hP b hb, by omega, fun k hk => ?_⟩
  have := hc (k / 5) (by omega) (k % 5) (by omega)
  rw [show k / 5 * 5 + k % 5 = k by omega] at this
  rw [this, ← rows_get (by omega) (by omega), show k / 5 * 5 + k % 5 = k by omega]
theorem RP.of_own {base cap : Nat} (h : OwnS w base s A n cap xs) (hP : ∀ k, base ≤ k → P k) : RP P w A n s xs := fun hn => by
  obtain ⟨g, off, e, hb, hl, h1, _⟩ := h.lies (by have := h.le; omega)
  exact ⟨g, off, e, hP g hb, hl, h1⟩
/-- the cells of levels -/
structure LC (P : Nat → Prop) (w : World) (L : List Lv) (xs : List Value) : Prop where
  len : xs.length = L.length * 2
  at_ : ∀ i x, L[i]? = some x → xs[i * 2]? = some (.int .i64 x.price) ∧ ∃ Ar cr, xs[i * 2 + 1]? = some (.slice Ar x.rs.length cr) ∧ x.rs.length ≤ cr ∧ cr ≤ maxLen ∧ RP P w Ar x.rs.length 5 (rows x.rs)
theorem LC.nil : LC P w [] [] := ⟨rfl, fun i x h => by simp at h⟩
theorem LC.on (h : LC P w L xs) (hk : Kp P P' w w1) : LC P' w1 L xs := ⟨h.len, fun i x hx => by
  obtain ⟨h1, Ar, cr, h2, h3, h4, h5⟩ := h.at_ i x hx
  exact ⟨h1, Ar, cr, h2, h3, h4, h5.on hk⟩⟩
theorem LC.cons {x : Lv} {Ar : Option Addr} {cr : Nat} (h : LC P w L xs) (h1 : x.rs.length ≤ cr) (h2 : cr ≤ maxLen) (hr : RP P w Ar x.rs.length 5 (rows x.rs)) : LC P w (x :: L) (.int .i64 x.price :: .slice Ar x.rs.length cr :: xs) := by
  refine ⟨by simp only [List.length_cons, h.len]; omega, fun i y hy => ?_⟩
  cases i with
  | zero => cases hy; exact ⟨rfl, Ar, cr, rfl, h1, h2, hr⟩
  | succ i =>
    have := h.at_ i y hy
    rw [show (i + 1) * 2 = i * 2 + 2 by omega, show i * 2 + 2 + 1 = i * 2 + 1 + 2 by omega]
    exact this
theorem LC.tail {x : Lv} {u v : Value} (h : LC P w (x :: L) (u :: v :: xs)) : LC P w L xs := by
  refine ⟨by have := h.len; simp only [List.length_cons] at this; omega, fun i y hy => ?_⟩
  have := h.at_ (i + 1) y hy
  rw [show (i + 1) * 2 = i * 2 + 2 by omega, show i * 2 + 2 + 1 = i * 2 + 1 + 2 by omega] at this
  exact this
theorem LC.app (h : LC P w L xs) (g : LC P w M ys) : LC P w (L ++ M) (xs ++ ys) := by
  refine ⟨by rw [List.length_append, List.length_append, h.len, g.len, Nat.add_mul], fun i x hx => ?_⟩
  rcases Nat.lt_or_ge i L.length with hi | hi
  · rw [List.getElem?_append_left hi] at hx
    obtain ⟨h1, Ar, cr, h2, h3⟩ := h.at_ i x hx
    have hl := h.len
    exact ⟨by rw [List.getElem?_append_left (by omega)]; exact h1, Ar, cr, by rw [List.getElem?_append_left (by omega)]; exact h2, h3⟩
  · rw [List.getElem?_append_right hi] at hx
    obtain ⟨h1, Ar, cr, h2, h3⟩ := g.at_ _ x hx
    have hl := h.len
    refine ⟨?_, Ar, cr, ?_, h3⟩
    · rw [List.getElem?_append_right (by omega), ← h1]; congr 1; omega
    · rw [List.getElem?_append_right (by omega), ← h2]; congr 1; omega
theorem LC.one (h : LC P w L xs) : ∀ u ∈ xs, u.oneCell' = true := by
  intro u hu
  obtain ⟨k, hk, rfl⟩ := List.getElem_of_mem hu
  have hl := h.len
  obtain ⟨h1, Ar, cr, h2, _⟩ := h.at_ (k / 2) _ (List.getElem?_eq_getElem (by omega))
  rcases Nat.mod_two_eq_zero_or_one k with hm | hm
  · rw [show k / 2 * 2 = k by omega, List.getElem?_eq_getElem hk] at h1
    rw [Option.some.inj h1]; rfl
  · rw [show k / 2 * 2 + 1 = k by omega, List.getElem?_eq_getElem hk] at h2
    rw [Option.some.inj h2]; rfl
/-- levels that read, with their cells -/
structure LP (P : Nat → Prop) (w : World) (A : Option Addr) (L : List Lv) (xs : List Value) : Prop where
  rd : RP P w A L.length 2 xs
  c : LC P w L xs
theorem LP.on (h : LP P w A L xs) (hk : Kp P P' w w1) : LP P' w1 A L xs := ⟨h.rd.on hk, h.c.on hk⟩
theorem LP.of_own {base cap : Nat} (h : OwnS w base 2 A n cap xs) (hc : LC P w L xs) (hn : n = L.length) (hP : ∀ k, base ≤ k → P k) : LP P w A L xs := ⟨hn ▸ RP.of_own h hP, hc⟩
theorem LP.lv (h : LP P w A L xs) : RdLv w w.heap.size A L := fun h0 => by
  obtain ⟨b, off, e, _, hb, hc⟩ := h.rd h0
  refine ⟨b, off, e, hb, fun i x hx => ?_⟩
  have hi : i < L.length := (List.getElem?_eq_some_iff.1 hx).1
  obtain ⟨h1, Ar, cr, h2, h3, h4, h5⟩ := h.c.at_ i x hx
  exact ⟨(hc _ (by omega)).trans h1, Ar, cr, by rw [Nat.add_assoc]; exact (hc _ (by omega)).trans h2, h3, h4, h5.rd⟩
theorem LP.of_lv {B : Nat} (h : RdLv w B A L) (hB : B ≤ w.heap.size) (hP : ∀ k, k < B → P k) : ∃ xs, LP P w A L xs := by
  obtain ⟨xs, h1, h2⟩ := h.cells
  refine ⟨xs, fun h0 => ?_, h1.len, fun i x hx => ?_⟩
  · obtain ⟨b, off, e, hb, hc⟩ := h2 h0
    refine ⟨b, off, e, hP b hb, by omega, fun k hk => ?_⟩
    have := hc (k / 2) (by omega) (k % 2) (by omega)
    rw [show k / 2 * 2 + k % 2 = k by omega] at this
    have hl := h1.len
    rw [this]
    simp only [show k / 2 * 2 + k % 2 = k by omega]
    rw [List.getD_eq_getElem?_getD, List.getElem?_eq_getElem (by omega)]; rfl
  · obtain ⟨a, Ar, cr, b, c, d, e⟩ := h1.at_ i x hx
    exact ⟨a, Ar, cr, b, c, d, RP.of_rd e hB hP⟩
/-- the first level's cells, and its first rest's -/
theorem LP.top {x : Lv} (h : LP P w A (x :: L) xs) : ∃ b off Ar cr ys, A = some ⟨b, off, none⟩ ∧ xs = .int .i64 x.price :: .slice Ar x.rs.length cr :: ys ∧ b < w.heap.size ∧ P b ∧ w.cell? ⟨b, off, none⟩ = some (.int .i64 x.price) ∧ w.cell? ⟨b, off + 1, none⟩ = some (.slice Ar x.rs.length cr) ∧ x.rs.length ≤ cr ∧ cr ≤ maxLen ∧ RP P w Ar x.rs.length 5 (rows x.rs) ∧ LC P w L ys := by
  obtain ⟨b, off, e, hp, hb, hc⟩ := h.rd (by simp)
  obtain ⟨h1, Ar, cr, h2, h3, h4, h5⟩ := h.c.at_ 0 x rfl
  have hl := h.c.len
  have c0 := hc 0 (by simp)
  have c1 := hc 1 (by simp only [List.length_cons]; omega)
  obtain ⟨u, v, ys, rfl⟩ : ∃ u v ys, xs = u :: v :: ys := by
    match xs, hl with
    | u :: v :: ys, _ => exact ⟨u, v, ys, rfl⟩
  cases h1; cases h2
  exact ⟨b, off, Ar, cr, ys, e, rfl, hb, hp, c0, c1, h3, h4, h5, h.c.tail⟩
/-- the first rest's cells -/
theorem RP.first {r : Rest} {t : List Rest} (h : RP P w A (t.length + 1) 5 (rows (r :: t))) : ∃ g off, A = some ⟨g, off, none⟩ ∧ g < w.heap.size ∧ w.cell? ⟨g, off, none⟩ = some (.int .i64 r.id) ∧ w.cell? ⟨g, off + 1, none⟩ = some (.int .i64 r.who) ∧ w.cell? ⟨g, off + 2, none⟩ = some (.int .i64 r.qty) ∧ w.cell? ⟨g, off + 3, none⟩ = some (.int .i64 r.hidden) ∧ w.cell? ⟨g, off + 4, none⟩ = some (.int .i64 r.show_) := by
  obtain ⟨g, off, e, _, h2, h3⟩ := h (by omega)
  exact ⟨g, off, e, h2, h3 0 (by omega), h3 1 (by omega), h3 2 (by omega), h3 3 (by omega), h3 4 (by omega)⟩
/-- l[1:], as what is appended -/
theorem LP.src_tail {x : Lv} {u v : Value} {ys : List Value} {b off c tx e : Nat} (h : LP P w (some ⟨b, off, none⟩) (x :: L) (u :: v :: ys)) (hk : Tryz.prog.underlying tx = some (.slice e)) : Src Tryz.prog 2 tx (.slice (some ⟨b, off + 2, none⟩) L.length c) L.length ys w := by
  have hl := h.c.tail.len
  refine src_rd (B := w.heap.size) (f := fun i j => ys.getD (i * 2 + j) undef) (fun h0 => ?_) hk hl (fun i j hi hj => ?_) h.c.tail.one (fun hh => by cases hh)
  · obtain ⟨b', off', e, _, hb, hc⟩ := h.rd (by simp)
    cases e
    refine ⟨b, off + 2, rfl, hb, fun i hi j hj => ?_⟩
    have := hc (i * 2 + j + 2) (by simp only [List.length_cons]; omega)
    rw [show off + 2 + (i * 2 + j) = off + (i * 2 + j + 2) by omega, this]
    show ys[i * 2 + j]? = some (ys.getD (i * 2 + j) undef)
    rw [List.getD_eq_getElem?_getD, List.getElem?_eq_getElem (by omega)]; rfl
  · rw [List.getD_eq_getElem?_getD, List.getElem?_eq_getElem (by omega)]; rfl
/-- nothing, as what is appended -/
theorem src_none {A : Option Addr} {c tx e : Nat} (hk : Tryz.prog.underlying tx = some (.slice e)) (hA : A = none → True) : Src Tryz.prog 2 tx (.slice A 0 c) 0 [] w :=
  src_rd (B := w.heap.size) (f := fun _ _ => undef) Rd.nil hk rfl (fun i j hi _ => by omega) (fun u hu => by simp at hu) (fun _ => rfl)
end
end Go.Proofs.YtkdgpdijbobmkaaGreat
