/- Memory in words: a slice that reads as so many elements of so many cells. -/
import Derived.Test.YtbnjkcgkdpildaaDoorBase
import Derived.Deep.Draws
import Derived.Deep.AppendLies
import Derived.Laws.OwnMore
import Derived.Laws.Rows
import Derived.Deep.RegionHeld3
namespace Go.Proofs.YtbnjkcgkdpildaaDoor
set_option linter.all false
open Go.RowKit

/-- the slice at A has n elements of s cells, all below block B: cell j of element i is c i j -/
def Rd (w : World) (B : Nat) (A : Option Addr) (n s : Nat) (c : Nat → Nat → Value) : Prop :=
  0 < n → ∃ b off, A = some ⟨b, off, none⟩ ∧ b < B ∧ ∀ i, i < n → ∀ j, j < s → w.cell? ⟨b, off + (i * s + j), none⟩ = some (c i j)

section
variable {w w' : World} {B B' n s : Nat} {A : Option Addr} {c : Nat → Nat → Value}
theorem Rd.nil : Rd w B A 0 s c := fun h => absurd h (by omega)
theorem Rd.keep (h : Rd w B A n s c) (hk : ∀ p : Addr, p.block < B → w'.cell? p = w.cell? p) : Rd w' B A n s c := fun hn => by
  obtain ⟨b, off, e, hb, hc⟩ := h hn
  exact ⟨b, off, e, hb, fun i hi j hj => (hk _ hb).trans (hc i hi j hj)⟩
theorem Rd.more (h : Rd w B A n s c) (hB : B ≤ B') : Rd w B' A n s c := fun hn => by
  obtain ⟨b, off, e, hb, hc⟩ := h hn
  exact ⟨b, off, e, by omega, hc⟩
theorem Rd.below (h : Rd w B A n s c) (hb : Below B w w') : Rd w' B A n s c := h.keep fun _ hp => hb.cell hp
end

/-- block g of world w' is there and has just these cells; below the size of w nothing has turned -/
theorem held_new {w w1 : World} {t : TypeId} {cs : Array Value} (hb : Below (w.heap.size + 1) (w.alloc (.cells cs t)) w1) :
    w.heap.size < w1.heap.size ∧ (∀ i, w1.cell? ⟨w.heap.size, i, none⟩ = cs[i]?) ∧ Below w.heap.size w w1 := by
  refine ⟨?_, fun i => ?_, ?_⟩
  · have := hb.size; simp at this; omega
  · rw [hb.cell (p := ⟨w.heap.size, i, none⟩) (by simp)]
    exact cell_of_row _ _ i cs t (0, 0) (heap_alloc_new w _)
  · exact ((Below.refl _ _).alloc (Nat.le_refl _) _).trans (hb.mono (by simp))
theorem held_next {w w1 w2 : World} {g : Nat} {cs : Array Value} (h1 : g < w1.heap.size) (h2 : ∀ i, w1.cell? ⟨g, i, none⟩ = cs[i]?) (h3 : Below w.heap.size w w1) (hz : w.heap.size ≤ w1.heap.size) (hb : Below w1.heap.size w1 w2) :
    g < w2.heap.size ∧ (∀ i, w2.cell? ⟨g, i, none⟩ = cs[i]?) ∧ Below w.heap.size w w2 :=
  ⟨Nat.lt_of_lt_of_le h1 hb.size, fun i => (hb.cell (p := ⟨g, i, none⟩) h1).trans (h2 i), h3.trans (hb.mono hz)⟩
theorem cell_alloc {w : World} {p : Addr} {v : Value} (h : w.cell? p = some v) (o : Obj) : (w.alloc o).cell? p = some v := (World.cell?_alloc_lt _ _ _ (World.block_lt_of_cell? w p h)).trans h
theorem cell_alloc_drew {w : World} {p : Addr} {v : Value} (h : w.cell? p = some v) (o : Obj) : (w.alloc o).drew.cell? p = some v := (World.cell?_alloc_lt _ _ _ (World.block_lt_of_cell? w p h)).trans h
theorem cell_drew {w : World} {p : Addr} {v : Value} (h : w.cell? p = some v) : w.drew.cell? p = some v := h
theorem below_alloc {B : Nat} {w w1 : World} (h : Below B w w1) (hB : B ≤ w.heap.size) (o : Obj) : Below B w (w1.alloc o) := h.alloc (Nat.le_trans hB h.size) o
theorem below_alloc_drew {B : Nat} {w w1 : World} (h : Below B w w1) (hB : B ≤ w.heap.size) (o : Obj) : Below B w (w1.alloc o).drew := (h.alloc (Nat.le_trans hB h.size) o).drew
theorem below_then {w w1 w2 : World} (h : Below w1.heap.size w1 w2) (h0 : Below w.heap.size w w1) : Below w.heap.size w w2 := h0.trans (h.mono h0.size)
theorem below_then_alloc {w w1 : World} {o : Obj} (h0 : Below w.heap.size w w1) : Below w.heap.size w (w1.alloc o) := h0.alloc h0.size o
section
variable {α : Type} {f : α → List Value} {s : Nat}
theorem flat_len (hs : ∀ a, (f a).length = s) (l : List α) : (l.flatMap f).length = l.length * s := by
  induction l with
  | nil => simp
  | cons x l ih => simp [List.flatMap_cons, hs, ih, Nat.succ_mul, Nat.add_comm]
theorem flat_get (hs : ∀ a, (f a).length = s) {l : List α} {i j : Nat} {a : α} (hi : l[i]? = some a) (hj : j < s) : (l.flatMap f)[i * s + j]? = (f a)[j]? := by
  induction l generalizing i with
  | nil => simp at hi
  | cons x l ih =>
    rw [List.flatMap_cons]
    cases i with
    | zero =>
      simp only [List.getElem?_cons_zero, Option.some.injEq] at hi
      subst hi
      rw [Nat.zero_mul, Nat.zero_add, List.getElem?_append_left (by rw [hs]; exact hj)]
    | succ i =>
      rw [List.getElem?_cons_succ] at hi
      rw [List.getElem?_append_right (by rw [hs, Nat.succ_mul]; omega), hs, show (i + 1) * s + j - s = i * s + j by rw [Nat.succ_mul]; omega]
      exact ih hi
theorem flat_all {p : Value → Prop} (hf : ∀ a, ∀ u ∈ f a, p u) (l : List α) : ∀ u ∈ l.flatMap f, p u := by
  intro u hu
  obtain ⟨a, _, h⟩ := List.mem_flatMap.1 hu
  exact hf a u h
/-- a row of the call's own reads -/
theorem Rd.of_own {base : Nat} {e : TypeId} {A : Option Addr} {n c : Nat} {w : World} {xs : List Value} {g : Nat → Nat → Value} (h : w.ownsRow base e s (.slice A n c) n xs) (hx : ∀ i j, i < n → j < s → xs[i * s + j]? = some (g i j)) : Rd w w.heap.size A n s g := by
  intro hn
  rcases h.2 with ⟨_, h0⟩ | ⟨b, cap, cur, hv, _, hh, _⟩
  · omega
  · have hA : A = some ⟨b, 0, none⟩ := by injection hv
    subst hA
    have hb : b < w.heap.size := by
      rcases Nat.lt_or_ge b w.heap.size with hlt | hge
      · exact hlt
      · rw [Array.getElem?_eq_none hge] at hh; cases hh
    refine ⟨b, 0, rfl, hb, fun i hi j hj => ?_⟩
    have := h.cells (g := b) rfl (i * s + j) _ (hx i j hi hj)
    rw [← this]
    unfold Addr.add
    split <;> simp_all
end
/-- behind an append to a row of the call's own: what was laid since the row was known stands still -/
theorem cell_behind {w w2 w3 : World} {base n s : Nat} {e : TypeId} {v : Value} {xs : List Value} (hown : w.ownsRow base e s v n xs) (hg : w2.grownBy w3 v.ownBlock) {p : Addr} (h1 : w.heap.size ≤ p.block) (h2 : p.block < w2.heap.size) : w3.cell? p = w2.cell? p :=
  World.cell?_of_block (hg.block p.block h2 (fun e => by have := (hown.lt _ e.symm).2; omega))
/-- behind an append to a row of the call's own: below the call's start nothing has turned -/
theorem below_grown {w0 w w2 w3 : World} {n s : Nat} {e : TypeId} {v : Value} {xs : List Value} (hown : w.ownsRow w0.heap.size e s v n xs) (hg : w2.grownBy w3 v.ownBlock) (hb : Below w0.heap.size w0 w2) : Below w0.heap.size w0 w3 :=
  hb.grown hg hb.size (fun _ hk => (hown.lt _ hk).1)
theorem own_shape {w : World} {base n s : Nat} {e : TypeId} {v : Value} {xs : List Value} (hown : w.ownsRow base e s v (n + 1) xs) : ∃ g cap, v = .slice (some ⟨g, 0, none⟩) (n + 1) cap := by
  obtain ⟨g, cap, h, _⟩ := hown.form (by omega)
  exact ⟨g, cap, h⟩
/-- a block that was just laid, as the source of an append -/
theorem news_row (w : World) (cs : List Value) (t : TypeId) (B : Nat) (hB : w.heap.size = B) : ∀ j u, cs[j]? = some u → (w.alloc (.cells cs.toArray t)).cell? ((⟨B, 0, none⟩ : Addr).add j) = some u := by
  intro j u hu
  subst hB
  have h := cell_of_row (w.alloc (.cells cs.toArray t)) w.heap.size j cs.toArray t (0, 0) (heap_alloc_new w _)
  have : (⟨w.heap.size, 0, none⟩ : Addr).add j = ⟨w.heap.size, j, none⟩ := by unfold Addr.add; split <;> simp_all
  rw [this, h]
  simpa using hu
theorem grown_of_below {w w' : World} (hb : Below w.heap.size w w') (r : Option Nat) : w.grownBy w' r := ⟨hb.os, hb.tape, hb.output, hb.size, fun i hi _ => hb.block i hi⟩
theorem own_below {w w' : World} {base n s : Nat} {e : TypeId} {v : Value} {xs : List Value} (h : w.ownsRow base e s v n xs) (hb : Below w.heap.size w w') : w'.ownsRow base e s v n xs :=
  h.kept (grown_of_below hb none) (by cases hv : v.ownBlock <;> simp)
/-- the last element of five cells stored -/
theorem own_store5 {w : World} {base g cap m : Nat} {e : TypeId} {A : List Value} {x0 x1 x2 x3 x4 : Value} (h : w.ownsRow base e 5 (.slice (some ⟨g, 0, none⟩) (m + 1) cap) (m + 1) (A ++ [x0, x1, x2, x3, x4])) (hA : A.length = m * 5) (a b c d f : Value) :
    (((((w.setCell ⟨g, m * 5, none⟩ a).setCell ⟨g, m * 5 + 1, none⟩ b).setCell ⟨g, m * 5 + 2, none⟩ c).setCell ⟨g, m * 5 + 3, none⟩ d).setCell ⟨g, m * 5 + 4, none⟩ f).ownsRow base e 5 (.slice (some ⟨g, 0, none⟩) (m + 1) cap) (m + 1) (A ++ [a, b, c, d, f]) ∧
    w.grownBy (((((w.setCell ⟨g, m * 5, none⟩ a).setCell ⟨g, m * 5 + 1, none⟩ b).setCell ⟨g, m * 5 + 2, none⟩ c).setCell ⟨g, m * 5 + 3, none⟩ d).setCell ⟨g, m * 5 + 4, none⟩ f) (some g) := by
  obtain ⟨h1, g1⟩ := h.stored (m * 5) a
  obtain ⟨h2, g2⟩ := h1.stored (m * 5 + 1) b
  obtain ⟨h3, g3⟩ := h2.stored (m * 5 + 2) c
  obtain ⟨h4, g4⟩ := h3.stored (m * 5 + 3) d
  obtain ⟨h5, g5⟩ := h4.stored (m * 5 + 4) f
  refine ⟨?_, g1.trans (g2.trans (g3.trans (g4.trans g5)))⟩
  have : (((((A ++ [x0, x1, x2, x3, x4]).set (m * 5) a).set (m * 5 + 1) b).set (m * 5 + 2) c).set (m * 5 + 3) d).set (m * 5 + 4) f = A ++ [a, b, c, d, f] := by
    rw [← hA]
    simp [List.set_append]
  rw [this] at h5
  exact h5
theorem below_drewN {B : Nat} {a w : World} (h : Below B a w) (n : Nat) : Below B a (w.drewN n) := ⟨h.os, h.tape, h.output, h.size, h.block⟩
end Go.Proofs.YtbnjkcgkdpildaaDoor
