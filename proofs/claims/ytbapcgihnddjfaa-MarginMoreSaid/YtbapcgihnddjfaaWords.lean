/- Memory in words: a slice that reads as so many elements of so many cells. -/
import Derived.Test.YtbapcgihnddjfaaBase
import Derived.Deep.Draws
import Derived.Deep.AppendLies
import Derived.Laws.OwnMore
import Derived.Laws.Rows
import Derived.Deep.RegionHeld3
namespace Go.Proofs.Ytbapcgihnddjfaa
open Go.RowKit

/-- the slice at A has n elements of s cells, all below block B: cell j of element i is c i j -/
def Rd (w : World) (B : Nat) (A : Option Addr) (n s : Nat) (c : Nat → Nat → Value) : Prop :=
  0 < n → ∃ b off, A = some ⟨b, off, none⟩ ∧ b < B ∧ ∀ i, i < n → ∀ j, j < s → w.cell? ⟨b, off + (i * s + j), none⟩ = some (c i j)

section
variable {w w' : World} {B B' n s : Nat} {A : Option Addr} {c : Nat → Nat → Value}
theorem Rd.nil : Rd w B A 0 s c := fun h => absurd h (by omega)
theorem Rd.keep (h : Rd w B A n s c) (hk : ∀ p : Addr, p.block < B → w'.cell? p = w.cell? p) : Rd w' B A n s c := fun hn => by
  obtain ⟨b, off, e, hb, hc⟩ := h hn
  exact ⟨b, off, e, hb, fun i hi j hj => (hk _ hb).trans (hc i hi j hj)⟩
theorem Rd.more (h : Rd w B A n s c) (hB : B ≤ B') : Rd w B' A n s c := fun hn => by
  obtain ⟨b, off, e, hb, hc⟩ := h hn
  exact ⟨b, off, e, by omega, hc⟩
theorem Rd.below (h : Rd w B A n s c) (hb : Below B w w') : Rd w' B A n s c := h.keep fun _ hp => hb.cell hp
end

/-- block g of world w' is there and has just these cells; below the size of w nothing has turned -/
theorem held_new {w w1 : World} {t : TypeId} {cs : Array Value} (hb : Below (w.heap.size + 1) (w.alloc (.cells cs t)) w1) :
    w.heap.size < w1.heap.size ∧ (∀ i, w1.cell? ⟨w.heap.size, i, none⟩ = cs[i]?) ∧ Below w.heap.size w w1 := by
  refine ⟨?_, fun i => ?_, ?_⟩
  · have := hb.size; simp at this; omega
  · rw [hb.cell (p := ⟨w.heap.size, i, none⟩) (by simp)]
    exact cell_of_row _ _ i cs t (0, 0) (heap_alloc_new w _)
  · exact ((Below.refl _ _).alloc (Nat.le_refl _) _).trans (hb.mono (by simp))
theorem held_next {w w1 w2 : World} {g : Nat} {cs : Array Value} (h1 : g < w1.heap.size) (h2 : ∀ i, w1.cell? ⟨g, i, none⟩ = cs[i]?) (h3 : Below w.heap.size w w1) (hz : w.heap.size ≤ w1.heap.size) (hb : Below w1.heap.size w1 w2) :
    g < w2.heap.size ∧ (∀ i, w2.cell? ⟨g, i, none⟩ = cs[i]?) ∧ Below w.heap.size w w2 :=
  ⟨Nat.lt_of_lt_of_le h1 hb.size, fun i => (hb.cell (p := ⟨g, i, none⟩) h1).trans (h2 i), h3.trans (hb.mono hz)⟩
theorem cell_alloc {w : World} {p : Addr} {v : Value} (h : w.cell? p = some v) (o : Obj) : (w.alloc o).cell? p = some v := (World.cell?_alloc_lt _ _ _ (World.block_lt_of_cell? w p h)).trans h
theorem cell_alloc_drew {w : World} {p : Addr} {v : Value} (h : w.cell? p = some v) (o : Obj) : (w.alloc o).drew.cell? p = some v := (World.cell?_alloc_lt _ _ _ (World.block_lt_of_cell? w p h)).trans h
theorem cell_drew {w : World} {p : Addr} {v : Value} (h : w.cell? p = some v) : w.drew.cell? p = some v := h
theorem below_alloc {B : Nat} {w w1 : World} (h : Below B w w1) (hB : B ≤ w.heap.size) (o : Obj) : Below B w (w1.alloc o) := h.alloc (Nat.le_trans hB h.size) o
theorem below_alloc_drew {B : Nat} {w w1 : World} (h : Below B w w1) (hB : B ≤ w.heap.size) (o : Obj) : Below B w (w1.alloc o).drew := (h.alloc (Nat.le_trans hB h.size) o).drew
theorem below_then {w w1 w2 : World} (h : Below w1.heap.size w1 w2) (h0 : Below w.heap.size w w1) : Below w.heap.size w w2 := h0.trans (h.mono h0.size)
theorem below_then_alloc {w w1 : World} {o : Obj} (h0 : Below w.heap.size w w1) : Below w.heap.size w (w1.alloc o) := h0.alloc h0.size o
end Go.Proofs.Ytbapcgihnddjfaa
