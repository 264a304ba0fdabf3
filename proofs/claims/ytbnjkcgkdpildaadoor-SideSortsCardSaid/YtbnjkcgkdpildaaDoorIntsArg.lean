/- An argument that is a slice of integers. -/
import Derived.Test.YtbnjkcgkdpildaaDoorGrpA
import Derived.Deep.Slices
import Derived.ChangeSlices
namespace Go.Proofs.YtbnjkcgkdpildaaDoor
set_option linter.all false
open Go.RowKit Go.ChangeShapes Go.WideShapes Go.Deep
/-- a slice of integers reads as l -/
def RdI (w : World) (B : Nat) (A : Option Addr) (l : List Int) : Prop :=
  0 < l.length → ∃ b off, A = some ⟨b, off, none⟩ ∧ b < B ∧ ∀ i p, l[i]? = some p → w.cell? ⟨b, off + i, none⟩ = some (.int .i64 p)
theorem RdI.below {w w' : World} {B : Nat} {A : Option Addr} {l : List Int} (h : RdI w B A l) (hb : Below B w w') : RdI w' B A l := fun hn => by
  obtain ⟨b, off, e, hbl, hc⟩ := h hn
  exact ⟨b, off, e, hbl, fun i p hi => (hb.cell (p := ⟨b, _, none⟩) hbl).trans (hc i p hi)⟩
theorem ri_at {w : World} {B k : Nat} {A : Option Addr} {l : List Int} (hr : RdI w B A l) (hk : k < l.length) : ∃ b off p, A = some ⟨b, off, none⟩ ∧ b < B ∧ l[k]? = some p ∧ w.cell? ⟨b, off + k, none⟩ = some (.int .i64 p) := by
  obtain ⟨b, off, e, hb, hc⟩ := hr (by omega)
  exact ⟨b, off, l[k], e, hb, List.getElem?_eq_getElem hk, hc k _ (List.getElem?_eq_getElem hk)⟩
theorem int_cells1 : Tryd.prog.cellsOf 3 = 1 := by kernel_rfl
set_option maxRecDepth 100000 in
theorem Arg.ints {H : Type} {enc : TypeId × Value → H} {w : World} {base : Nat} {v : Value} {d : DataW H} {p : List MemPlace} (h : Arg enc w base 43 v d p) :
    ∃ (A : Option Addr) (l : List Int) (c : Nat), v = .slice A l.length c ∧ l.length ≤ maxLen ∧ RdI w w.heap.size A l := by
  obtain ⟨A, n, cap, rfl⟩ := okWide_slice Tryd.underlying43 h.ok
  obtain ⟨fuel, hf⟩ := h.rd
  rcases open_ints Tryd.underlying43 Tryd.underlying3 int_cells1 hf with ⟨h0, _⟩ | ⟨a, len, cp, zs, hcs, _, hl, hm, hz, _, hx, _⟩
  · simp only [Value.cells, List.cons.injEq, Value.slice.injEq, and_true] at h0
    obtain ⟨rfl, rfl, rfl⟩ := h0
    exact ⟨none, [], 0, rfl, Nat.zero_le _, fun h => absurd h (by simp)⟩
  · simp only [Value.cells, List.cons.injEq, Value.slice.injEq, and_true] at hcs
    obtain ⟨rfl, rfl, rfl⟩ := hcs
    have hzl : n ≤ zs.length := by rw [hz]; split <;> omega
    refine ⟨some a, zs.take n, cap, by rw [List.length_take, Nat.min_eq_left hzl], by rw [List.length_take]; omega, fun hn => ?_⟩
    rw [List.length_take, Nat.min_eq_left hzl] at hn
    obtain ⟨b, off, spot⟩ := a
    have h0 := hx 0 (by omega)
    have hs : spot = none := by simpa [Addr.add] using World.cell?_spot h0
    subst hs
    have hadd : ∀ k, (⟨b, off, none⟩ : Addr).add k = ⟨b, off + k, none⟩ := fun k => by unfold Addr.add; split <;> simp_all
    have hb := World.block_lt_of_cell? w _ h0
    rw [hadd] at hb
    refine ⟨b, off, rfl, hb, fun i p hp => ?_⟩
    have hi : i < n := by have := (List.getElem?_eq_some_iff.1 hp).1; rw [List.length_take] at this; omega
    have h1 := hx i (by omega)
    rw [hadd] at h1
    rw [List.getElem?_take_of_lt hi] at hp
    rw [h1, List.getD_eq_getElem?_getD, hp]
    rfl
end Go.Proofs.YtbnjkcgkdpildaaDoor
