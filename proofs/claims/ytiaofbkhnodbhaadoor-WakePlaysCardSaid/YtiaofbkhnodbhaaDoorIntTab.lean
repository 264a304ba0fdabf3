/- An argument that is a slice of slices of integers. -/
import Derived.Test.YtiaofbkhnodbhaaDoorGrpA
import Derived.Deep.Matrix
namespace Go.Proofs.YtiaofbkhnodbhaaDoor
set_option linter.all false
open Go.RowKit Go.ChangeShapes Go.WideShapes Go.Deep
/-- the slice at A has n elements, each a slice of integers, all there -/
def RdRows (w : World) (A : Option Addr) (n : Nat) : Prop :=
  n ≤ maxLen ∧ (0 < n → ∃ b off, A = some ⟨b, off, none⟩ ∧ b < w.heap.size ∧ ∀ i, i < n → ∃ A' L C, w.cell? ⟨b, off + i, none⟩ = some (.slice A' L C) ∧ L ≤ maxLen ∧
    (0 < L → ∃ b' off', A' = some ⟨b', off', none⟩ ∧ b' < w.heap.size ∧ ∀ j, j < L → ∃ z : Int, w.cell? ⟨b', off' + j, none⟩ = some (.int .i64 z)))
theorem spot0 {b off : Nat} {spot : Option Nat} {w : World} {v : Value} (h : w.cell? ((⟨b, off, spot⟩ : Addr).add 0) = some v) : spot = none := by
  simpa [Addr.add] using World.cell?_spot h
theorem add_lit1 {b off k : Nat} {w : World} {v : Value} (h : w.cell? ((⟨b, off, none⟩ : Addr).add k) = some v) : w.cell? ⟨b, off + k, none⟩ = some v := by
  have : (⟨b, off, none⟩ : Addr).add k = ⟨b, off + k, none⟩ := by unfold Addr.add; split <;> simp_all
  rwa [this] at h
set_option maxRecDepth 100000 in
theorem Arg.introws {H : Type} {enc : TypeId × Value → H} {w : World} {base : Nat} {v : Value} {d : DataW H} {p : List MemPlace} (h : Arg enc w base 53 v d p) : ∃ A n c, v = .slice A n c ∧ RdRows w A n := by
  obtain ⟨A, n, cap, rfl⟩ := okWide_slice Tryd.underlying53 h.ok
  obtain ⟨fuel, hf⟩ := h.rd
  refine ⟨A, n, cap, rfl, ?_⟩
  rcases open_int_rows Tryd.underlying53 Tryd.underlying56 Tryd.underlying3 (by kernel_rfl) (by kernel_rfl) hf with ⟨h0, _⟩ | ⟨a, len, cp, AA, L, C, Z, hcs, _, hl, hm, _, hx⟩
  · simp only [Value.cells, List.cons.injEq, Value.slice.injEq, and_true] at h0
    obtain ⟨rfl, rfl, rfl⟩ := h0
    exact ⟨Nat.zero_le _, fun h => absurd h (by omega)⟩
  · simp only [Value.cells, List.cons.injEq, Value.slice.injEq, and_true] at hcs
    obtain ⟨rfl, rfl, rfl⟩ := hcs
    refine ⟨by omega, fun hn => ?_⟩
    obtain ⟨b, off, spot⟩ := a
    have hs := spot0 (hx 0 (by omega)).1
    subst hs
    have h00 := add_lit1 (hx 0 (by omega)).1
    refine ⟨b, off, rfl, World.block_lt_of_cell? w _ h00, fun i hi => ?_⟩
    obtain ⟨e1, e2, e3, e4, _, e6, e7⟩ := hx i (by omega)
    refine ⟨AA i, L i, C i, add_lit1 e1, by omega, fun hL => ?_⟩
    cases hA : AA i with
    | none => exact absurd (e6 hA) (by omega)
    | some a' =>
      obtain ⟨b', off', spot'⟩ := a'
      obtain ⟨_, hc⟩ := e7 _ hA
      have hs := spot0 (hc 0 (by omega))
      subst hs
      have h01 := add_lit1 (hc 0 (by omega))
      exact ⟨b', off', rfl, World.block_lt_of_cell? w _ h01, fun j hj => ⟨_, add_lit1 (hc j (by omega))⟩⟩
end Go.Proofs.YtiaofbkhnodbhaaDoor
