/- Arguments that are slices of structs of integers, structs among them. -/
import Derived.Test.YtodkhhanlhelnaaGrpS
namespace Go.Proofs.Ytodkhhanlhelnaa
set_option linter.all false
open Go.RowKit Go.ChangeShapes Go.WideShapes Go.Deep
section
variable {H : Type} {enc : TypeId × Value → H} {w : World} {base : Nat} {spare : Nat → Bool} {held : Bool}
/-- the first n cells are integers -/
def IntsAt (n : Nat) (cs : List Value) : Prop := ∀ j, j < n → ∃ v : Int, cs[j]? = some (.int .i64 v)
theorem int_cells {t : TypeId} {fuel : Nat} {cs : List Value} {x : DataW H × List MemPlace} (ht : Try.prog.underlying t = some (.int .i64)) (h : DataW.trod enc Try.prog w base spare held fuel t cs = some x) : IntsAt 1 cs := by
  intro j hj
  obtain rfl : j = 0 := by omega
  obtain ⟨v, e0, _, _⟩ := DataW.trod_int ht h
  exact ⟨v, by rw [e0]; rfl⟩
theorem flat_cells {e : TypeId} {fs : Array Field} {fuel : Nat} {cs : List Value} {x : DataW H × List MemPlace} (he : Try.prog.underlying e = some (.struct fs))
    (hone : oneCellFields Try.prog fs = true) (hint : ∀ (j : Nat) (f : Field), fs[j]? = some f → Try.prog.underlying f.type = some (.int .i64)) (h : DataW.trod enc Try.prog w base spare held fuel e cs = some x) : IntsAt fs.size cs := by
  intro j hj
  obtain ⟨ys, n', hn', hy, hlen, hyl, hf⟩ := DataW.trod_struct he h
  have hjf : fs[j]? = some fs[j] := Array.getElem?_eq_getElem hj
  obtain ⟨ho, hk⟩ := hone_of hone j fs[j] hjf
  have h1 := hf j fs[j] hjf
  rw [ho, hk] at h1
  have hys : ys[j]? = some (ys[j]'(by omega)) := List.getElem?_eq_getElem (by omega)
  rw [hys] at h1
  obtain ⟨v, hv⟩ := int_cells (hint j _ hjf) h1 0 (by omega)
  refine ⟨v, ?_⟩
  rw [List.getElem?_take_of_lt (by omega), List.getElem?_drop] at hv
  exact hv
/-- the cells of a field -/
theorem part_cells {cs : List Value} {o m : Nat} (h : IntsAt m ((cs.drop o).take m)) : ∀ j, j < m → ∃ v : Int, cs[o + j]? = some (.int .i64 v) := by
  intro j hj
  obtain ⟨v, hv⟩ := h j hj
  rw [List.getElem?_take_of_lt hj, List.getElem?_drop] at hv
  exact ⟨v, hv⟩
theorem trod_rowsN {t e n : Nat} {fuel : Nat} {cs : List Value} {x : DataW H × List MemPlace} (ht : Try.prog.underlying t = some (.slice e)) (hC : Try.prog.cellsOf e = n)
    (hE : ∀ (fuel : Nat) (cs : List Value) (x : DataW H × List MemPlace), DataW.trod enc Try.prog w base spare held fuel e cs = some x → IntsAt n cs) (h : DataW.trod enc Try.prog w base spare held fuel t cs = some x) :
    cs = [.slice none 0 0] ∨
    ∃ (a : Addr) (len cap : Nat), cs = [.slice (some a) len cap] ∧ len ≤ cap ∧ ∀ i, i < len → ∀ j, j < n → ∃ v : Int, w.cell? (a.add (i * n + j)) = some (.int .i64 v) := by
  rcases open_slice ht h with ⟨h0, _⟩ | ⟨a, len, cap, m, n', D, Pl, hcs, hb, hl, hm, hmm, hx, hi⟩
  · exact .inl h0
  · refine .inr ⟨a, len, cap, hcs, hl, fun i him j hj => ?_⟩
    have hlm : len ≤ m := by rw [hmm]; split <;> omega
    obtain ⟨cs', hc, ht'⟩ := hi i (by omega)
    rw [hC] at hc
    obtain ⟨_, hcl, hat⟩ := World.cells?_some hc
    obtain ⟨v, hv⟩ := hE _ _ _ ht' j hj
    refine ⟨v, ?_⟩
    rw [← Go.Deep.add_add, hat j hj, hv]
set_option maxRecDepth 100000 in
theorem open_rowsN (s : Nat) {t e : TypeId} {v : Value} {d : DataW H} {p : List MemPlace} {base0 : Nat} (ht : Try.prog.underlying t = some (.slice e)) (hC : Try.prog.cellsOf e = s) (hpos : 0 < s)
    (hE : ∀ (fuel : Nat) (cs : List Value) (x : DataW H × List MemPlace), DataW.trod enc Try.prog w 0 (fun _ => true) true fuel e cs = some x → IntsAt s cs) (ha : Arg enc w base0 t v d p) :
    ∃ A n cap, v = .slice A n cap ∧ n ≤ cap ∧ (0 < n → ∃ b off, A = some ⟨b, off, none⟩ ∧ b < w.heap.size ∧ ∀ i, i < n → ∀ j, j < s → w.cell? ⟨b, off + (i * s + j), none⟩ = some (.int .i64 (cellInt w ⟨b, off + (i * s + j), none⟩))) := by
  obtain ⟨A, n, cap, rfl⟩ := okWide_slice ht ha.ok
  obtain ⟨fuel, hf⟩ := ha.rd
  rcases trod_rowsN ht hC hE hf with h | ⟨a, len, cap', hcs, hl, hc⟩
  · simp only [Value.cells, List.cons.injEq, Value.slice.injEq, and_true] at h
    obtain ⟨rfl, rfl, rfl⟩ := h
    exact ⟨none, 0, 0, rfl, Nat.le_refl _, fun h => absurd h (by omega)⟩
  · simp only [Value.cells, List.cons.injEq, Value.slice.injEq, and_true] at hcs
    obtain ⟨rfl, rfl, rfl⟩ := hcs
    refine ⟨_, _, _, rfl, hl, fun hn => ?_⟩
    obtain ⟨b, off, spot⟩ := a
    obtain ⟨v0, h0⟩ := hc 0 hn 0 hpos
    have hs : spot = none := by simpa [Addr.add] using World.cell?_spot h0
    subst hs
    have hadd : ∀ k, (⟨b, off, none⟩ : Addr).add k = ⟨b, off + k, none⟩ := fun k => by unfold Addr.add; split <;> simp_all
    refine ⟨b, off, rfl, ?_, fun i hi j hj => ?_⟩
    · have := World.block_lt_of_cell? w _ h0
      rwa [hadd] at this
    · obtain ⟨v1, h1⟩ := hc i hi j hj
      rw [hadd] at h1
      exact cellInt_of h1
end
end Go.Proofs.Ytodkhhanlhelnaa
