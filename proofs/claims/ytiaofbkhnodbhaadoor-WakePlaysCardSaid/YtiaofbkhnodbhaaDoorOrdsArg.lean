/- Arguments: orders. -/
import Derived.Test.YtiaofbkhnodbhaaDoorGrpS
import Derived.Test.YtiaofbkhnodbhaaDoorOrds
namespace Go.Proofs.YtiaofbkhnodbhaaDoor
set_option linter.all false
open Go.RowKit Go.ChangeShapes Go.WideShapes Go.Deep
set_option maxRecDepth 100000 in
theorem Arg.ords {H : Type} {enc : TypeId × Value → H} {w : World} {base : Nat} {v : Value} {d : DataW H} {p : List MemPlace} (h : Arg enc w base 52 v d p) :
    ∃ (A : Option Addr) (l : List Order) (c : Nat), v = .slice A l.length c ∧ l.length ≤ c ∧ (A = none → l.length = 0 ∧ c = 0) ∧ Rd w w.heap.size A l.length 8 (ocell l) := by
  obtain ⟨A, n, cap, rfl, hnc, hr⟩ := open_rows 8 Tryd.underlying52 Tryd.underlying58 (by kernel_rfl) (by kernel_rfl) rfl (by decide) (by
    intro j f hj
    match j, hj with
    | 0, hj => cases hj; exact Tryd.underlying3
    | 1, hj => cases hj; exact Tryd.underlying3
    | 2, hj => cases hj; exact Tryd.underlying3
    | 3, hj => cases hj; exact Tryd.underlying3
    | 4, hj => cases hj; exact Tryd.underlying3
    | 5, hj => cases hj; exact Tryd.underlying3
    | 6, hj => cases hj; exact Tryd.underlying3
    | 7, hj => cases hj; exact Tryd.underlying3
    | _ + 8, hj => simp at hj) h
  have hnil : A = none → n = 0 ∧ cap = 0 := by
    intro hA
    obtain ⟨fuel, hf⟩ := h.rd
    rcases open_slice Tryd.underlying52 hf with ⟨h0, _⟩ | ⟨a, len, cap', m, n', D, Pl, hcs, _⟩
    · simp only [Value.cells, List.cons.injEq, Value.slice.injEq, and_true] at h0
      exact ⟨h0.2.1, h0.2.2⟩
    · simp only [Value.cells, List.cons.injEq, Value.slice.injEq, and_true] at hcs
      rw [hA] at hcs
      cases hcs.1
  rcases Nat.eq_zero_or_pos n with rfl | hn
  · exact ⟨A, [], cap, rfl, Nat.zero_le _, hnil, Rd.nil⟩
  · obtain ⟨b, off, rfl, hb, hc⟩ := hr hn
    let f : Nat → Nat → Int := fun i j => cellInt w ⟨b, off + (i * 8 + j), none⟩
    refine ⟨_, (List.range n).map fun i => ⟨f i 0, f i 1, f i 2, f i 3, f i 4, f i 5, f i 6, f i 7⟩, cap, by simp, by simpa using hnc, (fun h => by cases h), fun _ => ⟨b, off, rfl, hb, fun i hi j hj => ?_⟩⟩
    simp only [List.length_map, List.length_range] at hi
    rw [hc i hi j hj]
    simp only [ocell, List.getD_eq_getElem?_getD, List.getElem?_map, List.getElem?_range hi, Option.map_some, Option.getD_some]
    match j, hj with
    | 0, _ => rfl
    | 1, _ => rfl
    | 2, _ => rfl
    | 3, _ => rfl
    | 4, _ => rfl
    | 5, _ => rfl
    | 6, _ => rfl
    | 7, _ => rfl
end Go.Proofs.YtiaofbkhnodbhaaDoor
