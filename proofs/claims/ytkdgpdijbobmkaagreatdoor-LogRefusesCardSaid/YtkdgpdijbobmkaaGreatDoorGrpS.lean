/- Arguments that are structs of integers: an order, a rest. -/
import Derived.Test.YtkdgpdijbobmkaaGreatDoorGrpA
import Derived.Test.YtkdgpdijbobmkaaGreatDoorGrpB
namespace Go.Proofs.YtkdgpdijbobmkaaGreatDoor
set_option linter.all false
open Go.RowKit Go.ChangeShapes Go.WideShapes
section
variable {P : Program} {W : World} {base : Nat} {v : Value}
theorem cell_int {e : TypeId} (hu : P.underlying e = some (.int .i64)) (h : Cell.okWide P W .any base e v) : ∃ a : Int, v = .int .i64 a := by
  simp only [Cell.okWide, hu] at h
  cases v <;> simp_all [Cell.ok]
/-- a struct of integers, however nested -/
theorem ints_of_ok {t n e : Nat} {fs : Array Field} (he : P.underlying e = some (.int .i64)) (hu : P.underlying t = some (.struct fs)) (hc : P.cellsOf t = n) (hts : P.cellTypes P.depth t = some (List.replicate n e)) (h : Value.okWide P W .any base t v) :
    ∃ cs : Array Value, v = .agg cs ∧ cs.size = n ∧ ∀ i, i < n → ∃ a : Int, cs[i]? = some (.int .i64 a) := by
  simp only [Value.okWide, hu] at h
  obtain ⟨cs, h1, h2, ts, h3, _, h5⟩ := h
  rw [hts] at h3
  cases h3
  rw [hc] at h2
  refine ⟨cs, h1, h2, fun i hi => ?_⟩
  have hv : cs[i]? = some cs[i] := Array.getElem?_eq_getElem (by omega)
  obtain ⟨u, hu2, hk⟩ := h5 i _ hv
  rw [List.length_replicate, Nat.mod_eq_of_lt hi, List.getElem?_replicate, if_pos hi] at hu2
  cases hu2
  obtain ⟨a, ha⟩ := cell_int he hk
  exact ⟨a, by rw [hv, ha]⟩
end
theorem cells8 {cs : Array Value} (h : cs.size = 8) (hi : ∀ i, i < 8 → ∃ a : Int, cs[i]? = some (.int .i64 a)) : ∃ o : Order, cs = o.cells := by
  obtain ⟨a0, h0⟩ := hi 0 (by omega); obtain ⟨a1, h1⟩ := hi 1 (by omega); obtain ⟨a2, h2⟩ := hi 2 (by omega); obtain ⟨a3, h3⟩ := hi 3 (by omega); obtain ⟨a4, h4⟩ := hi 4 (by omega); obtain ⟨a5, h5⟩ := hi 5 (by omega)
  obtain ⟨a6, h6⟩ := hi 6 (by omega); obtain ⟨a7, h7⟩ := hi 7 (by omega)
  refine ⟨⟨a0, a1, a2, a3, a4, a5, a6, a7⟩, Array.ext_getElem? fun i => ?_⟩
  match i with
  | 0 => exact h0
  | 1 => exact h1
  | 2 => exact h2
  | 3 => exact h3
  | 4 => exact h4
  | 5 => exact h5
  | 6 => exact h6
  | 7 => exact h7
  | i + 8 => rw [Array.getElem?_eq_none (by omega), Array.getElem?_eq_none (by simp)]
set_option maxRecDepth 100000 in
theorem ord_types : Tryz.prog.cellTypes Tryz.prog.depth 45 = some (List.replicate 8 3) := by kernel_rfl
theorem ord_cells : Tryz.prog.cellsOf 45 = 8 := by kernel_rfl
set_option maxRecDepth 100000 in
theorem Arg.order {H : Type} {enc : TypeId × Value → H} {W : World} {base : Nat} {v : Value} {d : DataW H} {p : List MemPlace} (h : Arg enc W base 45 v d p) : ∃ o : Order, v = .agg o.cells := by
  obtain ⟨cs, h1, h2, h3⟩ := ints_of_ok Tryz.underlying3 Tryz.underlying45 ord_cells ord_types h.ok
  obtain ⟨c, rfl⟩ := cells8 h2 h3
  exact ⟨c, h1⟩
abbrev Rest.cells (r : Rest) : Array Value := #[.int .i64 r.id, .int .i64 r.who, .int .i64 r.qty, .int .i64 r.hidden, .int .i64 r.show_]
theorem cells5 {cs : Array Value} (h : cs.size = 5) (hi : ∀ i, i < 5 → ∃ a : Int, cs[i]? = some (.int .i64 a)) : ∃ r : Rest, cs = r.cells := by
  obtain ⟨a0, h0⟩ := hi 0 (by omega); obtain ⟨a1, h1⟩ := hi 1 (by omega); obtain ⟨a2, h2⟩ := hi 2 (by omega); obtain ⟨a3, h3⟩ := hi 3 (by omega); obtain ⟨a4, h4⟩ := hi 4 (by omega)
  refine ⟨⟨a0, a1, a2, a3, a4⟩, Array.ext_getElem? fun i => ?_⟩
  match i with
  | 0 => exact h0
  | 1 => exact h1
  | 2 => exact h2
  | 3 => exact h3
  | 4 => exact h4
  | i + 5 => rw [Array.getElem?_eq_none (by omega), Array.getElem?_eq_none (by simp)]
set_option maxRecDepth 100000 in
theorem rest_types : Tryz.prog.cellTypes Tryz.prog.depth 194 = some (List.replicate 5 3) := by kernel_rfl
theorem rest_cells : Tryz.prog.cellsOf 194 = 5 := by kernel_rfl
set_option maxRecDepth 100000 in
theorem Arg.rest {H : Type} {enc : TypeId × Value → H} {W : World} {base : Nat} {v : Value} {d : DataW H} {p : List MemPlace} (h : Arg enc W base 194 v d p) : ∃ r : Rest, v = .agg r.cells := by
  obtain ⟨cs, h1, h2, h3⟩ := ints_of_ok Tryz.underlying3 Tryz.underlying194 rest_cells rest_types h.ok
  obtain ⟨c, rfl⟩ := cells5 h2 h3
  exact ⟨c, h1⟩
end Go.Proofs.YtkdgpdijbobmkaaGreatDoor
