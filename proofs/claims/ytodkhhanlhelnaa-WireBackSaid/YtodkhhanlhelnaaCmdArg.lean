/- A command as an argument. -/
import Derived.Test.YtodkhhanlhelnaaGrpA
import Derived.Test.YtodkhhanlhelnaaWire
namespace Go.Proofs.Ytodkhhanlhelnaa
set_option linter.all false
open Go.RowKit Go.ChangeShapes Go.WideShapes
section
variable {P : Program} {W : World} {base : Nat} {v : Value}
theorem cell_int {e : TypeId} (hu : P.underlying e = some (.int .i64)) (h : Cell.okWide P W .any base e v) : ∃ a : Int, v = .int .i64 a := by
  simp only [Cell.okWide, hu] at h
  cases v <;> simp_all [Cell.ok]
/-- a struct of integers, however nested -/
theorem ints_of_ok {t n e : Nat} {fs : Array Field} (he : P.underlying e = some (.int .i64)) (hu : P.underlying t = some (.struct fs)) (hc : P.cellsOf t = n) (hts : P.cellTypes P.depth t = some (List.replicate n e)) (h : Value.okWide P W .any base t v) :
    ∃ cs : Array Value, v = .agg cs ∧ cs.size = n ∧ ∀ i, i < n → ∃ a : Int, cs[i]? = some (.int .i64 a) := by
  simp only [Value.okWide, hu] at h
  obtain ⟨cs, h1, h2, ts, h3, _, h5⟩ := h
  rw [hts] at h3
  cases h3
  rw [hc] at h2
  refine ⟨cs, h1, h2, fun i hi => ?_⟩
  have hv : cs[i]? = some cs[i] := Array.getElem?_eq_getElem (by omega)
  obtain ⟨u, hu2, hk⟩ := h5 i _ hv
  rw [List.length_replicate, Nat.mod_eq_of_lt hi, List.getElem?_replicate, if_pos hi] at hu2
  cases hu2
  obtain ⟨a, ha⟩ := cell_int he hk
  exact ⟨a, by rw [hv, ha]⟩
end
theorem cells11 {cs : Array Value} (h : cs.size = 11) (hi : ∀ i, i < 11 → ∃ a : Int, cs[i]? = some (.int .i64 a)) : ∃ c : Cmd, cs = c.cells := by
  obtain ⟨a0, h0⟩ := hi 0 (by omega); obtain ⟨a1, h1⟩ := hi 1 (by omega); obtain ⟨a2, h2⟩ := hi 2 (by omega); obtain ⟨a3, h3⟩ := hi 3 (by omega); obtain ⟨a4, h4⟩ := hi 4 (by omega); obtain ⟨a5, h5⟩ := hi 5 (by omega)
  obtain ⟨a6, h6⟩ := hi 6 (by omega); obtain ⟨a7, h7⟩ := hi 7 (by omega); obtain ⟨a8, h8⟩ := hi 8 (by omega); obtain ⟨a9, h9⟩ := hi 9 (by omega); obtain ⟨a10, h10⟩ := hi 10 (by omega)
  refine ⟨⟨a0, ⟨a1, a2, a3, a4, a5, a6, a7, a8⟩, a9, a10⟩, Array.ext_getElem? fun i => ?_⟩
  match i with
  | 0 => exact h0
  | 1 => exact h1
  | 2 => exact h2
  | 3 => exact h3
  | 4 => exact h4
  | 5 => exact h5
  | 6 => exact h6
  | 7 => exact h7
  | 8 => exact h8
  | 9 => exact h9
  | 10 => exact h10
  | i + 11 => rw [Array.getElem?_eq_none (by omega), Array.getElem?_eq_none (by simp)]
set_option maxRecDepth 100000 in
theorem cmd_types : Try.prog.cellTypes Try.prog.depth 25 = some (List.replicate 11 3) := by kernel_rfl
theorem cmd_cells : Try.prog.cellsOf 25 = 11 := by kernel_rfl
set_option maxRecDepth 100000 in
theorem Arg.cmd {H : Type} {enc : TypeId × Value → H} {W : World} {base : Nat} {v : Value} {d : DataW H} {p : List MemPlace} (h : Arg enc W base 25 v d p) : ∃ c : Cmd, v = .agg c.cells := by
  obtain ⟨cs, h1, h2, h3⟩ := ints_of_ok Try.underlying3 Try.underlying25 cmd_cells cmd_types h.ok
  obtain ⟨c, rfl⟩ := cells11 h2 h3
  exact ⟨c, h1⟩
end Go.Proofs.Ytodkhhanlhelnaa
