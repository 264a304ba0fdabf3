/- The eleven cells of a Command in memory. -/
import Derived.Test.YtodkhhanlhelnaaSetB
import Derived.Test.YtodkhhanlhelnaaWire
namespace Go.Proofs.Ytodkhhanlhelnaa
set_option linter.all false
open Go Go.RowKit
theorem cmd_size : (Try.prog.info? 25).map (·.size) = some 11 := by kernel_rfl
theorem cmd_one (c : Cmd) : c.cells.all (·.oneCell') = true := by
  refine all_oneCell_toArray (cs := [_, _, _, _, _, _, _, _, _, _, _]) (fun v hv => ?_)
  simp only [List.mem_cons, List.not_mem_nil, or_false] at hv
  rcases hv with rfl | rfl | rfl | rfl | rfl | rfl | rfl | rfl | rfl | rfl | rfl <;> rfl
theorem cmd_read {w : World} {g : Nat} {cs : Array Value} (h : Bk w g 25 cs) (hl : cs.size = 11) : (loadVar 25 ⟨g, 0, none⟩).run Try.prog w = .ok (.agg cs) w := by
  have := run_loadVar_mid (P := Try.prog) w g 0 25 cs.toList _ h.range Try.underlying25 rfl (by rw [cmd_size]; simp [hl])
  simpa using this
theorem box11 {w : World} {x0 x1 x2 x3 x4 x5 x6 x7 x8 x9 x10 : Value} {g : Nat} {t : TypeId} (h : Bk w g t #[x0, x1, x2, x3, x4, x5, x6, x7, x8, x9, x10]) : w.cell? ⟨g, 0, none⟩ = some x0 ∧ w.cell? ⟨g, 1, none⟩ = some x1 ∧ w.cell? ⟨g, 2, none⟩ = some x2 ∧ w.cell? ⟨g, 3, none⟩ = some x3 ∧ w.cell? ⟨g, 4, none⟩ = some x4 ∧ w.cell? ⟨g, 5, none⟩ = some x5 ∧ w.cell? ⟨g, 6, none⟩ = some x6 ∧ w.cell? ⟨g, 7, none⟩ = some x7 ∧ w.cell? ⟨g, 8, none⟩ = some x8 ∧ w.cell? ⟨g, 9, none⟩ = some x9 ∧ w.cell? ⟨g, 10, none⟩ = some x10 :=
  ⟨h.cell 0, h.cell 1, h.cell 2, h.cell 3, h.cell 4, h.cell 5, h.cell 6, h.cell 7, h.cell 8, h.cell 9, h.cell 10⟩
theorem cmd_zero (w : World) : (Instr.build 25 #[]).run Try.prog w = .ok (.agg #[.int .i64 0, .int .i64 0, .int .i64 0, .int .i64 0, .int .i64 0, .int .i64 0, .int .i64 0, .int .i64 0, .int .i64 0, .int .i64 0, .int .i64 0]) w := by kernel_rfl
theorem Bk.set11 {w : World} {x0 x1 x2 x3 x4 x5 x6 x7 x8 x9 x10 : Value} {g : Nat} {t : TypeId} (h : Bk w g t #[x0, x1, x2, x3, x4, x5, x6, x7, x8, x9, x10]) (a0 a1 a2 a3 a4 a5 a6 a7 a8 a9 a10 : Value) : Bk (((((((((((w.setCell ⟨g, 0, none⟩ a0).setCell ⟨g, 1, none⟩ a1).setCell ⟨g, 2, none⟩ a2).setCell ⟨g, 3, none⟩ a3).setCell ⟨g, 4, none⟩ a4).setCell ⟨g, 5, none⟩ a5).setCell ⟨g, 6, none⟩ a6).setCell ⟨g, 7, none⟩ a7).setCell ⟨g, 8, none⟩ a8).setCell ⟨g, 9, none⟩ a9).setCell ⟨g, 10, none⟩ a10) g t #[a0, a1, a2, a3, a4, a5, a6, a7, a8, a9, a10] := h.setCs (vs := [a0, a1, a2, a3, a4, a5, a6, a7, a8, a9, a10]) rfl
theorem below_set11 {w0 w : World} {lo g : Nat} (hg : lo ≤ g) (h : Below lo w0 w) (a0 a1 a2 a3 a4 a5 a6 a7 a8 a9 a10 : Value) : Below lo w0 (((((((((((w.setCell ⟨g, 0, none⟩ a0).setCell ⟨g, 1, none⟩ a1).setCell ⟨g, 2, none⟩ a2).setCell ⟨g, 3, none⟩ a3).setCell ⟨g, 4, none⟩ a4).setCell ⟨g, 5, none⟩ a5).setCell ⟨g, 6, none⟩ a6).setCell ⟨g, 7, none⟩ a7).setCell ⟨g, 8, none⟩ a8).setCell ⟨g, 9, none⟩ a9).setCell ⟨g, 10, none⟩ a10) := below_Cs hg (vs := [a0, a1, a2, a3, a4, a5, a6, a7, a8, a9, a10]) (i := 0) h
end Go.Proofs.Ytodkhhanlhelnaa
