/- The nineteen cells of a Swap. -/
import Derived.Test.YtiaofbkhnodbhaaSetN
namespace Go.Proofs.Ytiaofbkhnodbhaa
set_option linter.all false
open Go Go.RowKit
theorem one_all {cs : List Value} (h : ∀ v ∈ cs, v.oneCell' = true) : cs.toArray.all (·.oneCell') = true := all_oneCell_toArray h
theorem swap_one {a0 a1 a2 a3 a4 a5 a6 a7 a8 a9 b0 b1 b2 b3 b4 b5 : Int} {k : Bool} {A1 A2 : Option Addr} {n1 c1 n2 c2 : Nat} : (#[Value.int .i64 a0, .int .i64 a1, .int .i64 a2, .int .i64 a3, .int .i64 a4, .int .i64 a5, .int .i64 a6, .bool k, .slice A1 n1 c1, .slice A2 n2 c2, .int .i64 a7, .int .i64 a8, .int .i64 a9, .int .i64 b0, .int .i64 b1, .int .i64 b2, .int .i64 b3, .int .i64 b4, .int .i64 b5] : Array Value).all (·.oneCell') = true := by
  refine one_all (cs := [_, _, _, _, _, _, _, _, _, _, _, _, _, _, _, _, _, _, _]) (fun v hv => ?_)
  simp only [List.mem_cons, List.not_mem_nil, or_false] at hv
  rcases hv with rfl | rfl | rfl | rfl | rfl | rfl | rfl | rfl | rfl | rfl | rfl | rfl | rfl | rfl | rfl | rfl | rfl | rfl | rfl <;> rfl
theorem swap_size : (Try.prog.info? 74).map (·.size) = some 19 := by kernel_rfl
theorem box19 {w : World} {x0 x1 x2 x3 x4 x5 x6 x7 x8 x9 x10 x11 x12 x13 x14 x15 x16 x17 x18 : Value} {g : Nat} {t : TypeId} (h : Bk w g t #[x0, x1, x2, x3, x4, x5, x6, x7, x8, x9, x10, x11, x12, x13, x14, x15, x16, x17, x18]) : w.cell? ⟨g, 0, none⟩ = some x0 ∧ w.cell? ⟨g, 1, none⟩ = some x1 ∧ w.cell? ⟨g, 2, none⟩ = some x2 ∧ w.cell? ⟨g, 3, none⟩ = some x3 ∧ w.cell? ⟨g, 4, none⟩ = some x4 ∧ w.cell? ⟨g, 5, none⟩ = some x5 ∧ w.cell? ⟨g, 6, none⟩ = some x6 ∧ w.cell? ⟨g, 7, none⟩ = some x7 ∧ w.cell? ⟨g, 8, none⟩ = some x8 ∧ w.cell? ⟨g, 9, none⟩ = some x9 ∧ w.cell? ⟨g, 10, none⟩ = some x10 ∧ w.cell? ⟨g, 11, none⟩ = some x11 ∧ w.cell? ⟨g, 12, none⟩ = some x12 ∧ w.cell? ⟨g, 13, none⟩ = some x13 ∧ w.cell? ⟨g, 14, none⟩ = some x14 ∧ w.cell? ⟨g, 15, none⟩ = some x15 ∧ w.cell? ⟨g, 16, none⟩ = some x16 ∧ w.cell? ⟨g, 17, none⟩ = some x17 ∧ w.cell? ⟨g, 18, none⟩ = some x18 :=
  ⟨h.cell 0, h.cell 1, h.cell 2, h.cell 3, h.cell 4, h.cell 5, h.cell 6, h.cell 7, h.cell 8, h.cell 9, h.cell 10, h.cell 11, h.cell 12, h.cell 13, h.cell 14, h.cell 15, h.cell 16, h.cell 17, h.cell 18⟩
theorem swap_zero (w : World) : (Instr.build 74 #[]).run Try.prog w = .ok (.agg #[.int .i64 0, .int .i64 0, .int .i64 0, .int .i64 0, .int .i64 0, .int .i64 0, .int .i64 0, .bool false, .slice none 0 0, .slice none 0 0, .int .i64 0, .int .i64 0, .int .i64 0, .int .i64 0, .int .i64 0, .int .i64 0, .int .i64 0, .int .i64 0, .int .i64 0]) w := by kernel_rfl
theorem swap_build (s p a b c d e z : Int) (w : World) : (Instr.build 74 #[(0, .int .i64 s), (1, .int .i64 p), (2, .agg #[.int .i64 a, .int .i64 b, .int .i64 c, .int .i64 d, .int .i64 e]), (6, .int .i64 z)]).run Try.prog w = .ok (.agg #[.int .i64 s, .int .i64 p, .int .i64 a, .int .i64 b, .int .i64 c, .int .i64 d, .int .i64 e, .bool false, .slice none 0 0, .slice none 0 0, .int .i64 0, .int .i64 0, .int .i64 0, .int .i64 0, .int .i64 0, .int .i64 0, .int .i64 0, .int .i64 0, .int .i64 z]) w := by kernel_rfl
theorem swap_read {w : World} {g : Nat} {cs : Array Value} (h : Bk w g 74 cs) (hl : cs.size = 19) : (loadVar 74 ⟨g, 0, none⟩).run Try.prog w = .ok (.agg cs) w := by
  have := run_loadVar_mid (P := Try.prog) w g 0 74 cs.toList _ h.range Try.underlying74 rfl (by rw [swap_size]; simp [hl])
  simpa using this
theorem Bk.put8 {w : World} {x0 x1 x2 x3 x4 x5 x6 x7 x8 x9 x10 x11 x12 x13 x14 x15 x16 x17 x18 : Value} {g : Nat} {t : TypeId} (h0 : Bk w g t #[x0, x1, x2, x3, x4, x5, x6, x7, x8, x9, x10, x11, x12, x13, x14, x15, x16, x17, x18]) (ya yb yc yd ye yf yg yh : Value) : Bk (w.setCells g 10 [ya, yb, yc, yd, ye, yf, yg, yh]) g t #[x0, x1, x2, x3, x4, x5, x6, x7, x8, x9, ya, yb, yc, yd, ye, yf, yg, yh, x18] := by
  have h1 : Bk _ g t #[x0, x1, x2, x3, x4, x5, x6, x7, x8, x9, ya, x11, x12, x13, x14, x15, x16, x17, x18] := h0.set_ 10 ya
  have h2 : Bk _ g t #[x0, x1, x2, x3, x4, x5, x6, x7, x8, x9, ya, yb, x12, x13, x14, x15, x16, x17, x18] := h1.set_ 11 yb
  have h3 : Bk _ g t #[x0, x1, x2, x3, x4, x5, x6, x7, x8, x9, ya, yb, yc, x13, x14, x15, x16, x17, x18] := h2.set_ 12 yc
  have h4 : Bk _ g t #[x0, x1, x2, x3, x4, x5, x6, x7, x8, x9, ya, yb, yc, yd, x14, x15, x16, x17, x18] := h3.set_ 13 yd
  have h5 : Bk _ g t #[x0, x1, x2, x3, x4, x5, x6, x7, x8, x9, ya, yb, yc, yd, ye, x15, x16, x17, x18] := h4.set_ 14 ye
  have h6 : Bk _ g t #[x0, x1, x2, x3, x4, x5, x6, x7, x8, x9, ya, yb, yc, yd, ye, yf, x16, x17, x18] := h5.set_ 15 yf
  have h7 : Bk _ g t #[x0, x1, x2, x3, x4, x5, x6, x7, x8, x9, ya, yb, yc, yd, ye, yf, yg, x17, x18] := h6.set_ 16 yg
  have h8 : Bk _ g t #[x0, x1, x2, x3, x4, x5, x6, x7, x8, x9, ya, yb, yc, yd, ye, yf, yg, yh, x18] := h7.set_ 17 yh
  exact h8
end Go.Proofs.Ytiaofbkhnodbhaa
