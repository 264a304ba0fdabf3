/- A slice of the call's own with one element taken out: what slices.Delete does to it. The contract of slices.Delete over rests: one taken out. The contract of slices.Delete over levels: one taken out. -/
import Derived.Test.YtbnjkcgkdpildaaDoorGrpC
import Derived.Lib.SliceRun
import Derived.Deep.RegionLaw
import Derived.Test.YtbnjkcgkdpildaaDoorGrpD
import Derived.Test.YtbnjkcgkdpildaaDoorGrpG
namespace Go.Proofs.YtbnjkcgkdpildaaDoor
set_option linter.all false
open Go Go.RowKit
section
variable {w : World} {base s n cap : Nat} {xs : List Value}
/-- cells stored over a part of it -/
theorem OwnS.put {g off p n' : Nat} {xs' news : List Value} (h : OwnS w base s (some ⟨g, off, none⟩) n cap xs) (hc : 0 < cap) (hp : p + news.length ≤ cap * s) (hl : xs'.length = n' * s) (hn : n' ≤ cap)
    (hx : ∀ j, j < n' * s → xs'[j]? = if p ≤ j ∧ j < p + news.length then news[j - p]? else w.cell? ⟨g, off + j, none⟩) :
    OwnS (w.setCells g (off + p) news) base s (some ⟨g, off, none⟩) n' cap xs' := by
  refine ⟨hl, hn, h.max, fun _ => ?_⟩
  obtain ⟨g', off', e, hb, hlt, h1, h2⟩ := h.lies hc
  cases e
  have hsome : ∀ j, j < news.length → (w.cell? ⟨g, off + p + j, none⟩).isSome = true := fun j hj => by
    rw [Nat.add_assoc]; exact (h2 (p + j) (by omega)).1
  have hin : ∀ j, p ≤ j → j < p + news.length → (w.setCells g (off + p) news).cell? ⟨g, off + j, none⟩ = news[j - p]? := fun j h3 h4 => by
    have := World.cell?_setCells_in g news (off + p) w hsome (j - p) (by omega)
    rw [show off + p + (j - p) = off + j by omega] at this
    rw [this, List.getElem?_eq_getElem]
  have hout : ∀ j, ¬ (p ≤ j ∧ j < p + news.length) → (w.setCells g (off + p) news).cell? ⟨g, off + j, none⟩ = w.cell? ⟨g, off + j, none⟩ := fun j h3 =>
    World.cell?_setCells_out g _ _ _ _ (fun _ _ => by show off + j < off + p ∨ off + p + news.length ≤ off + j; omega)
  refine ⟨g, off, rfl, hb, by rw [size_setCells]; exact hlt, fun j hj => ?_, fun j hj => ⟨?_, ?_⟩⟩
  · rw [hx j hj]
    by_cases h3 : p ≤ j ∧ j < p + news.length
    · rw [if_pos h3]; exact hin j h3.1 h3.2
    · rw [if_neg h3]; exact hout j h3
  · by_cases h3 : p ≤ j ∧ j < p + news.length
    · rw [hin j h3.1 h3.2, List.getElem?_eq_getElem (by omega)]; rfl
    · rw [hout j h3]; exact (h2 j hj).1
  · exact (World.frozen?_setCells g _ _ _ _).trans (h2 j hj).2
theorem grown_setCells (w : World) (g o : Nat) (vs : List Value) : w.grownBy (w.setCells g o vs) (some g) :=
  ⟨World.os_setCells _ _ _ _, tape_setCells g _ _ w, World.output_setCells _ _ _ _, by rw [size_setCells]; exact Nat.le_refl _, fun k hk hne => World.heap_setCells_other w g _ vs hk (fun e => hne (by rw [e]))⟩
/-- one element out: what stood behind it moved up, the last place cleared -/
theorem OwnS.cut {g off i : Nat} {zs : List Value} (h : OwnS w base s (some ⟨g, off, none⟩) (n + 1) cap xs) (hi : i ≤ n) (hz : zs.length = s) :
    OwnS ((w.setCells g (off + i * s) (xs.drop ((i + 1) * s))).setCells g (off + n * s) zs) base s (some ⟨g, off, none⟩) n cap (xs.take (i * s) ++ xs.drop ((i + 1) * s)) ∧
    w.grownBy ((w.setCells g (off + i * s) (xs.drop ((i + 1) * s))).setCells g (off + n * s) zs) (some g) ∧
    OwnS (w.setCells g (off + i * s) (xs.drop ((i + 1) * s))) base s (some ⟨g, off, none⟩) n cap (xs.take (i * s) ++ xs.drop ((i + 1) * s)) := by
  have hle := h.le
  have hcs : (n + 1) * s ≤ cap * s := Nat.mul_le_mul_right _ hle
  have hlen := h.len
  have his : i * s + s ≤ n * s + s := by have := Nat.mul_le_mul_right s hi; omega
  have e1 : (i + 1) * s = i * s + s := Nat.succ_mul _ _
  have e2 : (n + 1) * s = n * s + s := Nat.succ_mul _ _
  have hdl : (xs.drop ((i + 1) * s)).length = n * s - i * s := by rw [List.length_drop, hlen]; omega
  have hc : 0 < cap := by omega
  obtain ⟨g', off', e, hb, hlt, h1, h2⟩ := h.lies hc
  cases e
  have hxl : (xs.take (i * s) ++ xs.drop ((i + 1) * s)).length = n * s := by
    rw [List.length_append, hdl, List.length_take, hlen]; omega
  have a1 : OwnS (w.setCells g (off + i * s) (xs.drop ((i + 1) * s))) base s (some ⟨g, off, none⟩) n cap (xs.take (i * s) ++ xs.drop ((i + 1) * s)) := by
    refine h.put hc (by rw [hdl]; omega) hxl (by omega) fun j hj => ?_
    by_cases h3 : j < i * s
    · rw [if_neg (by omega), List.getElem?_append_left (by rw [List.length_take, hlen]; omega), List.getElem?_take_of_lt h3]
      exact (h1 j (by omega)).symm
    · rw [if_pos (by rw [hdl]; omega), List.getElem?_append_right (by rw [List.length_take, hlen]; omega), List.length_take, hlen]
      congr 1
      omega
  refine ⟨a1.put hc (by rw [hz]; omega) hxl (by omega) fun j hj => ?_, (grown_setCells w g _ _).trans (grown_setCells _ g _ _), a1⟩
  rw [if_neg (by omega)]
  obtain ⟨g', off', e, _, _, h3, _⟩ := a1.lies hc
  cases e
  exact (h3 j hj).symm
end
/-- clear of one element -/
theorem run_clear_one {P : Program} (w : World) (t e ty : TypeId) (z : Value) (ht : P.underlying t = some (.slice e)) (hv : ∀ w, (zeroValue e).run P w = .ok z w) (h1 : ∀ v ∈ z.cells.toList, v.oneCell' = true) (b o c : Nat)
    (hc : ∀ j, j < z.cells.size → (w.cell? ⟨b, o + j, none⟩).isSome = true) (hf : ∀ j, j < z.cells.size → w.frozen? ⟨b, o + j, none⟩ = false) :
    (Builtin.clear_ #[t] ty #[.slice (some ⟨b, o, none⟩) 1 c]).run P w = .ok (.tuple #[]) (w.setCells b o z.cells.toList) := by
  have hzc : (Builtin.zeroCells z.cells 1).toList = z.cells.toList := by
    simp only [Builtin.zeroCells, Nat.one_mul]
    apply List.ext_getElem
    · simp
    · intro i h1 h2
      have h3 : i < z.cells.size := by simpa using h1
      simp [Nat.mod_eq_of_lt h3, h3]
  have hst := run_storeCells_cells (P := P) b o z.cells.toList 0 w (by simpa using hc) (by simpa using hf) h1
  simp only [Nat.add_zero] at hst
  simp [Builtin.clear_, run_underlying ht, hv, hzc, hst]
end Go.Proofs.YtbnjkcgkdpildaaDoor
namespace Go.Proofs.YtbnjkcgkdpildaaDoor
set_option linter.all false
open Go Go.RowKit
theorem rows_take (l : List Rest) (i : Nat) : rows (l.take i) = (rows l).take (i * 5) := by
  induction l generalizing i with
  | nil => simp [rows]
  | cons r t ih =>
    cases i with
    | zero => simp [rows]
    | succ i =>
      rw [List.take_succ_cons, rows_cons, rows_cons, ih, show (i + 1) * 5 = r.vals.length + i * 5 by rw [Rest.vals_len]; omega, List.take_length_add_append]
theorem rows_drop (l : List Rest) (i : Nat) : rows (l.drop i) = (rows l).drop (i * 5) := by
  induction l generalizing i with
  | nil => simp [rows]
  | cons r t ih =>
    cases i with
    | zero => simp
    | succ i =>
      rw [List.drop_succ_cons, rows_cons, ih, show (i + 1) * 5 = r.vals.length + i * 5 by rw [Rest.vals_len]; omega, List.drop_length_add_append]
theorem rows_erase (l : List Rest) (i : Nat) : rows (l.eraseIdx i) = (rows l).take (i * 5) ++ (rows l).drop ((i + 1) * 5) := by
  rw [List.eraseIdx_eq_take_drop_succ, rows_app, rows_take, rows_drop]
end Go.Proofs.YtbnjkcgkdpildaaDoor
namespace Go.Proofs.YtbnjkcgkdpildaaDoor
set_option linter.all false
open Go Go.RowKit
theorem zero_lv (w : World) : (zeroValue 26).run Tryd.prog w = .ok (.agg #[.int .i64 0, .slice none 0 0]) w := by kernel_rfl
theorem zlv_one : ∀ u ∈ (#[Value.int .i64 0, .slice none 0 0] : Array Value).toList, u.oneCell' = true := by
  intro u hu
  simp only [List.mem_cons, List.not_mem_nil, or_false] at hu
  rcases hu with rfl | rfl <;> rfl
end Go.Proofs.YtbnjkcgkdpildaaDoor
