/- One wakes the next: plain. -/
import Derived.Test.YtkdgpdijbobmkaaGreatFlRich
namespace Go.Proofs.YtkdgpdijbobmkaaGreat
set_option linter.all false
open Go Go.RowKit
abbrev fwSell (i : Nat) : Cmd := ⟨1, ⟨(i : Int) + 1, 1, 2, 1, 100 + (i : Int), 1, 0, 0⟩, 0, 0⟩
abbrev fwStop (i : Nat) : Cmd := ⟨1, ⟨100 + (i : Int), 2, 1, 2, 0, 1, 0, 100 + (i : Int)⟩, 0, 0⟩
abbrev fwLast : Cmd := ⟨1, ⟨99, 3, 1, 2, 0, 1, 0, 0⟩, 0, 0⟩
def fwA : Nat → FS
  | 0 => FR 0 10
  | i + 1 => (fwA i).doS (fwSell i)
def fwB (n : Nat) : Nat → FS
  | 0 => fwA (n + 1)
  | i + 1 => (fwB n i).doS (fwStop i)
def fwC1 (i : Nat) : Bool := (fwA i).doE (fwSell i) == 0
def fwC2 (n i : Nat) : Bool := (fwB n i).doE (fwStop i) == 0 && ((fwB n i).doV (fwStop i)).length == 1 && ((fwB n i).doV (fwStop i)).all fun e => e.what == 5
def fwC3 (n : Nat) : Bool := (fwB n n).doE fwLast == 0 && (((fwB n n).doV fwLast).countP fun e => e.what == 4) == n && (((fwB n n).doV fwLast).countP fun e => e.what == 2) == n + 1 && ((fwB n n).doS fwLast).st.length == 0 && ((fwB n n).doS fwLast).last == 100 + (n : Int)
theorem fw_c1 : ((List.range 19).all fwC1) = true := by kernel_rfl
theorem fw_c2 : ((List.range 19).all fun n => (List.range n).all (fwC2 n)) = true := by kernel_rfl
theorem fw_c3 : ((List.range 18).all fun n => fwC3 (n + 1)) = true := by kernel_rfl
theorem fwA_ok : ∀ i, FSOk (fwA i)
  | 0 => FR_ok 10 (by omega) (by omega)
  | i + 1 => (fwA_ok i).do _
theorem fwB_ok (n : Nat) : ∀ i, FSOk (fwB n i)
  | 0 => fwA_ok _
  | i + 1 => (fwB_ok n i).do _
theorem fw_one {i : Nat} (h : i ≤ 18) : (fwA i).doE (fwSell i) = 0 := by
  have := List.all_eq_true.1 fw_c1 i (List.mem_range.2 (by omega))
  simpa [fwC1] using this
theorem fw_two {n i : Nat} (h : n ≤ 18) (hi : i < n) : (fwB n i).doE (fwStop i) = 0 ∧ ∃ e, (fwB n i).doV (fwStop i) = [e] ∧ e.what = 5 := by
  have := List.all_eq_true.1 (List.all_eq_true.1 fw_c2 n (List.mem_range.2 (by omega))) i (List.mem_range.2 hi)
  unfold fwC2 at this
  simp only [Bool.and_eq_true, beq_iff_eq] at this
  obtain ⟨⟨h1, h2⟩, h3⟩ := this
  obtain ⟨e, he⟩ := List.length_eq_one_iff.1 h2
  rw [he] at h3
  exact ⟨h1, e, he, by simpa using h3⟩
theorem fw_three {n : Nat} (h : n ≤ 18) (h1 : 1 ≤ n) : (fwB n n).doE fwLast = 0 ∧ ((fwB n n).doV fwLast).countP (fun e => e.what == 4) = n ∧ ((fwB n n).doV fwLast).countP (fun e => e.what == 2) = n + 1 ∧ ((fwB n n).doS fwLast).st = [] ∧ ((fwB n n).doS fwLast).last = 100 + (n : Int) := by
  have := List.all_eq_true.1 fw_c3 (n - 1) (List.mem_range.2 (by omega))
  rw [show n - 1 + 1 = n by omega] at this
  unfold fwC3 at this
  simp only [Bool.and_eq_true, beq_iff_eq] at this
  obtain ⟨⟨⟨⟨a, b⟩, c⟩, d⟩, e⟩ := this
  exact ⟨a, b, c, List.eq_nil_of_length_eq_zero d, e⟩
end Go.Proofs.YtkdgpdijbobmkaaGreat
