/- Bars of so many trades, in plain words: piece by piece. -/
import Derived.Test.YtefncbdkjljbjaaDoorBarsJoinL
namespace Go.Proofs.YtefncbdkjljbjaaDoor
set_option linter.all false
open Go.RowKit
/-- the bar of the j-th piece -/
def chunkB (n : Nat) (l : List Trade) (j : Nat) : Bar := allB ((l.drop (j * n)).take n)
def chunksTo (n : Nat) (l : List Trade) (j : Nat) : List Bar := (List.range j).map (chunkB n l)
theorem chunksTo_succ (n : Nat) (l : List Trade) (j : Nat) : chunksTo n l (j + 1) = chunksTo n l j ++ [chunkB n l j] := by simp [chunksTo, List.range_succ]
theorem chunksTo_len (n : Nat) (l : List Trade) (j : Nat) : (chunksTo n l j).length = j := by simp [chunksTo]
theorem chunk_part {n : Nat} {l : List Trade} {j : Nat} (hn : 1 ≤ n) (hj : barsTo n l (j * n) = chunksTo n l j) : ∀ r, r + 1 ≤ n → j * n + (r + 1) ≤ l.length → barsTo n l (j * n + (r + 1)) = chunksTo n l j ++ [allB ((l.drop (j * n)).take (r + 1))] := by
  intro r
  induction r with
  | zero =>
    intro _ hl
    have ht := List.getElem?_eq_getElem (show j * n < l.length by omega)
    have ht2 : (l.drop (j * n))[0]? = some l[j * n] := by rw [List.getElem?_drop, Nat.add_zero]; exact ht
    rw [show j * n + (0 + 1) = j * n + 1 by omega, barsTo_succ ht, hj, addBar_new (by rw [Nat.mul_mod_left]), allB_snoc ht2]
    rfl
  | succ r ih =>
    intro hr hl
    have ht := List.getElem?_eq_getElem (show j * n + (r + 1) < l.length by omega)
    have ht2 : (l.drop (j * n))[r + 1]? = some l[j * n + (r + 1)] := by rw [List.getElem?_drop]; exact ht
    rw [show j * n + (r + 1 + 1) = j * n + (r + 1) + 1 by omega, barsTo_succ ht, ih (by omega) (by omega), allB_snoc ht2]
    refine addBar_old ?_
    rw [Nat.mul_comm, Nat.mul_add_mod, Nat.mod_eq_of_lt (by omega)]
    omega
theorem chunks_full {n : Nat} {l : List Trade} (hn : 1 ≤ n) : ∀ j, j * n ≤ l.length → barsTo n l (j * n) = chunksTo n l j := by
  intro j
  induction j with
  | zero => intro _; rw [Nat.zero_mul]; rfl
  | succ j ih =>
    intro hl
    have e : (j + 1) * n = j * n + n := Nat.succ_mul _ _
    obtain ⟨m, rfl⟩ : ∃ m, n = m + 1 := ⟨n - 1, by omega⟩
    rw [e, chunk_part hn (ih (by omega)) m (by omega) (by omega), chunksTo_succ]
    rfl
theorem chunks_all {n : Nat} {l : List Trade} {j : Nat} (hn : 1 ≤ n) (h1 : l.length ≤ j * n) (h2 : ∀ i, j = i + 1 → i * n < l.length) : barsTo n l l.length = chunksTo n l j := by
  cases j with
  | zero =>
    have : l.length = 0 := by simpa using h1
    rw [this]; rfl
  | succ i =>
    have h3 := h2 i rfl
    have e : (i + 1) * n = i * n + n := Nat.succ_mul _ _
    have := chunk_part (l := l) hn (chunks_full (l := l) hn i (Nat.le_of_lt h3)) (l.length - i * n - 1) (by omega) (by omega)
    rw [show i * n + (l.length - i * n - 1 + 1) = l.length by omega] at this
    rw [this, chunksTo_succ, chunkB, List.take_of_length_le (i := n) (by rw [List.length_drop]; omega), List.take_of_length_le (by rw [List.length_drop]; omega)]
end Go.Proofs.YtefncbdkjljbjaaDoor
