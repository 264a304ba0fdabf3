/- Commands that come backwards: plain. -/
import Derived.Test.YtkdgpdijbobmkaaGreatTwinW
import Derived.Test.YtkdgpdijbobmkaaGreatTwinH
namespace Go.Proofs.YtkdgpdijbobmkaaGreat
set_option linter.all false
open Go Go.RowKit
def tbC (i : Nat) : Cmd := ⟨4, ⟨0, 0, 0, 0, 0, 0, 0, 0⟩, 1, (i : Int)⟩
/-- those that wait behind m of n -/
def tbW (n m : Nat) : List (Int × Cmd) := (List.range m).map fun j => (((n - j : Nat) : Int), tbC (n - j))
theorem tbW_len (n m : Nat) : (tbW n m).length = m := by simp [tbW]
theorem tbW_snoc (n m : Nat) : tbW n (m + 1) = tbW n m ++ [(((n - m : Nat) : Int), tbC (n - m))] := by simp [tbW, List.range_succ]
theorem tbW_keys {n m : Nat} {x : Int} : x ∈ wkeys (tbW n m) ↔ ∃ j, j < m ∧ x = ((n - j : Nat) : Int) := by
  unfold wkeys tbW
  rw [List.map_map, List.mem_map]
  constructor
  · rintro ⟨j, hj, rfl⟩
    exact ⟨j, List.mem_range.1 hj, rfl⟩
  · rintro ⟨j, hj, rfl⟩
    exact ⟨j, List.mem_range.2 hj, rfl⟩
def tbS (n m : Nat) : TwS := ⟨FS.new 0, 1, tbW n m⟩
theorem tbC_err {i : Nat} (h1 : 1 ≤ i) (h2 : i ≤ 60) : (tbC i).err = 0 := by
  have : ∀ i, i < 61 → 1 ≤ i → (tbC i).err = 0 := by decide
  exact this i (by omega) h1
theorem tb_free {n m : Nat} (hm : m < n) : ((n - m : Nat) : Int) ∉ wkeys (tbW n m) := fun h => by
  obtain ⟨j, hj, e⟩ := tbW_keys.1 h
  omega
theorem tbS_ok {n m : Nat} (hn : n ≤ 60) (hm : m ≤ n) (h1 : m < n ∨ 1 ≤ n) : TwOk (tbS n m) := by
  refine ⟨FSOk.new 0, by show (1 : Int) ≤ 1; omega, by show (1 : Int) ≤ 100001; omega, by show (tbW n m).length ≤ 60; rw [tbW_len]; omega, ?_, fun x hx => ?_⟩
  · show (wkeys (tbW n m)).Nodup
    induction m with
    | zero => simp [tbW, wkeys]
    | succ m ih =>
      rw [tbW_snoc]
      unfold wkeys
      rw [List.map_append, List.nodup_append]
      refine ⟨ih (by omega) (.inl (by omega)), by simp, fun a ha b hb e => ?_⟩
      rw [List.map_cons, List.map_nil, List.mem_singleton] at hb
      subst hb
      have e : a = ((n - m : Nat) : Int) := e
      exact tb_free (n := n) (m := m) (by omega) (by rw [← e]; exact ha)
  · obtain ⟨j, hj, rfl⟩ := tbW_keys.1 hx
    omega
theorem tb_hear {n m : Nat} (hn : n ≤ 60) (hm : m < n) : (tbS n m).hear ((n - m : Nat) : Int) (tbC (n - m)) = (0, drainT 61 0 (tbS n (m + 1))) := by
  unfold TwS.hear
  rw [if_neg (by simp [inb]; omega), if_neg (by rw [tbC_err (by omega) (by omega)]; simp), if_neg (by
    rw [not_or]
    refine ⟨?_, tb_free hm⟩
    show ¬ ((n - m : Nat) : Int) < 1
    omega), if_neg (by show ¬ 60 ≤ (tbW n m).length; rw [tbW_len]; omega)]
  unfold tbS
  rw [tbW_snoc]
theorem tb_wait {n m : Nat} (hm : m + 1 < n) : drainT 61 0 (tbS n (m + 1)) = (0, tbS n (m + 1)) :=
  drain_none (wget_none.2 (fun h => by
    obtain ⟨j, hj, e⟩ := tbW_keys.1 h
    have e : (1 : Int) = ((n - j : Nat) : Int) := e
    omega))
def tbE (n : Nat) : Int × TwS := drainT 61 0 (tbS n n)
def tbOk (n : Nat) : Bool := (tbE n).1 == (n : Int) && (tbE n).2.next == (n : Int) + 1 && ((tbE n).2.f.S 1).cash == ((n * (n + 1) / 2 : Nat) : Int)
theorem tb_all : ((List.range 60).all fun k => tbOk (k + 1)) = true := by kernel_rfl
theorem tb_end {n : Nat} (h1 : 1 ≤ n) (h2 : n ≤ 60) : (tbE n).1 = (n : Int) ∧ (tbE n).2.next = (n : Int) + 1 ∧ ((tbE n).2.f.S 1).cash = ((n * (n + 1) / 2 : Nat) : Int) := by
  have := List.all_eq_true.1 tb_all (n - 1) (List.mem_range.2 (by omega))
  rw [show n - 1 + 1 = n by omega] at this
  unfold tbOk at this
  simp only [Bool.and_eq_true, beq_iff_eq] at this
  exact ⟨this.1.1, this.1.2, this.2⟩
end Go.Proofs.YtkdgpdijbobmkaaGreat
