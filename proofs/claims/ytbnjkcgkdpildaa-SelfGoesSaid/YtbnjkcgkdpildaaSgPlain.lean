/- One's own goes, or it ends there: plain. -/
import Derived.Test.YtbnjkcgkdpildaaMeetDo
import Derived.Test.YtbnjkcgkdpildaaPutM
namespace Go.Proofs.Ytbnjkcgkdpildaa
set_option linter.all false
open Go Go.RowKit
def sgL : List Lv := [⟨100, [⟨1, 1, 10, 0, 0⟩, ⟨2, 5, 10, 0, 0⟩, ⟨3, 3, 10, 0, 0⟩]⟩]
def sgO (q : Int) : Order := ⟨9, 5, 1, 3, 100, q, 0, 0⟩
def sumT (l : List Trade) : Int := (l.map Trade.qty).sum
/-- most that is traded -/
def sgMost (m : Int) : Int := if m = 1 then 10 else if m = 2 then 20 else if m = 3 then 10 else 30
def sgWent (m : Int) : Nat := if m = 2 then 1 else if m = 3 then 1 else 0
def sgB (m q : Int) : Bool := readyE [] sgL (sgO q) == 0 && (match met [] sgL (sgO q) m with
  | none => false
  | some s => decide (s.T.length ≤ 3) && (s.T.all fun t => decide (0 ≤ t.qty) && decide (t.qty ≤ 30)) && !(kOut (sgO q) sgL s == 2) && !(kOut (sgO q) sgL s == 9) && !(kOut (sgO q) sgL s == 8) &&
    (if q ≤ 10 then sumT s.T == q && (if kOut (sgO q) sgL s = 1 then s.left else 0) == 0 && s.W.length == 0
     else sumT s.T == min q (sgMost m) && (if kOut (sgO q) sgL s = 1 then s.left else 0) == q - min q (sgMost m) && s.W.length == sgWent m))
theorem sg_all : ((List.range 4).all fun m => (List.range 30).all fun q => sgB (m : Nat) ((q : Nat) + 1)) = true := by kernel_rfl
theorem sg_at {m q : Int} (h1 : 0 ≤ m) (h2 : m ≤ 3) (h3 : 1 ≤ q) (h4 : q ≤ 30) : sgB m q = true := by
  have h := List.all_eq_true.1 sg_all m.toNat (List.mem_range.2 (by omega))
  have h' := List.all_eq_true.1 h (q - 1).toNat (List.mem_range.2 (by omega))
  rwa [show ((m.toNat : Nat) : Int) = m by omega, show (((q - 1).toNat : Nat) : Int) + 1 = q by omega] at h'
/-- what comes of it -/
structure SgOut (m q : Int) (T : List Trade) (gone : Int) (nW : Nat) : Prop where
  few : T.length ≤ 3
  each : ∀ t ∈ T, 0 ≤ t.qty ∧ t.qty ≤ 30
  small : q ≤ 10 → sumT T = q ∧ gone = 0 ∧ nW = 0
  big : 10 < q → sumT T = min q (sgMost m) ∧ gone = q - min q (sgMost m) ∧ nW = sgWent m
theorem sg_out {m q : Int} (h1 : 0 ≤ m) (h2 : m ≤ 3) (h3 : 1 ≤ q) (h4 : q ≤ 30) :
    readyE [] sgL (sgO q) = 0 ∧ ∃ s, met [] sgL (sgO q) m = some s ∧ kOut (sgO q) sgL s ≠ 2 ∧ kOut (sgO q) sgL s ≠ 9 ∧ kOut (sgO q) sgL s ≠ 8 ∧ SgOut m q s.T (if kOut (sgO q) sgL s = 1 then s.left else 0) s.W.length := by
  have h := sg_at h1 h2 h3 h4
  unfold sgB at h
  generalize met [] sgL (sgO q) m = R at *
  rw [Bool.and_eq_true] at h
  obtain ⟨ha, hb⟩ := h
  refine ⟨by simpa using ha, ?_⟩
  cases R with
  | none => cases hb
  | some s =>
    refine ⟨s, rfl, ?_⟩
    dsimp only at hb
    generalize kOut (sgO q) sgL s = k at *
    simp only [Bool.and_eq_true, Bool.not_eq_true', beq_eq_false_iff_ne, decide_eq_true_eq, List.all_eq_true] at hb
    obtain ⟨⟨⟨⟨⟨c1, c2⟩, c3⟩, c4⟩, c5⟩, c6⟩ := hb
    refine ⟨c3, c4, c5, c1, c2, fun hq => ?_, fun hq => ?_⟩
    · rw [if_pos hq] at c6
      simp only [Bool.and_eq_true, beq_iff_eq] at c6
      exact ⟨c6.1.1, c6.1.2, c6.2⟩
    · rw [if_neg (by omega)] at c6
      simp only [Bool.and_eq_true, beq_iff_eq] at c6
      exact ⟨c6.1.1, c6.1.2, c6.2⟩
theorem sumT_take {l : List Trade} {k : Nat} {t : Trade} (h : l[k]? = some t) : sumT (l.take (k + 1)) = sumT (l.take k) + t.qty := by
  rw [List.take_add_one, h]; simp [sumT]
theorem sumT_bounds {l : List Trade} {b : Int} (hb : 0 ≤ b) (h : ∀ t ∈ l, 0 ≤ t.qty ∧ t.qty ≤ b) : 0 ≤ sumT l ∧ sumT l ≤ b * l.length := by
  induction l with
  | nil => simp [sumT]
  | cons x l ih =>
    have h1 := h x (by simp)
    have h2 := ih (fun y hy => h y (by simp [hy]))
    have h3 : b * ((l.length : Int) + 1) = b * l.length + b := by rw [Int.mul_add]; simp
    simp only [sumT, List.map_cons, List.sum_cons, List.length_cons] at h2 ⊢
    rw [Int.natCast_add]
    simp only [Int.natCast_one]
    omega
end Go.Proofs.Ytbnjkcgkdpildaa
