/- In which order stops wake: plain. -/
import Derived.Test.YtiaofbkhnodbhaaDoorWakeWake
import Derived.Test.YtiaofbkhnodbhaaDoorGrpA
namespace Go.Proofs.YtiaofbkhnodbhaaDoor
set_option linter.all false
open Go Go.RowKit
theorem wcf_lt (x y : Order) : ltOf wcf x y = decide (x.side < y.side ∨ x.side = y.side ∧ (x.side = 1 ∧ x.stop < y.stop ∨ x.side ≠ 1 ∧ y.stop < x.stop)) := by
  unfold ltOf
  congr 1
  apply propext
  unfold wcf
  by_cases h : x.side = y.side ∧ x.side ≠ 1
  · rw [if_pos h]; unfold cmpI; split
    · constructor <;> intro _ <;> omega
    · split <;> (constructor <;> intro h' <;> omega)
  · rw [if_neg h]; unfold or2 cmpI
    by_cases h1 : x.side < y.side
    · rw [if_pos h1]; simp; omega
    · rw [if_neg h1]
      by_cases h2 : y.side < x.side
      · rw [if_pos h2]; simp; omega
      · rw [if_neg h2]; simp only [if_true]
        by_cases h3 : x.stop < y.stop
        · rw [if_pos h3]; constructor <;> intro _ <;> omega
        · rw [if_neg h3]; split <;> (constructor <;> intro h' <;> omega)
theorem wcf_tr (x y z : Order) (h1 : ltOf wcf y x = false) (h2 : ltOf wcf z y = false) : ltOf wcf z x = false := by
  rw [wcf_lt] at *
  simp only [decide_eq_false_iff_not] at *
  omega
theorem wcf_as (x y : Order) (h : ltOf wcf x y = true) : ltOf wcf y x = false := by
  rw [wcf_lt] at *
  simp only [decide_eq_false_iff_not, decide_eq_true_eq] at *
  omega
/-- sorted so: one that came first is ahead of one like it -/
theorem wake_pair {R : Order → Order → Prop} {l : List Order} (hl : l.Pairwise R) : (isort (ltOf wcf) l).Pairwise fun a b => (ltOf wcf a b = true ∨ R a b) ∧ ltOf wcf b a = false :=
  isort_pair (ltOf wcf) wcf_tr wcf_as (fun _ _ h => .inl h) (hl.imp fun h _ => .inr h)
/-- an order that waits, for this law -/
def woO (k : Nat) (v : Int) : Order := ⟨k + 1, 1, 1, 2, 0, 1, 0, v⟩
def inW (v : Int) : Bool := decide (1 ≤ v ∧ v ≤ 5000)
/-- what waits behind the first k -/
structure WoS (xs : List Int) (k : Nat) (S : List Order) : Prop where
  each : ∀ o ∈ S, ∃ (m : Nat) (v : Int), m < k ∧ xs[m]? = some v ∧ inW v = true ∧ o = woO m v
  sort : S.Pairwise fun a b => a.id < b.id
  few : S.length ≤ k
section
variable {xs : List Int} {k : Nat} {S : List Order} {v : Int}
theorem WoS.nil : WoS xs 0 [] := ⟨fun o h => (by cases h), List.Pairwise.nil, Nat.le_refl _⟩
theorem WoS.skip (h : WoS xs k S) : WoS xs (k + 1) S := ⟨fun o ho => by obtain ⟨m, v, h1, h2⟩ := h.each o ho; exact ⟨m, v, by omega, h2⟩, h.sort, by have := h.few; omega⟩
theorem WoS.add (h : WoS xs k S) (hv : xs[k]? = some v) (hi : inW v = true) : WoS xs (k + 1) (S ++ [woO k v]) := by
  refine ⟨fun o ho => ?_, ?_, by have := h.few; simp; omega⟩
  · rcases List.mem_append.1 ho with ho | ho
    · obtain ⟨m, v, h1, h2⟩ := h.each o ho; exact ⟨m, v, by omega, h2⟩
    · rw [List.mem_singleton] at ho; exact ⟨k, v, by omega, hv, hi, ho⟩
  · rw [List.pairwise_append]
    refine ⟨h.sort, List.pairwise_singleton _ _, fun a ha b hb => ?_⟩
    obtain ⟨m, v', h1, _, _, rfl⟩ := h.each a ha
    rw [List.mem_singleton] at hb; subst hb
    show (m : Int) + 1 < (k : Int) + 1
    omega
theorem WoS.fresh (h : WoS xs k S) : whereI S (k + 1) = -1 := by
  refine whereI_none fun j hj u hu => ?_
  obtain ⟨m, v', h1, _, _, rfl⟩ := h.each u (List.mem_of_getElem? hu)
  show (m : Int) + 1 ≠ (k : Int) + 1
  omega
theorem wo_err (hk : k < 20) (hi : inW v = true) : (woO k v).err = 0 ∧ (woO k v).stop ≠ 0 := by
  have hv : 1 ≤ v ∧ v ≤ 5000 := of_decide_eq_true hi
  have h1 : inb ((k : Int) + 1) 1 9999 = true := inb_y (by omega)
  have h2 : vp v = true := vp_y (by omega)
  refine ⟨?_, by show v ≠ 0; omega⟩
  have h3 : inb (1 : Int) 1 9 = true := by decide
  have h4 : inb (1 : Int) 1 10000 = true := by decide
  have h5 : inb (0 : Int) 0 1 = true := by decide
  have h6 : inb (2 : Int) 1 5 = true := by decide
  have h7 : vs 1 = true := by decide
  unfold Order.err woO
  simp [h1, h2, h3, h4, h5, h6, h7]
theorem WoS.wait (h : WoS xs k S) (hk : k < 20) (hi : inW v = true) : waitE S (woO k v) = 0 := by
  obtain ⟨h1, h2⟩ := wo_err hk hi
  rw [waitE, if_neg (by simp [h1]), if_neg h2, if_neg (by show ¬ 0 ≤ whereI S ((k : Int) + 1); rw [h.fresh]; decide), if_neg (by have := h.few; omega)]
theorem WoS.all (h : WoS xs k S) : wokenL 5000 S = S ∧ leftS 5000 S = [] := by
  have hw : ∀ o ∈ S, wakesB 5000 o = true := fun o ho => by
    obtain ⟨m, v', _, _, hi, rfl⟩ := h.each o ho
    have hv : 1 ≤ v' ∧ v' ≤ 5000 := of_decide_eq_true hi
    show (decide (v' = 5000) || decide (v' < 5000)) = true
    rcases (show v' = 5000 ∨ v' < 5000 by omega) with h | h <;> simp [h]
  exact ⟨List.filter_eq_self.2 hw, List.filter_eq_nil_iff.2 fun o ho => by simp [hw o ho]⟩
/-- who wakes there: each has its Stop in the list; none is ahead of who is lighter -/
structure WoX (xs : List Int) (X : List Order) : Prop where
  each : ∀ (i : Nat) (o : Order), X[i]? = some o → ∃ (m : Nat) (v : Int), xs[m]? = some v ∧ o.id = (m : Int) + 1
  step : ∀ (i : Nat) (a b : Order) (m n : Nat) (v u : Int), X[i]? = some a → X[i + 1]? = some b → a.id = (m : Int) + 1 → b.id = (n : Int) + 1 → xs[m]? = some v → xs[n]? = some u → v < u ∨ v = u ∧ m < n
theorem WoS.woken (h : WoS xs k S) : WoX xs (wakeL 5000 S) := by
  have hp := wake_pair h.sort
  have hm : ∀ o ∈ isort (ltOf wcf) S, ∃ (m : Nat) (v : Int), m < k ∧ xs[m]? = some v ∧ inW v = true ∧ o = woO m v := fun o ho => h.each o ((isort_mem _).1 ho)
  rw [wakeL, h.all.1]
  refine ⟨fun i o ho => ?_, fun i a b m n v u ha hb e1 e2 hv hu => ?_⟩
  · rw [List.getElem?_map, Option.map_eq_some_iff] at ho
    obtain ⟨o', ho', rfl⟩ := ho
    obtain ⟨m, v, _, h2, _, rfl⟩ := hm o' (List.mem_of_getElem? ho')
    exact ⟨m, v, h2, rfl⟩
  · rw [List.getElem?_map, Option.map_eq_some_iff] at ha hb
    obtain ⟨a', ha', rfl⟩ := ha
    obtain ⟨b', hb', rfl⟩ := hb
    have hpr : (ltOf wcf a' b' = true ∨ a'.id < b'.id) ∧ ltOf wcf b' a' = false := by
      rw [List.pairwise_iff_getElem] at hp
      obtain ⟨i1, i2⟩ := List.getElem?_eq_some_iff.1 ha'
      obtain ⟨j1, j2⟩ := List.getElem?_eq_some_iff.1 hb'
      have := hp i (i + 1) i1 j1 (by omega)
      rwa [i2, j2] at this
    obtain ⟨m', v', _, x1, _, rfl⟩ := hm a' (List.mem_of_getElem? ha')
    obtain ⟨n', u', _, y1, _, rfl⟩ := hm b' (List.mem_of_getElem? hb')
    have em : m' = m := by have : (m' : Int) + 1 = (m : Int) + 1 := e1; omega
    have en : n' = n := by have : (n' : Int) + 1 = (n : Int) + 1 := e2; omega
    subst em; subst en
    rw [x1] at hv; rw [y1] at hu
    cases hv; cases hu
    rw [wcf_lt, wcf_lt] at hpr
    have hpr' : (((1 : Int) < 1 ∨ (1 : Int) = 1 ∧ ((1 : Int) = 1 ∧ v < u ∨ (1 : Int) ≠ 1 ∧ u < v)) ∨ (m' : Int) + 1 < (n' : Int) + 1) ∧ ¬ ((1 : Int) < 1 ∨ (1 : Int) = 1 ∧ ((1 : Int) = 1 ∧ u < v ∨ (1 : Int) ≠ 1 ∧ v < u)) := ⟨hpr.1.imp of_decide_eq_true id, of_decide_eq_false hpr.2⟩
    clear hpr e1 e2 x1 y1
    omega
end
end Go.Proofs.YtiaofbkhnodbhaaDoor
