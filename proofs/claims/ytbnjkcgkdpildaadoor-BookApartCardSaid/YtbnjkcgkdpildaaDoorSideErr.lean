/- What is wrong with a side: plain. -/
import Derived.Test.YtbnjkcgkdpildaaDoorTwice
import Derived.Test.YtbnjkcgkdpildaaDoorRef2
namespace Go.Proofs.YtbnjkcgkdpildaaDoor
set_option linter.all false
open Go Go.RowKit
/-- does a price of a side stand ahead of another one? -/
def sAhd (s a b : Int) : Bool := ahd' (3 - s) a b
/-- what is wrong at level k -/
def stepL (s : Int) (L : List Lv) (k : Nat) : Int :=
  match L[k]? with
  | none => 0
  | some x => if vp x.price = false then 1 else if x.rs.length = 0 then 3 else if qErr x.rs ≠ 0 then qErr x.rs else
    if k = 0 then 0 else match L[k - 1]? with
    | none => 0
    | some y => if sAhd s y.price x.price then 0 else 7
def lvErr (s : Int) (L : List Lv) : Int := match (List.range L.length).find? (fun k => !(stepL s L k == 0)) with
  | some k => stepL s L k
  | none => 0
def sideE (s : Int) (L : List Lv) : Int := if vs s = false then 1 else if lvErr s L ≠ 0 then lvErr s L else if 60 < cnt L then 4 else if twice [] (ids L) then 7 else 0
theorem lvErr_hit {s : Int} {L : List Lv} {k : Nat} (hk : k < L.length) (h0 : ∀ j, j < k → stepL s L j = 0) (he : stepL s L k ≠ 0) : lvErr s L = stepL s L k := by
  have : (List.range L.length).find? (fun k => !(stepL s L k == 0)) = some k := by
    rw [List.find?_range_eq_some]
    exact ⟨by simpa using he, by simpa using hk, fun j hj => by simp [h0 j hj]⟩
  rw [lvErr, this]
theorem lvErr_none {s : Int} {L : List Lv} (h0 : ∀ j, j < L.length → stepL s L j = 0) : lvErr s L = 0 := by
  have : (List.range L.length).find? (fun k => !(stepL s L k == 0)) = none := by
    rw [List.find?_eq_none]
    intro x hx
    simpa using h0 x (List.mem_range.1 hx)
  rw [lvErr, this]
theorem lvErr_zero {s : Int} {L : List Lv} (h : lvErr s L = 0) : ∀ j, j < L.length → stepL s L j = 0 := by
  intro j hj
  unfold lvErr at h
  split at h
  · rename_i k hk
    have := List.find?_some hk
    simp [h] at this
  · rename_i hn
    rw [List.find?_eq_none] at hn
    simpa using hn j (List.mem_range.2 hj)
theorem qErr_zero {l : List Rest} (h : qErr l = 0) : l.length ≤ 60 ∧ ∀ j, j < l.length → stepE l j = 0 := by
  unfold qErr at h
  split at h
  · omega
  · refine ⟨by omega, fun j hj => ?_⟩
    split at h
    · rename_i k hk
      have := List.find?_some hk
      simp [h] at this
    · rename_i hn
      rw [List.find?_eq_none] at hn
      simpa using hn j (List.mem_range.2 hj)
theorem qErr_rest {l : List Rest} (h : qErr l = 0) : ∀ r ∈ l, r.err = 0 := by
  intro r hr
  obtain ⟨j, hj, rfl⟩ := List.getElem_of_mem hr
  have hs := (qErr_zero h).2 j hj
  unfold stepE at hs
  rw [List.getElem?_eq_getElem hj] at hs
  simp only at hs
  by_cases h0 : l[j].err = 0
  · exact h0
  · rw [if_pos h0] at hs; exact absurd hs h0
theorem rest_id {r : Rest} (h : r.err = 0) : 1 ≤ r.id ∧ r.id ≤ 9999 := by
  unfold Rest.err at h
  cases hi : inb r.id 1 9999
  · rw [hi] at h; simp at h
  · simpa [inb] using hi
/-- level k is right -/
theorem stepL_zero {s : Int} {L : List Lv} {k : Nat} {x : Lv} (hx : L[k]? = some x) (h : stepL s L k = 0) :
    vp x.price = true ∧ x.rs.length ≠ 0 ∧ qErr x.rs = 0 ∧ ∀ y, 0 < k → L[k - 1]? = some y → sAhd s y.price x.price = true := by
  unfold stepL at h
  rw [hx] at h
  simp only at h
  cases hp : vp x.price
  · rw [hp] at h; simp at h
  · rw [hp] at h
    simp only [Bool.true_eq_false, if_false] at h
    by_cases h1 : x.rs.length = 0
    · rw [if_pos h1] at h; omega
    · rw [if_neg h1] at h
      by_cases h2 : qErr x.rs = 0
      · rw [if_neg (by simpa using h2)] at h
        refine ⟨rfl, h1, h2, fun y hk hy => ?_⟩
        rw [if_neg (by omega), hy] at h
        simp only at h
        cases hs : sAhd s y.price x.price
        · rw [hs] at h; simp at h
        · rfl
      · rw [if_pos h2] at h; exact absurd h h2
theorem lv_get {L : List Lv} {k : Nat} (hk : k < L.length) : L[k]? = some L[k] := List.getElem?_eq_getElem hk
/-- the levels of a side that is right are at most ten thousand -/
theorem lv_few {s : Int} {L : List Lv} (hs : vs s = true) (h : ∀ j, j < L.length → stepL s L j = 0) : ∀ k, (hk : k < L.length) → (s = 1 → L[k].price + k ≤ 10000) ∧ (s = 2 → (k : Int) + 1 ≤ L[k].price) := by
  intro k
  induction k with
  | zero =>
    intro hk
    have := vp_t (stepL_zero (lv_get hk) (h 0 hk)).1
    omega
  | succ k ih =>
    intro hk
    have ih := ih (by omega)
    have ha := (stepL_zero (lv_get hk) (h _ hk)).2.2.2 L[k] (by omega) (by simp)
    refine ⟨fun h1 => ?_, fun h2 => ?_⟩
    · subst h1
      have := ih.1 rfl
      simp only [sAhd, ahd'] at ha
      simp at ha
      omega
    · subst h2
      have := ih.2 rfl
      simp only [sAhd, ahd'] at ha
      simp at ha
      omega
theorem cnt_bound {L : List Lv} {m : Nat} (h : ∀ x ∈ L, x.rs.length ≤ m) : cnt L ≤ L.length * m := by
  induction L with
  | nil => simp [cnt]
  | cons x L ih =>
    have h1 := h x (by simp)
    have h2 := ih (fun y hy => h y (by simp [hy]))
    simp only [cnt, List.map_cons, List.sum_cons, List.length_cons, Nat.succ_mul] at *
    omega
theorem lv_ok {s : Int} {L : List Lv} (hs : vs s = true) (h : lvErr s L = 0) : L.length ≤ 10000 ∧ (∀ x ∈ L, x.rs.length ≤ 60) ∧ cnt L ≤ 600000 ∧ ∀ i ∈ ids L, 1 ≤ i ∧ i ≤ 9999 := by
  have h0 := lvErr_zero h
  have h1 : L.length ≤ 10000 := by
    rcases Nat.eq_zero_or_pos L.length with hz | hz
    · omega
    · have hk : L.length - 1 < L.length := by omega
      have hf := lv_few hs h0 (L.length - 1) hk
      have hp := vp_t (stepL_zero (lv_get hk) (h0 _ hk)).1
      rcases (show s = 1 ∨ s = 2 by have := vs_t hs; omega) with rfl | rfl
      · have := hf.1 rfl; omega
      · have := hf.2 rfl; omega
  have h2 : ∀ x ∈ L, x.rs.length ≤ 60 := by
    intro x hx
    obtain ⟨j, hj, rfl⟩ := List.getElem_of_mem hx
    exact (qErr_zero (stepL_zero (lv_get hj) (h0 j hj)).2.2.1).1
  refine ⟨h1, h2, ?_, ?_⟩
  · have := cnt_bound h2; omega
  · intro i hi
    obtain ⟨x, hx, hi⟩ := List.mem_flatMap.1 hi
    obtain ⟨r, hr, rfl⟩ := List.mem_map.1 hi
    obtain ⟨j, hj, rfl⟩ := List.getElem_of_mem hx
    exact rest_id (qErr_rest (stepL_zero (lv_get hj) (h0 j hj)).2.2.1 r hr)
theorem lv_some {s : Int} {L : List Lv} (h : lvErr s L = 0) : ∀ x ∈ L, x.rs.length ≠ 0 := by
  intro x hx
  obtain ⟨j, hj, rfl⟩ := List.getElem_of_mem hx
  exact (stepL_zero (lv_get hj) (lvErr_zero h j hj)).2.1
end Go.Proofs.YtbnjkcgkdpildaaDoor
