/- In whatever order they come: plain. -/
import Derived.Test.YtbnjkcgkdpildaaDoorGrpG
namespace Go.Proofs.YtbnjkcgkdpildaaDoor
set_option linter.all false
open Go Go.RowKit
def ssR (k : Nat) : Rest := ⟨(k : Int) + 1, 1, 1, 0, 0⟩
/-- what holds of a side behind k prices -/
structure SS (s : Int) (l : List Int) (k : Nat) (X : List Lv) : Prop where
  ok : SideOk s X
  few : cnt X ≤ k
  ids : ∀ i ∈ ids X, 1 ≤ i ∧ i ≤ k
  has : ∀ j p, j < k → l[j]? = some p → vp p = true → ∃ x ∈ X, x.price = p
theorem SS.start {s : Int} (hs : vs s = true) (l : List Int) : SS s l 0 [] :=
  ⟨⟨hs, by simp, by simp, by simp, List.Pairwise.nil, by simp [cnt], by simp [Go.Proofs.YtbnjkcgkdpildaaDoor.ids]⟩, by simp [cnt], by simp [Go.Proofs.YtbnjkcgkdpildaaDoor.ids], fun j p h => absurd h (by omega)⟩
theorem ss_err {k : Nat} (hk : k < 50) : (ssR k).err = 0 :=
  err_mk (inb_y (by simp [ssR]; omega)) (inb_y (by simp [ssR])) (by simp [ssR]) (by simp [ssR]) (by simp [ssR]) (by simp [ssR]) (by simp [ssR]) (by simp [ssR]) (by simp [ssR]) (by simp [ssR])
theorem SS.fault {s : Int} {l : List Int} {k : Nat} {X : List Lv} (h : SS s l k X) (hk : k < 50) (p : Int) : addE s X p (ssR k) = if vp p = true then 0 else 1 := by
  rw [addE, sideE_iff.2 h.ok, if_neg (by simp)]
  cases hp : vp p
  · rfl
  · rw [ss_err hk]
    have h1 : ¬ (0 ≤ (whereL X (ssR k).id).1) := by
      have : (whereL X (ssR k).id).1 < 0 := whereL_neg.2 (fun hm => by have := (h.ids _ hm).2; simp [ssR] at this; omega)
      omega
    have h2 : ¬ (60 ≤ cnt X) := by have := h.few; omega
    rw [if_neg h1, if_neg h2]
    rfl
theorem SS.skip {s : Int} {l : List Int} {k : Nat} {X : List Lv} {p : Int} (h : SS s l k X) (hp : l[k]? = some p) (hv : vp p = false) : SS s l (k + 1) X := by
  refine ⟨h.ok, by have := h.few; omega, fun i hi => by have := h.ids i hi; omega, fun j q hj hq hvq => ?_⟩
  rcases Nat.lt_or_ge j k with h1 | h1
  · exact h.has j q h1 hq hvq
  · obtain rfl : j = k := by omega
    rw [hp] at hq
    cases hq
    rw [hv] at hvq; cases hvq
theorem SS.add {s : Int} {l : List Int} {k : Nat} {X : List Lv} {p : Int} (h : SS s l k X) (hk : k < 50) (hp : l[k]? = some p) (hv : vp p = true) : SS s l (k + 1) (addL s p (ssR k) X) := by
  have he : addE s X p (ssR k) = 0 := by rw [h.fault hk, if_pos hv]
  obtain ⟨i, m, rs, ha⟩ := added he
  have hperm := ha.idp
  refine ⟨ha.side, by rw [cnt_addL]; have := h.few; omega, fun j hj => ?_, fun j q hj hq hvq => ?_⟩
  · rcases List.mem_cons.1 (hperm.mem_iff.1 hj) with rfl | hj
    · simp [ssR]; omega
    · have := h.ids j hj; omega
  · rcases Nat.lt_or_ge j k with h1 | h1
    · obtain ⟨x, hx, e⟩ := h.has j q h1 hq hvq
      -- a level of that price is there still
      obtain ⟨L1, L2, rs', e1, e2, _, _⟩ := addL_split (p := p) (r := ssR k) h.ok.side X h.ok.sorted h.ok.full
      rw [e1] at hx
      rcases List.mem_append.1 hx with hx | hx
      · exact ⟨x, by rw [e2]; exact List.mem_append_left _ hx, e⟩
      · rcases mCut_mem hx with ⟨rfl, _⟩ | hx
        · exact ⟨⟨p, rs' ++ [ssR k]⟩, by rw [e2]; simp, e⟩
        · exact ⟨x, by rw [e2]; exact List.mem_append_right _ (List.mem_cons_of_mem _ hx), e⟩
    · obtain rfl : j = k := by omega
      rw [hp] at hq
      cases hq
      exact ⟨_, List.mem_of_getElem? ha.at_, rfl⟩
/-- the first level has the best price -/
theorem SS.best {s : Int} {l : List Int} {k : Nat} {x : Lv} {X : List Lv} (h : SS s l k (x :: X)) {j : Nat} {p : Int} (hj : j < k) (hp : l[j]? = some p) (hv : vp p = true) : (s = 1 ∧ p ≤ x.price) ∨ (s = 2 ∧ x.price ≤ p) := by
  obtain ⟨y, hy, rfl⟩ := h.has j p hj hp hv
  have hs := side_two h.ok.side
  rcases List.mem_cons.1 hy with rfl | hy
  · omega
  · have := (sAhd_iff h.ok.side).1 ((List.pairwise_cons.1 h.ok.sorted).1 y hy)
    omega
theorem addL_some (s p : Int) (r : Rest) : ∀ L, ∃ x L', addL s p r L = x :: L'
  | [] => ⟨_, _, rfl⟩
  | y :: L => by
    unfold addL
    split
    · exact ⟨_, _, rfl⟩
    · split <;> exact ⟨_, _, rfl⟩
end Go.Proofs.YtbnjkcgkdpildaaDoor
