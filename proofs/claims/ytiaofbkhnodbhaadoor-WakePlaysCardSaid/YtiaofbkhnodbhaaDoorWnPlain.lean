/- Who wakes waits no more: plain. -/
import Derived.Test.YtiaofbkhnodbhaaDoorWakeWake
import Derived.Test.YtiaofbkhnodbhaaDoorGrpA
namespace Go.Proofs.YtiaofbkhnodbhaaDoor
set_option linter.all false
open Go Go.RowKit
/-- stops that are right -/
structure StOk (S : List Order) : Prop where
  few : S.length ≤ 20
  sound : ∀ o ∈ S, o.err = 0 ∧ o.stop ≠ 0
  once : (S.map Order.id).Nodup
section
variable {S : List Order} {o : Order} {p : Int}
theorem StOk.nil : StOk [] := ⟨by simp, fun o h => (by cases h), List.nodup_nil⟩
theorem waitE_ok (h : waitE S o = 0) : o.err = 0 ∧ o.stop ≠ 0 ∧ whereI S o.id < 0 ∧ S.length < 20 := by
  unfold waitE at h
  split at h
  · rename_i h1; exact absurd h h1
  · rename_i h1
    split at h
    · omega
    · split at h
      · omega
      · split at h
        · omega
        · exact ⟨by simpa using h1, by assumption, by omega, by omega⟩
theorem StOk.wait (h : StOk S) (o : Order) : StOk (waitL S o) := by
  unfold waitL
  split
  · rename_i he
    obtain ⟨h1, h2, h3, h4⟩ := waitE_ok he
    refine ⟨by simp; omega, fun x hx => ?_, ?_⟩
    · rcases List.mem_append.1 hx with hx | hx
      · exact h.sound x hx
      · rw [List.mem_singleton] at hx; subst hx; exact ⟨h1, h2⟩
    · rw [List.map_append, List.nodup_append]
      refine ⟨h.once, by simp, fun a ha b hb => ?_⟩
      obtain ⟨x, hx, rfl⟩ := List.mem_map.1 ha
      simp only [List.map_cons, List.map_nil, List.mem_singleton] at hb
      subst hb
      exact whereI_lt h3 x hx
  · exact h
theorem StOk.left (h : StOk S) (p : Int) : StOk (leftS p S) := ⟨by have := leftS_len p S; have := h.few; omega, fun o ho => h.sound o (List.mem_filter.1 ho).1, h.once.sublist (List.filter_sublist.map _)⟩
theorem stop0_err (h : o.err = 0) : (stop0 o).err = 0 := by
  unfold Order.err stop0 at *
  split at h
  · omega
  · rename_i h1
    split at h
    · omega
    · rename_i h2
      split at h
      · omega
      · rename_i h3
        split at h
        · omega
        · rename_i h4
          rw [if_neg h1, if_neg h2, if_neg h3, if_neg h4]
          rfl
theorem wakeL_at {i : Nat} (h : StOk S) (ho : (wakeL p S)[i]? = some o) : o.stop = 0 ∧ o.err = 0 := by
  rw [wakeL, List.getElem?_map, Option.map_eq_some_iff] at ho
  obtain ⟨o', ho', rfl⟩ := ho
  have := (isort_mem _).1 (List.mem_of_getElem? ho')
  exact ⟨rfl, stop0_err (h.sound o' (List.mem_filter.1 this).1).1⟩
theorem wakeL_ids (h : StOk S) : ((wakeL p S).map Order.id).Nodup := by
  rw [wakeL, List.map_map, show Order.id ∘ stop0 = Order.id from rfl]
  have hp := (isort_perm (ltOf wcf) (wokenL p S)).map Order.id
  exact hp.nodup_iff.2 (h.once.sublist (List.filter_sublist.map _))
theorem wakeL_ne {i k : Nat} {a b : Order} (h : StOk S) (hk : k < i) (ha : (wakeL p S)[k]? = some a) (hb : (wakeL p S)[i]? = some b) : a.id ≠ b.id := by
  have hn := wakeL_ids (p := p) h
  rw [List.Nodup, List.pairwise_iff_getElem] at hn
  obtain ⟨i1, i2⟩ := List.getElem?_eq_some_iff.1 ha
  obtain ⟨j1, j2⟩ := List.getElem?_eq_some_iff.1 hb
  have := hn k i (by simpa using i1) (by simpa using j1) hk
  simpa [i2, j2] using this
theorem leftS_at {i : Nat} (h : StOk S) (ho : (leftS p S)[i]? = some o) : (o.side = 1 → p < o.stop) ∧ (o.side = 2 → o.stop < p) := by
  have hm := List.mem_filter.1 (List.mem_of_getElem? ho)
  have hw : wakesB p o = false := by simpa using hm.2
  unfold wakesB ahd' at hw
  simp only [Bool.or_eq_false_iff, decide_eq_false_iff_not] at hw
  constructor
  · intro hs; rw [if_pos hs] at hw; have := hw.2; simp at this; omega
  · intro hs; rw [if_neg (by omega)] at hw; have := hw.2; simp at this; omega
theorem left_woken : wokenL p (leftS p S) = [] := by
  rw [wokenL, leftS, List.filter_filter, List.filter_eq_nil_iff]
  intro o _
  cases wakesB p o <;> simp
theorem wake_left : wakeL p (leftS p S) = [] := by rw [wakeL, left_woken]; rfl
theorem wake_all : (wakeL p S).length + (leftS p S).length = S.length := by
  rw [wakeL, List.length_map, isort_len, wokenL, leftS]
  induction S with
  | nil => rfl
  | cons a l ih => rw [List.filter_cons, List.filter_cons]; cases wakesB p a <;> simp <;> omega
end
end Go.Proofs.YtiaofbkhnodbhaaDoor
