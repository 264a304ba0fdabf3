/- Taking from a queue, in plain words. -/
import Derived.Test.YtbnjkcgkdpildaaDoorTake2
namespace Go.Proofs.YtbnjkcgkdpildaaDoor
set_option linter.all false
open Go Go.RowKit
/-- a queue is right: not too long, each of it right, no id twice -/
theorem findI_neg {l : List Rest} {id : Int} : ¬ 0 ≤ findI l id ↔ id ∉ l.map Rest.id := by
  unfold findI
  cases h : l.findIdx? (fun r => r.id == id) with
  | none =>
    rw [List.findIdx?_eq_none_iff] at h
    simp only [List.mem_map, not_exists, not_and]
    constructor
    · intro _ x hx e
      have := h x hx
      simp [e] at this
    · intro _; omega
  | some i =>
    rw [List.findIdx?_eq_some_iff_getElem] at h
    obtain ⟨hi, h1, _⟩ := h
    constructor
    · intro h2; exact absurd (Int.natCast_nonneg i) h2
    · intro h2 _
      exact h2 (List.mem_map.2 ⟨l[i], List.getElem_mem hi, by simpa using h1⟩)
theorem qErr_iff {l : List Rest} : qErr l = 0 ↔ l.length ≤ 60 ∧ Sound l ∧ (l.map Rest.id).Nodup := by
  constructor
  · intro h
    have hb := bodyBounds h
    refine ⟨hb.1, hb.2, ?_⟩
    have hs : ∀ k, k < l.length → stepE l k = 0 := by
      intro k hk
      by_cases he : stepE l k = 0
      · exact he
      · exfalso
        rw [qErr, if_neg (by omega)] at h
        cases hf : (List.range l.length).find? (fun k => !(stepE l k == 0)) with
        | none =>
          rw [List.find?_eq_none] at hf
          have := hf k (List.mem_range.2 hk)
          simp at this
          exact he this
        | some j =>
          rw [hf] at h
          have := List.find?_some hf
          simp at this
          exact this h
    rw [List.nodup_iff_pairwise_ne, List.pairwise_iff_getElem]
    intro i j hi hj hij e
    simp only [List.length_map] at hi hj
    have h1 := hs j hj
    rw [stepE, List.getElem?_eq_getElem hj] at h1
    dsimp only at h1
    rw [if_neg (by rw [hb.2 _ (List.getElem_mem hj)]; omega)] at h1
    have h2 : ¬ 0 ≤ findI (l.take j) l[j].id := fun h3 => by rw [if_pos h3] at h1; omega
    rw [findI_neg] at h2
    apply h2
    simp only [List.getElem_map] at e
    exact List.mem_map.2 ⟨l[i], by rw [List.mem_take_iff_getElem]; exact ⟨i, by omega, rfl⟩, e⟩
  · rintro ⟨h1, h2, h3⟩
    refine qErr_none h1 fun k hk => ?_
    rw [stepE, List.getElem?_eq_getElem hk]
    dsimp only
    rw [if_neg (by rw [h2 _ (List.getElem_mem hk)]; omega), if_neg]
    rw [findI_neg]
    intro hm
    obtain ⟨r, hr, e⟩ := List.mem_map.1 hm
    obtain ⟨i, hi, rfl⟩ := List.mem_take_iff_getElem.1 hr
    rw [List.nodup_iff_pairwise_ne, List.pairwise_iff_getElem] at h3
    have := h3 i k (by simp; omega) (by simp; omega) (by omega)
    simp only [List.getElem_map] at this
    exact this e
theorem first_ids {r : Rest} {t : List Rest} {n : Int} (h : ((r :: t).map Rest.id).Nodup) : ((qFirst r t n).2.map Rest.id).Nodup := by
  unfold qFirst
  split
  · simpa using h
  · split
    · simp only [List.map_append, List.map_cons, List.map_nil]
      simp only [List.map_cons] at h
      exact ((List.perm_append_singleton r.id (t.map Rest.id)).nodup_iff).2 h
    · simp only [List.map_cons] at h
      exact (List.nodup_cons.1 h).2
theorem first_all (r : Rest) (t : List Rest) (n : Int) (h : r.hidden = 0 ∨ 0 < r.hidden) : (qFirst r t n).1.qty + allQ (qFirst r t n).2 = allQ (r :: t) := by
  have e : allQ (r :: t) = (r.qty + r.hidden) + allQ t := by simp [allQ]
  unfold qFirst
  split
  · simp [allQ]; omega
  · split
    · rw [e, allQ_snoc]; dsimp only; omega
    · rw [e]; dsimp only; omega
/-- all that was taken -/
def sumF (l : List Fill) : Int := (l.map Fill.qty).sum
/-- what Take does, all in one -/
structure Took (l : List Rest) (n : Int) (f : List Fill) (r : List Rest) : Prop where
  sound : Sound r
  ids : (r.map Rest.id).Nodup
  len : r.length ≤ l.length
  all : sumF f + allQ r = allQ l
  le : sumF f ≤ n
  rest : sumF f < n → r = []
  each : ∀ x ∈ f, 1 ≤ x.qty ∧ x.qty ≤ n
theorem took : ∀ (m : Nat) (l : List Rest) (n : Int), n.toNat ≤ m → 0 ≤ n → Sound l → (l.map Rest.id).Nodup → Took l n (qTake l n).1 (qTake l n).2
  | m, l, n, hm, hn, hs, hd => by
    by_cases h0 : n ≤ 0
    · rw [qTake_le0 h0]
      exact ⟨hs, hd, Nat.le_refl _, by simp [sumF], by simpa [sumF] using hn, fun h => by simp [sumF] at h; omega, fun x hx => by cases hx⟩
    · cases l with
      | nil =>
        rw [qTake_nil]
        exact ⟨hs, hd, Nat.le_refl _, by simp [sumF], by simpa [sumF] using hn, fun _ => rfl, fun x hx => by cases hx⟩
      | cons r t =>
        cases m with
        | zero => omega
        | succ m =>
          have h1 := first_sound hs (show 1 ≤ n by omega)
          have ih := took m (qFirst r t n).2 (n - (qFirst r t n).1.qty) (by omega) (by omega) h1.1 (first_ids hd)
          have hh := err0 (hs r (by simp))
          have ha := first_all r t n (by omega)
          rw [qTake_cons hs (by omega)]
          have e : ∀ (x : Fill) (f : List Fill), sumF (x :: f) = x.qty + sumF f := fun x f => by simp [sumF]
          dsimp only
          refine ⟨ih.sound, ih.ids, by have := ih.len; simp only [List.length_cons]; omega, ?_, ?_, fun h => ih.rest ?_, fun x hx => ?_⟩
          · rw [e]; have := ih.all; omega
          · rw [e]; have := ih.le; omega
          · rw [e] at h; omega
          · rcases List.mem_cons.1 hx with rfl | hx
            · exact ⟨h1.2.1, h1.2.2.1⟩
            · have := ih.each x hx; omega
theorem took_err {l : List Rest} {n : Int} (h : qErr l = 0) (hn : 0 ≤ n) : qErr (qTake l n).2 = 0 := by
  rw [qErr_iff] at h ⊢
  have t := took n.toNat l n (Nat.le_refl _) hn h.2.1 h.2.2
  exact ⟨Nat.le_trans t.len h.1, t.sound, t.ids⟩
/-- taken in two goes it comes to the same -/
theorem take_two : ∀ (m : Nat) (l : List Rest) (c n : Int), c.toNat ≤ m → 0 ≤ c → c ≤ n → Sound l → (qTake (qTake l c).2 (n - c)).2 = (qTake l n).2
  | m, l, c, n, hm, hc, hcn, hs => by
    by_cases h0 : c ≤ 0
    · rw [qTake_le0 h0, show n - c = n by omega]
    · cases l with
      | nil => rw [qTake_nil, qTake_nil, qTake_nil]
      | cons r t =>
        cases m with
        | zero => omega
        | succ m =>
          have h1 := first_sound hs (show 1 ≤ c by omega)
          have h2 := first_sound hs (show 1 ≤ n by omega)
          rw [qTake_cons hs (show 1 ≤ c by omega)]
          dsimp only
          by_cases hp : c < r.qty
          · have e1 : qFirst r t c = (⟨r.id, r.who, c⟩, { r with qty := r.qty - c } :: t) := by rw [qFirst, if_pos hp]
            rw [e1] at h1 ⊢
            dsimp only at h1 ⊢
            rw [show c - c = 0 by omega, qTake_le0 (Int.le_refl 0)]
            dsimp only
            by_cases hz : n - c ≤ 0
            · rw [show n = c by omega, show c - c = 0 by omega, qTake_le0 (Int.le_refl 0), qTake_cons hs (by omega), e1]
              dsimp only
              rw [show c - c = 0 by omega, qTake_le0 (Int.le_refl 0)]
            · rw [qTake_cons h1.1 (by omega), qTake_cons hs (by omega)]
              dsimp only
              by_cases hq : n < r.qty
              · have e2 : qFirst { r with qty := r.qty - c } t (n - c) = (⟨r.id, r.who, n - c⟩, { r with qty := r.qty - n } :: t) := by
                  rw [qFirst, if_pos (by dsimp only; omega)]
                  dsimp only
                  rw [show r.qty - c - (n - c) = r.qty - n by omega]
                have e3 : qFirst r t n = (⟨r.id, r.who, n⟩, { r with qty := r.qty - n } :: t) := by rw [qFirst, if_pos hq]
                rw [e2, e3]
                dsimp only
                rw [show n - c - (n - c) = 0 by omega, show n - n = 0 by omega]
              · have e2 : (qFirst { r with qty := r.qty - c } t (n - c)).2 = (qFirst r t n).2 ∧ (qFirst { r with qty := r.qty - c } t (n - c)).1.qty = r.qty - c ∧ (qFirst r t n).1.qty = r.qty := by
                  unfold qFirst
                  rw [if_neg (by dsimp only; omega), if_neg hq]
                  split <;> exact ⟨rfl, rfl, rfl⟩
                rw [e2.1, e2.2.1, e2.2.2, show n - c - (r.qty - c) = n - r.qty by omega]
          · have e : qFirst r t c = qFirst r t n := by
              unfold qFirst
              rw [if_neg hp, if_neg (show ¬ n < r.qty by omega)]
            rw [qTake_cons hs (show 1 ≤ n by omega), ← e]
            dsimp only
            have hq : (qFirst r t c).1.qty ≤ c := h1.2.2.1
            have ih := take_two m (qFirst r t c).2 (c - (qFirst r t c).1.qty) (n - (qFirst r t c).1.qty) (by omega) (by omega) (by omega) h1.1
            rw [← ih]
            congr 2
            omega
theorem take_head {r : Rest} {t : List Rest} {n : Int} (hs : Sound (r :: t)) (hn : 1 ≤ n) : ∃ f fs, (qTake (r :: t) n).1 = f :: fs ∧ f.id = r.id := by
  rw [qTake_cons hs hn]
  refine ⟨_, _, rfl, ?_⟩
  unfold qFirst
  split
  · rfl
  · split <;> rfl
theorem sumF_take {l : List Fill} {k : Nat} {f : Fill} (h : l[k]? = some f) : sumF (l.take (k + 1)) = sumF (l.take k) + f.qty := by
  rw [List.take_add_one, h]; simp [sumF]
end Go.Proofs.YtbnjkcgkdpildaaDoor
