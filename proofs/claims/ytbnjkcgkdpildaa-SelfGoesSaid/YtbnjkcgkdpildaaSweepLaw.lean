/- Level by level: plain. -/
import Derived.Test.YtbnjkcgkdpildaaMeetM
import Derived.Test.YtbnjkcgkdpildaaSideLaw
namespace Go.Proofs.Ytbnjkcgkdpildaa
set_option linter.all false
open Go Go.RowKit
/-- the level i -/
def swLv (qty : Int) (i : Nat) : Lv := ⟨100 + i, [⟨i + 1, 1, qty, 0, 0⟩]⟩
/-- m levels from the one k on -/
def swL (qty : Int) (k m : Nat) : List Lv := (List.range' k m).map (swLv qty)
def swO (want : Int) : Order := ⟨99, 2, 1, 2, 0, want, 0, 0⟩
theorem swL_succ (qty : Int) (k m : Nat) : swL qty k (m + 1) = swLv qty k :: swL qty (k + 1) m := by simp [swL, List.range'_succ]
theorem swL_snoc (qty : Int) (m : Nat) : swL qty 0 (m + 1) = swL qty 0 m ++ [swLv qty m] := by simp [swL, List.range'_concat]
theorem swL_len (qty : Int) (k m : Nat) : (swL qty k m).length = m := by simp [swL]
theorem swL_mem {qty : Int} {k m : Nat} {x : Lv} (h : x ∈ swL qty k m) : ∃ i, k ≤ i ∧ i < k + m ∧ x = swLv qty i := by
  obtain ⟨i, hi, rfl⟩ := List.mem_map.1 h
  rw [List.mem_range'] at hi
  obtain ⟨j, hj, rfl⟩ := hi
  exact ⟨k + 1 * j, by omega, by omega, rfl⟩
theorem swL_cnt (qty : Int) (k m : Nat) : cnt (swL qty k m) = m := by
  induction m generalizing k with
  | zero => rfl
  | succ m ih => rw [swL_succ, cnt_cons, ih]; simp [swLv]; omega
theorem swL_ids (qty : Int) (k m : Nat) : ids (swL qty k m) = (List.range' k m).map fun (i : Nat) => ((i : Int) + 1) := by
  induction m generalizing k with
  | zero => rfl
  | succ m ih => 
    rw [swL_succ]
    simp only [ids, List.flatMap_cons] at ih ⊢
    rw [ih, List.range'_succ]
    rfl
theorem sw_err {i : Nat} {qty : Int} (hi : i ≤ 100) (h1 : 1 ≤ qty) (h2 : qty ≤ 10000) : Rest.err ⟨i + 1, 1, qty, 0, 0⟩ = 0 :=
  err_mk (by simp [inb]; omega) (by simp [inb]) h1 h2 (by simp) (by simp) (by simp) (by simp) (by simp) (by simp)
theorem sw_side {n : Nat} {qty : Int} (hn : n ≤ 30) (h1 : 1 ≤ qty) (h2 : qty ≤ 100) : SideOk 2 (swL qty 0 n) := by
  refine ⟨by decide, fun x hx => ?_, fun x hx => ?_, fun x hx r hr => ?_, ?_, by rw [swL_cnt]; omega, ?_⟩
  · obtain ⟨i, _, _, rfl⟩ := swL_mem hx
    exact vp_y (by simp only [swLv]; omega)
  · obtain ⟨i, _, _, rfl⟩ := swL_mem hx
    simp [swLv]
  · obtain ⟨i, _, _, rfl⟩ := swL_mem hx
    simp only [swLv, List.mem_singleton] at hr
    subst hr
    exact sw_err (by omega) h1 (by omega)
  · refine pairwise_step (by decide) _ fun k x y hx hy => ?_
    simp only [swL, List.getElem?_map, Option.map_eq_some_iff] at hx hy
    obtain ⟨i, hi, rfl⟩ := hx
    obtain ⟨j, hj, rfl⟩ := hy
    have a := List.getElem?_eq_some_iff.1 hi
    have b := List.getElem?_eq_some_iff.1 hj
    obtain ⟨_, a⟩ := a
    obtain ⟨_, b⟩ := b
    simp at a b
    rw [sAhd_iff (by decide)]
    simp [swLv]
    omega
  · rw [swL_ids]
    rw [List.Nodup, List.pairwise_map]
    refine List.Pairwise.imp (R := fun a b : Nat => a ≠ b) ?_ (List.nodup_range' (step := 1) (h := by omega))
    intro a b h h2
    omega
theorem sw_ready {n : Nat} {qty want : Int} (hn : n ≤ 30) (h1 : 1 ≤ qty) (h2 : qty ≤ 100) (h3 : 1 ≤ want) (h4 : want ≤ 10000) : readyE [] (swL qty 0 n) (swO want) = 0 := by
  have hs := sw_side hn h1 h2
  rw [readyE_iff]
  refine ⟨⟨⟨by decide, by simp, by simp, by simp, List.Pairwise.nil, by simp [cnt], by simp [ids]⟩, hs, by simp, by rw [swL_cnt]; simp [cnt]; omega, by simpa [ids] using hs.once⟩, ?_, rfl, by simp [ids], ?_⟩
  · simp [Order.err, swO, inb, vs, h3, h4]
    omega
  · rw [swL_ids, List.mem_map]
    rintro ⟨i, hi, he⟩
    rw [List.mem_range'] at hi
    obtain ⟨j, hj, rfl⟩ := hi
    simp [swO] at he
    omega
/-- so many trades, so much left -/
structure Swept (qty : Int) (k m : Nat) (left : Int) (e : MSt) : Prop where
  each : ∀ (i : Nat) t, e.T[i]? = some t → t.price = 100 + i ∧ t.maker = i + 1
  all : m * qty ≤ left → e.T.length = k + m ∧ e.left = left - m * qty
  some_ : left < m * qty → e.left = 0 ∧ ((e.T.length : Int) - k - 1) * qty < left ∧ left ≤ ((e.T.length : Int) - k) * qty
theorem sweep {qty want : Int} (h1 : 1 ≤ qty) : ∀ (m k n : Nat) (left : Int) (T : List Trade), T.length = k → (∀ (i : Nat) t, T[i]? = some t → t.price = 100 + i ∧ t.maker = i + 1) → 0 ≤ left → k + m ≤ 30 → m + 2 ≤ n →
    ∃ e, mRun (swO want) 0 n ⟨swL qty k m, left, T, [], false⟩ = some e ∧ (0 < left → Swept qty k m left e) ∧ (left = 0 → e.T = T ∧ e.left = 0)
  | 0, k, n, left, T, hT, hE, h0, hk, hn => by
    have hg : mGo (swO want) ⟨swL qty k 0, left, T, [], false⟩ = false := by simp [mGo, swL]
    refine ⟨_, mRun_stop hg, fun hl => ⟨hE, fun _ => ⟨by simpa using hT, by simp⟩, fun h => ?_⟩, fun hl => ⟨rfl, hl⟩⟩
    simp at h; omega
  | m + 1, k, n, left, T, hT, hE, h0, hk, hn => by
    by_cases hl : left = 0
    · subst hl
      have hg : mGo (swO want) ⟨swL qty k (m + 1), 0, T, [], false⟩ = false := by simp [mGo]
      exact ⟨_, mRun_stop hg, fun h => absurd h (by omega), fun _ => ⟨rfl, rfl⟩⟩
    · have hl0 : 0 < left := by omega
      obtain ⟨n, rfl⟩ : ∃ n', n = n' + 1 := ⟨n - 1, by omega⟩
      have hg : mGo (swO want) ⟨swL qty k (m + 1), left, T, [], false⟩ = true := by rw [swL_succ]; simp [mGo, hl0, may, swO]
      rw [mRun_go hg]
      have hE' : ∀ (q : Int) (i : Nat) t, (T ++ [mTr (swO want) ⟨(k : Int) + 1, 1, q⟩ (100 + k)])[i]? = some t → t.price = 100 + i ∧ t.maker = i + 1 := by
        intro q i t ht
        rcases Nat.lt_or_ge i T.length with hi | hi
        · rw [List.getElem?_append_left hi] at ht; exact hE i t ht
        · rw [List.getElem?_append_right hi] at ht
          have hik : i - T.length = 0 := by
            have := (List.getElem?_eq_some_iff.1 ht).1
            simp at this; omega
          rw [hik] at ht
          simp only [List.getElem?_cons_zero, Option.some.injEq] at ht
          subst ht
          have : i = k := by omega
          subst this
          simp [mTr, swO]
      by_cases hq : left < qty
      · have hst : mStep (swO want) 0 ⟨swL qty k (m + 1), left, T, [], false⟩ = ⟨⟨100 + k, [⟨k + 1, 1, qty - left, 0, 0⟩]⟩ :: swL qty (k + 1) m, 0, T ++ [mTr (swO want) ⟨(k : Int) + 1, 1, left⟩ (100 + k)], [], false⟩ := by
          rw [swL_succ]
          simp [mStep, swLv, qFirst, hq, mCut]
        rw [hst, if_neg (by simp; omega)]
        have hg2 : mGo (swO want) ⟨⟨100 + k, [⟨k + 1, 1, qty - left, 0, 0⟩]⟩ :: swL qty (k + 1) m, 0, T ++ [mTr (swO want) ⟨(k : Int) + 1, 1, left⟩ (100 + k)], [], false⟩ = false := by simp [mGo]
        refine ⟨_, mRun_stop hg2, fun _ => ⟨hE' left, fun h => ?_, fun _ => ⟨rfl, ?_, ?_⟩⟩, fun h => absurd h hl⟩
        · exfalso
          have : (0 : Int) ≤ m * qty := Int.mul_nonneg (by omega) (by omega)
          rw [Int.natCast_add, Int.add_mul] at h
          omega
        · simp [hT]; omega
        · simp [hT]; omega
      · have hst : mStep (swO want) 0 ⟨swL qty k (m + 1), left, T, [], false⟩ = ⟨swL qty (k + 1) m, left - qty, T ++ [mTr (swO want) ⟨(k : Int) + 1, 1, qty⟩ (100 + k)], [], false⟩ := by
          rw [swL_succ]
          simp [mStep, swLv, qFirst, hq, mCut]
        rw [hst, if_neg (by simp; omega)]
        obtain ⟨e, he, hs, hz⟩ := sweep h1 m (k + 1) n (left - qty) _ (by simp [hT]) (hE' qty) (by omega) (by omega) (by omega)
        refine ⟨e, he, fun _ => ?_, fun h => absurd h hl⟩
        have hm : ((m + 1 : Nat) : Int) * qty = m * qty + qty := by rw [Int.natCast_add, Int.add_mul]; simp
        by_cases hlq : left = qty
        · obtain ⟨e1, e2⟩ := hz (by omega)
          have hmz : (0 : Int) ≤ m * qty := Int.mul_nonneg (by omega) (by omega)
          refine ⟨by rw [e1]; exact hE' qty, fun h => ?_, fun h => ⟨e2, ?_, ?_⟩⟩
          · rw [hm] at h
            have hm0 : (m : Int) * qty = 0 := by omega
            have hm1 : m = 0 := by
              rcases Int.mul_eq_zero.1 hm0 with h | h <;> omega
            subst hm1
            rw [e1, e2]
            simp [hT]; omega
          · rw [e1]; simp [hT]; omega
          · rw [e1]; simp [hT]; omega
        · have hS := hs (by omega)
          refine ⟨hS.each, fun h => ?_, fun h => ?_⟩
          · rw [hm] at h
            have := hS.all (by omega)
            rw [hm]
            omega
          · rw [hm] at h
            obtain ⟨a, b, c⟩ := hS.some_ (by omega)
            refine ⟨a, ?_, ?_⟩
            · have : ((e.T.length : Int) - k - 1) * qty = ((e.T.length : Int) - (k + 1 : Nat) - 1) * qty + qty := by
                rw [show ((e.T.length : Int) - k - 1) = ((e.T.length : Int) - (k + 1 : Nat) - 1) + 1 by omega, Int.add_mul]; simp
              omega
            · have : ((e.T.length : Int) - k) * qty = ((e.T.length : Int) - (k + 1 : Nat)) * qty + qty := by
                rw [show ((e.T.length : Int) - k) = ((e.T.length : Int) - (k + 1 : Nat)) + 1 by omega, Int.add_mul]; simp
              omega
theorem ceil_div {q w x : Int} (hq : 1 ≤ q) (hw : 0 ≤ w) (h1 : (x - 1) * q < w) (h2 : w ≤ x * q) : (w + q - 1).tdiv q = x := by
  rw [Int.tdiv_eq_ediv_of_nonneg (by omega)]
  have e1 : (w + q - 1) = (w + q - 1 - x * q) + x * q := by omega
  rw [e1, Int.add_mul_ediv_right _ _ (by omega)]
  have h3 := Int.sub_mul x 1 q
  rw [Int.one_mul] at h3
  rw [Int.ediv_eq_zero_of_lt (by omega) (by omega)]
  omega
theorem swept {n : Nat} {qty want : Int} (hn : n ≤ 30) (h1 : 1 ≤ qty) (h3 : 1 ≤ want) (h4 : want ≤ 10000) :
    ∃ e, met [] (swL qty 0 n) (swO want) 0 = some e ∧ Swept qty 0 n want e := by
  obtain ⟨e, h, hs, _⟩ := sweep (qty := qty) (want := want) h1 n 0 (10000 + 60 + 2) want [] rfl (by simp) (by omega) (by omega) (by omega)
  exact ⟨e, h, hs (by omega)⟩
end Go.Proofs.Ytbnjkcgkdpildaa
