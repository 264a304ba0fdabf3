/- What is put by, paid, and comes back: plain. -/
import Derived.Test.YtbnjkcgkdpildaaKDoLaw
import Derived.Test.YtbnjkcgkdpildaaBack3
namespace Go.Proofs.Ytbnjkcgkdpildaa
set_option linter.all false
open Go Go.RowKit
/-- what all was worth -/
def worth (l : List Trade) : Int := (l.map fun t => t.price * t.qty).sum
theorem worth_take {l : List Trade} {k : Nat} {t : Trade} (h : l[k]? = some t) : worth (l.take (k + 1)) = worth (l.take k) + t.price * t.qty := by
  rw [List.take_add_one, h]; simp [worth]
theorem worth_cons (t : Trade) (l : List Trade) : worth (t :: l) = t.price * t.qty + worth l := by simp [worth]
theorem sumT_cons (t : Trade) (l : List Trade) : sumT (t :: l) = t.qty + sumT l := by simp [sumT]
theorem lim_may {o : Order} (ho : o.err = 0) (h1 : o.side = 1) {p : Int} (hp : vp p = true) (h : may o p = true) : p ≤ o.lim := by
  have h2 := vp_t hp
  unfold may at h
  unfold Order.lim
  have h := of_decide_eq_true h
  split
  · omega
  · omega
theorem back_all {o : Order} (ho : o.err = 0) {mode : Int} {K : List Lv} : ∀ (T : List Trade) (c : Int), (∀ t ∈ T, TOk o mode K t) → 0 ≤ c → c + o.lim * sumT T ≤ 1000000000000 → backL o T c = (0, if o.side = 1 then c + (o.lim * sumT T - worth T) else c) ∧ 0 ≤ worth T ∧ (o.side = 1 → worth T ≤ o.lim * sumT T) ∧ 0 ≤ sumT T
  | [], c, _, h0, _ => ⟨by simp [backL, sumT, worth], by simp [worth], fun _ => by simp [worth, sumT], by simp [sumT]⟩
  | t :: T, c, h, h0, hb => by
    have ht := h t (by simp)
    have hl := lim_bd ho
    have hv := vp_t ht.price
    have hq := (Order.err_ok ho).2.2.2.2.2.1
    have hq1 := ht.q1; have hq2 := ht.q2
    have hE : bErr o t = 0 := bErr_0 (by rw [Trade.okB, ht.price, inb_y (by omega)]; rfl) ht.taker ht.may
    have hw0 : 0 ≤ t.price * t.qty := Int.mul_nonneg (by omega) (by omega)
    have hm : o.lim * sumT (t :: T) = o.lim * t.qty + o.lim * sumT T := by rw [sumT_cons, Int.mul_add]
    have hlq : 0 ≤ o.lim * t.qty := Int.mul_nonneg hl.1 (by omega)
    have hsub : (o.lim - t.price) * t.qty = o.lim * t.qty - t.price * t.qty := Int.sub_mul _ _ _
    rw [hm] at hb
    rw [backL, if_neg (by simpa using hE), worth_cons, sumT_cons, Int.mul_add]
    by_cases hs : o.side = 1
    · have hle := lim_may ho hs ht.price ht.may
      have hpq : t.price * t.qty ≤ o.lim * t.qty := Int.mul_le_mul_of_nonneg_right hle (by omega)
      have ih0 := back_all ho T 0 (fun x hx => h x (by simp [hx])) (Int.le_refl _) (by omega)
      have hls : 0 ≤ o.lim * sumT T := Int.mul_nonneg hl.1 ih0.2.2.2
      have hA : bAdd o c t = c + (o.lim - t.price) * t.qty := by
        rw [bAdd, if_pos hs]
        exact IntWalk.wrap64_in _ (by omega)
      have ih := back_all ho T (c + (o.lim - t.price) * t.qty) (fun x hx => h x (by simp [hx])) (by omega) (by omega)
      rw [hA, ih.1, if_pos hs, if_pos hs]
      refine ⟨by rw [Prod.mk.injEq]; exact ⟨rfl, by omega⟩, by omega, fun _ => by have := ih.2.2.1 hs; omega, by omega⟩
    · have hA : bAdd o c t = c := by rw [bAdd, if_neg hs]
      have ih := back_all ho T c (fun x hx => h x (by simp [hx])) h0 (by omega)
      rw [hA, ih.1, if_neg hs, if_neg hs]
      exact ⟨rfl, by omega, fun h => absurd h hs, by omega⟩
theorem worth_take_le {o : Order} {mode : Int} {K : List Lv} : ∀ (T : List Trade), (∀ t ∈ T, TOk o mode K t) → ∀ k, 0 ≤ worth (T.take k) ∧ worth (T.take k) ≤ worth T
  | [], _, k => by simp [worth]
  | t :: T, h, k => by
    have ht := h t (by simp)
    have hv := vp_t ht.price
    have hq1 := ht.q1
    have hw0 : 0 ≤ t.price * t.qty := Int.mul_nonneg (by omega) (by omega)
    have ih0 := worth_take_le T (fun x hx => h x (by simp [hx])) 0
    cases k with
    | zero => rw [worth_cons]; simp [worth] at *; omega
    | succ k =>
      have ih := worth_take_le T (fun x hx => h x (by simp [hx])) k
      rw [List.take_succ_cons, worth_cons, worth_cons]
      omega
/-- what the law's own sums are, behind k trades -/
def cAt (o : Order) (c : Int) (T : List Trade) (k : Nat) : Int := if o.side = 1 then c + worth (T.take k) else c
def dAt (o : Order) (d : Int) (T : List Trade) (k : Nat) : Int := if o.side = 1 then d else d + sumT (T.take k)
/-- what comes back -/
def backC (o : Order) (T : List Trade) (gone : Int) : Int := if o.side = 1 then o.lim * gone + (o.lim * sumT T - worth T) else 0
structure Mad (o : Order) (T : List Trade) (gone rests : Int) : Prop where
  back : backR o T gone = (0, backC o T gone, mstock o.side gone)
  c : cAt o (backC o T gone) T T.length + mcash o.side o.price rests = mcash o.side o.lim o.qty
  d : dAt o (mstock o.side gone) T T.length + mstock o.side rests = mstock o.side o.qty
  cb : ∀ k, 0 ≤ cAt o (backC o T gone) T k ∧ cAt o (backC o T gone) T k ≤ 100000000
  db : ∀ k, 0 ≤ dAt o (mstock o.side gone) T k ∧ dAt o (mstock o.side gone) T k ≤ 10000
theorem mad {L M L' M' : List Lv} {o : Order} {T : List Trade} {gone rests : Int} (ho : o.err = 0) (hk : KOk L M o 0 T gone rests L' M') : Mad o T gone rests := by
  have hl := lim_bd ho
  have hq := (Order.err_ok ho).2.2.2.2.2.1
  have hsum := hk.sum; have hg := hk.gone0; have hr := hk.rests0
  have hT1 : ∀ t ∈ T, 1 ≤ t.qty := fun t ht => (hk.tr t ht).q1
  have hlq := prod_bd hl.1 hl.2 (by omega : (0 : Int) ≤ o.qty) (by omega)
  have hlg : 0 ≤ o.lim * gone := Int.mul_nonneg hl.1 hg
  have hlr : 0 ≤ o.lim * rests := Int.mul_nonneg hl.1 hr
  have hall : o.lim * sumT T + o.lim * gone + o.lim * rests = o.lim * o.qty := by rw [← hsum, Int.mul_add, Int.mul_add]
  have hmc : 0 ≤ mcash o.side o.lim gone ∧ mcash o.side o.lim gone ≤ o.lim * gone := by unfold mcash; split <;> omega
  obtain ⟨b1, b2, b3, b4⟩ := back_all ho T (mcash o.side o.lim gone) hk.tr hmc.1 (by omega)
  have hsT := sumT_take_le hT1
  have hwT := worth_take_le T hk.tr
  have hlim : rests = 0 ∨ o.lim = o.price := by
    by_cases h1 : o.kind = 1
    · right; unfold Order.lim; rw [if_neg (by omega)]
    · by_cases h5 : o.kind = 5
      · right; unfold Order.lim; rw [if_neg (by omega)]
      · exact .inl (hk.other h1 h5)
  have hlp : o.lim * rests = o.price * rests := by
    rcases hlim with h | h
    · rw [h]; simp
    · rw [h]
  by_cases hs : o.side = 1
  · have hb3 := b3 hs
    refine ⟨?_, ?_, ?_, fun k => ?_, fun k => ?_⟩
    · rw [backR, if_neg (by omega), b1, if_neg (by simp), if_pos hs, backC, if_pos hs, mcash, if_pos hs]
    · rw [cAt, if_pos hs, backC, if_pos hs, mcash, if_pos hs, mcash, if_pos hs, List.take_length]
      omega
    · rw [dAt, if_pos hs, mstock, if_pos hs, mstock, if_pos hs, mstock, if_pos hs]
      omega
    · have := hwT k
      rw [cAt, if_pos hs, backC, if_pos hs]
      omega
    · rw [dAt, if_pos hs, mstock, if_pos hs]
      omega
  · refine ⟨?_, ?_, ?_, fun k => ?_, fun k => ?_⟩
    · rw [backR, if_neg (by omega), b1, if_neg (by simp), if_neg hs, backC, if_neg hs, mcash, if_neg hs]
    · rw [cAt, if_neg hs, backC, if_neg hs, mcash, if_neg hs, mcash, if_neg hs]
      omega
    · rw [dAt, if_neg hs, mstock, if_neg hs, mstock, if_neg hs, mstock, if_neg hs, List.take_length]
      omega
    · rw [cAt, if_neg hs, backC, if_neg hs]
      omega
    · have := hsT k
      rw [dAt, if_neg hs, mstock, if_neg hs]
      omega
theorem cAt_next {o : Order} {c : Int} {T : List Trade} {k : Nat} {t : Trade} (ht : T[k]? = some t) : cAt o c T (k + 1) = if o.side = 1 then cAt o c T k + t.price * t.qty else cAt o c T k := by
  unfold cAt
  by_cases h : o.side = 1
  · rw [if_pos h, if_pos h, if_pos h, worth_take ht]; omega
  · rw [if_neg h, if_neg h, if_neg h]
theorem dAt_next {o : Order} {d : Int} {T : List Trade} {k : Nat} {t : Trade} (ht : T[k]? = some t) : dAt o d T (k + 1) = if o.side = 1 then dAt o d T k else dAt o d T k + t.qty := by
  unfold dAt
  by_cases h : o.side = 1
  · rw [if_pos h, if_pos h, if_pos h]
  · rw [if_neg h, if_neg h, if_neg h, sumT_take ht]; omega
theorem cAt_zero (o : Order) (c : Int) (T : List Trade) : cAt o c T 0 = c := by unfold cAt; split <;> simp [worth]
theorem dAt_zero (o : Order) (d : Int) (T : List Trade) : dAt o d T 0 = d := by unfold dAt; split <;> simp [sumT]
end Go.Proofs.Ytbnjkcgkdpildaa
