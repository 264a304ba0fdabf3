/- The best price first: plain. -/
import Derived.Test.YtbnjkcgkdpildaaKindLaw
import Derived.Test.YtbnjkcgkdpildaaCould
import Derived.Test.YtbnjkcgkdpildaaWholeQ
namespace Go.Proofs.Ytbnjkcgkdpildaa
set_option linter.all false
open Go Go.RowKit
/-- what holds of a meeting where all trade -/
structure Fair (L M : List Lv) (o : Order) (e : MSt) : Prop where
  ok : BookOk (kL o.side L e) (kM o.side M e)
  tr : ∀ t ∈ e.T, TOk o 0 (pick o.side L M) t
  sum : sumT e.T + e.left = o.qty
  could : sumT e.T = min (mayQ o (pick o.side L M)) o.qty
  lost : lvQ L + lvQ M - (lvQ (kL o.side L e) + lvQ (kM o.side M e)) = sumT e.T
  ready : readyE (kL o.side L e) (kM o.side M e) o = 0
  more : e.left ≠ 0 → min (mayQ o (pick o.side (kL o.side L e) (kM o.side M e))) o.qty = 0
  sort : ∀ (k : Nat) a b, e.T[k]? = some a → e.T[k + 1]? = some b → okT o.side b.price a.price = true ∧ ahd o.side b.price a.price = false
theorem may_behind {o : Order} {a b : Int} (hs : o.side = 1 ∨ o.side = 2) (h : sAhd (3 - o.side) a b = true) (hm : may o a = false) : may o b = false := by
  unfold may at *
  have hm := of_decide_eq_false hm
  refine decide_eq_false ?_
  rcases hs with h1 | h1
  · rw [h1] at h
    have h := (sAhd_iff (s := 2) rfl).1 h
    omega
  · rw [h1] at h
    have h := (sAhd_iff (s := 1) rfl).1 h
    omega
theorem mayQ_none {o : Order} : ∀ {L : List Lv}, (∀ x ∈ L, may o x.price = false) → mayQ o L = 0
  | [], _ => rfl
  | x :: L, h => by
    rw [mayQ_cons, h x (by simp), mayQ_none (fun y hy => h y (by simp [hy]))]
    rfl
theorem fair {L M : List Lv} {o : Order} {e : MSt} (hr : readyE L M o = 0) (h : met L M o 0 = some e) : Fair L M o e := by
  obtain ⟨hb, ho, hst, n1, n2⟩ := readyE_iff.1 hr
  obtain ⟨hok, hi, hstop⟩ := met_out hb ho h
  have hside := (Order.err_ok ho).2.2.1
  have hbk := met_book hb ho h
  have hq := (Order.err_ok ho).2.2.2.2.2.1
  have hmays := hi.mays rfl
  have hall := hi.all rfl
  have hends := hi.ends rfl
  have hl0 := hok.left0
  have hsum := hi.sum
  have hmn := (mayQ_nonneg (o := o) (L := e.L) (fun x hx => hi.side.sound x hx)).1
  have hnone : e.left ≠ 0 → mayQ o e.L = 0 := fun hl => by
    refine mayQ_none fun x hx => ?_
    have hlp : 0 < e.left := by omega
    cases hL : e.L with
    | nil => rw [hL] at hx; cases hx
    | cons y K =>
      rw [hL] at hx
      have hy : may o y.price = false := by
        rw [mGo, hL, hends, decide_eq_true hlp] at hstop
        simpa using hstop
      rcases List.mem_cons.1 hx with rfl | hx
      · exact hy
      · have hs := hi.side.sorted
        rw [hL] at hs
        exact may_behind hside ((List.pairwise_cons.1 hs).1 x hx) hy
  refine ⟨hbk, hi.trades, hsum, ?_, ?_, ?_, fun hl => ?_, fun k a b ha hb' => ?_⟩
  · by_cases hl : e.left = 0
    · omega
    · have := hnone hl
      omega
  · rcases hside with h1 | h1
    · rw [h1] at hall ⊢
      simp only [kL, kM, pick] at hall ⊢
      simp at hall ⊢
      omega
    · rw [h1] at hall ⊢
      simp only [kL, kM, pick] at hall ⊢
      simp at hall ⊢
      omega
  · exact readyE_iff.2 ⟨hbk, ho, hst, met_ids hb ho h n1 n2⟩
  · have e1 : pick o.side (kL o.side L e) (kM o.side M e) = e.L := by
      rcases hside with h1 | h1
      · rw [h1]; rfl
      · rw [h1]; rfl
    rw [e1, hnone hl]
    omega
  · have hk1 := (List.getElem?_eq_some_iff.1 hb').1
    have hp := List.pairwise_iff_getElem.1 hi.sort k (k + 1) (by omega) hk1 (by omega)
    rw [(List.getElem?_eq_some_iff.1 ha).2, (List.getElem?_eq_some_iff.1 hb').2] at hp
    have ha1 := vp_t (hi.trades a (List.mem_of_getElem? ha)).price
    have hb1 := vp_t (hi.trades b (List.mem_of_getElem? hb')).price
    refine ⟨decide_eq_true (by omega), ?_⟩
    unfold ahd
    rcases hside with h1 | h1
    · rw [h1] at hp ⊢
      rw [if_pos rfl]
      refine decide_eq_false ?_
      rcases hp with hp | hp
      · omega
      · have := (sAhd_iff (s := 2) rfl).1 hp; omega
    · rw [h1] at hp ⊢
      rw [if_neg (by decide)]
      refine decide_eq_false ?_
      rcases hp with hp | hp
      · omega
      · have := (sAhd_iff (s := 1) rfl).1 hp; omega
end Go.Proofs.Ytbnjkcgkdpildaa
