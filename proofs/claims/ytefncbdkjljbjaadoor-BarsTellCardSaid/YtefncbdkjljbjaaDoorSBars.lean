/- The contracts of the reference's Deals, Bar, BarOf. -/
import Derived.Test.YtefncbdkjljbjaaDoorBarsMean
import Derived.Test.YtefncbdkjljbjaaDoorBarsJoinL
import Derived.Test.YtefncbdkjljbjaaDoorBarsMore
import Derived.Test.YtefncbdkjljbjaaDoorRef
import Derived.Test.YtefncbdkjljbjaaDoorBlk
import Derived.IntWalk
namespace Go.Proofs.YtefncbdkjljbjaaDoor
set_option linter.all false
open Go Go.RowKit
theorem dret {l : List Trade} {k : Int} (h : trErr l = k) : Ending.returned (.int .i64 k) = .returned (.int .i64 (trErr l)) := by rw [h]
theorem deals_any (l : List Trade) (A : Option Addr) (c : Nat) (w : World) (hr : Rd w w.heap.size A l.length 6 (tcell l)) :
    Calls Tryd.prog 17 #[.slice A l.length c] w fun e w' => e = .returned (.int .i64 (trErr l)) ∧ w = w' := by
  by_cases hl : (400 : Int) < (l.length : Int)
  · have H := Lib.hid (trErr_long (l := l) (by omega))
    go_enter Tryd.func17, Tryd.ntmps17
    go_wp2
    go_ret
    exact ⟨dret H.out, rfl⟩
  have hl' : (l.length : Int) ≤ 400 := by omega
  have HR := Lib.hid hr
  clear hl hr
  go_enter Tryd.func17, Tryd.ntmps17
  go_wp2
  go_loop [3] (fun i => ∃ k : Nat, k ≤ l.length ∧ i = .int .i64 k ∧ Hid ((l.take k).all Trade.okB = true)) (fun i => l.length - (intOf i).toNat)
  case atStart => exact ⟨0, by omega, rfl, Lib.hid rfl⟩
  case round =>
    obtain ⟨k, hk, rfl, HA⟩ := hrel
    by_cases hlt : k < l.length
    · obtain ⟨b, off, t, rfl, hbl, ht, e0, e1, e2, e3, e4, e5⟩ := tr_at HR.out hlt
      have HT := Lib.hid ht; clear ht
      have i0 : (0 : Int) ≤ (k : Int) := by omega
      have i1 : (k : Int) < (l.length : Int) := by omega
      cases hvp : vp t.price
      · have H1 := Lib.hid (trErr_bad (l := l) (by omega) HT.out (by simp [Trade.okB, hvp]))
        go_wp2_with (go_at_call 37; refine (rprice_any _ _).mono ?_; rintro e w' ⟨rfl, rfl⟩)
        go_ret
        exact ⟨dret H1.out, rfl⟩
      · rcases (show t.qty < 1 ∨ (1 ≤ t.qty ∧ 10000 < t.qty) ∨ (1 ≤ t.qty ∧ t.qty ≤ 10000) by omega) with hq | ⟨hq, hq2⟩ | ⟨hq, hq2⟩
        · have H1 := Lib.hid (trErr_bad (l := l) (by omega) HT.out (by simp [Trade.okB, inb_n (show t.qty < 1 ∨ 10000 < t.qty by omega)]))
          go_wp2_with (go_at_call 37; refine (rprice_any _ _).mono ?_; rintro e w' ⟨rfl, rfl⟩)
          go_ret
          exact ⟨dret H1.out, rfl⟩
        · have H1 := Lib.hid (trErr_bad (l := l) (by omega) HT.out (by simp [Trade.okB, inb_n (show t.qty < 1 ∨ 10000 < t.qty by omega)]))
          go_wp2_with (go_at_call 37; refine (rprice_any _ _).mono ?_; rintro e w' ⟨rfl, rfl⟩)
          go_ret
          exact ⟨dret H1.out, rfl⟩
        · have H1 := Lib.hid (all_take_succ HT.out HA.out (by simp [Trade.okB, hvp, inb_y (show 1 ≤ t.qty ∧ t.qty ≤ 10000 from ⟨hq, hq2⟩)]))
          go_wp2_with (go_at_call 37; refine (rprice_any _ _).mono ?_; rintro e w' ⟨rfl, rfl⟩)
          go_round
          case rel => exact ⟨k + 1, by omega, by go_num, Lib.hid H1.out⟩
          case measure => simp [intOf]; omega
    · obtain rfl : k = l.length := by omega
      have H1 := Lib.hid (trErr_ok (l := l) (by omega) (by have := HA.out; rwa [List.take_length] at this))
      go_wp2
      go_ret
      exact ⟨dret H1.out, rfl⟩
set_option maxHeartbeats 1000000 in
theorem sbar_any (b : Bar) (w : World) :
    Calls Tryd.prog 22 #[.agg #[.int .i64 b.o, .int .i64 b.h, .int .i64 b.l, .int .i64 b.c, .int .i64 b.q]] w fun e w' => e = .returned (.bool b.okB) ∧ Below w.heap.size w w' := by
  obtain ⟨o, h, l, c, q⟩ := b
  have hc : l < 1 ∨ (1 ≤ l ∧ h < l) ∨ (1 ≤ l ∧ l ≤ h ∧ o < l) ∨ (1 ≤ l ∧ l ≤ h ∧ l ≤ o ∧ h < o) ∨ (1 ≤ l ∧ l ≤ h ∧ l ≤ o ∧ o ≤ h ∧ c < l) ∨ (1 ≤ l ∧ l ≤ h ∧ l ≤ o ∧ o ≤ h ∧ l ≤ c ∧ h < c) ∨
      (1 ≤ l ∧ l ≤ h ∧ l ≤ o ∧ o ≤ h ∧ l ≤ c ∧ c ≤ h ∧ q < 1) ∨ (1 ≤ l ∧ l ≤ h ∧ l ≤ o ∧ o ≤ h ∧ l ≤ c ∧ c ≤ h ∧ 1 ≤ q ∧ 4000000 < q) ∨ (1 ≤ l ∧ l ≤ h ∧ l ≤ o ∧ o ≤ h ∧ l ≤ c ∧ c ≤ h ∧ 1 ≤ q ∧ q ≤ 4000000) := by omega
  rcases hc with a | ⟨a1, a2⟩ | ⟨a1, a2, a3⟩ | ⟨a1, a2, a3, a4⟩ | ⟨a1, a2, a3, a4, a5⟩ | ⟨a1, a2, a3, a4, a5, a6⟩ | ⟨a1, a2, a3, a4, a5, a6, a7⟩ | ⟨a1, a2, a3, a4, a5, a6, a7, a8⟩ | ⟨a1, a2, a3, a4, a5, a6, a7, a8⟩
  all_goals
    go_enter Tryd.func22, Tryd.ntmps22
    go_wp2
    go_ret
    refine ⟨ret_bool ?_, by (repeat (first | exact Below.refl _ _ | assumption | (refine below_then (by assumption) ?_) | (refine below_then_alloc ?_) | (refine Below.drew ?_)))⟩
    simp only [Bar.okB]
    first | (refine (decide_eq_false ?_).symm; omega) | (refine (decide_eq_true ?_).symm; omega) | (rw [Bool.eq_iff_iff, decide_eq_true_iff, decide_eq_true_iff]; omega)
/-- the greatest, the least, from a price on -/
def hiF (p : Int) (l : List Trade) : Int := l.foldl (fun a t => if a < t.price then t.price else a) p
def loF (p : Int) (l : List Trade) : Int := l.foldl (fun a t => if t.price < a then t.price else a) p
theorem hiF_snoc {p : Int} {l : List Trade} {k : Nat} {t : Trade} (h : l[k]? = some t) : hiF p (l.take (k + 1)) = if hiF p (l.take k) < t.price then t.price else hiF p (l.take k) := by
  rw [List.take_add_one, h]; unfold hiF; rw [List.foldl_append]; rfl
theorem loF_snoc {p : Int} {l : List Trade} {k : Nat} {t : Trade} (h : l[k]? = some t) : loF p (l.take (k + 1)) = if t.price < loF p (l.take k) then t.price else loF p (l.take k) := by
  rw [List.take_add_one, h]; unfold loF; rw [List.foldl_append]; rfl
theorem hiF_max (l : List Trade) : ∀ p, hiF p l = l.foldl (fun a t => max a t.price) p := by
  have : (fun (a : Int) (t : Trade) => if a < t.price then t.price else a) = fun a t => max a t.price := by funext a t; split <;> omega
  intro p; rw [hiF, this]
theorem loF_min (l : List Trade) : ∀ p, loF p l = l.foldl (fun a t => min a t.price) p := by
  have : (fun (a : Int) (t : Trade) => if t.price < a then t.price else a) = fun a t => min a t.price := by funext a t; split <;> omega
  intro p; rw [loF, this]
theorem bar_all {l : List Trade} {m : Nat} {t0 t1 : Trade} (hok : okT4 l) (hm : l.length = m + 1) (h0 : l[0]? = some t0) (h1 : l[m]? = some t1) :
    allB l = ⟨t0.price, hiF t0.price l, loF t0.price l, t1.price, qtys l⟩ := by
  have h := allB_says hok m (by omega)
  rw [List.take_of_length_le (by omega), h0, h1] at h
  obtain ⟨a1, a2, a3, a4, a5, _⟩ := h
  simp only [Option.map_some, Option.some.injEq] at a3 a4
  have hp := hok t0 (List.mem_of_getElem? h0)
  have e1 : highOf l = hiF t0.price l := by
    cases l with
    | nil => simp at hm
    | cons x t =>
      obtain rfl : x = t0 := by simpa using h0
      rw [hiF_max, highOf]; simp only [List.foldl_cons]; congr 1; omega
  have e2 : lowOf l = loF t0.price l := by
    cases l with
    | nil => simp at hm
    | cons x t =>
      obtain rfl : x = t0 := by simpa using h0
      rw [loF_min, lowOf]; simp only [List.foldl_cons]; congr 1; omega
  generalize allB l = B at *
  obtain ⟨o, h, lo, c, q⟩ := B
  simp only at a1 a2 a3 a4 a5
  rw [a1, a2, a3, a4, a5, e1, e2]
end Go.Proofs.YtefncbdkjljbjaaDoor
