/- The contracts of bars.some, Mean, Range. -/
import Derived.Test.YtefncbdkjljbjaaDoorBars
import Derived.Test.YtefncbdkjljbjaaDoorRegion
namespace Go.Proofs.YtefncbdkjljbjaaDoor
set_option linter.all false
open Go.RowKit
def someErr (l : List Trade) : Int := if trErr l = 0 then (if l.length = 0 then 5 else 0) else trErr l
theorem some_any (l : List Trade) (A : Option Addr) (c : Nat) (w : World) (hr : Rd w w.heap.size A l.length 6 (tcell l)) :
    Calls Tryd.prog 67 #[.slice A l.length c] w fun e w' => e = .returned (errV (someErr l)) ∧ Below w.heap.size w w' := by
  have cC := bars_check_any l A c w hr
  by_cases h : trErr l = 0
  · rw [h, show errV 0 = .nilIface from rfl] at cC
    by_cases h0 : l.length = 0
    · rw [show someErr l = 5 by simp [someErr, h, h0], show errV 5 = er 5 from rfl]
      rw [h0] at cC ⊢
      clear h h0 hr
      go_enter Tryd.func67, Tryd.ntmps67
      go_wp2_with (go_at_call 65; refine cC.mono ?_; rintro e w1 ⟨rfl, hb1⟩)
      go_ret
      exact ⟨rfl, hb1⟩
    · rw [show someErr l = 0 by simp [someErr, h, h0], show errV 0 = .nilIface from rfl]
      have hne : ((l.length : Int) == 0) = false := by simpa using h0
      clear h h0 hr
      go_enter Tryd.func67, Tryd.ntmps67
      go_wp2_with (go_at_call 65; refine cC.mono ?_; rintro e w1 ⟨rfl, hb1⟩)
      go_ret
      exact ⟨rfl, hb1⟩
  · rw [show someErr l = trErr l by simp [someErr, h], show errV (trErr l) = er (trErr l) by simp [errV, h]]
    rw [show errV (trErr l) = er (trErr l) by simp [errV, h]] at cC
    clear h hr
    go_enter Tryd.func67, Tryd.ntmps67
    go_wp2_with (go_at_call 65; refine cC.mono ?_; rintro e w1 ⟨rfl, hb1⟩)
    go_ret
    exact ⟨rfl, hb1⟩
theorem someErr_ok {l : List Trade} (h : someErr l = 0) : 1 ≤ l.length ∧ l.length ≤ 400 ∧ ∀ t ∈ l, (1 ≤ t.price ∧ t.price ≤ 10000) ∧ 1 ≤ t.qty ∧ t.qty ≤ 10000 := by
  unfold someErr at h
  split at h
  · split at h
    · omega
    · rename_i h1 h2
      unfold trErr at h1
      split at h1
      · omega
      · split at h1
        · rename_i h3
          refine ⟨by omega, by omega, fun t ht => ?_⟩
          have := List.all_eq_true.1 h3 t ht
          simp only [Trade.okB, Bool.and_eq_true] at this
          exact ⟨vp_t this.1, inb_t this.2⟩
        · omega
  · contradiction
def worth (l : List Trade) : Int := (l.map fun t => t.price * t.qty).sum
def qtys (l : List Trade) : Int := (l.map Trade.qty).sum
theorem worth_snoc {l : List Trade} {k : Nat} {t : Trade} (h : l[k]? = some t) : worth (l.take (k + 1)) = worth (l.take k) + t.price * t.qty := by
  rw [List.take_add_one, h]; simp [worth]
theorem qtys_snoc {l : List Trade} {k : Nat} {t : Trade} (h : l[k]? = some t) : qtys (l.take (k + 1)) = qtys (l.take k) + t.qty := by
  rw [List.take_add_one, h]; simp [qtys]
theorem sums_le {l : List Trade} (hok : ∀ t ∈ l, (1 ≤ t.price ∧ t.price ≤ 10000) ∧ 1 ≤ t.qty ∧ t.qty ≤ 10000) (k : Nat) (hk : k ≤ l.length) :
    0 ≤ worth (l.take k) ∧ worth (l.take k) ≤ 100000000 * k ∧ (k : Int) ≤ qtys (l.take k) ∧ qtys (l.take k) ≤ 10000 * k := by
  induction k with
  | zero => simp [worth, qtys]
  | succ k ih =>
    have ih := ih (by omega)
    have ht := List.getElem?_eq_getElem (show k < l.length by omega)
    have hb := hok l[k] (List.getElem_mem _)
    rw [worth_snoc ht, qtys_snoc ht]
    have h1 : 0 ≤ l[k].price * l[k].qty := Int.mul_nonneg (by omega) (by omega)
    have h2 : l[k].price * l[k].qty ≤ 100000000 := by have := Int.mul_le_mul hb.1.2 hb.2.2 (by omega) (by omega); omega
    omega
set_option maxHeartbeats 1000000 in
theorem mean_ok (l : List Trade) (A : Option Addr) (c : Nat) (w : World) (hr : Rd w w.heap.size A l.length 6 (tcell l)) (h0 : someErr l = 0) :
    Calls Tryd.prog 20 #[.slice A l.length c] w fun e w' => e = .returned (.tuple #[.int .i64 (worth l / qtys l), .nilIface]) ∧ Below w.heap.size w w' := by
  have cS := some_any l A c w hr
  rw [h0, show errV 0 = .nilIface from rfl] at cS
  obtain ⟨h1, h2, hok⟩ := someErr_ok h0
  have HOK := Lib.hid hok
  clear hok h0
  go_enter Tryd.func20, Tryd.ntmps20
  go_wp2_with (go_at_call 67; refine cS.mono ?_; rintro e w1 ⟨rfl, hb1⟩)
  go_loopw [5, 6, 16] (fun a q i wr => ∃ k : Nat, k ≤ l.length ∧ i = .int .i64 k ∧ a = .int .i64 (worth (l.take k)) ∧ q = .int .i64 (qtys (l.take k)) ∧ Below w.heap.size w wr) (fun _ _ i _ => l.length - (intOf i).toNat)
  case atStart => exact ⟨0, by omega, rfl, rfl, rfl, hb1⟩
  case round =>
    obtain ⟨k, hk, rfl, rfl, rfl, hb⟩ := hrel
    obtain ⟨s1, s2, s3, s4⟩ := sums_le HOK.out k hk
    by_cases hlt : k < l.length
    · obtain ⟨b, off, t, rfl, hbl, ht, e0, e1, e2, e3, e4, e5⟩ := tr_at (hr.below hb) hlt
      obtain ⟨⟨p1, p2⟩, q1, q2⟩ := HOK.out t (List.mem_of_getElem? ht)
      have HW := Lib.hid (worth_snoc ht)
      have HQ := Lib.hid (qtys_snoc ht)
      have m1 : 0 ≤ t.price * t.qty := Int.mul_nonneg (by omega) (by omega)
      have m2 : t.price * t.qty ≤ 100000000 := by have := Int.mul_le_mul p2 q2 (by omega) (by omega); omega
      clear ht hr cS
      generalize worth (l.take k) = a at *
      generalize qtys (l.take k) = q at *
      go_wp2
      go_roundw
      case rel => exact ⟨k + 1, by omega, by go_num, by rw [HW.out], by rw [HQ.out], hb.alloc hb.size _⟩
      case measure => simp [intOf]; omega
    · obtain rfl : k = l.length := by omega
      rw [List.take_length] at s1 s2 s3 s4 ⊢
      have hq0 : (qtys l == 0) = false := by simp; omega
      clear cS hr
      go_wp2
      go_ret2
      exact ⟨rfl, hb⟩
def lowOf (l : List Trade) : Int := l.foldl (fun a t => min a t.price) 10000
def highOf (l : List Trade) : Int := l.foldl (fun a t => max a t.price) 1
theorem low_snoc {l : List Trade} {k : Nat} {t : Trade} (h : l[k]? = some t) : lowOf (l.take (k + 1)) = min (lowOf (l.take k)) t.price := by
  rw [List.take_add_one, h]; simp [lowOf]
theorem high_snoc {l : List Trade} {k : Nat} {t : Trade} (h : l[k]? = some t) : highOf (l.take (k + 1)) = max (highOf (l.take k)) t.price := by
  rw [List.take_add_one, h]; simp [highOf]
set_option maxHeartbeats 2000000 in
theorem range_ok (l : List Trade) (A : Option Addr) (c : Nat) (w : World) (hr : Rd w w.heap.size A l.length 6 (tcell l)) (h0 : someErr l = 0) :
    Calls Tryd.prog 21 #[.slice A l.length c] w fun e w' => e = .returned (.tuple #[.int .i64 (lowOf l), .int .i64 (highOf l), .nilIface]) ∧ Below w.heap.size w w' := by
  have cS := some_any l A c w hr
  rw [h0, show errV 0 = .nilIface from rfl] at cS
  obtain ⟨_, h2, _⟩ := someErr_ok h0
  clear h0
  go_enter Tryd.func21, Tryd.ntmps21
  go_wp2_with (go_at_call 67; refine cS.mono ?_; rintro e w1 ⟨rfl, hb1⟩)
  go_loopw [6, 7, 17] (fun a q i wr => ∃ k : Nat, k ≤ l.length ∧ i = .int .i64 k ∧ a = .int .i64 (lowOf (l.take k)) ∧ q = .int .i64 (highOf (l.take k)) ∧ Below w.heap.size w wr) (fun _ _ i _ => l.length - (intOf i).toNat)
  case atStart => exact ⟨0, by omega, rfl, rfl, rfl, hb1⟩
  case round =>
    obtain ⟨k, hk, rfl, rfl, rfl, hb⟩ := hrel
    by_cases hlt : k < l.length
    · obtain ⟨b, off, t, rfl, hbl, ht, e0, e1, e2, e3, e4, e5⟩ := tr_at (hr.below hb) hlt
      have HW := Lib.hid (low_snoc ht)
      have HQ := Lib.hid (high_snoc ht)
      clear ht hr cS
      generalize lowOf (l.take k) = a at *
      generalize highOf (l.take k) = q at *
      generalize t.price = p at *
      rcases (show p < a ∨ p = a ∨ a < p by omega) with c1 | rfl | c1
      all_goals rcases (show p < q ∨ p = q ∨ q < p by omega) with c2 | rfl | c2
      all_goals
        go_wp2_with fail
        go_quiet (fail)
        go_wp2
      all_goals
        go_roundw
        case rel => exact ⟨k + 1, by omega, by go_num, by rw [HW.out]; congr 1; omega, by rw [HQ.out]; congr 1; omega, below_drewN (hb.alloc hb.size _) _⟩
        case measure => simp [intOf]; omega
    · obtain rfl : k = l.length := by omega
      rw [List.take_length]
      go_wp2
      go_ret3
      exact ⟨rfl, hb⟩
end Go.Proofs.YtefncbdkjljbjaaDoor
