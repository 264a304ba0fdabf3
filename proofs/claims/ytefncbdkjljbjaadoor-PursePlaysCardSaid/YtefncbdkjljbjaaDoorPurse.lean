/- Purses: the block that holds ten of them, and the contracts of package purse. -/
import Derived.Test.YtefncbdkjljbjaaDoorOrder
import Derived.Test.YtefncbdkjljbjaaDoorRegion
import Derived.Test.YtefncbdkjljbjaaDoorBlk
import Derived.RegionTactic
namespace Go.Proofs.YtefncbdkjljbjaaDoor
set_option linter.all false
open Go Go.RowKit
structure Pur where
  who : Int
  cash : Int
  held : Int
  stock : Int
  hstock : Int
  deriving DecidableEq
def Pur.cell (p : Pur) : Nat → Value
  | 0 => .int .i64 p.who
  | 1 => .int .i64 p.cash
  | 2 => .int .i64 p.held
  | 3 => .int .i64 p.stock
  | _ => .int .i64 p.hstock
/-- block g holds the ten purses S -/
def Pm (w : World) (g : Nat) (S : Nat → Pur) : Prop := ∃ cs : Array Value, cs.size = 50 ∧ w.heap[g]? = some (.cells cs 121 (0, 0)) ∧ ∀ k j, k < 10 → j < 5 → cs[k * 5 + j]? = some ((S k).cell j)
def upd (S : Nat → Pur) (k : Nat) (p : Pur) : Nat → Pur := fun i => if i = k then p else S i
theorem upd_same (S : Nat → Pur) (k : Nat) (p : Pur) : upd S k p k = p := by simp [upd]
theorem upd_other {S : Nat → Pur} {k i : Nat} {p : Pur} (h : i ≠ k) : upd S k p i = S i := by simp [upd, h]
section
variable {w w' : World} {g : Nat} {S : Nat → Pur}
theorem Pm.lt (h : Pm w g S) : g < w.heap.size := by
  obtain ⟨cs, _, h2, _⟩ := h
  rcases Nat.lt_or_ge g w.heap.size with hlt | hge
  · exact hlt
  · rw [Array.getElem?_eq_none hge] at h2; cases h2
theorem Pm.five (h : Pm w g S) {k : Nat} (hk : k < 10) : w.cell? ⟨g, k * 5, none⟩ = some (.int .i64 (S k).who) ∧ w.cell? ⟨g, k * 5 + 1, none⟩ = some (.int .i64 (S k).cash) ∧ w.cell? ⟨g, k * 5 + 2, none⟩ = some (.int .i64 (S k).held) ∧ w.cell? ⟨g, k * 5 + 3, none⟩ = some (.int .i64 (S k).stock) ∧ w.cell? ⟨g, k * 5 + 4, none⟩ = some (.int .i64 (S k).hstock) := by
  obtain ⟨cs, _, h2, h3⟩ := h
  have hc := fun j => cell_of_row w g (k * 5 + j) cs _ (0, 0) h2
  exact ⟨(hc 0).trans (h3 k 0 hk (by omega)), (hc 1).trans (h3 k 1 hk (by omega)), (hc 2).trans (h3 k 2 hk (by omega)), (hc 3).trans (h3 k 3 hk (by omega)), (hc 4).trans (h3 k 4 hk (by omega))⟩
theorem Pm.free (h : Pm w g S) (i : Nat) : w.frozen? ⟨g, i, none⟩ = false := by
  obtain ⟨cs, _, h2, _⟩ := h
  simp [World.frozen?, h2]
theorem Pm.keep {row : Option Nat} (h : Pm w g S) (hg : w.grownBy w' row) (hne : some g ≠ row) : Pm w' g S := by
  have hl := h.lt
  obtain ⟨cs, h1, h2, h3⟩ := h
  exact ⟨cs, h1, (hg.block g hl hne).trans h2, h3⟩
theorem Pm.below (h : Pm w g S) (hb : Below w.heap.size w w') : Pm w' g S := h.keep (grown_of_below hb none) (by simp)
theorem Pm.set (h : Pm w g S) {k j : Nat} (hk : k < 10) (hj : j < 5) {p : Pur} {v : Value} (hv : ∀ i, i < 5 → p.cell i = if i = j then v else (S k).cell i) : Pm (w.setCell ⟨g, k * 5 + j, none⟩ v) g (upd S k p) := by
  obtain ⟨cs, h1, h2, h3⟩ := h
  refine ⟨cs.setIfInBounds (k * 5 + j) v, by simpa using h1, by simp [World.setCell, Array.getElem?_modify, h2], fun k' j' hk' hj' => ?_⟩
  rw [Array.getElem?_setIfInBounds]
  by_cases e : k' = k
  · subst e
    rw [upd_same, hv j' hj']
    by_cases e2 : j' = j
    · subst e2
      rw [if_pos rfl, if_pos rfl, if_pos (by omega)]
    · rw [if_neg e2, if_neg (by omega)]
      exact h3 k' j' hk' hj'
  · rw [upd_other e, if_neg (by omega)]
    exact h3 k' j' hk' hj'
theorem Pm.drew (h : Pm w g S) : Pm w.drew g S := h
theorem Pm.drewN (h : Pm w g S) (n : Nat) : Pm (w.drewN n) g S := h
theorem Pm.alloc (h : Pm w g S) (o : Obj) : Pm (w.alloc o) g S := h.below ((Below.refl _ _).alloc (Nat.le_refl _) o)
theorem Pm.congr (h : Pm w g S) {S' : Nat → Pur} (hs : ∀ i, i < 10 → S i = S' i) : Pm w g S' := by
  obtain ⟨cs, h1, h2, h3⟩ := h
  exact ⟨cs, h1, h2, fun k j hk hj => by rw [← hs k hk]; exact h3 k j hk hj⟩
theorem grown_drew {w w' : World} {row : Option Nat} (h : w.grownBy w' row) : w.grownBy w'.drew row := ⟨h.os, h.tape, h.output, h.size, h.block⟩
theorem grown_drewN {w w' : World} {row : Option Nat} (h : w.grownBy w' row) (n : Nat) : w.grownBy (w'.drewN n) row := ⟨h.os, h.tape, h.output, h.size, h.block⟩
theorem grown_alloc {w w' : World} {row : Option Nat} (h : w.grownBy w' row) (o : Obj) : w.grownBy (w'.alloc o) row := h.trans (World.grownBy_alloc w' o row)
theorem grown_refl (w : World) (row : Option Nat) : w.grownBy w row := ⟨rfl, rfl, rfl, Nat.le_refl _, fun _ _ _ => rfl⟩
theorem grown_cell {w w' : World} {g : Nat} (h : w.grownBy w' (some g)) (i : Nat) (v : Value) : w.grownBy (w'.setCell ⟨g, i, none⟩ v) (some g) := h.trans ⟨rfl, rfl, rfl, by simp, fun k _ hk => Below.heap_setCell w' _ v k (fun e => hk (by rw [e]))⟩
theorem Pm.setCash (h : Pm w g S) {k : Nat} (hk : k < 10) (x : Int) : Pm (w.setCell ⟨g, k * 5 + 1, none⟩ (.int .i64 x)) g (upd S k { S k with cash := x }) :=
  h.set hk (by omega) fun i hi => by match i, hi with | 0, _ => rfl | 1, _ => rfl | 2, _ => rfl | 3, _ => rfl | 4, _ => rfl
theorem Pm.setHeld (h : Pm w g S) {k : Nat} (hk : k < 10) (x : Int) : Pm (w.setCell ⟨g, k * 5 + 2, none⟩ (.int .i64 x)) g (upd S k { S k with held := x }) :=
  h.set hk (by omega) fun i hi => by match i, hi with | 0, _ => rfl | 1, _ => rfl | 2, _ => rfl | 3, _ => rfl | 4, _ => rfl
theorem Pm.setStock (h : Pm w g S) {k : Nat} (hk : k < 10) (x : Int) : Pm (w.setCell ⟨g, k * 5 + 3, none⟩ (.int .i64 x)) g (upd S k { S k with stock := x }) :=
  h.set hk (by omega) fun i hi => by match i, hi with | 0, _ => rfl | 1, _ => rfl | 2, _ => rfl | 3, _ => rfl | 4, _ => rfl
theorem Pm.setHstock (h : Pm w g S) {k : Nat} (hk : k < 10) (x : Int) : Pm (w.setCell ⟨g, k * 5 + 4, none⟩ (.int .i64 x)) g (upd S k { S k with hstock := x }) :=
  h.set hk (by omega) fun i hi => by match i, hi with | 0, _ => rfl | 1, _ => rfl | 2, _ => rfl | 3, _ => rfl | 4, _ => rfl
end
/-- what each purse may be -/
def Pur.ok (p : Pur) : Prop := 0 ≤ p.held ∧ p.held ≤ p.cash ∧ p.cash ≤ 1000000000 ∧ 0 ≤ p.hstock ∧ p.hstock ≤ p.stock ∧ p.stock ≤ 1000000000
def PSound (S : Nat → Pur) : Prop := ∀ k, k < 10 → (S k).ok
theorem amount_any (n m : Int) (w : World) : Calls Tryd.prog 63 #[.int .i64 n, .int .i64 m] w fun e w' => e = .returned (.bool (inb n m 1000000000)) ∧ w = w' := by
  unfold inb
  rcases (show n < m ∨ (m ≤ n ∧ 1000000000 < n) ∨ (m ≤ n ∧ n ≤ 1000000000) by omega) with h | ⟨h, h2⟩ | ⟨h, h2⟩
  all_goals
    go_enter Tryd.func63, Tryd.ntmps63
    go_wp2
    go_ret
    exact ⟨ret_bool (by simp; omega), rfl⟩
theorem grown_set (w : World) (p : Addr) (u : Value) : w.grownBy (w.setCell p u) (some p.block) := ⟨rfl, rfl, rfl, by simp, fun k _ hk => Below.heap_setCell w p u k (fun e => hk (by rw [e]))⟩
theorem grown_of_below' {w w' : World} (hb : Below w.heap.size w w') (r : Option Nat) : w.grownBy w' r := grown_of_below hb r
theorem inb_nat {n : Int} (h : inb n 1 9 = true) : ∃ k : Nat, n = k ∧ 1 ≤ k ∧ k < 10 := by
  simp only [inb, decide_eq_true_eq] at h
  exact ⟨n.toNat, by omega, by omega, by omega⟩
def payP (S : Nat → Pur) (who n : Int) : Int × (Nat → Pur) :=
  if inb who 1 9 && inb n 1 1000000000 then if 1000000000 - n < (S who.toNat).cash then (4, S) else (0, upd S who.toNat { S who.toNat with cash := (S who.toNat).cash + n }) else (1, S)
def giveP (S : Nat → Pur) (who n : Int) : Int × (Nat → Pur) :=
  if inb who 1 9 && inb n 1 1000000000 then if 1000000000 - n < (S who.toNat).stock then (4, S) else (0, upd S who.toNat { S who.toNat with stock := (S who.toNat).stock + n }) else (1, S)
/-- how each method ends -/
def PurPost (r : Int × (Nat → Pur)) (g : Nat) (w : World) (e : Ending) (w' : World) : Prop := e = .returned (errV r.1) ∧ Pm w' g r.2 ∧ w.grownBy w' (some g)
set_option maxHeartbeats 1000000 in
theorem pay_any (S : Nat → Pur) (g : Nat) (who n : Int) (w : World) (hp : Pm w g S) (hs : PSound S) :
    Calls Tryd.prog 11 #[.pointer (some ⟨g, 0, none⟩), .int .i64 who, .int .i64 n] w (PurPost (payP S who n) g w) := by
  have HP := Lib.hid hp
  by_cases h : inb who 1 9 = true
  · by_cases h2 : inb n 1 1000000000 = true
    · obtain ⟨k, rfl, hk1, hk2⟩ := inb_nat h
      have hS := hs k hk2
      obtain ⟨c0, c1, c2, c3, c4⟩ := hp.five hk2
      obtain ⟨s1, s2, s3, s4, s5, s6⟩ := hS
      have hn : 1 ≤ n ∧ n ≤ 1000000000 := by simpa [inb] using h2
      obtain ⟨n1, n2⟩ := hn
      have i0 : (0 : Int) ≤ (k : Int) := by omega
      have i1 : (k : Int) < 10 := by omega
      have e : payP S k n = if 1000000000 - n < (S k).cash then (4, S) else (0, upd S k { S k with cash := (S k).cash + n }) := by rw [payP, h, h2]; rfl
      have E := Lib.hid e
      clear e hp hs
      by_cases hc : 1000000000 - n < (S k).cash
      · have E2 := E.out
        rw [if_pos hc] at E2
        have E3 := Lib.hid E2; clear E E2
        go_enter Tryd.func11, Tryd.ntmps11
        go_wp2_with (first | (go_at_call 62; refine (who_any _ _).mono ?_; rintro e w' ⟨rfl, rfl⟩) | (go_at_call 63; refine (amount_any _ _ _).mono ?_; rintro e w' ⟨rfl, rfl⟩))
        go_ret
        rw [E3.out]
        exact ⟨rfl, HP.out, grown_of_below (Below.refl _ _) _⟩
      · have E2 := E.out
        rw [if_neg hc] at E2
        have E3 := Lib.hid E2; clear E E2
        have hc' : (S k).cash ≤ 1000000000 - n := by omega
        have k1 := cell_regrown c1
        go_enter Tryd.func11, Tryd.ntmps11
        go_wp2_with (first | (go_at_call 62; refine (who_any _ _).mono ?_; rintro e w' ⟨rfl, rfl⟩) | (go_at_call 63; refine (amount_any _ _ _).mono ?_; rintro e w' ⟨rfl, rfl⟩))
        have z1 := HP.out.free (k * 5 + 1)
        clear k1
        go_region
        go_wp2
        go_ret
        rw [E3.out]
        exact ⟨rfl, (HP.out.setCash hk2 _).drew, grown_drew (grown_set _ _ _)⟩
    · have h2' : inb n 1 1000000000 = false := by simpa using h2
      have e : payP S who n = (1, S) := by rw [payP, h, h2']; rfl
      have E := Lib.hid e; clear e hp hs h2
      go_enter Tryd.func11, Tryd.ntmps11
      go_wp2_with (first | (go_at_call 62; refine (who_any _ _).mono ?_; rintro e w' ⟨rfl, rfl⟩) | (go_at_call 63; refine (amount_any _ _ _).mono ?_; rintro e w' ⟨rfl, rfl⟩))
      go_ret
      rw [E.out]
      exact ⟨rfl, HP.out, grown_of_below (Below.refl _ _) _⟩
  · have h' : inb who 1 9 = false := by simpa using h
    have e : payP S who n = (1, S) := by rw [payP, h']; rfl
    have E := Lib.hid e; clear e hp hs h
    go_enter Tryd.func11, Tryd.ntmps11
    go_wp2_with (first | (go_at_call 62; refine (who_any _ _).mono ?_; rintro e w' ⟨rfl, rfl⟩) | (go_at_call 63; refine (amount_any _ _ _).mono ?_; rintro e w' ⟨rfl, rfl⟩))
    go_ret
    rw [E.out]
    exact ⟨rfl, HP.out, grown_of_below (Below.refl _ _) _⟩
set_option maxHeartbeats 1000000 in
theorem give_any (S : Nat → Pur) (g : Nat) (who n : Int) (w : World) (hp : Pm w g S) (hs : PSound S) :
    Calls Tryd.prog 12 #[.pointer (some ⟨g, 0, none⟩), .int .i64 who, .int .i64 n] w (PurPost (giveP S who n) g w) := by
  have HP := Lib.hid hp
  by_cases h : inb who 1 9 = true
  · by_cases h2 : inb n 1 1000000000 = true
    · obtain ⟨k, rfl, hk1, hk2⟩ := inb_nat h
      have hS := hs k hk2
      obtain ⟨c0, c1, c2, c3, c4⟩ := hp.five hk2
      obtain ⟨s1, s2, s3, s4, s5, s6⟩ := hS
      have hn : 1 ≤ n ∧ n ≤ 1000000000 := by simpa [inb] using h2
      obtain ⟨n1, n2⟩ := hn
      have i0 : (0 : Int) ≤ (k : Int) := by omega
      have i1 : (k : Int) < 10 := by omega
      have e : giveP S k n = if 1000000000 - n < (S k).stock then (4, S) else (0, upd S k { S k with stock := (S k).stock + n }) := by rw [giveP, h, h2]; rfl
      have E := Lib.hid e
      clear e hp hs
      by_cases hc : 1000000000 - n < (S k).stock
      · have E2 := E.out
        rw [if_pos hc] at E2
        have E3 := Lib.hid E2; clear E E2
        go_enter Tryd.func12, Tryd.ntmps12
        go_wp2_with (first | (go_at_call 62; refine (who_any _ _).mono ?_; rintro e w' ⟨rfl, rfl⟩) | (go_at_call 63; refine (amount_any _ _ _).mono ?_; rintro e w' ⟨rfl, rfl⟩))
        go_ret
        rw [E3.out]
        exact ⟨rfl, HP.out, grown_of_below (Below.refl _ _) _⟩
      · have E2 := E.out
        rw [if_neg hc] at E2
        have E3 := Lib.hid E2; clear E E2
        have hc' : (S k).stock ≤ 1000000000 - n := by omega
        have k1 := cell_regrown c3
        go_enter Tryd.func12, Tryd.ntmps12
        go_wp2_with (first | (go_at_call 62; refine (who_any _ _).mono ?_; rintro e w' ⟨rfl, rfl⟩) | (go_at_call 63; refine (amount_any _ _ _).mono ?_; rintro e w' ⟨rfl, rfl⟩))
        have z1 := HP.out.free (k * 5 + 3)
        clear k1
        go_region
        go_wp2
        go_ret
        rw [E3.out]
        exact ⟨rfl, (HP.out.setStock hk2 _).drew, grown_drew (grown_set _ _ _)⟩
    · have h2' : inb n 1 1000000000 = false := by simpa using h2
      have e : giveP S who n = (1, S) := by rw [giveP, h, h2']; rfl
      have E := Lib.hid e; clear e hp hs h2
      go_enter Tryd.func12, Tryd.ntmps12
      go_wp2_with (first | (go_at_call 62; refine (who_any _ _).mono ?_; rintro e w' ⟨rfl, rfl⟩) | (go_at_call 63; refine (amount_any _ _ _).mono ?_; rintro e w' ⟨rfl, rfl⟩))
      go_ret
      rw [E.out]
      exact ⟨rfl, HP.out, grown_of_below (Below.refl _ _) _⟩
  · have h' : inb who 1 9 = false := by simpa using h
    have e : giveP S who n = (1, S) := by rw [giveP, h']; rfl
    have E := Lib.hid e; clear e hp hs h
    go_enter Tryd.func12, Tryd.ntmps12
    go_wp2_with (first | (go_at_call 62; refine (who_any _ _).mono ?_; rintro e w' ⟨rfl, rfl⟩) | (go_at_call 63; refine (amount_any _ _ _).mono ?_; rintro e w' ⟨rfl, rfl⟩))
    go_ret
    rw [E.out]
    exact ⟨rfl, HP.out, grown_of_below (Below.refl _ _) _⟩
end Go.Proofs.YtefncbdkjljbjaaDoor
