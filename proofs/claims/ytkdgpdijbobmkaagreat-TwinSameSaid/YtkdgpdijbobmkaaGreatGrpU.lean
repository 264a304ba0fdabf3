/- Purses: the block that holds ten of them, and the contracts of package purse. The contracts of Hold, Free, Get, New, Total. The contract of Trade. The contract of Trade, whatever comes. Trade: where there would be too much. The contract of Trade, whatever comes. Purses in plain words: what each step does to what all have. -/
import Derived.Test.YtkdgpdijbobmkaaGreatGrpA
import Derived.RegionTactic
import Derived.Deep.QuietTactic
import Derived.BigQuiet
import Derived.IntWalk
namespace Go.Proofs.YtkdgpdijbobmkaaGreat
set_option linter.all false
open Go Go.RowKit
structure Pur where
  who : Int
  cash : Int
  held : Int
  stock : Int
  hstock : Int
  deriving DecidableEq
def Pur.cell (p : Pur) : Nat → Value
  | 0 => .int .i64 p.who
  | 1 => .int .i64 p.cash
  | 2 => .int .i64 p.held
  | 3 => .int .i64 p.stock
  | _ => .int .i64 p.hstock
/-- block g holds the ten purses S -/
def Pm (w : World) (g : Nat) (S : Nat → Pur) : Prop := ∃ cs : Array Value, cs.size = 50 ∧ w.heap[g]? = some (.cells cs 136 (0, 0)) ∧ ∀ k j, k < 10 → j < 5 → cs[k * 5 + j]? = some ((S k).cell j)
def upd (S : Nat → Pur) (k : Nat) (p : Pur) : Nat → Pur := fun i => if i = k then p else S i
theorem upd_same (S : Nat → Pur) (k : Nat) (p : Pur) : upd S k p k = p := by simp [upd]
theorem upd_other {S : Nat → Pur} {k i : Nat} {p : Pur} (h : i ≠ k) : upd S k p i = S i := by simp [upd, h]
section
variable {w w' : World} {g : Nat} {S : Nat → Pur}
theorem Pm.lt (h : Pm w g S) : g < w.heap.size := by
  obtain ⟨cs, _, h2, _⟩ := h
  rcases Nat.lt_or_ge g w.heap.size with hlt | hge
  · exact hlt
  · rw [Array.getElem?_eq_none hge] at h2; cases h2
theorem Pm.five (h : Pm w g S) {k : Nat} (hk : k < 10) : w.cell? ⟨g, k * 5, none⟩ = some (.int .i64 (S k).who) ∧ w.cell? ⟨g, k * 5 + 1, none⟩ = some (.int .i64 (S k).cash) ∧ w.cell? ⟨g, k * 5 + 2, none⟩ = some (.int .i64 (S k).held) ∧ w.cell? ⟨g, k * 5 + 3, none⟩ = some (.int .i64 (S k).stock) ∧ w.cell? ⟨g, k * 5 + 4, none⟩ = some (.int .i64 (S k).hstock) := by
  obtain ⟨cs, _, h2, h3⟩ := h
  have hc := fun j => cell_of_row w g (k * 5 + j) cs _ (0, 0) h2
  exact ⟨(hc 0).trans (h3 k 0 hk (by omega)), (hc 1).trans (h3 k 1 hk (by omega)), (hc 2).trans (h3 k 2 hk (by omega)), (hc 3).trans (h3 k 3 hk (by omega)), (hc 4).trans (h3 k 4 hk (by omega))⟩
theorem Pm.free (h : Pm w g S) (i : Nat) : w.frozen? ⟨g, i, none⟩ = false := by
  obtain ⟨cs, _, h2, _⟩ := h
  simp [World.frozen?, h2]
theorem Pm.keep {row : Option Nat} (h : Pm w g S) (hg : w.grownBy w' row) (hne : some g ≠ row) : Pm w' g S := by
  have hl := h.lt
  obtain ⟨cs, h1, h2, h3⟩ := h
  exact ⟨cs, h1, (hg.block g hl hne).trans h2, h3⟩
theorem Pm.below (h : Pm w g S) (hb : Below w.heap.size w w') : Pm w' g S := h.keep (grown_of_below hb none) (by simp)
theorem Pm.set (h : Pm w g S) {k j : Nat} (hk : k < 10) (hj : j < 5) {p : Pur} {v : Value} (hv : ∀ i, i < 5 → p.cell i = if i = j then v else (S k).cell i) : Pm (w.setCell ⟨g, k * 5 + j, none⟩ v) g (upd S k p) := by
  obtain ⟨cs, h1, h2, h3⟩ := h
  refine ⟨cs.setIfInBounds (k * 5 + j) v, by simpa using h1, by simp [World.setCell, Array.getElem?_modify, h2], fun k' j' hk' hj' => ?_⟩
  rw [Array.getElem?_setIfInBounds]
  by_cases e : k' = k
  · subst e
    rw [upd_same, hv j' hj']
    by_cases e2 : j' = j
    · subst e2
      rw [if_pos rfl, if_pos rfl, if_pos (by omega)]
    · rw [if_neg e2, if_neg (by omega)]
      exact h3 k' j' hk' hj'
  · rw [upd_other e, if_neg (by omega)]
    exact h3 k' j' hk' hj'
theorem Pm.drew (h : Pm w g S) : Pm w.drew g S := h
theorem Pm.drewN (h : Pm w g S) (n : Nat) : Pm (w.drewN n) g S := h
theorem Pm.alloc (h : Pm w g S) (o : Obj) : Pm (w.alloc o) g S := h.below ((Below.refl _ _).alloc (Nat.le_refl _) o)
theorem Pm.congr (h : Pm w g S) {S' : Nat → Pur} (hs : ∀ i, i < 10 → S i = S' i) : Pm w g S' := by
  obtain ⟨cs, h1, h2, h3⟩ := h
  exact ⟨cs, h1, h2, fun k j hk hj => by rw [← hs k hk]; exact h3 k j hk hj⟩
theorem grown_drew {w w' : World} {row : Option Nat} (h : w.grownBy w' row) : w.grownBy w'.drew row := ⟨h.os, h.tape, h.output, h.size, h.block⟩
theorem grown_drewN {w w' : World} {row : Option Nat} (h : w.grownBy w' row) (n : Nat) : w.grownBy (w'.drewN n) row := ⟨h.os, h.tape, h.output, h.size, h.block⟩
theorem grown_alloc {w w' : World} {row : Option Nat} (h : w.grownBy w' row) (o : Obj) : w.grownBy (w'.alloc o) row := h.trans (World.grownBy_alloc w' o row)
theorem grown_refl (w : World) (row : Option Nat) : w.grownBy w row := ⟨rfl, rfl, rfl, Nat.le_refl _, fun _ _ _ => rfl⟩
theorem grown_cell {w w' : World} {g : Nat} (h : w.grownBy w' (some g)) (i : Nat) (v : Value) : w.grownBy (w'.setCell ⟨g, i, none⟩ v) (some g) := h.trans ⟨rfl, rfl, rfl, by simp, fun k _ hk => Below.heap_setCell w' _ v k (fun e => hk (by rw [e]))⟩
theorem Pm.setCash (h : Pm w g S) {k : Nat} (hk : k < 10) (x : Int) : Pm (w.setCell ⟨g, k * 5 + 1, none⟩ (.int .i64 x)) g (upd S k { S k with cash := x }) :=
  h.set hk (by omega) fun i hi => by match i, hi with | 0, _ => rfl | 1, _ => rfl | 2, _ => rfl | 3, _ => rfl | 4, _ => rfl
theorem Pm.setHeld (h : Pm w g S) {k : Nat} (hk : k < 10) (x : Int) : Pm (w.setCell ⟨g, k * 5 + 2, none⟩ (.int .i64 x)) g (upd S k { S k with held := x }) :=
  h.set hk (by omega) fun i hi => by match i, hi with | 0, _ => rfl | 1, _ => rfl | 2, _ => rfl | 3, _ => rfl | 4, _ => rfl
theorem Pm.setStock (h : Pm w g S) {k : Nat} (hk : k < 10) (x : Int) : Pm (w.setCell ⟨g, k * 5 + 3, none⟩ (.int .i64 x)) g (upd S k { S k with stock := x }) :=
  h.set hk (by omega) fun i hi => by match i, hi with | 0, _ => rfl | 1, _ => rfl | 2, _ => rfl | 3, _ => rfl | 4, _ => rfl
theorem Pm.setHstock (h : Pm w g S) {k : Nat} (hk : k < 10) (x : Int) : Pm (w.setCell ⟨g, k * 5 + 4, none⟩ (.int .i64 x)) g (upd S k { S k with hstock := x }) :=
  h.set hk (by omega) fun i hi => by match i, hi with | 0, _ => rfl | 1, _ => rfl | 2, _ => rfl | 3, _ => rfl | 4, _ => rfl
end
/-- what each purse may be -/
def Pur.ok (p : Pur) : Prop := 0 ≤ p.held ∧ p.held ≤ p.cash ∧ p.cash ≤ 1000000000 ∧ 0 ≤ p.hstock ∧ p.hstock ≤ p.stock ∧ p.stock ≤ 1000000000
def PSound (S : Nat → Pur) : Prop := ∀ k, k < 10 → (S k).ok
theorem amount_any (n m : Int) (w : World) : Calls Tryz.prog 92 #[.int .i64 n, .int .i64 m] w fun e w' => e = .returned (.bool (inb n m 1000000000)) ∧ w = w' := by
  unfold inb
  rcases (show n < m ∨ (m ≤ n ∧ 1000000000 < n) ∨ (m ≤ n ∧ n ≤ 1000000000) by omega) with h | ⟨h, h2⟩ | ⟨h, h2⟩
  all_goals
    go_enter Tryz.func92, Tryz.ntmps92
    go_wp2
    go_ret
    exact ⟨ret_bool (by simp; omega), rfl⟩
theorem grown_set (w : World) (p : Addr) (u : Value) : w.grownBy (w.setCell p u) (some p.block) := ⟨rfl, rfl, rfl, by simp, fun k _ hk => Below.heap_setCell w p u k (fun e => hk (by rw [e]))⟩
theorem grown_of_below' {w w' : World} (hb : Below w.heap.size w w') (r : Option Nat) : w.grownBy w' r := grown_of_below hb r
theorem inb_nat {n : Int} (h : inb n 1 9 = true) : ∃ k : Nat, n = k ∧ 1 ≤ k ∧ k < 10 := by
  simp only [inb, decide_eq_true_eq] at h
  exact ⟨n.toNat, by omega, by omega, by omega⟩
def payP (S : Nat → Pur) (who n : Int) : Int × (Nat → Pur) :=
  if inb who 1 9 && inb n 1 1000000000 then if 1000000000 - n < (S who.toNat).cash then (4, S) else (0, upd S who.toNat { S who.toNat with cash := (S who.toNat).cash + n }) else (1, S)
def giveP (S : Nat → Pur) (who n : Int) : Int × (Nat → Pur) :=
  if inb who 1 9 && inb n 1 1000000000 then if 1000000000 - n < (S who.toNat).stock then (4, S) else (0, upd S who.toNat { S who.toNat with stock := (S who.toNat).stock + n }) else (1, S)
/-- how each method ends -/
def PurPost (r : Int × (Nat → Pur)) (g : Nat) (w : World) (e : Ending) (w' : World) : Prop := e = .returned (errV r.1) ∧ Pm w' g r.2 ∧ w.grownBy w' (some g)
set_option maxHeartbeats 1000000 in
theorem pay_any (S : Nat → Pur) (g : Nat) (who n : Int) (w : World) (hp : Pm w g S) (hs : PSound S) :
    Calls Tryz.prog 69 #[.pointer (some ⟨g, 0, none⟩), .int .i64 who, .int .i64 n] w (PurPost (payP S who n) g w) := by
  have HP := Lib.hid hp
  by_cases h : inb who 1 9 = true
  · by_cases h2 : inb n 1 1000000000 = true
    · obtain ⟨k, rfl, hk1, hk2⟩ := inb_nat h
      have hS := hs k hk2
      obtain ⟨c0, c1, c2, c3, c4⟩ := hp.five hk2
      obtain ⟨s1, s2, s3, s4, s5, s6⟩ := hS
      have hn : 1 ≤ n ∧ n ≤ 1000000000 := by simpa [inb] using h2
      obtain ⟨n1, n2⟩ := hn
      have i0 : (0 : Int) ≤ (k : Int) := by omega
      have i1 : (k : Int) < 10 := by omega
      have e : payP S k n = if 1000000000 - n < (S k).cash then (4, S) else (0, upd S k { S k with cash := (S k).cash + n }) := by rw [payP, h, h2]; rfl
      have E := Lib.hid e
      clear e hp hs
      by_cases hc : 1000000000 - n < (S k).cash
      · have E2 := E.out
        rw [if_pos hc] at E2
        have E3 := Lib.hid E2; clear E E2
        go_enter Tryz.func69, Tryz.ntmps69
        go_wp2_with (first | (go_at_call 64; refine (who_any _ _).mono ?_; rintro e w' ⟨rfl, rfl⟩) | (go_at_call 92; refine (amount_any _ _ _).mono ?_; rintro e w' ⟨rfl, rfl⟩))
        go_ret
        rw [E3.out]
        exact ⟨rfl, HP.out, grown_of_below (Below.refl _ _) _⟩
      · have E2 := E.out
        rw [if_neg hc] at E2
        have E3 := Lib.hid E2; clear E E2
        have hc' : (S k).cash ≤ 1000000000 - n := by omega
        have k1 := cell_regrown c1
        go_enter Tryz.func69, Tryz.ntmps69
        go_wp2_with (first | (go_at_call 64; refine (who_any _ _).mono ?_; rintro e w' ⟨rfl, rfl⟩) | (go_at_call 92; refine (amount_any _ _ _).mono ?_; rintro e w' ⟨rfl, rfl⟩))
        have z1 := HP.out.free (k * 5 + 1)
        clear k1
        go_region
        go_wp2
        go_ret
        rw [E3.out]
        exact ⟨rfl, (HP.out.setCash hk2 _).drew, grown_drew (grown_set _ _ _)⟩
    · have h2' : inb n 1 1000000000 = false := by simpa using h2
      have e : payP S who n = (1, S) := by rw [payP, h, h2']; rfl
      have E := Lib.hid e; clear e hp hs h2
      go_enter Tryz.func69, Tryz.ntmps69
      go_wp2_with (first | (go_at_call 64; refine (who_any _ _).mono ?_; rintro e w' ⟨rfl, rfl⟩) | (go_at_call 92; refine (amount_any _ _ _).mono ?_; rintro e w' ⟨rfl, rfl⟩))
      go_ret
      rw [E.out]
      exact ⟨rfl, HP.out, grown_of_below (Below.refl _ _) _⟩
  · have h' : inb who 1 9 = false := by simpa using h
    have e : payP S who n = (1, S) := by rw [payP, h']; rfl
    have E := Lib.hid e; clear e hp hs h
    go_enter Tryz.func69, Tryz.ntmps69
    go_wp2_with (first | (go_at_call 64; refine (who_any _ _).mono ?_; rintro e w' ⟨rfl, rfl⟩) | (go_at_call 92; refine (amount_any _ _ _).mono ?_; rintro e w' ⟨rfl, rfl⟩))
    go_ret
    rw [E.out]
    exact ⟨rfl, HP.out, grown_of_below (Below.refl _ _) _⟩
set_option maxHeartbeats 1000000 in
theorem give_any (S : Nat → Pur) (g : Nat) (who n : Int) (w : World) (hp : Pm w g S) (hs : PSound S) :
    Calls Tryz.prog 70 #[.pointer (some ⟨g, 0, none⟩), .int .i64 who, .int .i64 n] w (PurPost (giveP S who n) g w) := by
  have HP := Lib.hid hp
  by_cases h : inb who 1 9 = true
  · by_cases h2 : inb n 1 1000000000 = true
    · obtain ⟨k, rfl, hk1, hk2⟩ := inb_nat h
      have hS := hs k hk2
      obtain ⟨c0, c1, c2, c3, c4⟩ := hp.five hk2
      obtain ⟨s1, s2, s3, s4, s5, s6⟩ := hS
      have hn : 1 ≤ n ∧ n ≤ 1000000000 := by simpa [inb] using h2
      obtain ⟨n1, n2⟩ := hn
      have i0 : (0 : Int) ≤ (k : Int) := by omega
      have i1 : (k : Int) < 10 := by omega
      have e : giveP S k n = if 1000000000 - n < (S k).stock then (4, S) else (0, upd S k { S k with stock := (S k).stock + n }) := by rw [giveP, h, h2]; rfl
      have E := Lib.hid e
      clear e hp hs
      by_cases hc : 1000000000 - n < (S k).stock
      · have E2 := E.out
        rw [if_pos hc] at E2
        have E3 := Lib.hid E2; clear E E2
        go_enter Tryz.func70, Tryz.ntmps70
        go_wp2_with (first | (go_at_call 64; refine (who_any _ _).mono ?_; rintro e w' ⟨rfl, rfl⟩) | (go_at_call 92; refine (amount_any _ _ _).mono ?_; rintro e w' ⟨rfl, rfl⟩))
        go_ret
        rw [E3.out]
        exact ⟨rfl, HP.out, grown_of_below (Below.refl _ _) _⟩
      · have E2 := E.out
        rw [if_neg hc] at E2
        have E3 := Lib.hid E2; clear E E2
        have hc' : (S k).stock ≤ 1000000000 - n := by omega
        have k1 := cell_regrown c3
        go_enter Tryz.func70, Tryz.ntmps70
        go_wp2_with (first | (go_at_call 64; refine (who_any _ _).mono ?_; rintro e w' ⟨rfl, rfl⟩) | (go_at_call 92; refine (amount_any _ _ _).mono ?_; rintro e w' ⟨rfl, rfl⟩))
        have z1 := HP.out.free (k * 5 + 3)
        clear k1
        go_region
        go_wp2
        go_ret
        rw [E3.out]
        exact ⟨rfl, (HP.out.setStock hk2 _).drew, grown_drew (grown_set _ _ _)⟩
    · have h2' : inb n 1 1000000000 = false := by simpa using h2
      have e : giveP S who n = (1, S) := by rw [giveP, h, h2']; rfl
      have E := Lib.hid e; clear e hp hs h2
      go_enter Tryz.func70, Tryz.ntmps70
      go_wp2_with (first | (go_at_call 64; refine (who_any _ _).mono ?_; rintro e w' ⟨rfl, rfl⟩) | (go_at_call 92; refine (amount_any _ _ _).mono ?_; rintro e w' ⟨rfl, rfl⟩))
      go_ret
      rw [E.out]
      exact ⟨rfl, HP.out, grown_of_below (Below.refl _ _) _⟩
  · have h' : inb who 1 9 = false := by simpa using h
    have e : giveP S who n = (1, S) := by rw [giveP, h']; rfl
    have E := Lib.hid e; clear e hp hs h
    go_enter Tryz.func70, Tryz.ntmps70
    go_wp2_with (first | (go_at_call 64; refine (who_any _ _).mono ?_; rintro e w' ⟨rfl, rfl⟩) | (go_at_call 92; refine (amount_any _ _ _).mono ?_; rintro e w' ⟨rfl, rfl⟩))
    go_ret
    rw [E.out]
    exact ⟨rfl, HP.out, grown_of_below (Below.refl _ _) _⟩
end Go.Proofs.YtkdgpdijbobmkaaGreat
namespace Go.Proofs.YtkdgpdijbobmkaaGreat
set_option linter.all false
open Go Go.RowKit
def holdP (S : Nat → Pur) (who c s : Int) : Int × (Nat → Pur) :=
  if inb who 1 9 && inb c 0 1000000000 && inb s 0 1000000000 then
    if (S who.toNat).cash - (S who.toNat).held < c ∨ (S who.toNat).stock - (S who.toNat).hstock < s then (9, S)
    else (0, upd S who.toNat { S who.toNat with held := (S who.toNat).held + c, hstock := (S who.toNat).hstock + s }) else (1, S)
def freeP (S : Nat → Pur) (who c s : Int) : Int × (Nat → Pur) :=
  if inb who 1 9 && inb c 0 1000000000 && inb s 0 1000000000 then
    if (S who.toNat).held < c ∨ (S who.toNat).hstock < s then (9, S)
    else (0, upd S who.toNat { S who.toNat with held := (S who.toNat).held - c, hstock := (S who.toNat).hstock - s }) else (1, S)
theorem upd_upd (S : Nat → Pur) (k : Nat) (p q : Pur) (i : Nat) : upd (upd S k p) k q i = upd S k q i := by
  unfold upd; split <;> rfl
set_option maxHeartbeats 2000000 in
theorem hold_any (S : Nat → Pur) (g : Nat) (who c s : Int) (w : World) (hp : Pm w g S) (hs : PSound S) :
    Calls Tryz.prog 126 #[.pointer (some ⟨g, 0, none⟩), .int .i64 who, .int .i64 c, .int .i64 s] w (PurPost (holdP S who c s) g w) := by
  have HP := Lib.hid hp
  by_cases h : (inb who 1 9 && inb c 0 1000000000 && inb s 0 1000000000) = true
  · have e : holdP S who c s = _ := if_pos h
    simp only [Bool.and_eq_true] at h
    obtain ⟨⟨h1, h2⟩, h3⟩ := h
    obtain ⟨k, rfl, hk1, hk2⟩ := inb_nat h1
    obtain ⟨s1, s2, s3, s4, s5, s6⟩ := hs k hk2
    obtain ⟨c0, c1, c2, c3, c4⟩ := hp.five hk2
    have z2 := hp.free (k * 5 + 2)
    have z4 := hp.free (k * 5 + 4)
    have hn : 0 ≤ c ∧ c ≤ 1000000000 := by simpa [inb] using h2
    have hm : 0 ≤ s ∧ s ≤ 1000000000 := by simpa [inb] using h3
    obtain ⟨n1, n2⟩ := hn
    obtain ⟨m1, m2⟩ := hm
    have i0 : (0 : Int) ≤ (k : Int) := by omega
    have i1 : (k : Int) < 10 := by omega
    simp only [Int.toNat_natCast] at e
    clear hp hs
    rcases (show (S k).cash - (S k).held < c ∨ (c ≤ (S k).cash - (S k).held ∧ (S k).stock - (S k).hstock < s) ∨ (c ≤ (S k).cash - (S k).held ∧ s ≤ (S k).stock - (S k).hstock) by omega) with a | ⟨a, b⟩ | ⟨a, b⟩
    · rw [if_pos (.inl a)] at e
      have E := Lib.hid e; clear e
      go_enter Tryz.func126, Tryz.ntmps126
      go_wp2_with (first | (go_at_call 64; refine (who_any _ _).mono ?_; rintro e w' ⟨rfl, rfl⟩) | (go_at_call 92; refine (amount_any _ _ _).mono ?_; rintro e w' ⟨rfl, rfl⟩))
      go_quiet (fail)
      go_wp2
      go_ret
      rw [E.out]
      exact ⟨rfl, HP.out.drewN _, grown_drewN (grown_refl _ _) _⟩
    · rw [if_pos (.inr b)] at e
      have E := Lib.hid e; clear e
      have a' : decide ((S k).cash - (S k).held < c) = false := by simp; omega
      go_enter Tryz.func126, Tryz.ntmps126
      go_wp2_with (first | (go_at_call 64; refine (who_any _ _).mono ?_; rintro e w' ⟨rfl, rfl⟩) | (go_at_call 92; refine (amount_any _ _ _).mono ?_; rintro e w' ⟨rfl, rfl⟩))
      go_quiet (fail)
      go_wp2
      go_ret
      rw [E.out]
      exact ⟨rfl, HP.out.drewN _, grown_drewN (grown_refl _ _) _⟩
    · rw [if_neg (by omega)] at e
      have E := Lib.hid e; clear e
      have a' : decide ((S k).cash - (S k).held < c) = false := by simp; omega
      have b' : decide ((S k).stock - (S k).hstock < s) = false := by simp; omega
      go_enter Tryz.func126, Tryz.ntmps126
      go_wp2_with (first | (go_at_call 64; refine (who_any _ _).mono ?_; rintro e w' ⟨rfl, rfl⟩) | (go_at_call 92; refine (amount_any _ _ _).mono ?_; rintro e w' ⟨rfl, rfl⟩))
      go_quiet (fail)
      go_wp2
      go_ret
      rw [E.out]
      refine ⟨rfl, ?_, ?_⟩
      · refine (((HP.out.setHeld hk2 ((S k).held + c)).setHstock hk2 ((S k).hstock + s)).drewN _).congr fun i _ => ?_
        rw [upd_upd, upd_same]
      · exact grown_drewN (grown_cell (grown_cell (grown_refl _ _) _ _) _ _) _
  · have e : holdP S who c s = (1, S) := if_neg h
    have E := Lib.hid e; clear e hs hp
    (rcases (show inb who 1 9 = false ∨ (inb who 1 9 = true ∧ inb c 0 1000000000 = false) ∨ (inb who 1 9 = true ∧ inb c 0 1000000000 = true ∧ inb s 0 1000000000 = false) by revert h; cases inb who 1 9 <;> cases inb c 0 1000000000 <;> cases inb s 0 1000000000 <;> simp) with a | ⟨a, b⟩ | ⟨a, b, d⟩)
    all_goals
      clear h
      go_enter Tryz.func126, Tryz.ntmps126
      go_wp2_with (first | (go_at_call 64; refine (who_any _ _).mono ?_; rintro e w' ⟨rfl, rfl⟩) | (go_at_call 92; refine (amount_any _ _ _).mono ?_; rintro e w' ⟨rfl, rfl⟩))
      go_ret
      rw [E.out]
      exact ⟨rfl, HP.out, grown_refl _ _⟩
set_option maxHeartbeats 2000000 in
theorem free_any (S : Nat → Pur) (g : Nat) (who c s : Int) (w : World) (hp : Pm w g S) (hs : PSound S) :
    Calls Tryz.prog 108 #[.pointer (some ⟨g, 0, none⟩), .int .i64 who, .int .i64 c, .int .i64 s] w (PurPost (freeP S who c s) g w) := by
  have HP := Lib.hid hp
  by_cases h : (inb who 1 9 && inb c 0 1000000000 && inb s 0 1000000000) = true
  · have e : freeP S who c s = _ := if_pos h
    simp only [Bool.and_eq_true] at h
    obtain ⟨⟨h1, h2⟩, h3⟩ := h
    obtain ⟨k, rfl, hk1, hk2⟩ := inb_nat h1
    obtain ⟨s1, s2, s3, s4, s5, s6⟩ := hs k hk2
    obtain ⟨c0, c1, c2, c3, c4⟩ := hp.five hk2
    have z2 := hp.free (k * 5 + 2)
    have z4 := hp.free (k * 5 + 4)
    have hn : 0 ≤ c ∧ c ≤ 1000000000 := by simpa [inb] using h2
    have hm : 0 ≤ s ∧ s ≤ 1000000000 := by simpa [inb] using h3
    obtain ⟨n1, n2⟩ := hn
    obtain ⟨m1, m2⟩ := hm
    have i0 : (0 : Int) ≤ (k : Int) := by omega
    have i1 : (k : Int) < 10 := by omega
    simp only [Int.toNat_natCast] at e
    clear hp hs
    rcases (show (S k).held < c ∨ (c ≤ (S k).held ∧ (S k).hstock < s) ∨ (c ≤ (S k).held ∧ s ≤ (S k).hstock) by omega) with a | ⟨a, b⟩ | ⟨a, b⟩
    · rw [if_pos (.inl a)] at e
      have E := Lib.hid e; clear e
      go_enter Tryz.func108, Tryz.ntmps108
      go_wp2_with (first | (go_at_call 64; refine (who_any _ _).mono ?_; rintro e w' ⟨rfl, rfl⟩) | (go_at_call 92; refine (amount_any _ _ _).mono ?_; rintro e w' ⟨rfl, rfl⟩))
      go_ret
      rw [E.out]
      exact ⟨rfl, HP.out, grown_refl _ _⟩
    · rw [if_pos (.inr b)] at e
      have E := Lib.hid e; clear e
      have a' : decide ((S k).held < c) = false := by simp; omega
      go_enter Tryz.func108, Tryz.ntmps108
      go_wp2_with (first | (go_at_call 64; refine (who_any _ _).mono ?_; rintro e w' ⟨rfl, rfl⟩) | (go_at_call 92; refine (amount_any _ _ _).mono ?_; rintro e w' ⟨rfl, rfl⟩))
      go_ret
      rw [E.out]
      exact ⟨rfl, HP.out, grown_refl _ _⟩
    · rw [if_neg (by omega)] at e
      have E := Lib.hid e; clear e
      have a' : decide ((S k).held < c) = false := by simp; omega
      have b' : decide ((S k).hstock < s) = false := by simp; omega
      go_enter Tryz.func108, Tryz.ntmps108
      go_wp2_with (first | (go_at_call 64; refine (who_any _ _).mono ?_; rintro e w' ⟨rfl, rfl⟩) | (go_at_call 92; refine (amount_any _ _ _).mono ?_; rintro e w' ⟨rfl, rfl⟩))
      go_ret
      rw [E.out]
      refine ⟨rfl, ?_, ?_⟩
      · refine ((HP.out.setHeld hk2 ((S k).held - c)).setHstock hk2 ((S k).hstock - s)).congr fun i _ => ?_
        rw [upd_upd, upd_same]
      · exact grown_cell (grown_cell (grown_refl _ _) _ _) _ _
  · have e : freeP S who c s = (1, S) := if_neg h
    have E := Lib.hid e; clear e hs hp
    (rcases (show inb who 1 9 = false ∨ (inb who 1 9 = true ∧ inb c 0 1000000000 = false) ∨ (inb who 1 9 = true ∧ inb c 0 1000000000 = true ∧ inb s 0 1000000000 = false) by revert h; cases inb who 1 9 <;> cases inb c 0 1000000000 <;> cases inb s 0 1000000000 <;> simp) with a | ⟨a, b⟩ | ⟨a, b, d⟩)
    all_goals
      clear h
      go_enter Tryz.func108, Tryz.ntmps108
      go_wp2_with (first | (go_at_call 64; refine (who_any _ _).mono ?_; rintro e w' ⟨rfl, rfl⟩) | (go_at_call 92; refine (amount_any _ _ _).mono ?_; rintro e w' ⟨rfl, rfl⟩))
      go_ret
      rw [E.out]
      exact ⟨rfl, HP.out, grown_refl _ _⟩

def pur0 : Pur := ⟨0, 0, 0, 0, 0⟩
def getP (S : Nat → Pur) (who : Int) : Int × Pur := if inb who 1 9 then (0, S who.toNat) else (1, pur0)
theorem get_any (S : Nat → Pur) (g : Nat) (who : Int) (w : World) (hp : Pm w g S) :
    Calls Tryz.prog 40 #[.pointer (some ⟨g, 0, none⟩), .int .i64 who] w fun e w' => e = .returned (.tuple #[.agg #[.int .i64 (getP S who).2.who, .int .i64 (getP S who).2.cash, .int .i64 (getP S who).2.held, .int .i64 (getP S who).2.stock, .int .i64 (getP S who).2.hstock], errV (getP S who).1]) ∧ Below w.heap.size w w' := by
  by_cases h : inb who 1 9 = true
  · obtain ⟨k, rfl, hk1, hk2⟩ := inb_nat h
    obtain ⟨c0, c1, c2, c3, c4⟩ := hp.five hk2
    have i0 : (0 : Int) ≤ (k : Int) := by omega
    have i1 : (k : Int) < 10 := by omega
    have hlt := hp.lt
    rw [show getP S k = (0, S k) by rw [getP, if_pos h]; rfl]
    dsimp only
    generalize S k = p at *
    clear hp
    go_enter Tryz.func40, Tryz.ntmps40
    go_wp2_with (go_at_call 64; refine (who_any _ _).mono ?_; rintro e w' ⟨rfl, rfl⟩)
    refine bodyPost_ret (v := .tuple #[.agg #[.int .i64 p.who, .int .i64 p.cash, .int .i64 p.held, .int .i64 p.stock, .int .i64 p.hstock], .nilIface]) (by simp [results, Tryz.results40, go_sem]) rfl ⟨rfl, ?_⟩
    exact (Below.refl _ _).alloc (Nat.le_refl _) _
  · have h' : inb who 1 9 = false := by simpa using h
    rw [show getP S who = (1, pur0) by rw [getP, h']; rfl]
    clear hp h
    go_enter Tryz.func40, Tryz.ntmps40
    go_wp2_with (go_at_call 64; refine (who_any _ _).mono ?_; rintro e w' ⟨rfl, rfl⟩)
    refine bodyPost_ret (v := .tuple #[.agg #[.int .i64 0, .int .i64 0, .int .i64 0, .int .i64 0, .int .i64 0], er 1]) (by simp [results, Tryz.results40, go_sem]) rfl ⟨rfl, ?_⟩
    exact (Below.refl _ _).alloc (Nat.le_refl _) _
def newTo (k : Nat) : Nat → Pur := fun i => ⟨if i < k then i else 0, 0, 0, 0, 0⟩
def newP : Nat → Pur := fun i => ⟨i, 0, 0, 0, 0⟩
theorem Pm.setWho {w : World} {g : Nat} {S : Nat → Pur} (h : Pm w g S) {k : Nat} (hk : k < 10) (x : Int) : Pm (w.setCell ⟨g, k * 5, none⟩ (.int .i64 x)) g (upd S k { S k with who := x }) :=
  h.set (j := 0) hk (by omega) fun i hi => by match i, hi with | 0, _ => rfl | 1, _ => rfl | 2, _ => rfl | 3, _ => rfl | 4, _ => rfl
theorem Pm.zero (w : World) : Pm (w.alloc (.cells (Array.replicate 50 (.int .i64 0)) 136)) w.heap.size (newTo 0) := by
  refine ⟨_, by simp, heap_alloc_new w _, fun k j hk hj => ?_⟩
  rw [Array.getElem?_replicate, if_pos (by omega)]
  match j, hj with
  | 0, _ => simp [newTo, Pur.cell]
  | 1, _ => rfl
  | 2, _ => rfl
  | 3, _ => rfl
  | 4, _ => rfl
def NewPost (w : World) (e : Ending) (w' : World) : Prop := e = .returned (.pointer (some ⟨w.heap.size, 0, none⟩)) ∧ Pm w' w.heap.size newP ∧ Below w.heap.size w w'
set_option maxRecDepth 20000 in
theorem new_any (w : World) : Calls Tryz.prog 44 #[] w (NewPost w) := by
  have hz := Lib.hid (Pm.zero w)
  go_enter Tryz.func44, Tryz.ntmps44
  go_wp2
  go_loopw [5] (fun i wr => ∃ k : Nat, k ≤ 10 ∧ i = .int .i64 k ∧ Pm wr w.heap.size (newTo k) ∧ Below w.heap.size w wr) (fun i _ => 10 - (intOf i).toNat)
  case atStart => exact ⟨0, by omega, rfl, hz.out, (Below.refl _ _).alloc (Nat.le_refl _) _⟩
  case round =>
    obtain ⟨k, hk, rfl, hp, hb⟩ := hrel
    clear hz
    by_cases hlt : k < 10
    · have i0 : (0 : Int) ≤ (k : Int) := by omega
      have i1 : (k : Int) < 10 := by omega
      obtain ⟨c0, _, _, _, _⟩ := hp.five hlt
      have z0 := hp.free (k * 5)
      have HN := Lib.hid (hp.setWho hlt k)
      clear hp
      go_wp2
      go_roundw
      case rel =>
        refine ⟨k + 1, by omega, by go_num, HN.out.congr fun i _ => ?_, hb.setCell (Nat.le_refl _) _⟩
        unfold upd newTo
        by_cases e : i = k
        · subst e; simp
        · rw [if_neg e]
          by_cases h2 : i < k
          · rw [if_pos h2, if_pos (by omega)]
          · rw [if_neg h2, if_neg (by omega)]
      case measure => simp [intOf]; omega
    · obtain rfl : k = 10 := by omega
      go_wp2
      go_ret
      refine ⟨rfl, hp.congr fun i hi => ?_, hb⟩
      simp [newTo, newP, hi]
/-- what all have -/
def cashOf (S : Nat → Pur) (k : Nat) : Int := ((List.range k).map fun i => (S i).cash).sum
def stockOf (S : Nat → Pur) (k : Nat) : Int := ((List.range k).map fun i => (S i).stock).sum
theorem cashOf_succ (S : Nat → Pur) (k : Nat) : cashOf S (k + 1) = cashOf S k + (S k).cash := by simp [cashOf, List.range_succ]
theorem stockOf_succ (S : Nat → Pur) (k : Nat) : stockOf S (k + 1) = stockOf S k + (S k).stock := by simp [stockOf, List.range_succ]
theorem sums_bounds {S : Nat → Pur} (hs : PSound S) : ∀ k : Nat, k ≤ 10 → 0 ≤ cashOf S k ∧ cashOf S k ≤ 1000000000 * k ∧ 0 ≤ stockOf S k ∧ stockOf S k ≤ 1000000000 * k
  | 0, _ => by simp [cashOf, stockOf]
  | k + 1, h => by
    have ih := sums_bounds hs k (by omega)
    obtain ⟨h1, h2, h3, h4, h5, h6⟩ := hs k (by omega)
    rw [cashOf_succ, stockOf_succ]
    omega
end Go.Proofs.YtkdgpdijbobmkaaGreat
namespace Go.Proofs.YtkdgpdijbobmkaaGreat
set_option linter.all false
open Go Go.RowKit
/-- what a trade does: from a to b, cash and stock -/
def moved (S : Nat → Pur) (a b : Nat) (cash q : Int) : Nat → Pur :=
  let S1 := upd S a { S a with hstock := (S a).hstock - q }
  let S2 := upd S1 a { S1 a with stock := (S1 a).stock - q }
  let S3 := upd S2 a { S2 a with cash := (S2 a).cash + cash }
  let S4 := upd S3 b { S3 b with held := (S3 b).held - cash }
  let S5 := upd S4 b { S4 b with cash := (S4 b).cash - cash }
  upd S5 b { S5 b with stock := (S5 b).stock + q }
def tradeP (S : Nat → Pur) (frm to_ price qty : Int) : Int × (Nat → Pur) :=
  if inb frm 1 9 && inb to_ 1 9 && inb price 1 10000 && inb qty 1 10000 then
    if (S frm.toNat).hstock < qty ∨ (S to_.toNat).held < price * qty then (9, S)
    else if frm ≠ to_ ∧ (1000000000 - price * qty < (S frm.toNat).cash ∨ 1000000000 - qty < (S to_.toNat).stock) then (4, S)
    else (0, moved S frm.toNat to_.toNat (price * qty) qty) else (1, S)
set_option maxHeartbeats 4000000 in
theorem trade_far (S : Nat → Pur) (g a b : Nat) (mk tk p q : Int) (w : World) (hp : Pm w g S) (hs : PSound S) (ha1 : 1 ≤ a) (ha2 : a < 10) (hb1 : 1 ≤ b) (hb2 : b < 10) (hab : a ≠ b) (hp1 : inb p 1 10000 = true) (hq1 : inb q 1 10000 = true) (hA : inb a 1 9 = true) (hB : inb b 1 9 = true)
    (h1 : q ≤ (S a).hstock) (h2 : p * q ≤ (S b).held) (h3 : (S a).cash ≤ 1000000000 - p * q) (h4 : (S b).stock ≤ 1000000000 - q) :
    Calls Tryz.prog 133 #[.pointer (some ⟨g, 0, none⟩), .agg #[.int .i64 mk, .int .i64 tk, .int .i64 a, .int .i64 b, .int .i64 p, .int .i64 q]] w (PurPost (0, moved S a b (p * q) q) g w) := by
  have HP := Lib.hid hp
  obtain ⟨a0, a1, a2, a3, a4⟩ := hp.five ha2
  obtain ⟨b0, b1, b2, b3, b4⟩ := hp.five hb2
  obtain ⟨s1, s2, s3, s4, s5, s6⟩ := hs a ha2
  obtain ⟨t1, t2, t3, t4, t5, t6⟩ := hs b hb2
  have hp2 : 1 ≤ p ∧ p ≤ 10000 := by simpa [inb] using hp1
  have hq2 : 1 ≤ q ∧ q ≤ 10000 := by simpa [inb] using hq1
  obtain ⟨p1, p2⟩ := hp2
  obtain ⟨q1, q2⟩ := hq2
  have m1 : 0 ≤ p * q := Int.mul_nonneg (by omega) (by omega)
  have m2 : p * q ≤ 10000 * 10000 := Int.mul_le_mul p2 q2 (by omega) (by omega)
  have i0 : (0 : Int) ≤ (a : Int) := by omega
  have i1 : (a : Int) < 10 := by omega
  have j0 : (0 : Int) ≤ (b : Int) := by omega
  have j1 : (b : Int) < 10 := by omega
  have hgl := hp.lt
  have n42 : a * 5 + 4 ≠ b * 5 + 2 := by omega
  have o42 : b * 5 + 2 ≠ a * 5 + 4 := by omega
  have n41 : a * 5 + 4 ≠ b * 5 + 1 := by omega
  have o41 : b * 5 + 1 ≠ a * 5 + 4 := by omega
  have n43 : a * 5 + 4 ≠ b * 5 + 3 := by omega
  have o43 : b * 5 + 3 ≠ a * 5 + 4 := by omega
  have n32 : a * 5 + 3 ≠ b * 5 + 2 := by omega
  have o32 : b * 5 + 2 ≠ a * 5 + 3 := by omega
  have n31 : a * 5 + 3 ≠ b * 5 + 1 := by omega
  have o31 : b * 5 + 1 ≠ a * 5 + 3 := by omega
  have n33 : a * 5 + 3 ≠ b * 5 + 3 := by omega
  have o33 : b * 5 + 3 ≠ a * 5 + 3 := by omega
  have n12 : a * 5 + 1 ≠ b * 5 + 2 := by omega
  have o12 : b * 5 + 2 ≠ a * 5 + 1 := by omega
  have n11 : a * 5 + 1 ≠ b * 5 + 1 := by omega
  have o11 : b * 5 + 1 ≠ a * 5 + 1 := by omega
  have n13 : a * 5 + 1 ≠ b * 5 + 3 := by omega
  have o13 : b * 5 + 3 ≠ a * 5 + 1 := by omega
  have g1 : decide ((S a).hstock < q) = false := by simp; omega
  have g2 : decide ((S b).held < p * q) = false := by simp; omega
  have g3 : decide (1000000000 - p * q < (S a).cash) = false := by simp; omega
  have g4 : decide (1000000000 - q < (S b).stock) = false := by simp; omega
  have g5 : ((a : Int) == (b : Int)) = false := by simp; omega
  have g6 : (a : Int) ≠ (b : Int) := by omega
  have z1 := fun i => HP.out.free i
  have HAB := Lib.hid hab
  clear hp hs hab
  go_enter Tryz.func133, Tryz.ntmps133
  go_wp2_with (first | (go_at_call 64; refine (who_any _ _).mono ?_; rintro e w' ⟨rfl, rfl⟩) | (go_at_call 51; refine (valid_any _ _).mono ?_; rintro e w' ⟨rfl, rfl⟩) | (go_at_call 63; refine (qty_any _ _).mono ?_; rintro e w' ⟨rfl, rfl⟩))
  go_quiet (fail)
  go_wp2
  go_quiet (fail)
  go_wp2
  have x1 : IntKind.i64.wrap (1000000000 - p * q) = 1000000000 - p * q := IntWalk.i64_in _ (by omega)
  have x2 : IntKind.i64.wrap (1000000000 - q) = 1000000000 - q := IntWalk.i64_in _ (by omega)
  go_quiet (fail)
  clear x1 x2
  go_wp2
  go_region
  go_wp2
  go_region
  go_wp2
  go_region
  go_wp2
  go_ret
  refine ⟨rfl, ?_, grown_drew (grown_drew (grown_cell (grown_cell (grown_cell (grown_cell (grown_cell (grown_cell (grown_drewN (grown_alloc (grown_refl _ _) _) _) _ _) _ _) _ _) _ _) _ _) _ _))⟩
  refine Pm.congr (((((((((HP.out.alloc _).drewN _).setHstock ha2 _).setStock ha2 _).setCash ha2 _).setHeld hb2 _).setCash hb2 _).setStock hb2 _).drew.drew) fun i _ => ?_
  have hab := HAB.out
  unfold moved
  by_cases e1 : i = b
  · subst e1; simp [upd, Ne.symm hab]
  · by_cases e2 : i = a
    · subst e2; simp [upd, hab]
    · simp [upd, e1, e2]
set_option maxHeartbeats 4000000 in
theorem trade_self (S : Nat → Pur) (g a : Nat) (mk tk p q : Int) (w : World) (hp : Pm w g S) (hs : PSound S) (ha1 : 1 ≤ a) (ha2 : a < 10) (hp1 : inb p 1 10000 = true) (hq1 : inb q 1 10000 = true) (hA : inb a 1 9 = true) 
    (h1 : q ≤ (S a).hstock) (h2 : p * q ≤ (S a).held) :
    Calls Tryz.prog 133 #[.pointer (some ⟨g, 0, none⟩), .agg #[.int .i64 mk, .int .i64 tk, .int .i64 a, .int .i64 a, .int .i64 p, .int .i64 q]] w (PurPost (0, moved S a a (p * q) q) g w) := by
  have HP := Lib.hid hp
  obtain ⟨a0, a1, a2, a3, a4⟩ := hp.five ha2
  obtain ⟨s1, s2, s3, s4, s5, s6⟩ := hs a ha2
  have hp2 : 1 ≤ p ∧ p ≤ 10000 := by simpa [inb] using hp1
  have hq2 : 1 ≤ q ∧ q ≤ 10000 := by simpa [inb] using hq1
  obtain ⟨p1, p2⟩ := hp2
  obtain ⟨q1, q2⟩ := hq2
  have m1 : 0 ≤ p * q := Int.mul_nonneg (by omega) (by omega)
  have m2 : p * q ≤ 10000 * 10000 := Int.mul_le_mul p2 q2 (by omega) (by omega)
  have i0 : (0 : Int) ≤ (a : Int) := by omega
  have i1 : (a : Int) < 10 := by omega
  have hgl := hp.lt
  have g1 : decide ((S a).hstock < q) = false := by simp; omega
  have g2 : decide ((S a).held < p * q) = false := by simp; omega
  have z1 := fun i => HP.out.free i
  clear hp hs
  go_enter Tryz.func133, Tryz.ntmps133
  go_wp2_with (first | (go_at_call 64; refine (who_any _ _).mono ?_; rintro e w' ⟨rfl, rfl⟩) | (go_at_call 51; refine (valid_any _ _).mono ?_; rintro e w' ⟨rfl, rfl⟩) | (go_at_call 63; refine (qty_any _ _).mono ?_; rintro e w' ⟨rfl, rfl⟩))
  go_quiet (fail)
  go_wp2
  go_quiet (fail)
  go_wp2
  go_quiet (fail)
  go_wp2
  go_region
  go_wp2
  go_region
  go_wp2
  go_region
  go_wp2
  go_ret
  refine ⟨rfl, ?_, grown_drew (grown_drew (grown_cell (grown_cell (grown_cell (grown_cell (grown_cell (grown_cell (grown_drewN (grown_alloc (grown_refl _ _) _) _) _ _) _ _) _ _) _ _) _ _) _ _))⟩
  refine Pm.congr (((((((((HP.out.alloc _).drewN _).setHstock ha2 _).setStock ha2 _).setCash ha2 _).setHeld ha2 _).setCash ha2 _).setStock ha2 _).drew.drew) fun i _ => ?_
  unfold moved
  by_cases e2 : i = a
  · subst e2; simp [upd]
  · simp [upd, e2]
end Go.Proofs.YtkdgpdijbobmkaaGreat
namespace Go.Proofs.YtkdgpdijbobmkaaGreat
set_option linter.all false
open Go Go.RowKit
theorem vp_inb (p : Int) : vp p = inb p 1 10000 := rfl
set_option maxHeartbeats 4000000 in
theorem trade_range (S : Nat → Pur) (g : Nat) (mk tk f t p q : Int) (w : World) (hp : Pm w g S) (h : (inb f 1 9 && inb t 1 9 && inb p 1 10000 && inb q 1 10000) = false) :
    Calls Tryz.prog 133 #[.pointer (some ⟨g, 0, none⟩), .agg #[.int .i64 mk, .int .i64 tk, .int .i64 f, .int .i64 t, .int .i64 p, .int .i64 q]] w (PurPost (1, S) g w) := by
  have HP := Lib.hid hp; clear hp
  rcases (show inb f 1 9 = false ∨ (inb f 1 9 = true ∧ inb t 1 9 = false) ∨ (inb f 1 9 = true ∧ inb t 1 9 = true ∧ inb p 1 10000 = false) ∨ (inb f 1 9 = true ∧ inb t 1 9 = true ∧ inb p 1 10000 = true ∧ inb q 1 10000 = false) by revert h; cases inb f 1 9 <;> cases inb t 1 9 <;> cases inb p 1 10000 <;> cases inb q 1 10000 <;> simp) with a | ⟨a, b⟩ | ⟨a, b, c⟩ | ⟨a, b, c, d⟩
  all_goals
    clear h
    try rw [← vp_inb] at c
    go_enter Tryz.func133, Tryz.ntmps133
    go_wp2_with (first | (go_at_call 64; refine (who_any _ _).mono ?_; rintro e w' ⟨rfl, rfl⟩) | (go_at_call 51; refine (valid_any _ _).mono ?_; rintro e w' ⟨rfl, rfl⟩) | (go_at_call 63; refine (qty_any _ _).mono ?_; rintro e w' ⟨rfl, rfl⟩))
    go_ret
    exact ⟨rfl, by repeat (first | (with_reducible exact HP.out) | (with_reducible refine Pm.drewN ?_ _) | (with_reducible refine Pm.alloc ?_ _)), by repeat (first | (with_reducible exact grown_refl _ _) | (with_reducible refine grown_drewN ?_ _) | (with_reducible refine grown_alloc ?_ _))⟩
set_option maxHeartbeats 4000000 in
theorem trade_poor (S : Nat → Pur) (g a b : Nat) (mk tk p q : Int) (w : World) (hp : Pm w g S) (ha2 : a < 10) (hb2 : b < 10) (hp1 : inb p 1 10000 = true) (hq1 : inb q 1 10000 = true) (hA : inb a 1 9 = true) (hB : inb b 1 9 = true)
    (h : (S a).hstock < q ∨ (S b).held < p * q) :
    Calls Tryz.prog 133 #[.pointer (some ⟨g, 0, none⟩), .agg #[.int .i64 mk, .int .i64 tk, .int .i64 a, .int .i64 b, .int .i64 p, .int .i64 q]] w (PurPost (9, S) g w) := by
  have HP := Lib.hid hp
  obtain ⟨a0, a1, a2, a3, a4⟩ := hp.five ha2
  obtain ⟨b0, b1, b2, b3, b4⟩ := hp.five hb2
  have hp2 : 1 ≤ p ∧ p ≤ 10000 := by simpa [inb] using hp1
  have hq2 : 1 ≤ q ∧ q ≤ 10000 := by simpa [inb] using hq1
  obtain ⟨p1, p2⟩ := hp2
  obtain ⟨q1, q2⟩ := hq2
  have m1 : 0 ≤ p * q := Int.mul_nonneg (by omega) (by omega)
  have m2 : p * q ≤ 10000 * 10000 := Int.mul_le_mul p2 q2 (by omega) (by omega)
  have i0 : (0 : Int) ≤ (a : Int) := by omega
  have i1 : (a : Int) < 10 := by omega
  have j0 : (0 : Int) ≤ (b : Int) := by omega
  have j1 : (b : Int) < 10 := by omega
  have hgl := hp.lt
  clear hp
  by_cases h1 : (S a).hstock < q
  · clear h
    go_enter Tryz.func133, Tryz.ntmps133
    go_wp2_with (first | (go_at_call 64; refine (who_any _ _).mono ?_; rintro e w' ⟨rfl, rfl⟩) | (go_at_call 51; refine (valid_any _ _).mono ?_; rintro e w' ⟨rfl, rfl⟩) | (go_at_call 63; refine (qty_any _ _).mono ?_; rintro e w' ⟨rfl, rfl⟩))
    go_quiet (fail)
    go_wp2
    go_quiet (fail)
    go_wp2
    go_ret
    exact ⟨rfl, by repeat (first | (with_reducible exact HP.out) | (with_reducible refine Pm.drewN ?_ _) | (with_reducible refine Pm.alloc ?_ _)), by repeat (first | (with_reducible exact grown_refl _ _) | (with_reducible refine grown_drewN ?_ _) | (with_reducible refine grown_alloc ?_ _))⟩
  · have h2 : (S b).held < p * q := by simpa [h1] using h
    have g1 : decide ((S a).hstock < q) = false := by simp; omega
    clear h h1
    go_enter Tryz.func133, Tryz.ntmps133
    go_wp2_with (first | (go_at_call 64; refine (who_any _ _).mono ?_; rintro e w' ⟨rfl, rfl⟩) | (go_at_call 51; refine (valid_any _ _).mono ?_; rintro e w' ⟨rfl, rfl⟩) | (go_at_call 63; refine (qty_any _ _).mono ?_; rintro e w' ⟨rfl, rfl⟩))
    go_quiet (fail)
    go_wp2
    go_quiet (fail)
    go_wp2
    go_ret
    exact ⟨rfl, by repeat (first | (with_reducible exact HP.out) | (with_reducible refine Pm.drewN ?_ _) | (with_reducible refine Pm.alloc ?_ _)), by repeat (first | (with_reducible exact grown_refl _ _) | (with_reducible refine grown_drewN ?_ _) | (with_reducible refine grown_alloc ?_ _))⟩
end Go.Proofs.YtkdgpdijbobmkaaGreat
namespace Go.Proofs.YtkdgpdijbobmkaaGreat
set_option linter.all false
open Go Go.RowKit
set_option maxHeartbeats 4000000 in
theorem trade_full1 (S : Nat → Pur) (g a b : Nat) (mk tk p q : Int) (w : World) (hp : Pm w g S) (ha2 : a < 10) (hb2 : b < 10) (hab : a ≠ b) (hp1 : inb p 1 10000 = true) (hq1 : inb q 1 10000 = true) (hA : inb a 1 9 = true) (hB : inb b 1 9 = true)
    (h1 : q ≤ (S a).hstock) (h2 : p * q ≤ (S b).held) (h3 : 1000000000 - p * q < (S a).cash) :
    Calls Tryz.prog 133 #[.pointer (some ⟨g, 0, none⟩), .agg #[.int .i64 mk, .int .i64 tk, .int .i64 a, .int .i64 b, .int .i64 p, .int .i64 q]] w (PurPost (4, S) g w) := by
  have HP := Lib.hid hp
  obtain ⟨a0, a1, a2, a3, a4⟩ := hp.five ha2
  obtain ⟨b0, b1, b2, b3, b4⟩ := hp.five hb2
  have hp2 : 1 ≤ p ∧ p ≤ 10000 := by simpa [inb] using hp1
  have hq2 : 1 ≤ q ∧ q ≤ 10000 := by simpa [inb] using hq1
  obtain ⟨p1, p2⟩ := hp2
  obtain ⟨q1, q2⟩ := hq2
  have m1 : 0 ≤ p * q := Int.mul_nonneg (by omega) (by omega)
  have m2 : p * q ≤ 10000 * 10000 := Int.mul_le_mul p2 q2 (by omega) (by omega)
  have i0 : (0 : Int) ≤ (a : Int) := by omega
  have i1 : (a : Int) < 10 := by omega
  have j0 : (0 : Int) ≤ (b : Int) := by omega
  have j1 : (b : Int) < 10 := by omega
  have g1 : decide ((S a).hstock < q) = false := by simp; omega
  have g2 : decide ((S b).held < p * q) = false := by simp; omega
  have g5 : ((a : Int) == (b : Int)) = false := by simp; omega
  have g6 : (a : Int) ≠ (b : Int) := by omega
  have g7 : ((a : Int) != (b : Int)) = true := bne_iff_ne.2 g6
  have hgl := hp.lt
  clear hp hab
  obtain ⟨Y, hY⟩ : ∃ Y : Int, Y = 1000000000 - p * q := ⟨_, rfl⟩
  obtain ⟨Z, hZ⟩ : ∃ Z : Int, Z = 1000000000 - q := ⟨_, rfl⟩
  have x1 : IntKind.i64.wrap (1000000000 - p * q) = Y := by rw [hY]; exact IntWalk.i64_in _ (by omega)
  have x2 : IntKind.i64.wrap (1000000000 - q) = Z := by rw [hZ]; exact IntWalk.i64_in _ (by omega)
  have y1 : Y < (S a).cash := by omega
  clear h3 hY hZ
  have X1 := Lib.hid x1; have X2 := Lib.hid x2; clear x1 x2
  go_enter Tryz.func133, Tryz.ntmps133
  go_wp2_with (first | (go_at_call 64; refine (who_any _ _).mono ?_; rintro e w' ⟨rfl, rfl⟩) | (go_at_call 51; refine (valid_any _ _).mono ?_; rintro e w' ⟨rfl, rfl⟩) | (go_at_call 63; refine (qty_any _ _).mono ?_; rintro e w' ⟨rfl, rfl⟩))
  go_quiet (fail)
  go_wp2
  go_quiet (fail)
  go_wp2
  have x1 := X1.out
  have x2 := X2.out
  go_quiet (fail)
  clear x1 x2
  go_wp2
  go_ret
  exact ⟨rfl, by repeat (first | (with_reducible exact HP.out) | (with_reducible refine Pm.drewN ?_ _) | (with_reducible refine Pm.alloc ?_ _)), by repeat (first | (with_reducible exact grown_refl _ _) | (with_reducible refine grown_drewN ?_ _) | (with_reducible refine grown_alloc ?_ _))⟩
set_option maxHeartbeats 4000000 in
theorem trade_full2 (S : Nat → Pur) (g a b : Nat) (mk tk p q : Int) (w : World) (hp : Pm w g S) (ha2 : a < 10) (hb2 : b < 10) (hab : a ≠ b) (hp1 : inb p 1 10000 = true) (hq1 : inb q 1 10000 = true) (hA : inb a 1 9 = true) (hB : inb b 1 9 = true)
    (h1 : q ≤ (S a).hstock) (h2 : p * q ≤ (S b).held) (h3 : (S a).cash ≤ 1000000000 - p * q) (h4 : 1000000000 - q < (S b).stock) :
    Calls Tryz.prog 133 #[.pointer (some ⟨g, 0, none⟩), .agg #[.int .i64 mk, .int .i64 tk, .int .i64 a, .int .i64 b, .int .i64 p, .int .i64 q]] w (PurPost (4, S) g w) := by
  have HP := Lib.hid hp
  obtain ⟨a0, a1, a2, a3, a4⟩ := hp.five ha2
  obtain ⟨b0, b1, b2, b3, b4⟩ := hp.five hb2
  have hp2 : 1 ≤ p ∧ p ≤ 10000 := by simpa [inb] using hp1
  have hq2 : 1 ≤ q ∧ q ≤ 10000 := by simpa [inb] using hq1
  obtain ⟨p1, p2⟩ := hp2
  obtain ⟨q1, q2⟩ := hq2
  have m1 : 0 ≤ p * q := Int.mul_nonneg (by omega) (by omega)
  have m2 : p * q ≤ 10000 * 10000 := Int.mul_le_mul p2 q2 (by omega) (by omega)
  have i0 : (0 : Int) ≤ (a : Int) := by omega
  have i1 : (a : Int) < 10 := by omega
  have j0 : (0 : Int) ≤ (b : Int) := by omega
  have j1 : (b : Int) < 10 := by omega
  have g1 : decide ((S a).hstock < q) = false := by simp; omega
  have g2 : decide ((S b).held < p * q) = false := by simp; omega
  have g5 : ((a : Int) == (b : Int)) = false := by simp; omega
  have g6 : (a : Int) ≠ (b : Int) := by omega
  have g7 : ((a : Int) != (b : Int)) = true := bne_iff_ne.2 g6
  have hgl := hp.lt
  clear hp hab
  obtain ⟨Y, hY⟩ : ∃ Y : Int, Y = 1000000000 - p * q := ⟨_, rfl⟩
  obtain ⟨Z, hZ⟩ : ∃ Z : Int, Z = 1000000000 - q := ⟨_, rfl⟩
  have x1 : IntKind.i64.wrap (1000000000 - p * q) = Y := by rw [hY]; exact IntWalk.i64_in _ (by omega)
  have x2 : IntKind.i64.wrap (1000000000 - q) = Z := by rw [hZ]; exact IntWalk.i64_in _ (by omega)
  have y1 : decide (Y < (S a).cash) = false := decide_eq_false (by omega)
  have y2 : Z < (S b).stock := by omega
  clear h3 h4 hY hZ
  have X1 := Lib.hid x1; have X2 := Lib.hid x2; clear x1 x2
  go_enter Tryz.func133, Tryz.ntmps133
  go_wp2_with (first | (go_at_call 64; refine (who_any _ _).mono ?_; rintro e w' ⟨rfl, rfl⟩) | (go_at_call 51; refine (valid_any _ _).mono ?_; rintro e w' ⟨rfl, rfl⟩) | (go_at_call 63; refine (qty_any _ _).mono ?_; rintro e w' ⟨rfl, rfl⟩))
  go_quiet (fail)
  go_wp2
  go_quiet (fail)
  go_wp2
  have x1 := X1.out
  have x2 := X2.out
  go_quiet (fail)
  clear x1 x2
  go_wp2
  go_ret
  exact ⟨rfl, by repeat (first | (with_reducible exact HP.out) | (with_reducible refine Pm.drewN ?_ _) | (with_reducible refine Pm.alloc ?_ _)), by repeat (first | (with_reducible exact grown_refl _ _) | (with_reducible refine grown_drewN ?_ _) | (with_reducible refine grown_alloc ?_ _))⟩
end Go.Proofs.YtkdgpdijbobmkaaGreat
namespace Go.Proofs.YtkdgpdijbobmkaaGreat
set_option linter.all false
open Go Go.RowKit
theorem trade_full (S : Nat → Pur) (g a b : Nat) (mk tk p q : Int) (w : World) (hp : Pm w g S) (ha2 : a < 10) (hb2 : b < 10) (hab : a ≠ b) (hp1 : inb p 1 10000 = true) (hq1 : inb q 1 10000 = true) (hA : inb a 1 9 = true) (hB : inb b 1 9 = true)
    (h1 : q ≤ (S a).hstock) (h2 : p * q ≤ (S b).held) (h : 1000000000 - p * q < (S a).cash ∨ 1000000000 - q < (S b).stock) :
    Calls Tryz.prog 133 #[.pointer (some ⟨g, 0, none⟩), .agg #[.int .i64 mk, .int .i64 tk, .int .i64 a, .int .i64 b, .int .i64 p, .int .i64 q]] w (PurPost (4, S) g w) := by
  by_cases h3 : 1000000000 - p * q < (S a).cash
  · exact trade_full1 S g a b mk tk p q w hp ha2 hb2 hab hp1 hq1 hA hB h1 h2 h3
  · exact trade_full2 S g a b mk tk p q w hp ha2 hb2 hab hp1 hq1 hA hB h1 h2 (by omega) (by omega)
theorem trade_any (S : Nat → Pur) (g : Nat) (mk tk f t p q : Int) (w : World) (hp : Pm w g S) (hs : PSound S) :
    Calls Tryz.prog 133 #[.pointer (some ⟨g, 0, none⟩), .agg #[.int .i64 mk, .int .i64 tk, .int .i64 f, .int .i64 t, .int .i64 p, .int .i64 q]] w (PurPost (tradeP S f t p q) g w) := by
  unfold tradeP
  by_cases h : (inb f 1 9 && inb t 1 9 && inb p 1 10000 && inb q 1 10000) = true
  · rw [if_pos h]
    simp only [Bool.and_eq_true] at h
    obtain ⟨⟨⟨hA, hB⟩, hp1⟩, hq1⟩ := h
    obtain ⟨a, rfl, ha1, ha2⟩ := inb_nat hA
    obtain ⟨b, rfl, hb1, hb2⟩ := inb_nat hB
    simp only [Int.toNat_natCast]
    by_cases h1 : (S a).hstock < q ∨ (S b).held < p * q
    · rw [if_pos h1]
      exact trade_poor S g a b mk tk p q w hp ha2 hb2 hp1 hq1 hA hB h1
    · rw [if_neg h1]
      by_cases h2 : (a : Int) ≠ (b : Int) ∧ (1000000000 - p * q < (S a).cash ∨ 1000000000 - q < (S b).stock)
      · rw [if_pos h2]
        exact trade_full S g a b mk tk p q w hp ha2 hb2 (by omega) hp1 hq1 hA hB (by omega) (by omega) h2.2
      · rw [if_neg h2]
        by_cases e : a = b
        · subst e
          exact trade_self S g a mk tk p q w hp hs ha1 ha2 hp1 hq1 hA (by omega) (by omega)
        · exact trade_far S g a b mk tk p q w hp hs ha1 ha2 hb1 hb2 e hp1 hq1 hA hB (by omega) (by omega) (by omega) (by omega)
  · rw [if_neg h]
    exact trade_range S g mk tk f t p q w hp (by simpa using h)
end Go.Proofs.YtkdgpdijbobmkaaGreat
namespace Go.Proofs.YtkdgpdijbobmkaaGreat
set_option linter.all false
open Go Go.RowKit
def WhoOk (S : Nat → Pur) : Prop := ∀ k, k < 10 → (S k).who = k
theorem cashOf_congr {S T : Nat → Pur} (h : ∀ i, i < 10 → S i = T i) : ∀ m, m ≤ 10 → cashOf S m = cashOf T m
  | 0, _ => rfl
  | m + 1, hm => by rw [cashOf_succ, cashOf_succ, cashOf_congr h m (by omega), h m (by omega)]
theorem stockOf_congr {S T : Nat → Pur} (h : ∀ i, i < 10 → S i = T i) : ∀ m, m ≤ 10 → stockOf S m = stockOf T m
  | 0, _ => rfl
  | m + 1, hm => by rw [stockOf_succ, stockOf_succ, stockOf_congr h m (by omega), h m (by omega)]
theorem cashOf_upd (S : Nat → Pur) (k : Nat) (p : Pur) : ∀ m, cashOf (upd S k p) m = cashOf S m + (if k < m then p.cash - (S k).cash else 0)
  | 0 => by simp [cashOf]
  | m + 1 => by
    rw [cashOf_succ, cashOf_succ, cashOf_upd S k p m]
    by_cases h : m = k
    · subst h; rw [upd_same, if_neg (by omega), if_pos (by omega)]; omega
    · rw [upd_other h]
      by_cases h2 : k < m
      · rw [if_pos h2, if_pos (by omega)]; omega
      · rw [if_neg h2, if_neg (by omega)]; omega
theorem stockOf_upd (S : Nat → Pur) (k : Nat) (p : Pur) : ∀ m, stockOf (upd S k p) m = stockOf S m + (if k < m then p.stock - (S k).stock else 0)
  | 0 => by simp [stockOf]
  | m + 1 => by
    rw [stockOf_succ, stockOf_succ, stockOf_upd S k p m]
    by_cases h : m = k
    · subst h; rw [upd_same, if_neg (by omega), if_pos (by omega)]; omega
    · rw [upd_other h]
      by_cases h2 : k < m
      · rw [if_pos h2, if_pos (by omega)]; omega
      · rw [if_neg h2, if_neg (by omega)]; omega
/-- all is right with them -/
structure PInv (S : Nat → Pur) : Prop where
  sound : PSound S
  who : WhoOk S
theorem PInv.upd {S : Nat → Pur} (h : PInv S) {k : Nat} {p : Pur} (hp : p.ok) (hw : p.who = k) : PInv (upd S k p) := by
  refine ⟨fun i hi => ?_, fun i hi => ?_⟩
  · by_cases e : i = k
    · subst e; rw [upd_same]; exact hp
    · rw [upd_other e]; exact h.sound i hi
  · by_cases e : i = k
    · subst e; rw [upd_same]; exact hw
    · rw [upd_other e]; exact h.who i hi
theorem PInv.congr {S T : Nat → Pur} (h : PInv S) (e : ∀ i, i < 10 → S i = T i) : PInv T :=
  ⟨fun i hi => e i hi ▸ h.sound i hi, fun i hi => e i hi ▸ h.who i hi⟩
/-- after a step: right, and so much more of each -/
def Step (S : Nat → Pur) (T : Nat → Pur) (c s : Int) : Prop := PInv T ∧ cashOf T 10 = cashOf S 10 + c ∧ stockOf T 10 = stockOf S 10 + s
theorem Step.same {S : Nat → Pur} (h : PInv S) : Step S S 0 0 := ⟨h, by omega, by omega⟩
theorem pay_step {S : Nat → Pur} (h : PInv S) (who n : Int) : Step S (payP S who n).2 (if (payP S who n).1 = 0 then n else 0) 0 := by
  unfold payP
  by_cases h1 : (inb who 1 9 && inb n 1 1000000000) = true
  · rw [if_pos h1]
    simp only [Bool.and_eq_true] at h1
    obtain ⟨k, rfl, hk1, hk2⟩ := inb_nat h1.1
    have hn : 1 ≤ n ∧ n ≤ 1000000000 := by simpa [inb] using h1.2
    obtain ⟨a1, a2, a3, a4, a5, a6⟩ := h.sound k hk2
    simp only [Int.toNat_natCast]
    by_cases h2 : 1000000000 - n < (S k).cash
    · rw [if_pos h2]; simpa using Step.same h
    · rw [if_neg h2]
      refine ⟨h.upd ⟨by dsimp only; omega, by dsimp only; omega, by dsimp only; omega, a4, a5, a6⟩ (h.who k hk2), ?_, ?_⟩
      · rw [cashOf_upd, if_pos hk2]; simp; omega
      · rw [stockOf_upd, if_pos hk2]; simp
  · rw [if_neg h1]; simpa using Step.same h
theorem give_step {S : Nat → Pur} (h : PInv S) (who n : Int) : Step S (giveP S who n).2 0 (if (giveP S who n).1 = 0 then n else 0) := by
  unfold giveP
  by_cases h1 : (inb who 1 9 && inb n 1 1000000000) = true
  · rw [if_pos h1]
    simp only [Bool.and_eq_true] at h1
    obtain ⟨k, rfl, hk1, hk2⟩ := inb_nat h1.1
    have hn : 1 ≤ n ∧ n ≤ 1000000000 := by simpa [inb] using h1.2
    obtain ⟨a1, a2, a3, a4, a5, a6⟩ := h.sound k hk2
    simp only [Int.toNat_natCast]
    by_cases h2 : 1000000000 - n < (S k).stock
    · rw [if_pos h2]; simpa using Step.same h
    · rw [if_neg h2]
      refine ⟨h.upd ⟨a1, a2, a3, a4, by dsimp only; omega, by dsimp only; omega⟩ (h.who k hk2), ?_, ?_⟩
      · rw [cashOf_upd, if_pos hk2]; simp
      · rw [stockOf_upd, if_pos hk2]; simp; omega
  · rw [if_neg h1]; simpa using Step.same h
theorem hold_step {S : Nat → Pur} (h : PInv S) (who c s : Int) : Step S (holdP S who c s).2 0 0 := by
  unfold holdP
  by_cases h1 : (inb who 1 9 && inb c 0 1000000000 && inb s 0 1000000000) = true
  · rw [if_pos h1]
    simp only [Bool.and_eq_true] at h1
    obtain ⟨k, rfl, hk1, hk2⟩ := inb_nat h1.1.1
    have hc : 0 ≤ c ∧ c ≤ 1000000000 := by simpa [inb] using h1.1.2
    have hs : 0 ≤ s ∧ s ≤ 1000000000 := by simpa [inb] using h1.2
    obtain ⟨a1, a2, a3, a4, a5, a6⟩ := h.sound k hk2
    simp only [Int.toNat_natCast]
    by_cases h2 : (S k).cash - (S k).held < c ∨ (S k).stock - (S k).hstock < s
    · rw [if_pos h2]; exact Step.same h
    · rw [if_neg h2]
      refine ⟨h.upd ⟨by dsimp only; omega, by dsimp only; omega, a3, by dsimp only; omega, by dsimp only; omega, a6⟩ (h.who k hk2), ?_, ?_⟩
      · rw [cashOf_upd, if_pos hk2]; simp
      · rw [stockOf_upd, if_pos hk2]; simp
  · rw [if_neg h1]; exact Step.same h
theorem free_step {S : Nat → Pur} (h : PInv S) (who c s : Int) : Step S (freeP S who c s).2 0 0 := by
  unfold freeP
  by_cases h1 : (inb who 1 9 && inb c 0 1000000000 && inb s 0 1000000000) = true
  · rw [if_pos h1]
    simp only [Bool.and_eq_true] at h1
    obtain ⟨k, rfl, hk1, hk2⟩ := inb_nat h1.1.1
    have hc : 0 ≤ c ∧ c ≤ 1000000000 := by simpa [inb] using h1.1.2
    have hs : 0 ≤ s ∧ s ≤ 1000000000 := by simpa [inb] using h1.2
    obtain ⟨a1, a2, a3, a4, a5, a6⟩ := h.sound k hk2
    simp only [Int.toNat_natCast]
    by_cases h2 : (S k).held < c ∨ (S k).hstock < s
    · rw [if_pos h2]; exact Step.same h
    · rw [if_neg h2]
      refine ⟨h.upd ⟨by dsimp only; omega, by dsimp only; omega, a3, by dsimp only; omega, by dsimp only; omega, a6⟩ (h.who k hk2), ?_, ?_⟩
      · rw [cashOf_upd, if_pos hk2]; simp
      · rw [stockOf_upd, if_pos hk2]; simp
  · rw [if_neg h1]; exact Step.same h
theorem moved_far {S : Nat → Pur} {a b : Nat} (hab : a ≠ b) (c q : Int) (i : Nat) :
    moved S a b c q i = upd (upd S a { S a with hstock := (S a).hstock - q, stock := (S a).stock - q, cash := (S a).cash + c }) b { S b with held := (S b).held - c, cash := (S b).cash - c, stock := (S b).stock + q } i := by
  unfold moved
  by_cases e1 : i = b
  · subst e1; simp [upd, Ne.symm hab]
  · by_cases e2 : i = a
    · subst e2; simp [upd, hab]
    · simp [upd, e1, e2]
theorem moved_self {S : Nat → Pur} {a : Nat} (c q : Int) (i : Nat) :
    moved S a a c q i = upd S a { S a with hstock := (S a).hstock - q, held := (S a).held - c } i := by
  unfold moved
  by_cases e2 : i = a
  · subst e2
    simp only [upd, if_true]
    congr 1 <;> omega
  · simp [upd, e2]
theorem trade_step {S : Nat → Pur} (h : PInv S) (f t p q : Int) : Step S (tradeP S f t p q).2 0 0 := by
  unfold tradeP
  by_cases h0 : (inb f 1 9 && inb t 1 9 && inb p 1 10000 && inb q 1 10000) = true
  · rw [if_pos h0]
    simp only [Bool.and_eq_true] at h0
    obtain ⟨⟨⟨hA, hB⟩, hp1⟩, hq1⟩ := h0
    obtain ⟨a, rfl, ha1, ha2⟩ := inb_nat hA
    obtain ⟨b, rfl, hb1, hb2⟩ := inb_nat hB
    have hp2 : 1 ≤ p ∧ p ≤ 10000 := by simpa [inb] using hp1
    have hq2 : 1 ≤ q ∧ q ≤ 10000 := by simpa [inb] using hq1
    have m1 : 0 ≤ p * q := Int.mul_nonneg (by omega) (by omega)
    simp only [Int.toNat_natCast]
    by_cases h1 : (S a).hstock < q ∨ (S b).held < p * q
    · rw [if_pos h1]; exact Step.same h
    · rw [if_neg h1]
      by_cases h2 : (a : Int) ≠ (b : Int) ∧ (1000000000 - p * q < (S a).cash ∨ 1000000000 - q < (S b).stock)
      · rw [if_pos h2]; exact Step.same h
      · rw [if_neg h2]
        generalize p * q = c at *
        obtain ⟨a1, a2, a3, a4, a5, a6⟩ := h.sound a ha2
        obtain ⟨b1, b2, b3, b4, b5, b6⟩ := h.sound b hb2
        dsimp only
        by_cases e : a = b
        · subst e
          refine ⟨(h.upd (k := a) (p := { S a with hstock := (S a).hstock - q, held := (S a).held - c }) ⟨by dsimp only; omega, by dsimp only; omega, a3, by dsimp only; omega, by dsimp only; omega, a6⟩ (h.who a ha2)).congr fun i _ => (moved_self c q i).symm, ?_, ?_⟩
          · rw [cashOf_congr (fun i _ => moved_self c q i) 10 (by omega), cashOf_upd, if_pos ha2]; simp
          · rw [stockOf_congr (fun i _ => moved_self c q i) 10 (by omega), stockOf_upd, if_pos ha2]; simp
        · have hu : PInv (upd S a { S a with hstock := (S a).hstock - q, stock := (S a).stock - q, cash := (S a).cash + c }) :=
            h.upd ⟨a1, by dsimp only; omega, by dsimp only; omega, by dsimp only; omega, by dsimp only; omega, by dsimp only; omega⟩ (h.who a ha2)
          refine ⟨(hu.upd (k := b) (p := { S b with held := (S b).held - c, cash := (S b).cash - c, stock := (S b).stock + q }) ⟨by dsimp only; omega, by dsimp only; omega, by dsimp only; omega, b4, by dsimp only; omega, by dsimp only; omega⟩ (h.who b hb2)).congr fun i _ => (moved_far e c q i).symm, ?_, ?_⟩
          · rw [cashOf_congr (fun i _ => moved_far e c q i) 10 (by omega), cashOf_upd, if_pos hb2, cashOf_upd, if_pos ha2, upd_other (Ne.symm e)]; simp; omega
          · rw [stockOf_congr (fun i _ => moved_far e c q i) 10 (by omega), stockOf_upd, if_pos hb2, stockOf_upd, if_pos ha2, upd_other (Ne.symm e)]; simp; omega
  · rw [if_neg h0]; exact Step.same h
theorem new_inv : PInv newP := ⟨fun k _ => by simp [Pur.ok, newP], fun _ _ => rfl⟩
theorem new_cash : cashOf newP 10 = 0 := by decide
theorem new_stock : stockOf newP 10 = 0 := by decide
end Go.Proofs.YtkdgpdijbobmkaaGreat
