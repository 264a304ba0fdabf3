/- The walk of PurseHolds. -/
import Derived.Test.YtefncbdkjljbjaaDoorPurseLaw
import Derived.Test.YtefncbdkjljbjaaDoorPurse7
import Derived.Test.YtefncbdkjljbjaaDoorSame
import Derived.Test.YtefncbdkjljbjaaDoorLaid
namespace Go.Proofs.YtefncbdkjljbjaaDoor
open Go Go.RowKit
/-- purse 3 alone has something -/
def HS (c h s k : Int) : Nat → Pur := upd newP 3 ⟨3, c, h, s, k⟩
theorem HS_new : newP = HS 0 0 0 0 := by
  funext i
  by_cases e : i = 3
  · subst e; rfl
  · rw [HS, upd_other e]
theorem HS_three (c h s k : Int) : HS c h s k 3 = ⟨3, c, h, s, k⟩ := upd_same _ _ _
theorem HS_upd (c h s k : Int) (p : Pur) : upd (HS c h s k) 3 p = upd newP 3 p := by
  funext i
  exact upd_upd _ _ _ _ i
theorem HS_ok {c h s k : Int} (h1 : 0 ≤ h ∧ h ≤ c ∧ c ≤ 1000000000) (h2 : 0 ≤ k ∧ k ≤ s ∧ s ≤ 1000000000) : PInv (HS c h s k) :=
  new_inv.upd ⟨h1.1, h1.2.1, h1.2.2, h2.1, h2.2.1, h2.2.2⟩ rfl
theorem in3 : inb 3 1 9 = true := by decide
theorem pay_H {n : Int} (h1 : 1 ≤ n) (h2 : n ≤ 1000000) : payP (HS 0 0 0 0) 3 n = (0, HS n 0 0 0) := by
  have : inb n 1 1000000000 = true := by simp [inb]; omega
  rw [payP, in3, this]
  simp only [Bool.and_self, if_true, show (3 : Int).toNat = 3 from rfl, HS_three]
  rw [if_neg (by omega), HS_upd, Int.zero_add]
  rfl
theorem pay_N {n : Int} (h1 : 1 ≤ n) (h2 : n ≤ 1000000) : payP newP 3 n = (0, HS n 0 0 0) := by
  rw [HS_new]
  exact pay_H h1 h2
theorem give_H {n : Int} (h1 : 1 ≤ n) (h2 : n ≤ 1000000) : giveP (HS n 0 0 0) 3 n = (0, HS n 0 n 0) := by
  have : inb n 1 1000000000 = true := by simp [inb]; omega
  rw [giveP, in3, this]
  simp only [Bool.and_self, if_true, show (3 : Int).toNat = 3 from rfl, HS_three]
  rw [if_neg (by omega), HS_upd, Int.zero_add]
  rfl
theorem hold_H {n h : Int} (h1 : 0 ≤ h) (h2 : h ≤ 1000000) : holdP (HS n 0 n 0) 3 h h = if n < h then (9, HS n 0 n 0) else (0, HS n h n h) := by
  have : inb h 0 1000000000 = true := by simp [inb]; omega
  rw [holdP, in3, this]
  simp only [Bool.and_self, if_true, show (3 : Int).toNat = 3 from rfl, HS_three]
  by_cases hh : n < h
  · rw [if_pos hh, if_pos (by omega)]
  · rw [if_neg hh, if_neg (by omega), HS_upd, Int.zero_add]
    rfl
theorem more_H {n h : Int} (h0 : 0 ≤ h) (h1 : h ≤ n) (h2 : n ≤ 1000000) : holdP (HS n h n h) 3 (n - h + 1) 0 = (9, HS n h n h) := by
  have : inb (n - h + 1) 0 1000000000 = true := by simp [inb]; omega
  rw [holdP, in3, this, show inb 0 0 1000000000 = true by decide]
  simp only [Bool.and_self, if_true, show (3 : Int).toNat = 3 from rfl, HS_three]
  rw [if_pos (by omega)]
theorem free_H {n h : Int} (h1 : 0 ≤ h) (h2 : h ≤ 1000000) : freeP (HS n h n h) 3 h h = (0, HS n 0 n 0) := by
  have : inb h 0 1000000000 = true := by simp [inb]; omega
  rw [freeP, in3, this]
  simp only [Bool.and_self, if_true, show (3 : Int).toNat = 3 from rfl, HS_three]
  rw [if_neg (by omega), HS_upd, Int.sub_self]
  rfl
theorem less_H {n : Int} : freeP (HS n 0 n 0) 3 1 0 = (9, HS n 0 n 0) := by
  rw [freeP, in3, show inb 1 0 1000000000 = true by decide, show inb 0 0 1000000000 = true by decide]
  simp only [Bool.and_self, if_true, show (3 : Int).toNat = 3 from rfl, HS_three]
  rw [if_pos (by omega)]
theorem get_H {n h : Int} : getP (HS n h n h) 3 = (0, ⟨3, n, h, n, h⟩) := by
  rw [getP, in3]
  simp only [if_true, show (3 : Int).toNat = 3 from rfl, HS_three]
/-- how a step ends: what it says, and what all have then -/
def End (v : Value) (T : Nat → Pur) (g : Nat) (w : World) (e : Ending) (w' : World) : Prop := e = .returned v ∧ Pm w' g T ∧ w.grownBy w' (some g)
theorem end_of {r : Int × (Nat → Pur)} {k : Int} {T : Nat → Pur} {v : Value} (h : r = (k, T)) (hv : errV k = v) {g : Nat} {w : World} {e : Ending} {w' : World} (hp : PurPost r g w e w') : End v T g w e w' := by
  subst h
  obtain ⟨h1, h2⟩ := hp
  exact ⟨by rw [h1]; exact congrArg _ hv, h2⟩
theorem laid_row {w w' : World} {g : Nat} (h : Laid w) (hg : w.grownBy w' (some g)) (hg0 : 0 < g) : Laid w' :=
  (hg.cell_far ⟨0, 0, none⟩ (World.block_lt_of_cell? w _ h) (by simp; omega)).trans h
theorem below_row {w w1 w2 : World} {g : Nat} (h : Below w.heap.size w w1) (hg : w.heap.size ≤ g) (hr : w1.grownBy w2 (some g)) : Below w.heap.size w w2 := h.grown hr h.size (fun k hk => by cases hk; exact hg)
set_option maxRecDepth 100000 in
set_option maxHeartbeats 4000000 in
theorem holds_in (n h : Int) (w : World) (hl : Laid w) (h1 : 1 ≤ n) (h2 : n ≤ 1000000) (h3 : 0 ≤ h) (h4 : h ≤ 1000000) :
    Calls Tryd.prog 3 #[.int .i64 n, .int .i64 h] w fun e w' => e = .returned (.bool true) ∧ Below w.heap.size w w' := by
  have hL0 : 0 < w.heap.size := World.block_lt_of_cell? w _ hl
  have HL := Lib.hid hl
  clear hl
  have C1 := Lib.hid fun (g : Nat) (w : World) (hp : Pm w g newP) => (pay_any newP g 3 n w hp new_inv.sound).mono fun _ _ h => end_of (k := 0) (T := HS n 0 0 0) (v := .nilIface) (pay_N h1 h2) rfl h
  have C2 := Lib.hid fun (g : Nat) (w : World) (hp : Pm w g (HS n 0 0 0)) => (give_any _ g 3 n w hp (HS_ok (by omega) (by omega)).sound).mono fun _ _ h => end_of (v := .nilIface) (give_H h1 h2) rfl h
  go_enter Tryd.func3, Tryd.ntmps3
  go_wp2_with fail
  go_at_call 10
  refine (new_any _).mono ?_
  rintro e w1 ⟨rfl, hp0, hb1⟩
  go_wp2_with fail
  go_at_call 11
  refine (C1.out _ _ hp0).mono ?_
  rintro e w2 ⟨rfl, hp1, hg2⟩
  have hb2 := below_row hb1 (Nat.le_refl _) hg2
  clear hp0 hg2 hb1
  go_wp2_with fail
  go_at_call 12
  refine (C2.out _ _ hp1).mono ?_
  rintro e w3 ⟨rfl, hp2, hg3⟩
  have hb3 := below_row hb2 (Nat.le_refl _) hg3
  clear hp1 hg3 hb2
  by_cases hnh : n < h
  · have C3 := Lib.hid fun (g : Nat) (w : World) (hp : Pm w g (HS n 0 n 0)) => (hold_any _ g 3 h h w hp (HS_ok (by omega) (by omega)).sound).mono fun _ _ q => end_of (v := er 9) (by rw [hold_H h3 h4, if_pos hnh]) rfl q
    go_wp2_with fail
    go_at_call 13
    refine (C3.out _ _ hp2).mono ?_
    rintro e w4 ⟨rfl, hp3, hg4⟩
    have hb4 := below_row hb3 (Nat.le_refl _) hg4
    have hl4 : Laid w4 := Laid.below HL.out hb4
    clear hp2 hg4 hb3
    go_wp2_with fail
    go_at_call 14
    refine (same_er 9 9 _ hl4).mono ?_
    rintro e w5 ⟨rfl, hb5⟩
    go_wp2
    go_ret
    exact ⟨rfl, below_then hb5 hb4⟩
  · have C3 := Lib.hid fun (g : Nat) (w : World) (hp : Pm w g (HS n 0 n 0)) => (hold_any _ g 3 h h w hp (HS_ok (by omega) (by omega)).sound).mono fun _ _ q => end_of (v := .nilIface) (by rw [hold_H h3 h4, if_neg hnh]) rfl q
    have C4 := Lib.hid fun (g : Nat) (w : World) (hp : Pm w g (HS n h n h)) => (hold_any _ g 3 (n - h + 1) 0 w hp (HS_ok (by omega) (by omega)).sound).mono fun _ _ q => end_of (v := er 9) (more_H h3 (by omega) h2) rfl q
    have C5 := Lib.hid fun (g : Nat) (w : World) (hp : Pm w g (HS n h n h)) => get_any _ g 3 w hp
    rw [get_H, show errV (0, (⟨3, n, h, n, h⟩ : Pur)).1 = Value.nilIface from rfl] at C5
    dsimp only at C5
    have C6 := Lib.hid fun (g : Nat) (w : World) (hp : Pm w g (HS n h n h)) => (free_any _ g 3 h h w hp (HS_ok (by omega) (by omega)).sound).mono fun _ _ q => end_of (v := .nilIface) (free_H h3 h4) rfl q
    have C7 := Lib.hid fun (g : Nat) (w : World) (hp : Pm w g (HS n 0 n 0)) => (free_any _ g 3 1 0 w hp (HS_ok (by omega) (by omega)).sound).mono fun _ _ q => end_of (v := er 9) less_H rfl q
    have hnh' : h ≤ n := by omega
    clear hnh
    go_wp2_with fail
    go_at_call 13
    refine (C3.out _ _ hp2).mono ?_
    rintro e w4 ⟨rfl, hp3, hg4⟩
    have hb4 := below_row hb3 (Nat.le_refl _) hg4
    clear hp2 hg4 hb3
    go_wp2_with fail
    go_at_call 13
    refine (C4.out _ _ hp3).mono ?_
    rintro e w5 ⟨rfl, hp4, hg5⟩
    have hb5 := below_row hb4 (Nat.le_refl _) hg5
    have hl5 : Laid w5 := Laid.below HL.out hb5
    clear hp3 hg5 hb4
    go_wp2_with fail
    go_at_call 14
    refine (same_er 9 9 _ hl5).mono ?_
    rintro e w6 ⟨rfl, hb6⟩
    have hp6 := hp4.below hb6
    have hb6' := below_then hb6 hb5
    clear hp4 hb5 hb6 hl5
    go_wp2_with fail
    go_at_call 15
    refine (C5.out _ _ hp6).mono ?_
    rintro e w7 ⟨rfl, hb7⟩
    have hb7' := below_then hb7 hb6'
    have hp7 := (hp6.below hb7).alloc (.cells #[.int .i64 3, .int .i64 n, .int .i64 h, .int .i64 n, .int .i64 h] 30)
    have bx := Bk.new w7 30 #[.int .i64 3, .int .i64 n, .int .i64 h, .int .i64 n, .int .i64 h]
    have hb7z := hb7'.size
    have hb8 := below_alloc hb7' (Nat.le_refl _) (.cells #[.int .i64 3, .int .i64 n, .int .i64 h, .int .i64 n, .int .i64 h] 30)
    have hgl : w.heap.size < w7.heap.size := by have := hp6.lt; have := hb7.size; omega
    clear hp6 hb6' hb7 hb7'
    go_wp2_with fail
    go_at_call 16
    refine (C6.out _ _ hp7).mono ?_
    rintro e w9 ⟨rfl, hp9, hg9⟩
    have hb9 := below_row hb8 (Nat.le_refl _) hg9
    have bx9 := bx.grown hg9 (by simp; omega)
    clear hp7 hb8 bx hg9
    go_wp2_with fail
    go_at_call 16
    refine (C7.out _ _ hp9).mono ?_
    rintro e w10 ⟨rfl, hp10, hg10⟩
    have hb10 := below_row hb9 (Nat.le_refl _) hg10
    have bx10 := bx9.grown hg10 (by simp; omega)
    have hl10 : Laid w10 := Laid.below HL.out hb10
    clear hp9 hb9 bx9 hg10
    go_wp2_with fail
    go_at_call 14
    refine (same_er 9 9 _ hl10).mono ?_
    rintro e w11 ⟨rfl, hb11⟩
    have bx11 := bx10.keep hb11
    have q1 := bx11.cell 1
    have q2 := bx11.cell 2
    have q4 := bx11.cell 4
    have hb11' := below_then hb11 hb10
    go_wp2
    go_ret
    exact ⟨rfl, hb11'⟩
theorem purseHolds_law {H : Type} {enc : TypeId × Value → H} {v0 v1 : Value} {d0 d1 : DataW H} {p0 p1 : List MemPlace} {base : Nat} {W : World}
    (h0 : Arg enc W base 3 v0 d0 p0) (h1 : Arg enc W base 3 v1 d1 p1) (hl : Laid W) :
    Calls Tryd.prog 3 #[v0, v1] W fun e w' => e = .returned (.bool true) ∧ Below W.heap.size W w' := by
  obtain ⟨n, rfl, _⟩ := h0.int
  obtain ⟨h, rfl, _⟩ := h1.int
  by_cases hh : 1 ≤ n ∧ n ≤ 1000000 ∧ 0 ≤ h ∧ h ≤ 1000000
  · exact holds_in n h W hl hh.1 hh.2.1 hh.2.2.1 hh.2.2.2
  · rcases (show n < 1 ∨ (1 ≤ n ∧ 1000000 < n) ∨ (1 ≤ n ∧ n ≤ 1000000 ∧ h < 0) ∨ (1 ≤ n ∧ n ≤ 1000000 ∧ 0 ≤ h ∧ 1000000 < h) by omega) with a | ⟨a, b⟩ | ⟨a, b, c⟩ | ⟨a, b, c, d⟩
    all_goals
      clear hh hl
      go_enter Tryd.func3, Tryd.ntmps3
      go_wp2_with (go_at_call 10; refine (new_any _).mono ?_; rintro e w1 ⟨rfl, hp0, hb1⟩)
      go_ret
      exact ⟨rfl, hb1⟩
end Go.Proofs.YtefncbdkjljbjaaDoor
