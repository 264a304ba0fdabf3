/- A rich floor: plain, and its walk. -/
import Derived.Test.YtkdgpdijbobmkaaGreatGrpAA
namespace Go.Proofs.YtkdgpdijbobmkaaGreat
set_option linter.all false
open Go Go.RowKit
def richS (k : Nat) : Nat → Pur := fun i => if 1 ≤ i ∧ i < k then ⟨i, 500000000, 0, 100000, 0⟩ else newP i
def FR (mode : Int) (k : Nat) : FS := ⟨mode, [], [], [], richS k, 0⟩
def richT (mode : Int) (k : Nat) : FT := ⟨mode, [], [], [], upd (richS k) k ⟨k, 500000000, 0, 0, 0⟩, 0, []⟩
theorem rich_start (mode : Int) : FR mode 1 = FS.new mode := by
  have : richS 1 = newP := by funext i; unfold richS; rw [if_neg (by omega)]
  unfold FR FS.new
  rw [this]
theorem rich_pay {mode : Int} {k : Nat} (h1 : 1 ≤ k) (h2 : k ≤ 9) : (FR mode k).run ⟨4, ⟨0, 0, 0, 0, 0, 0, 0, 0⟩, k, 500000000⟩ = (0, richT mode k) := by
  refine FS.run_quiet ?_ rfl
  have hS : richS k k = ⟨k, 0, 0, 0, 0⟩ := by unfold richS; rw [if_neg (by omega)]; rfl
  have hp : payP (richS k) k 500000000 = (0, upd (richS k) k ⟨k, 500000000, 0, 0, 0⟩) := by
    unfold payP
    rw [if_pos (by simp [inb]; omega)]
    simp only [Int.toNat_natCast]
    rw [hS, if_neg (by simp)]
    rfl
  show FT.act _ _ = _
  unfold FT.act
  rw [if_pos rfl]
  show ((payP (richS k) k 500000000).1, _) = _
  have hp' : payP (FR mode k).open.S k 500000000 = (0, upd (richS k) k ⟨k, 500000000, 0, 0, 0⟩) := hp
  rw [hp, hp']
  rfl
theorem rich_give {mode : Int} {k : Nat} (h1 : 1 ≤ k) (h2 : k ≤ 9) : ∃ t, (richT mode k).shut.run ⟨5, ⟨0, 0, 0, 0, 0, 0, 0, 0⟩, k, 100000⟩ = (0, t) ∧ t.shut = FR mode (k + 1) ∧ t.ev = [] := by
  have hS : upd (richS k) k ⟨k, 500000000, 0, 0, 0⟩ k = ⟨k, 500000000, 0, 0, 0⟩ := upd_same _ _ _
  have hp : giveP (upd (richS k) k ⟨k, 500000000, 0, 0, 0⟩) k 100000 = (0, richS (k + 1)) := by
    unfold giveP
    rw [if_pos (by simp [inb]; omega)]
    simp only [Int.toNat_natCast]
    rw [hS, if_neg (by simp)]
    refine Prod.ext rfl ?_
    funext i
    dsimp only
    unfold upd richS
    by_cases e : i = k
    · subst e; rw [if_pos rfl, if_pos (by omega)]; rfl
    · rw [if_neg e, if_neg e]
      by_cases h : 1 ≤ i ∧ i < k
      · rw [if_pos h, if_pos (by omega)]
      · rw [if_neg h, if_neg (by omega)]
  refine ⟨{ richT mode k with S := richS (k + 1) }, FS.run_quiet ?_ rfl, rfl, rfl⟩
  show FT.act _ _ = _
  unfold FT.act
  rw [if_neg (show ¬ ((5 : Int) = 4) by decide), if_pos rfl]
  have hp' : giveP (richT mode k).shut.open.S k 100000 = (0, richS (k + 1)) := hp
  rw [hp']
  rfl
theorem FR_ok {mode : Int} : ∀ (k : Nat), 1 ≤ k → k ≤ 10 → FSOk (FR mode k)
  | 0, h, _ => by omega
  | 1, _, _ => by rw [rich_start]; exact FSOk.new mode
  | k + 2, _, h => by
    have h1 := (FR_ok (mode := mode) (k + 1) (by omega) (by omega)).doS_of (rich_pay (k := k + 1) (by omega) (by omega))
    obtain ⟨t, h2, h3, _⟩ := rich_give (mode := mode) (k := k + 1) (by omega) (by omega)
    have h4 := h1.doS_of h2
    rw [h3] at h4
    exact h4
theorem rich_get {mode : Int} {k : Nat} (h1 : 1 ≤ k) (h2 : k ≤ 9) : getP (FR mode 10).S k = (0, ⟨k, 500000000, 0, 100000, 0⟩) := by
  unfold getP
  rw [if_pos (by simp [inb]; omega)]
  simp only [Int.toNat_natCast]
  have : (FR mode 10).S k = ⟨k, 500000000, 0, 100000, 0⟩ := by show richS 10 k = _; unfold richS; rw [if_pos (by omega)]
  rw [this]
/-- how rich ends -/
def RichPost (mode : Int) (w : World) (e : Ending) (w' : World) : Prop :=
  ∃ g, e = .returned (.tuple #[.pointer (some ⟨g, 0, none⟩), .bool true]) ∧ w.heap.size ≤ g ∧ Hid (FlM w' (fun k => k = g) g (FR mode 10)) ∧ Below w.heap.size w w'
set_option maxRecDepth 100000 in
set_option maxHeartbeats 4000000 in
theorem rich_any (mode : Int) (hm : inb mode 0 3 = true) (w : World) : Calls Tryz.prog 10 #[.int .i64 mode] w (RichPost mode w) := by
  have CN := Lib.hid (fnew_any mode hm w)
  clear hm
  go_enter Tryz.func10, Tryz.ntmps10
  go_wp2_with (go_at_call 16; refine CN.out.mono ?_; rintro e w1 ⟨g, rfl, hg, hM, hb⟩)
  have HM := Lib.hid (show FlM w1 (fun k => k = g) g (FR mode 1) by rw [rich_start]; exact hM.out)
  clear hM CN
  go_loopw [6] (fun i wr => ∃ k : Nat, 1 ≤ k ∧ k ≤ 10 ∧ i = .int .i64 k ∧ Hid (FlM wr (fun k => k = g) g (FR mode k)) ∧ Below w.heap.size w wr) (fun i _ => 10 - (intOf i).toNat)
  case atStart => exact ⟨1, by omega, by omega, rfl, HM, hb⟩
  case round =>
    obtain ⟨k, hk1, hk2, rfl, HF, hbr⟩ := hrel
    clear HM hb
    by_cases hlt : k ≤ 9
    · obtain ⟨t2, hr2, hs2, he2⟩ := rich_give (mode := mode) hk1 hlt
      have CP := Lib.hid (fldo_good (X := fun k => k = g) (g := g) (rich_pay (mode := mode) hk1 hlt) (FR_ok k hk1 hk2))
      have CG := Lib.hid (fldo_good (X := fun k => k = g) (g := g) hr2 ((FR_ok k hk1 hk2).doS_of (rich_pay (mode := mode) hk1 hlt)))
      have HS2 := Lib.hid hs2
      have hlt2 : (k : Int) ≤ 9 := by omega
      clear hr2 hs2 he2
      go_upto_region 8 with (go_at_call 11; with_reducible refine (CP.out _ HF.out).mono ?_; rintro e w3 ⟨A3, c3, rfl, H3, _, g3⟩)
      clear CP
      go_wp2_with (go_at_call 11; with_reducible refine (CG.out _ H3.out).mono ?_; rintro e w4 ⟨A4, c4, rfl, H4, _, g4⟩)
      go_roundw
      case rel => exact ⟨k + 1, by omega, by omega, by go_num, Lib.hid (by rw [← HS2.out]; exact H4.out), grown_below (grown_below hbr g3 hg) g4 hg⟩
      case measure => simp [intOf]; omega
    · obtain rfl : k = 10 := by omega
      have CG := Lib.hid (fpurse_any (FR mode 10) _ g 9 wr HF.out)
      have hget := rich_get (mode := mode) (k := 9) (by omega) (by omega)
      rw [show (((9 : Nat) : Int)) = 9 from rfl] at hget
      rw [hget] at CG
      have CG2 := Lib.hid (show Calls Tryz.prog 13 #[.pointer (some ⟨g, 0, none⟩), .int .i64 9] wr fun e w' => e = .returned (.tuple #[.agg #[.int .i64 9, .int .i64 500000000, .int .i64 0, .int .i64 100000, .int .i64 0], .nilIface]) ∧ Below wr.heap.size wr w' from CG.out)
      clear CG hget
      go_upto_region 12 with (go_at_call 13; refine CG2.out.mono ?_; rintro e w3 ⟨rfl, hb3⟩)
      have hb4 : Below w3.heap.size w3 (w3.alloc (.cells #[.int .i64 9, .int .i64 500000000, .int .i64 0, .int .i64 100000, .int .i64 0] 36)) := (Below.refl _ _).alloc (Nat.le_refl _) _
      have HF4 := Lib.hid ((HF.out.below hb3).below hb4)
      have HB4 := Lib.hid (below_then hb4 (below_then hb3 hbr))
      have q1 : (w3.alloc (.cells #[.int .i64 9, .int .i64 500000000, .int .i64 0, .int .i64 100000, .int .i64 0] 36)).cell? ⟨w3.heap.size, 1, none⟩ = some (.int .i64 500000000) := (Bk.new w3 36 #[.int .i64 9, .int .i64 500000000, .int .i64 0, .int .i64 100000, .int .i64 0]).cell 1
      clear hb3 hb4 hbr HF CG2
      generalize w3.alloc (.cells #[.int .i64 9, .int .i64 500000000, .int .i64 0, .int .i64 100000, .int .i64 0] 36) = w4 at *
      go_quiet (fail)
      go_wp2
      go_ret2
      exact ⟨g, rfl, hg, Lib.hid (HF4.out.below (below_drewN (Below.refl _ _) _)), below_drewN HB4.out _⟩
end Go.Proofs.YtkdgpdijbobmkaaGreat
