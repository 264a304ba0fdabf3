/- The walk of PursePlays. -/
import Derived.Test.YtefncbdkjljbjaaDoorSTrade4
import Derived.Test.YtefncbdkjljbjaaDoorSHold
import Derived.Test.YtefncbdkjljbjaaDoorIntTab
import Derived.Test.YtefncbdkjljbjaaDoorSame
import Derived.Test.YtefncbdkjljbjaaDoorLaid
import Derived.Deep.DeepCutAuto
import Derived.Deep.CutBlock
namespace Go.Proofs.YtefncbdkjljbjaaDoor
set_option linter.all false
open Go Go.RowKit
/-- purse 0 is nobody's -/
def Zero (S : Nat → Pur) : Prop := (S 0).cash = 0 ∧ (S 0).stock = 0
theorem Zero.of {S T : Nat → Pur} (h : Zero S) (e : T 0 = S 0) : Zero T := by unfold Zero; rw [e]; exact h
theorem pay0 (S : Nat → Pur) (who n : Int) : (payP S who n).2 0 = S 0 := by
  unfold payP
  split
  · rename_i h
    simp only [Bool.and_eq_true] at h
    obtain ⟨k, rfl, hk1, _⟩ := inb_nat h.1
    split
    · rfl
    · exact upd_other (by simp; omega)
  · rfl
theorem give0 (S : Nat → Pur) (who n : Int) : (giveP S who n).2 0 = S 0 := by
  unfold giveP
  split
  · rename_i h
    simp only [Bool.and_eq_true] at h
    obtain ⟨k, rfl, hk1, _⟩ := inb_nat h.1
    split
    · rfl
    · exact upd_other (by simp; omega)
  · rfl
theorem hold0 (S : Nat → Pur) (who c s : Int) : (holdP S who c s).2 0 = S 0 := by
  unfold holdP
  split
  · rename_i h
    simp only [Bool.and_eq_true] at h
    obtain ⟨k, rfl, hk1, _⟩ := inb_nat h.1.1
    split
    · rfl
    · exact upd_other (by simp; omega)
  · rfl
theorem free0 (S : Nat → Pur) (who c s : Int) : (freeP S who c s).2 0 = S 0 := by
  unfold freeP
  split
  · rename_i h
    simp only [Bool.and_eq_true] at h
    obtain ⟨k, rfl, hk1, _⟩ := inb_nat h.1.1
    split
    · rfl
    · exact upd_other (by simp; omega)
  · rfl
theorem trade0 (S : Nat → Pur) (f t p q : Int) : (tradeP S f t p q).2 0 = S 0 := by
  unfold tradeP
  split
  · rename_i h
    simp only [Bool.and_eq_true] at h
    obtain ⟨⟨⟨hA, hB⟩, _⟩, _⟩ := h
    obtain ⟨a, rfl, ha1, _⟩ := inb_nat hA
    obtain ⟨b, rfl, hb1, _⟩ := inb_nat hB
    split
    · rfl
    · split
      · rfl
      · have e1 : 0 ≠ a := by omega
        have e2 : 0 ≠ b := by omega
        simp [moved, upd, e1, e2]
  · rfl
theorem new0 : Zero newP := ⟨rfl, rfl⟩
/-- five numbers -/
def Five (cs : Array Value) : Prop := cs.size = 5 ∧ ∀ i, i < 5 → ∃ z : Int, cs[i]? = some (.int .i64 z)
theorem five_zero : Five #[.int .i64 0, .int .i64 0, .int .i64 0, .int .i64 0, .int .i64 0] := ⟨rfl, fun i hi => ⟨0, by match i, hi with | 0, _ => rfl | 1, _ => rfl | 2, _ => rfl | 3, _ => rfl | 4, _ => rfl⟩⟩
theorem five_set {cs : Array Value} (h : Five cs) (q : Nat) (z : Int) : Five (cs.setIfInBounds q (.int .i64 z)) := by
  refine ⟨by simpa using h.1, fun i hi => ?_⟩
  rw [Array.getElem?_setIfInBounds]
  split
  · split
    · exact ⟨z, rfl⟩
    · rename_i h1 h2; exact absurd (by rw [h.1]; omega) h2
  · exact h.2 i hi
theorem five_of {cs : Array Value} (h : Five cs) : ∃ v0 v1 v2 v3 v4 : Int, cs = #[.int .i64 v0, .int .i64 v1, .int .i64 v2, .int .i64 v3, .int .i64 v4] := by
  obtain ⟨a0, h0⟩ := h.2 0 (by omega); obtain ⟨a1, h1⟩ := h.2 1 (by omega); obtain ⟨a2, h2⟩ := h.2 2 (by omega); obtain ⟨a3, h3⟩ := h.2 3 (by omega); obtain ⟨a4, h4⟩ := h.2 4 (by omega)
  refine ⟨a0, a1, a2, a3, a4, Array.ext_getElem? fun i => ?_⟩
  match i with
  | 0 => exact h0
  | 1 => exact h1
  | 2 => exact h2
  | 3 => exact h3
  | 4 => exact h4
  | i + 5 => rw [Array.getElem?_eq_none (by have := h.1; omega), Array.getElem?_eq_none (by simp)]
theorem Pq.zero (w : World) : Pq (w.alloc (.cells (Array.replicate 50 (.int .i64 0)) 55)) w.heap.size newP := by
  refine ⟨_, by simp, heap_alloc_new w _, fun k hk => ⟨⟨0, ?_⟩, fun j hj0 hj => ?_⟩⟩
  · rw [Array.getElem?_replicate, if_pos (by omega)]
  · rw [Array.getElem?_replicate, if_pos (by omega)]
    match j, hj with
    | 0, _ => omega
    | 1, _ => rfl
    | 2, _ => rfl
    | 3, _ => rfl
    | 4, _ => rfl
/-- the program's purses and the document's are the same -/
structure Duo (w : World) (g q : Nat) (S : Nat → Pur) (w3 : World) : Prop where
  inv : PInv S
  zero : Zero S
  pm : Pm w3 g S
  pq : Pq w3 q S
  below : Below w.heap.size w w3
theorem below_row {w w1 w2 : World} {g : Nat} (h : Below w.heap.size w w1) (hg : w.heap.size ≤ g) (hr : w1.grownBy w2 (some g)) : Below w.heap.size w w2 := h.grown hr h.size (fun k hk => by cases hk; exact hg)
theorem Duo.later {w w3 w4 : World} {g q : Nat} {S : Nat → Pur} (d : Duo w g q S w3) (hb : Below w3.heap.size w3 w4) : Duo w g q S w4 := ⟨d.inv, d.zero, d.pm.below hb, d.pq.below hb, below_then hb d.below⟩
theorem Duo.step {w w3 w4 w5 : World} {g q : Nat} {S T : Nat → Pur} (d : Duo w g q S w3) (hgq : g ≠ q) (hq : w.heap.size ≤ q) (hg : w.heap.size ≤ g) (hi : PInv T) (hz : Zero T) (h4 : w3.grownBy w4 (some q)) (p4 : Pq w4 q T) (h5 : w4.grownBy w5 (some g)) (p5 : Pm w5 g T) : Duo w g q T w5 :=
  ⟨hi, hz, p5, p4.keep h5 (by simpa using Ne.symm hgq), below_row (below_row d.below hq h4) hg h5⟩
theorem same_told (E : Int) (w : World) (hl : Laid w) : Calls Tryd.prog 14 #[errV E, .int .i64 E] w fun e w' => e = .returned (.bool true) ∧ Below w.heap.size w w' := by
  by_cases h : E = 0
  · subst h
    refine (same_nil 0 w).mono ?_
    rintro e w' ⟨rfl, rfl⟩
    exact ⟨rfl, Below.refl _ _⟩
  · rw [errV, if_neg h]
    refine (same_er E E w hl).mono ?_
    rintro e w' ⟨rfl, hb⟩
    exact ⟨by simp, hb⟩
theorem box5 {w' : World} {v0 v1 v2 v3 v4 : Value} {g : Nat} {t : TypeId} (h : Bk w' g t #[v0, v1, v2, v3, v4]) : w'.cell? ⟨g, 0, none⟩ = some v0 ∧ w'.cell? ⟨g, 1, none⟩ = some v1 ∧ w'.cell? ⟨g, 2, none⟩ = some v2 ∧ w'.cell? ⟨g, 3, none⟩ = some v3 ∧ w'.cell? ⟨g, 4, none⟩ = some v4 :=
  ⟨h.cell 0, h.cell 1, h.cell 2, h.cell 3, h.cell 4⟩
set_option maxHeartbeats 8000000 in
set_option maxRecDepth 100000 in
theorem plays_walk (A : Option Addr) (n c : Nat) (w : World) (hr : RdRows w A n) (hl : Laid w) :
    Calls Tryd.prog 5 #[.slice A n c] w fun e w' => e = .returned (.bool true) ∧ Below w.heap.size w w' := by
  have HR := Lib.hid hr
  have HL := Lib.hid hl
  have hmx := hr.1
  unfold maxLen at hmx
  clear hr hl
  go_enter Tryd.func5, Tryd.ntmps5
  go_wp2_with fail
  go_at_call 10
  refine (new_any _).mono ?_
  rintro e w1 ⟨rfl, hp0, hb1⟩
  have hq0 := Pq.zero w1
  have hd : Duo w w.heap.size w1.heap.size newP (w1.alloc (.cells (Array.replicate 50 (.int .i64 0)) 55)) := ⟨new_inv, new0, hp0.alloc _, hq0, below_then_alloc hb1⟩
  have hgq : w.heap.size ≠ w1.heap.size := by have := hp0.lt; omega
  have hq : w.heap.size ≤ w1.heap.size := hb1.size
  have hg : w.heap.size ≤ w.heap.size := Nat.le_refl _
  clear hp0 hq0 hb1
  go_wp2_with fail
  have HD := Lib.hid hd
  clear hd
  go_loopw [5] (fun i wr => ∃ (k : Nat) (S : Nat → Pur), k ≤ n ∧ k ≤ 60 ∧ i = .int .i64 k ∧ Duo w w.heap.size w1.heap.size S wr) (fun i _ => 60 - (intOf i).toNat)
  case atStart => exact ⟨0, newP, by omega, by omega, rfl, HD.out⟩
  case round =>
    obtain ⟨k, S, hk, hk60, rfl, hd⟩ := hrel
    clear HD
    obtain ⟨wo, rfl⟩ : ∃ wo : World, wo = wr := ⟨_, rfl⟩
    have hb := hd.below
    by_cases hkn : k < n
    case neg =>
      obtain rfl : k = n := by omega
      clear hd
      go_wp2
      go_ret
      exact ⟨rfl, hb⟩
    case pos =>
    by_cases hk6 : k < 60
    case neg =>
      obtain rfl : k = 60 := by omega
      clear hd
      go_wp2
      go_ret
      exact ⟨rfl, hb⟩
    case pos =>
      obtain ⟨bA, oA, rfl, hbA, hrow⟩ := HR.out.2 (by omega)
      obtain ⟨A', L, C, hc, hL, hin⟩ := hrow k hkn
      unfold maxLen at hL
      have HIN := Lib.hid hin
      have hcr : wo.cell? ⟨bA, oA + k, none⟩ = some (.slice A' L C) := (hb.cell (p := ⟨bA, oA + k, none⟩) hbA).trans hc
      have hbz := hb.size
      have i6 : (k : Int) < 60 := by omega
      have hbAl : bA < wo.heap.size := by omega
      have hbAl1 : bA < wo.heap.size + 1 := by omega
      have HD := Lib.hid hd
      clear hrow hc hin hd
      go_upto_block 2 with fail
      go_cut [] (fun w2 => ∃ v0 v1 v2 v3 v4 : Int, Bk w2 wo.heap.size 56 #[.int .i64 v0, .int .i64 v1, .int .i64 v2, .int .i64 v3, .int .i64 v4] ∧ Below wo.heap.size wo w2)
      case first =>
        go_wp2_with fail
        go_loopw [7] (fun j wr => ∃ (q : Nat) (cs : Array Value), q ≤ 5 ∧ j = .int .i64 q ∧ Five cs ∧ Bk wr wo.heap.size 56 cs ∧ Below wo.heap.size wo wr) (fun j _ => 5 - (intOf j).toNat)
        case atStart => exact ⟨0, _, by omega, rfl, five_zero, Bk.new _ _ _, (Below.refl _ _).alloc (Nat.le_refl _) _⟩
        case round =>
          obtain ⟨q, cs, hq5, rfl, hcs, hbk, hb2⟩ := hrel
          have hcr2 : wr.cell? ⟨bA, oA + k, none⟩ = some (.slice A' L C) := (hb2.cell (p := ⟨bA, oA + k, none⟩) hbAl).trans hcr
          have hbAl2 : bA < wr.heap.size := Nat.lt_of_lt_of_le hbAl hb2.size
          have i5 : (q : Int) ≤ 5 := by omega
          by_cases hqL : q < L
          case neg =>
            have HB := Lib.hid hbk; have HC := Lib.hid hcs
            clear hbk hcs
            go_wp2
            go_meet
            case rel =>
              obtain ⟨v0, v1, v2, v3, v4, rfl⟩ := five_of HC.out
              exact ⟨v0, v1, v2, v3, v4, HB.out, hb2⟩
          case pos =>
          by_cases hq6 : q < 5
          case neg =>
            have HB := Lib.hid hbk; have HC := Lib.hid hcs
            obtain rfl : q = 5 := by omega
            clear hbk hcs
            go_wp2
            go_meet
            case rel =>
              obtain ⟨v0, v1, v2, v3, v4, rfl⟩ := five_of HC.out
              exact ⟨v0, v1, v2, v3, v4, HB.out, hb2⟩
          case pos =>
            obtain ⟨b', o', rfl, hb', hz⟩ := HIN.out (by omega)
            obtain ⟨z, hz⟩ := hz q hqL
            have hz2 : wr.cell? ⟨b', o' + q, none⟩ = some (.int .i64 z) := (hb2.cell (p := ⟨b', o' + q, none⟩) (by show b' < _; omega)).trans ((hb.cell (p := ⟨b', o' + q, none⟩) hb').trans hz)
            obtain ⟨y, hy⟩ := hcs.2 q hq6
            have hy2 : wr.cell? ⟨wo.heap.size, q, none⟩ = some (.int .i64 y) := (hbk.cell q).trans hy
            have hfr := hbk.free q
            have i7 : (q : Int) < 5 := by omega
            have i8 : (q : Int) < (L : Int) := by omega
            have i9 : (0 : Int) ≤ (q : Int) := by omega
            have HB := Lib.hid (hbk.set_ q (.int .i64 z)); have HC := Lib.hid (five_set hcs q z)
            clear hbk hcs hy hz
            go_wp2
            go_roundw
            case rel => exact ⟨q + 1, _, by omega, by go_num, HC.out, HB.out, hb2.setCell (Nat.le_refl _) _⟩
            case measure => simp [intOf]; omega
      case rest =>
        obtain ⟨v0, v1, v2, v3, v4, hbk, hb2⟩ := hcut
        have hdc := HD.out.later hb2
        have hvb : wo.heap.size < wc.heap.size := hbk.lt
        have hne1 : w.heap.size ≠ wo.heap.size := by have := HD.out.pm.lt; omega
        have hne2 : w1.heap.size ≠ wo.heap.size := by have := HD.out.pq.lt; omega
        clear HD
        have xs := box5 hbk
        go_upto_block 4 with fail
        go_cut [8] (fun told w3 => told = .bool true ∧ ∃ S' : Nat → Pur, Duo w w.heap.size w1.heap.size S' w3 ∧ Bk w3 wo.heap.size 56 #[.int .i64 v0, .int .i64 v1, .int .i64 v2, .int .i64 v3, .int .i64 v4])
        case first =>
          have HI := Lib.hid hdc.inv
          rcases (show v0 = 0 ∨ v0 = 1 ∨ v0 = 2 ∨ v0 = 3 ∨ (v0 ≠ 0 ∧ v0 ≠ 1 ∧ v0 ≠ 2 ∧ v0 ≠ 3) by omega) with rfl | rfl | rfl | rfl | ⟨e0, e1, e2, e3⟩
          · have hz := hdc.zero.of (pay0 S v1 v2)
            have st := Lib.hid (pay_step HI.out v1 v2)
            have cS := spay_any S w1.heap.size v1 v2 wc hdc.pq HI.out.sound
            have cP := fun w3 hp => pay_any S w.heap.size v1 v2 w3 hp HI.out.sound
            obtain ⟨⟨E, T⟩, hR⟩ : ∃ R, R = payP S v1 v2 := ⟨_, rfl⟩
            rw [← hR] at hz st cS cP
            have cS := Lib.hid cS; have cP := Lib.hid cP
            clear hR
            (go_wp2_with fail; go_at_call 24; refine cS.out.mono ?_; rintro e w3 ⟨rfl, hq3, hg3⟩; have pm3 := hdc.pm.keep hg3 (by simpa using hgq); have bk3 := hbk.grown hg3 (by simpa using Ne.symm hne2); have y3 := box5 bk3; go_wp2_with fail; go_at_call 11; refine (cP.out _ pm3).mono ?_; rintro e w4 ⟨rfl, hp4, hg4⟩; have d4 := Lib.hid (hdc.step hgq hq hg st.out.1 hz hg3 hq3 hg4 hp4); have bk4 := bk3.grown hg4 (by simpa using Ne.symm hne1); clear hp4 hq3 pm3; go_wp2_with fail; go_at_call 14; refine (same_told E _ (Laid.below HL.out d4.out.below)).mono ?_; rintro e w5 ⟨rfl, hb5⟩; go_wp2; go_meet; (case rel => exact ⟨rfl, T, d4.out.later hb5, bk4.keep hb5⟩))
          · have hz := hdc.zero.of (give0 S v1 v2)
            have st := Lib.hid (give_step HI.out v1 v2)
            have cS := sgive_any S w1.heap.size v1 v2 wc hdc.pq HI.out.sound
            have cP := fun w3 hp => give_any S w.heap.size v1 v2 w3 hp HI.out.sound
            obtain ⟨⟨E, T⟩, hR⟩ : ∃ R, R = giveP S v1 v2 := ⟨_, rfl⟩
            rw [← hR] at hz st cS cP
            have cS := Lib.hid cS; have cP := Lib.hid cP
            clear hR
            (go_wp2_with fail; go_at_call 24; refine cS.out.mono ?_; rintro e w3 ⟨rfl, hq3, hg3⟩; have pm3 := hdc.pm.keep hg3 (by simpa using hgq); have bk3 := hbk.grown hg3 (by simpa using Ne.symm hne2); have y3 := box5 bk3; go_wp2_with fail; go_at_call 12; refine (cP.out _ pm3).mono ?_; rintro e w4 ⟨rfl, hp4, hg4⟩; have d4 := Lib.hid (hdc.step hgq hq hg st.out.1 hz hg3 hq3 hg4 hp4); have bk4 := bk3.grown hg4 (by simpa using Ne.symm hne1); clear hp4 hq3 pm3; go_wp2_with fail; go_at_call 14; refine (same_told E _ (Laid.below HL.out d4.out.below)).mono ?_; rintro e w5 ⟨rfl, hb5⟩; go_wp2; go_meet; (case rel => exact ⟨rfl, T, d4.out.later hb5, bk4.keep hb5⟩))
          · have hz := hdc.zero.of (hold0 S v1 v2 v3)
            have st := Lib.hid (hold_step HI.out v1 v2 v3)
            have cS := shold_any S w1.heap.size v1 v2 v3 wc hdc.pq HI.out.sound
            have cP := fun w3 hp => hold_any S w.heap.size v1 v2 v3 w3 hp HI.out.sound
            obtain ⟨⟨E, T⟩, hR⟩ : ∃ R, R = holdP S v1 v2 v3 := ⟨_, rfl⟩
            rw [← hR] at hz st cS cP
            have cS := Lib.hid cS; have cP := Lib.hid cP
            clear hR
            (go_wp2_with fail; go_at_call 25; refine cS.out.mono ?_; rintro e w3 ⟨rfl, hq3, hg3⟩; have pm3 := hdc.pm.keep hg3 (by simpa using hgq); have bk3 := hbk.grown hg3 (by simpa using Ne.symm hne2); have y3 := box5 bk3; go_wp2_with fail; go_at_call 13; refine (cP.out _ pm3).mono ?_; rintro e w4 ⟨rfl, hp4, hg4⟩; have d4 := Lib.hid (hdc.step hgq hq hg st.out.1 hz hg3 hq3 hg4 hp4); have bk4 := bk3.grown hg4 (by simpa using Ne.symm hne1); clear hp4 hq3 pm3; go_wp2_with fail; go_at_call 14; refine (same_told E _ (Laid.below HL.out d4.out.below)).mono ?_; rintro e w5 ⟨rfl, hb5⟩; go_wp2; go_meet; (case rel => exact ⟨rfl, T, d4.out.later hb5, bk4.keep hb5⟩))
          · have hz := hdc.zero.of (free0 S v1 v2 v3)
            have st := Lib.hid (free_step HI.out v1 v2 v3)
            have cS := sfree_any S w1.heap.size v1 v2 v3 wc hdc.pq HI.out.sound
            have cP := fun w3 hp => free_any S w.heap.size v1 v2 v3 w3 hp HI.out.sound
            obtain ⟨⟨E, T⟩, hR⟩ : ∃ R, R = freeP S v1 v2 v3 := ⟨_, rfl⟩
            rw [← hR] at hz st cS cP
            have cS := Lib.hid cS; have cP := Lib.hid cP
            clear hR
            (go_wp2_with fail; go_at_call 25; refine cS.out.mono ?_; rintro e w3 ⟨rfl, hq3, hg3⟩; have pm3 := hdc.pm.keep hg3 (by simpa using hgq); have bk3 := hbk.grown hg3 (by simpa using Ne.symm hne2); have y3 := box5 bk3; go_wp2_with fail; go_at_call 16; refine (cP.out _ pm3).mono ?_; rintro e w4 ⟨rfl, hp4, hg4⟩; have d4 := Lib.hid (hdc.step hgq hq hg st.out.1 hz hg3 hq3 hg4 hp4); have bk4 := bk3.grown hg4 (by simpa using Ne.symm hne1); clear hp4 hq3 pm3; go_wp2_with fail; go_at_call 14; refine (same_told E _ (Laid.below HL.out d4.out.below)).mono ?_; rintro e w5 ⟨rfl, hb5⟩; go_wp2; go_meet; (case rel => exact ⟨rfl, T, d4.out.later hb5, bk4.keep hb5⟩))
          · have hz := hdc.zero.of (trade0 S v1 v2 v3 v4)
            have st := Lib.hid (trade_step HI.out v1 v2 v3 v4)
            have cS := fun w3 hp => strade_any S w1.heap.size 0 0 v1 v2 v3 v4 w3 hp HI.out.sound
            have cP := fun w3 hp => trade_any S w.heap.size 0 0 v1 v2 v3 v4 w3 hp HI.out.sound
            obtain ⟨⟨E, T⟩, hR⟩ : ∃ R, R = tradeP S v1 v2 v3 v4 := ⟨_, rfl⟩
            rw [← hR] at hz st cS cP
            have cS := Lib.hid cS; have cP := Lib.hid cP
            clear hR
            have f0 : (v0 == 0) = false := beq_eq_false_iff_ne.2 e0
            have f1 : (v0 == 1) = false := beq_eq_false_iff_ne.2 e1
            have f2 : (v0 == 2) = false := beq_eq_false_iff_ne.2 e2
            have f3 : (v0 == 3) = false := beq_eq_false_iff_ne.2 e3
            clear e0 e1 e2 e3
            have da := Lib.hid (hdc.later ((Below.refl wc.heap.size wc).alloc (Nat.le_refl _) (.cells #[.int .i64 0, .int .i64 0, .int .i64 v1, .int .i64 v2, .int .i64 v3, .int .i64 v4] 43)))
            have ba := Bk.new wc 43 #[.int .i64 0, .int .i64 0, .int .i64 v1, .int .i64 v2, .int .i64 v3, .int .i64 v4]
            have hvb1 : wo.heap.size < wc.heap.size + 1 := by omega
            have hn1 : w.heap.size ≠ wc.heap.size := by have := hdc.pm.lt; omega
            have hn2 : w1.heap.size ≠ wc.heap.size := by have := hdc.pq.lt; omega
            go_wp2_with fail
            go_at_call 26
            refine (cS.out _ da.out.pq).mono ?_
            rintro e w3 ⟨rfl, hq3, hg3⟩
            have pm3 := da.out.pm.keep hg3 (by simpa using hgq)
            have ba3 := ba.grown hg3 (by simpa using Ne.symm hn2)
            have bk3 := (hbk.alloc _).grown hg3 (by simpa using Ne.symm hne2)
            have d0 := ba3.cell 0; have d1 := ba3.cell 1; have d2 := ba3.cell 2; have d3 := ba3.cell 3; have d4 := ba3.cell 4; have d5 := ba3.cell 5
            simp only [List.getElem?_toArray, List.getElem?_cons_zero, List.getElem?_cons_succ] at d0 d1 d2 d3 d4 d5
            clear ba
            go_wp2_with fail
            go_at_call 27
            refine (cP.out _ pm3).mono ?_
            rintro e w4 ⟨rfl, hp4, hg4⟩
            have d4' := Lib.hid (da.out.step hgq hq hg st.out.1 hz hg3 hq3 hg4 hp4)
            have bk4 := bk3.grown hg4 (by simpa using Ne.symm hne1)
            clear hp4 hq3 pm3
            go_wp2_with fail
            go_at_call 14
            refine (same_told E _ (Laid.below HL.out d4'.out.below)).mono ?_
            rintro e w5 ⟨rfl, hb5⟩
            go_wp2
            go_meet
            case rel => exact ⟨rfl, T, d4'.out.later hb5, bk4.keep hb5⟩
        case rest =>
          obtain ⟨rfl, S', hd3, hbk3⟩ := hcut
          clear hbk xs hdc hvb hb2
          have hd3 := Lib.hid hd3
          have cS := sget_any S' w1.heap.size v1 wc hd3.out.pq hd3.out.inv.who
          have cP := fun w3 hp => get_any S' w.heap.size v1 w3 hp
          obtain ⟨⟨E, P⟩, hR⟩ : ∃ R, R = getP S' v1 := ⟨_, rfl⟩
          rw [← hR] at cS cP
          clear hR
          obtain ⟨pw, pc, ph, ps, pk⟩ := P
          unfold SGetPost at cS
          dsimp only at cS cP
          have cS := Lib.hid cS; have cP := Lib.hid cP
          have xs := box5 hbk3
          go_wp2_with fail
          go_at_call 28
          refine cS.out.mono ?_
          rintro e w5 ⟨rfl, hb5⟩
          have d5 := Lib.hid ((hd3.out.later hb5).later ((Below.refl w5.heap.size w5).alloc (Nat.le_refl _) (.cells #[.int .i64 pw, .int .i64 pc, .int .i64 ph, .int .i64 ps, .int .i64 pk] 30)))
          have b15 := Bk.new w5 30 #[.int .i64 pw, .int .i64 pc, .int .i64 ph, .int .i64 ps, .int .i64 pk]
          have bk5 := hbk3.keep hb5
          have xs5 := box5 bk5
          have hv5 := bk5.lt
          clear xs hb5
          go_wp2_with fail
          go_at_call 15
          refine (cP.out _ d5.out.pm).mono ?_
          rintro e w6 ⟨rfl, hb6⟩
          have d6 := Lib.hid ((d5.out.later hb6).later ((Below.refl w6.heap.size w6).alloc (Nat.le_refl _) (.cells #[.int .i64 pw, .int .i64 pc, .int .i64 ph, .int .i64 ps, .int .i64 pk] 30)))
          have b15 := (b15.keep hb6).alloc (.cells #[.int .i64 pw, .int .i64 pc, .int .i64 ph, .int .i64 ps, .int .i64 pk] 30)
          have b17 := Bk.new w6 30 #[.int .i64 pw, .int .i64 pc, .int .i64 ph, .int .i64 ps, .int .i64 pk]
          clear xs5 hv5 bk5 hb6
          go_wp2_with fail
          go_at_call 14
          refine (same_told E _ (Laid.below HL.out d6.out.below)).mono ?_
          rintro e w7 ⟨rfl, hb7⟩
          have d7 := Lib.hid (d6.out.later hb7)
          have b15 := Lib.hid (b15.keep hb7)
          have b17 := Lib.hid (b17.keep hb7)
          clear hb7
          go_wp2_with fail
          have hs1 : cashOf S' 1 = 0 ∧ stockOf S' 1 = 0 := by
            rw [cashOf_succ, stockOf_succ, d7.out.zero.1, d7.out.zero.2]
            exact ⟨rfl, rfl⟩
          have HS1 := Lib.hid hs1
          clear hs1
          go_loop [20, 21, 22] (fun c s i => ∃ j : Nat, 1 ≤ j ∧ j ≤ 10 ∧ i = .int .i64 j ∧ c = .int .i64 (cashOf S' j) ∧ s = .int .i64 (stockOf S' j)) (fun _ _ i => 10 - (intOf i).toNat)
          case atStart => exact ⟨1, by omega, by omega, rfl, by rw [HS1.out.1], by rw [HS1.out.2]⟩
          case round =>
            obtain ⟨j, hj1, hj2, rfl, rfl, rfl⟩ := hrel
            by_cases hj : j < 10
            case pos =>
              obtain ⟨b1, b2, b3, b4⟩ := sums_bounds d7.out.inv.sound j hj2
              obtain ⟨h1, h2, h3, h4, h5, h6⟩ := d7.out.inv.sound j hj
              obtain ⟨xw, g0, g1, g2, g3, g4⟩ := d7.out.pq.five hj
              have i0 : (0 : Int) ≤ (j : Int) := by omega
              have i1 : (j : Int) < 10 := by omega
              have i2 : (j : Int) ≤ 9 := by omega
              have HC := Lib.hid (cashOf_succ S' j)
              have HT := Lib.hid (stockOf_succ S' j)
              generalize cashOf S' j = CC at *
              generalize stockOf S' j = TT at *
              generalize S' j = PP at *
              go_wp2
              go_round
              case rel => exact ⟨j + 1, by omega, by omega, by go_num, by rw [HC.out], by rw [HT.out]⟩
              case measure => simp [intOf]; omega
            case neg =>
              obtain rfl : j = 10 := by omega
              have cT := Lib.hid (total_any' S' w.heap.size _ d7.out.pm d7.out.inv.sound)
              generalize cashOf S' 10 = CC at *
              generalize stockOf S' 10 = TT at *
              have q15 := box5 b15.out
              have q17 := box5 b17.out
              go_wp2_with fail
              go_at_call 29
              refine cT.out.mono ?_
              rintro e w8 ⟨rfl, hb8⟩
              have d8 := Lib.hid (d7.out.later hb8)
              have q15 := box5 (b15.out.keep hb8)
              have q17 := box5 (b17.out.keep hb8)
              clear hb8
              go_wp2
              go_roundw
              case rel => exact ⟨k + 1, S', by omega, by omega, by go_num, d8.out⟩
              case measure => simp [intOf]; omega
theorem pursePlays_law {H : Type} {enc : TypeId × Value → H} {v0 : Value} {d0 : DataW H} {p0 : List MemPlace} {base : Nat} {W : World}
    (h0 : Arg enc W base 52 v0 d0 p0) (hl : Laid W) :
    Calls Tryd.prog 5 #[v0] W fun e w' => e = .returned (.bool true) ∧ Below W.heap.size W w' := by
  obtain ⟨A, n, c, rfl, hr⟩ := h0.introws
  exact plays_walk A n c W hr hl
end Go.Proofs.YtefncbdkjljbjaaDoor
