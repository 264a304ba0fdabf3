/- The contracts of Hold, Free, Get, New, Total. -/
import Derived.Test.YtefncbdkjljbjaaDoorPurse
import Derived.Deep.QuietTactic
import Derived.BigQuiet
namespace Go.Proofs.YtefncbdkjljbjaaDoor
set_option linter.all false
open Go Go.RowKit
def holdP (S : Nat → Pur) (who c s : Int) : Int × (Nat → Pur) :=
  if inb who 1 9 && inb c 0 1000000000 && inb s 0 1000000000 then
    if (S who.toNat).cash - (S who.toNat).held < c ∨ (S who.toNat).stock - (S who.toNat).hstock < s then (9, S)
    else (0, upd S who.toNat { S who.toNat with held := (S who.toNat).held + c, hstock := (S who.toNat).hstock + s }) else (1, S)
def freeP (S : Nat → Pur) (who c s : Int) : Int × (Nat → Pur) :=
  if inb who 1 9 && inb c 0 1000000000 && inb s 0 1000000000 then
    if (S who.toNat).held < c ∨ (S who.toNat).hstock < s then (9, S)
    else (0, upd S who.toNat { S who.toNat with held := (S who.toNat).held - c, hstock := (S who.toNat).hstock - s }) else (1, S)
theorem upd_upd (S : Nat → Pur) (k : Nat) (p q : Pur) (i : Nat) : upd (upd S k p) k q i = upd S k q i := by
  unfold upd; split <;> rfl
set_option maxHeartbeats 2000000 in
theorem hold_any (S : Nat → Pur) (g : Nat) (who c s : Int) (w : World) (hp : Pm w g S) (hs : PSound S) :
    Calls Tryd.prog 13 #[.pointer (some ⟨g, 0, none⟩), .int .i64 who, .int .i64 c, .int .i64 s] w (PurPost (holdP S who c s) g w) := by
  have HP := Lib.hid hp
  by_cases h : (inb who 1 9 && inb c 0 1000000000 && inb s 0 1000000000) = true
  · have e : holdP S who c s = _ := if_pos h
    simp only [Bool.and_eq_true] at h
    obtain ⟨⟨h1, h2⟩, h3⟩ := h
    obtain ⟨k, rfl, hk1, hk2⟩ := inb_nat h1
    obtain ⟨s1, s2, s3, s4, s5, s6⟩ := hs k hk2
    obtain ⟨c0, c1, c2, c3, c4⟩ := hp.five hk2
    have z2 := hp.free (k * 5 + 2)
    have z4 := hp.free (k * 5 + 4)
    have hn : 0 ≤ c ∧ c ≤ 1000000000 := by simpa [inb] using h2
    have hm : 0 ≤ s ∧ s ≤ 1000000000 := by simpa [inb] using h3
    obtain ⟨n1, n2⟩ := hn
    obtain ⟨m1, m2⟩ := hm
    have i0 : (0 : Int) ≤ (k : Int) := by omega
    have i1 : (k : Int) < 10 := by omega
    simp only [Int.toNat_natCast] at e
    clear hp hs
    rcases (show (S k).cash - (S k).held < c ∨ (c ≤ (S k).cash - (S k).held ∧ (S k).stock - (S k).hstock < s) ∨ (c ≤ (S k).cash - (S k).held ∧ s ≤ (S k).stock - (S k).hstock) by omega) with a | ⟨a, b⟩ | ⟨a, b⟩
    · rw [if_pos (.inl a)] at e
      have E := Lib.hid e; clear e
      go_enter Tryd.func13, Tryd.ntmps13
      go_wp2_with (first | (go_at_call 62; refine (who_any _ _).mono ?_; rintro e w' ⟨rfl, rfl⟩) | (go_at_call 63; refine (amount_any _ _ _).mono ?_; rintro e w' ⟨rfl, rfl⟩))
      go_quiet (fail)
      go_wp2
      go_ret
      rw [E.out]
      exact ⟨rfl, HP.out.drewN _, grown_drewN (grown_refl _ _) _⟩
    · rw [if_pos (.inr b)] at e
      have E := Lib.hid e; clear e
      have a' : decide ((S k).cash - (S k).held < c) = false := by simp; omega
      go_enter Tryd.func13, Tryd.ntmps13
      go_wp2_with (first | (go_at_call 62; refine (who_any _ _).mono ?_; rintro e w' ⟨rfl, rfl⟩) | (go_at_call 63; refine (amount_any _ _ _).mono ?_; rintro e w' ⟨rfl, rfl⟩))
      go_quiet (fail)
      go_wp2
      go_ret
      rw [E.out]
      exact ⟨rfl, HP.out.drewN _, grown_drewN (grown_refl _ _) _⟩
    · rw [if_neg (by omega)] at e
      have E := Lib.hid e; clear e
      have a' : decide ((S k).cash - (S k).held < c) = false := by simp; omega
      have b' : decide ((S k).stock - (S k).hstock < s) = false := by simp; omega
      go_enter Tryd.func13, Tryd.ntmps13
      go_wp2_with (first | (go_at_call 62; refine (who_any _ _).mono ?_; rintro e w' ⟨rfl, rfl⟩) | (go_at_call 63; refine (amount_any _ _ _).mono ?_; rintro e w' ⟨rfl, rfl⟩))
      go_quiet (fail)
      go_wp2
      go_ret
      rw [E.out]
      refine ⟨rfl, ?_, ?_⟩
      · refine (((HP.out.setHeld hk2 ((S k).held + c)).setHstock hk2 ((S k).hstock + s)).drewN _).congr fun i _ => ?_
        rw [upd_upd, upd_same]
      · exact grown_drewN (grown_cell (grown_cell (grown_refl _ _) _ _) _ _) _
  · have e : holdP S who c s = (1, S) := if_neg h
    have E := Lib.hid e; clear e hs hp
    (rcases (show inb who 1 9 = false ∨ (inb who 1 9 = true ∧ inb c 0 1000000000 = false) ∨ (inb who 1 9 = true ∧ inb c 0 1000000000 = true ∧ inb s 0 1000000000 = false) by revert h; cases inb who 1 9 <;> cases inb c 0 1000000000 <;> cases inb s 0 1000000000 <;> simp) with a | ⟨a, b⟩ | ⟨a, b, d⟩)
    all_goals
      clear h
      go_enter Tryd.func13, Tryd.ntmps13
      go_wp2_with (first | (go_at_call 62; refine (who_any _ _).mono ?_; rintro e w' ⟨rfl, rfl⟩) | (go_at_call 63; refine (amount_any _ _ _).mono ?_; rintro e w' ⟨rfl, rfl⟩))
      go_ret
      rw [E.out]
      exact ⟨rfl, HP.out, grown_refl _ _⟩
set_option maxHeartbeats 2000000 in
theorem free_any (S : Nat → Pur) (g : Nat) (who c s : Int) (w : World) (hp : Pm w g S) (hs : PSound S) :
    Calls Tryd.prog 16 #[.pointer (some ⟨g, 0, none⟩), .int .i64 who, .int .i64 c, .int .i64 s] w (PurPost (freeP S who c s) g w) := by
  have HP := Lib.hid hp
  by_cases h : (inb who 1 9 && inb c 0 1000000000 && inb s 0 1000000000) = true
  · have e : freeP S who c s = _ := if_pos h
    simp only [Bool.and_eq_true] at h
    obtain ⟨⟨h1, h2⟩, h3⟩ := h
    obtain ⟨k, rfl, hk1, hk2⟩ := inb_nat h1
    obtain ⟨s1, s2, s3, s4, s5, s6⟩ := hs k hk2
    obtain ⟨c0, c1, c2, c3, c4⟩ := hp.five hk2
    have z2 := hp.free (k * 5 + 2)
    have z4 := hp.free (k * 5 + 4)
    have hn : 0 ≤ c ∧ c ≤ 1000000000 := by simpa [inb] using h2
    have hm : 0 ≤ s ∧ s ≤ 1000000000 := by simpa [inb] using h3
    obtain ⟨n1, n2⟩ := hn
    obtain ⟨m1, m2⟩ := hm
    have i0 : (0 : Int) ≤ (k : Int) := by omega
    have i1 : (k : Int) < 10 := by omega
    simp only [Int.toNat_natCast] at e
    clear hp hs
    rcases (show (S k).held < c ∨ (c ≤ (S k).held ∧ (S k).hstock < s) ∨ (c ≤ (S k).held ∧ s ≤ (S k).hstock) by omega) with a | ⟨a, b⟩ | ⟨a, b⟩
    · rw [if_pos (.inl a)] at e
      have E := Lib.hid e; clear e
      go_enter Tryd.func16, Tryd.ntmps16
      go_wp2_with (first | (go_at_call 62; refine (who_any _ _).mono ?_; rintro e w' ⟨rfl, rfl⟩) | (go_at_call 63; refine (amount_any _ _ _).mono ?_; rintro e w' ⟨rfl, rfl⟩))
      go_ret
      rw [E.out]
      exact ⟨rfl, HP.out, grown_refl _ _⟩
    · rw [if_pos (.inr b)] at e
      have E := Lib.hid e; clear e
      have a' : decide ((S k).held < c) = false := by simp; omega
      go_enter Tryd.func16, Tryd.ntmps16
      go_wp2_with (first | (go_at_call 62; refine (who_any _ _).mono ?_; rintro e w' ⟨rfl, rfl⟩) | (go_at_call 63; refine (amount_any _ _ _).mono ?_; rintro e w' ⟨rfl, rfl⟩))
      go_ret
      rw [E.out]
      exact ⟨rfl, HP.out, grown_refl _ _⟩
    · rw [if_neg (by omega)] at e
      have E := Lib.hid e; clear e
      have a' : decide ((S k).held < c) = false := by simp; omega
      have b' : decide ((S k).hstock < s) = false := by simp; omega
      go_enter Tryd.func16, Tryd.ntmps16
      go_wp2_with (first | (go_at_call 62; refine (who_any _ _).mono ?_; rintro e w' ⟨rfl, rfl⟩) | (go_at_call 63; refine (amount_any _ _ _).mono ?_; rintro e w' ⟨rfl, rfl⟩))
      go_ret
      rw [E.out]
      refine ⟨rfl, ?_, ?_⟩
      · refine ((HP.out.setHeld hk2 ((S k).held - c)).setHstock hk2 ((S k).hstock - s)).congr fun i _ => ?_
        rw [upd_upd, upd_same]
      · exact grown_cell (grown_cell (grown_refl _ _) _ _) _ _
  · have e : freeP S who c s = (1, S) := if_neg h
    have E := Lib.hid e; clear e hs hp
    (rcases (show inb who 1 9 = false ∨ (inb who 1 9 = true ∧ inb c 0 1000000000 = false) ∨ (inb who 1 9 = true ∧ inb c 0 1000000000 = true ∧ inb s 0 1000000000 = false) by revert h; cases inb who 1 9 <;> cases inb c 0 1000000000 <;> cases inb s 0 1000000000 <;> simp) with a | ⟨a, b⟩ | ⟨a, b, d⟩)
    all_goals
      clear h
      go_enter Tryd.func16, Tryd.ntmps16
      go_wp2_with (first | (go_at_call 62; refine (who_any _ _).mono ?_; rintro e w' ⟨rfl, rfl⟩) | (go_at_call 63; refine (amount_any _ _ _).mono ?_; rintro e w' ⟨rfl, rfl⟩))
      go_ret
      rw [E.out]
      exact ⟨rfl, HP.out, grown_refl _ _⟩

def pur0 : Pur := ⟨0, 0, 0, 0, 0⟩
def getP (S : Nat → Pur) (who : Int) : Int × Pur := if inb who 1 9 then (0, S who.toNat) else (1, pur0)
theorem get_any (S : Nat → Pur) (g : Nat) (who : Int) (w : World) (hp : Pm w g S) :
    Calls Tryd.prog 15 #[.pointer (some ⟨g, 0, none⟩), .int .i64 who] w fun e w' => e = .returned (.tuple #[.agg #[.int .i64 (getP S who).2.who, .int .i64 (getP S who).2.cash, .int .i64 (getP S who).2.held, .int .i64 (getP S who).2.stock, .int .i64 (getP S who).2.hstock], errV (getP S who).1]) ∧ Below w.heap.size w w' := by
  by_cases h : inb who 1 9 = true
  · obtain ⟨k, rfl, hk1, hk2⟩ := inb_nat h
    obtain ⟨c0, c1, c2, c3, c4⟩ := hp.five hk2
    have i0 : (0 : Int) ≤ (k : Int) := by omega
    have i1 : (k : Int) < 10 := by omega
    have hlt := hp.lt
    rw [show getP S k = (0, S k) by rw [getP, if_pos h]; rfl]
    dsimp only
    generalize S k = p at *
    clear hp
    go_enter Tryd.func15, Tryd.ntmps15
    go_wp2_with (go_at_call 62; refine (who_any _ _).mono ?_; rintro e w' ⟨rfl, rfl⟩)
    refine bodyPost_ret (v := .tuple #[.agg #[.int .i64 p.who, .int .i64 p.cash, .int .i64 p.held, .int .i64 p.stock, .int .i64 p.hstock], .nilIface]) (by simp [results, Tryd.results15, go_sem]) rfl ⟨rfl, ?_⟩
    exact (Below.refl _ _).alloc (Nat.le_refl _) _
  · have h' : inb who 1 9 = false := by simpa using h
    rw [show getP S who = (1, pur0) by rw [getP, h']; rfl]
    clear hp h
    go_enter Tryd.func15, Tryd.ntmps15
    go_wp2_with (go_at_call 62; refine (who_any _ _).mono ?_; rintro e w' ⟨rfl, rfl⟩)
    refine bodyPost_ret (v := .tuple #[.agg #[.int .i64 0, .int .i64 0, .int .i64 0, .int .i64 0, .int .i64 0], er 1]) (by simp [results, Tryd.results15, go_sem]) rfl ⟨rfl, ?_⟩
    exact (Below.refl _ _).alloc (Nat.le_refl _) _
def newTo (k : Nat) : Nat → Pur := fun i => ⟨if i < k then i else 0, 0, 0, 0, 0⟩
def newP : Nat → Pur := fun i => ⟨i, 0, 0, 0, 0⟩
theorem Pm.setWho {w : World} {g : Nat} {S : Nat → Pur} (h : Pm w g S) {k : Nat} (hk : k < 10) (x : Int) : Pm (w.setCell ⟨g, k * 5, none⟩ (.int .i64 x)) g (upd S k { S k with who := x }) :=
  h.set (j := 0) hk (by omega) fun i hi => by match i, hi with | 0, _ => rfl | 1, _ => rfl | 2, _ => rfl | 3, _ => rfl | 4, _ => rfl
theorem Pm.zero (w : World) : Pm (w.alloc (.cells (Array.replicate 50 (.int .i64 0)) 121)) w.heap.size (newTo 0) := by
  refine ⟨_, by simp, heap_alloc_new w _, fun k j hk hj => ?_⟩
  rw [Array.getElem?_replicate, if_pos (by omega)]
  match j, hj with
  | 0, _ => simp [newTo, Pur.cell]
  | 1, _ => rfl
  | 2, _ => rfl
  | 3, _ => rfl
  | 4, _ => rfl
def NewPost (w : World) (e : Ending) (w' : World) : Prop := e = .returned (.pointer (some ⟨w.heap.size, 0, none⟩)) ∧ Pm w' w.heap.size newP ∧ Below w.heap.size w w'
set_option maxRecDepth 20000 in
theorem new_any (w : World) : Calls Tryd.prog 10 #[] w (NewPost w) := by
  have hz := Lib.hid (Pm.zero w)
  go_enter Tryd.func10, Tryd.ntmps10
  go_wp2
  go_loopw [5] (fun i wr => ∃ k : Nat, k ≤ 10 ∧ i = .int .i64 k ∧ Pm wr w.heap.size (newTo k) ∧ Below w.heap.size w wr) (fun i _ => 10 - (intOf i).toNat)
  case atStart => exact ⟨0, by omega, rfl, hz.out, (Below.refl _ _).alloc (Nat.le_refl _) _⟩
  case round =>
    obtain ⟨k, hk, rfl, hp, hb⟩ := hrel
    clear hz
    by_cases hlt : k < 10
    · have i0 : (0 : Int) ≤ (k : Int) := by omega
      have i1 : (k : Int) < 10 := by omega
      obtain ⟨c0, _, _, _, _⟩ := hp.five hlt
      have z0 := hp.free (k * 5)
      have HN := Lib.hid (hp.setWho hlt k)
      clear hp
      go_wp2
      go_roundw
      case rel =>
        refine ⟨k + 1, by omega, by go_num, HN.out.congr fun i _ => ?_, hb.setCell (Nat.le_refl _) _⟩
        unfold upd newTo
        by_cases e : i = k
        · subst e; simp
        · rw [if_neg e]
          by_cases h2 : i < k
          · rw [if_pos h2, if_pos (by omega)]
          · rw [if_neg h2, if_neg (by omega)]
      case measure => simp [intOf]; omega
    · obtain rfl : k = 10 := by omega
      go_wp2
      go_ret
      refine ⟨rfl, hp.congr fun i hi => ?_, hb⟩
      simp [newTo, newP, hi]
/-- what all have -/
def cashOf (S : Nat → Pur) (k : Nat) : Int := ((List.range k).map fun i => (S i).cash).sum
def stockOf (S : Nat → Pur) (k : Nat) : Int := ((List.range k).map fun i => (S i).stock).sum
theorem cashOf_succ (S : Nat → Pur) (k : Nat) : cashOf S (k + 1) = cashOf S k + (S k).cash := by simp [cashOf, List.range_succ]
theorem stockOf_succ (S : Nat → Pur) (k : Nat) : stockOf S (k + 1) = stockOf S k + (S k).stock := by simp [stockOf, List.range_succ]
theorem sums_bounds {S : Nat → Pur} (hs : PSound S) : ∀ k : Nat, k ≤ 10 → 0 ≤ cashOf S k ∧ cashOf S k ≤ 1000000000 * k ∧ 0 ≤ stockOf S k ∧ stockOf S k ≤ 1000000000 * k
  | 0, _ => by simp [cashOf, stockOf]
  | k + 1, h => by
    have ih := sums_bounds hs k (by omega)
    obtain ⟨h1, h2, h3, h4, h5, h6⟩ := hs k (by omega)
    rw [cashOf_succ, stockOf_succ]
    omega
end Go.Proofs.YtefncbdkjljbjaaDoor
