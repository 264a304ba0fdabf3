/- The reference's purses: the contracts of Hold. -/
import Derived.Test.YtefncbdkjljbjaaDoorSPurse
namespace Go.Proofs.YtefncbdkjljbjaaDoor
set_option linter.all false
open Go Go.RowKit
theorem shold_bad (S : Nat → Pur) (g : Nat) (who c s : Int) (b : Bool) (w : World) (hp : Pq w g S) (h : (inb who 1 9 && inb c 0 1000000000 && inb s 0 1000000000) = false) :
    Calls Tryd.prog 25 #[.pointer (some ⟨g, 0, none⟩), .int .i64 who, .int .i64 c, .int .i64 s, .bool b] w (QPost (1, S) g w) := by
  have HP := Lib.hid hp
  clear hp
  have hi : ∀ n, inb n 0 1000000000 = decide (¬ (n < 0 ∨ 1000000000 < n)) := fun n => by unfold inb; congr 1; rw [eq_iff_iff]; omega
  rw [hi, hi] at h
  clear hi
  rcases (show inb who 1 9 = false ∨ (inb who 1 9 = true ∧ c < 0) ∨ (inb who 1 9 = true ∧ 0 ≤ c ∧ 1000000000 < c) ∨ (inb who 1 9 = true ∧ 0 ≤ c ∧ c ≤ 1000000000 ∧ s < 0) ∨ (inb who 1 9 = true ∧ 0 ≤ c ∧ c ≤ 1000000000 ∧ 0 ≤ s ∧ 1000000000 < s) by cases hw : inb who 1 9 <;> simp [hw] at h ⊢; omega) with h1 | ⟨h1, h2⟩ | ⟨h1, h2, h3⟩ | ⟨h1, h2, h3, h4⟩ | ⟨h1, h2, h3, h4, h5⟩
  all_goals
    clear h
    go_enter Tryd.func25, Tryd.ntmps25
    go_wp2_with (go_at_call 69; refine (swho_any _ _).mono ?_; rintro e w' ⟨rfl, rfl⟩)
    go_ret
    exact ⟨rfl, HP.out, grown_refl _ _⟩
theorem upd_put {S : Nat → Pur} {k : Nat} {a b c d : Int} {p : Pur} (h1 : p.cash = a) (h2 : p.held = b) (h3 : p.stock = c) (h4 : p.hstock = d) (h5 : p.who = (S k).who) : upd S k ⟨(S k).who, a, b, c, d⟩ = upd S k p := by
  subst h1 h2 h3 h4; rw [← h5]
set_option maxHeartbeats 1000000 in
theorem shold_ok (S : Nat → Pur) (g : Nat) (k : Nat) (c s : Int) (w : World) (hp : Pq w g S) (hs : PSound S) (hk1 : 1 ≤ k) (hk2 : k < 10) (h : inb k 1 9 = true) (h2 : inb c 0 1000000000 = true) (h3 : inb s 0 1000000000 = true) :
    Calls Tryd.prog 25 #[.pointer (some ⟨g, 0, none⟩), .int .i64 k, .int .i64 c, .int .i64 s, .bool false] w (QPost (holdP S k c s) g w) := by
  have HP := Lib.hid hp
  have hS := hs k hk2
  obtain ⟨x, c0, c1, c2, c3, c4⟩ := hp.five hk2
  obtain ⟨s1, s2, s3, s4, s5, s6⟩ := hS
  obtain ⟨n1, n2⟩ : 0 ≤ c ∧ c ≤ 1000000000 := by simpa [inb] using h2
  obtain ⟨m1, m2⟩ : 0 ≤ s ∧ s ≤ 1000000000 := by simpa [inb] using h3
  have i0 : (0 : Int) ≤ (k : Int) := by omega
  have i1 : (k : Int) < 10 := by omega
  have hgl := hp.lt
  have E := Lib.hid (show holdP S k c s = if (S k).cash - (S k).held < c ∨ (S k).stock - (S k).hstock < s then (9, S) else (0, upd S k { S k with held := (S k).held + c, hstock := (S k).hstock + s }) by rw [holdP, h, h2, h3]; rfl)
  have t1 : 0 ≤ (S k).held + c := by omega
  have t2 : 0 ≤ (S k).hstock + s := by omega
  have z1 := fun i => HP.out.free i
  clear hp hs h2 h3
  rcases (show (S k).cash < (S k).held + c ∨ ((S k).held + c ≤ (S k).cash ∧ (S k).stock < (S k).hstock + s) ∨ ((S k).held + c ≤ (S k).cash ∧ (S k).hstock + s ≤ (S k).stock) by omega) with a | ⟨a, b⟩ | ⟨a, b⟩
  · have E3 := Lib.hid (E.out.trans (if_pos (by omega))); clear E
    go_enter Tryd.func25, Tryd.ntmps25
    go_wp2_with (go_at_call 69; refine (swho_any _ _).mono ?_; rintro e w' ⟨rfl, rfl⟩)
    go_ret
    rw [E3.out]
    exact ⟨rfl, HP.out.alloc _, grown_alloc (grown_refl _ _) _⟩
  · have E3 := Lib.hid (E.out.trans (if_pos (by omega))); clear E
    go_enter Tryd.func25, Tryd.ntmps25
    go_wp2_with (go_at_call 69; refine (swho_any _ _).mono ?_; rintro e w' ⟨rfl, rfl⟩)
    go_ret
    rw [E3.out]
    exact ⟨rfl, HP.out.alloc _, grown_alloc (grown_refl _ _) _⟩
  · have E3 := Lib.hid (E.out.trans (if_neg (by omega))); clear E
    go_enter Tryd.func25, Tryd.ntmps25
    go_wp2_with (go_at_call 69; refine (swho_any _ _).mono ?_; rintro e w' ⟨rfl, rfl⟩)
    go_region
    go_wp2
    go_ret
    rw [E3.out]
    refine ⟨rfl, ?_, ?_⟩
    · exact ((HP.out.put hk2 _ _ _ _ _).alloc _).drew
    · exact grown_drew (grown_alloc (grown_five (grown_refl _ _) _ _ _ _ _ _) _)
set_option maxHeartbeats 1000000 in
theorem sfree_ok (S : Nat → Pur) (g : Nat) (k : Nat) (c s : Int) (w : World) (hp : Pq w g S) (hs : PSound S) (hk1 : 1 ≤ k) (hk2 : k < 10) (h : inb k 1 9 = true) (h2 : inb c 0 1000000000 = true) (h3 : inb s 0 1000000000 = true) :
    Calls Tryd.prog 25 #[.pointer (some ⟨g, 0, none⟩), .int .i64 k, .int .i64 c, .int .i64 s, .bool true] w (QPost (freeP S k c s) g w) := by
  have HP := Lib.hid hp
  have hS := hs k hk2
  obtain ⟨x, c0, c1, c2, c3, c4⟩ := hp.five hk2
  obtain ⟨s1, s2, s3, s4, s5, s6⟩ := hS
  obtain ⟨n1, n2⟩ : 0 ≤ c ∧ c ≤ 1000000000 := by simpa [inb] using h2
  obtain ⟨m1, m2⟩ : 0 ≤ s ∧ s ≤ 1000000000 := by simpa [inb] using h3
  have i0 : (0 : Int) ≤ (k : Int) := by omega
  have i1 : (k : Int) < 10 := by omega
  have hgl := hp.lt
  have E := Lib.hid (show freeP S k c s = if (S k).held < c ∨ (S k).hstock < s then (9, S) else (0, upd S k { S k with held := (S k).held - c, hstock := (S k).hstock - s }) by rw [freeP, h, h2, h3]; rfl)
  have t1 : (S k).held + -c ≤ (S k).cash := by omega
  have t2 : (S k).hstock + -s ≤ (S k).stock := by omega
  have z1 := fun i => HP.out.free i
  clear hp hs h2 h3
  rcases (show (S k).held + -c < 0 ∨ (0 ≤ (S k).held + -c ∧ (S k).hstock + -s < 0) ∨ (0 ≤ (S k).held + -c ∧ 0 ≤ (S k).hstock + -s) by omega) with a | ⟨a, b⟩ | ⟨a, b⟩
  · have E3 := Lib.hid (E.out.trans (if_pos (by omega))); clear E
    go_enter Tryd.func25, Tryd.ntmps25
    go_wp2_with (go_at_call 69; refine (swho_any _ _).mono ?_; rintro e w' ⟨rfl, rfl⟩)
    go_ret
    rw [E3.out]
    exact ⟨rfl, HP.out.alloc _, grown_alloc (grown_refl _ _) _⟩
  · have E3 := Lib.hid (E.out.trans (if_pos (by omega))); clear E
    go_enter Tryd.func25, Tryd.ntmps25
    go_wp2_with (go_at_call 69; refine (swho_any _ _).mono ?_; rintro e w' ⟨rfl, rfl⟩)
    go_ret
    rw [E3.out]
    exact ⟨rfl, HP.out.alloc _, grown_alloc (grown_refl _ _) _⟩
  · have E3 := Lib.hid (E.out.trans (if_neg (by omega))); clear E
    go_enter Tryd.func25, Tryd.ntmps25
    go_wp2_with (go_at_call 69; refine (swho_any _ _).mono ?_; rintro e w' ⟨rfl, rfl⟩)
    go_region
    go_wp2
    go_ret
    rw [E3.out]
    refine ⟨rfl, ?_, ?_⟩
    · exact ((HP.out.put hk2 _ _ _ _ _).alloc _).drew
    · exact grown_drew (grown_alloc (grown_five (grown_refl _ _) _ _ _ _ _ _) _)
theorem shold_any (S : Nat → Pur) (g : Nat) (who c s : Int) (w : World) (hp : Pq w g S) (hs : PSound S) :
    Calls Tryd.prog 25 #[.pointer (some ⟨g, 0, none⟩), .int .i64 who, .int .i64 c, .int .i64 s, .bool false] w (QPost (holdP S who c s) g w) := by
  cases h : (inb who 1 9 && inb c 0 1000000000 && inb s 0 1000000000)
  · rw [show holdP S who c s = (1, S) by rw [holdP, h]; rfl]
    exact shold_bad S g who c s false w hp h
  · simp only [Bool.and_eq_true] at h
    obtain ⟨k, rfl, hk1, hk2⟩ := inb_nat h.1.1
    exact shold_ok S g k c s w hp hs hk1 hk2 h.1.1 h.1.2 h.2
theorem sfree_any (S : Nat → Pur) (g : Nat) (who c s : Int) (w : World) (hp : Pq w g S) (hs : PSound S) :
    Calls Tryd.prog 25 #[.pointer (some ⟨g, 0, none⟩), .int .i64 who, .int .i64 c, .int .i64 s, .bool true] w (QPost (freeP S who c s) g w) := by
  cases h : (inb who 1 9 && inb c 0 1000000000 && inb s 0 1000000000)
  · rw [show freeP S who c s = (1, S) by rw [freeP, h]; rfl]
    exact shold_bad S g who c s true w hp h
  · simp only [Bool.and_eq_true] at h
    obtain ⟨k, rfl, hk1, hk2⟩ := inb_nat h.1.1
    exact sfree_ok S g k c s w hp hs hk1 hk2 h.1.1 h.1.2 h.2
end Go.Proofs.YtefncbdkjljbjaaDoor
