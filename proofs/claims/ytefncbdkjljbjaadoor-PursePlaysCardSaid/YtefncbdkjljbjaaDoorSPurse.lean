/- The reference's purses: the block that holds ten of them (who is who is not asked), and the contracts of its Pay, Hold, Get. -/
import Derived.Test.YtefncbdkjljbjaaDoorPurseLaw
import Derived.Test.YtefncbdkjljbjaaDoorRef
namespace Go.Proofs.YtefncbdkjljbjaaDoor
set_option linter.all false
open Go Go.RowKit
/-- block g holds the ten purses S, but for who they are of -/
def Pq (w : World) (g : Nat) (S : Nat → Pur) : Prop := ∃ cs : Array Value, cs.size = 50 ∧ w.heap[g]? = some (.cells cs 55 (0, 0)) ∧ ∀ k, k < 10 → (∃ x : Int, cs[k * 5]? = some (.int .i64 x)) ∧ ∀ j, 0 < j → j < 5 → cs[k * 5 + j]? = some ((S k).cell j)
section
variable {w w' : World} {g : Nat} {S : Nat → Pur}
theorem Pq.lt (h : Pq w g S) : g < w.heap.size := by
  obtain ⟨cs, _, h2, _⟩ := h
  rcases Nat.lt_or_ge g w.heap.size with hlt | hge
  · exact hlt
  · rw [Array.getElem?_eq_none hge] at h2; cases h2
theorem Pq.five (h : Pq w g S) {k : Nat} (hk : k < 10) : ∃ x : Int, w.cell? ⟨g, k * 5, none⟩ = some (.int .i64 x) ∧ w.cell? ⟨g, k * 5 + 1, none⟩ = some (.int .i64 (S k).cash) ∧ w.cell? ⟨g, k * 5 + 2, none⟩ = some (.int .i64 (S k).held) ∧ w.cell? ⟨g, k * 5 + 3, none⟩ = some (.int .i64 (S k).stock) ∧ w.cell? ⟨g, k * 5 + 4, none⟩ = some (.int .i64 (S k).hstock) := by
  obtain ⟨cs, _, h2, h3⟩ := h
  have hc := fun j => cell_of_row w g (k * 5 + j) cs _ (0, 0) h2
  obtain ⟨⟨x, hx⟩, h4⟩ := h3 k hk
  exact ⟨x, (hc 0).trans hx, (hc 1).trans (h4 1 (by omega) (by omega)), (hc 2).trans (h4 2 (by omega) (by omega)), (hc 3).trans (h4 3 (by omega) (by omega)), (hc 4).trans (h4 4 (by omega) (by omega))⟩
theorem Pq.free (h : Pq w g S) (i : Nat) : w.frozen? ⟨g, i, none⟩ = false := by
  obtain ⟨cs, _, h2, _⟩ := h
  simp [World.frozen?, h2]
theorem Pq.keep {row : Option Nat} (h : Pq w g S) (hg : w.grownBy w' row) (hne : some g ≠ row) : Pq w' g S := by
  have hl := h.lt
  obtain ⟨cs, h1, h2, h3⟩ := h
  exact ⟨cs, h1, (hg.block g hl hne).trans h2, h3⟩
theorem Pq.below (h : Pq w g S) (hb : Below w.heap.size w w') : Pq w' g S := h.keep (grown_of_below hb none) (by simp)
theorem Pq.drew (h : Pq w g S) : Pq w.drew g S := h
theorem Pq.drewN (h : Pq w g S) (n : Nat) : Pq (w.drewN n) g S := h
theorem Pq.alloc (h : Pq w g S) (o : Obj) : Pq (w.alloc o) g S := h.below ((Below.refl _ _).alloc (Nat.le_refl _) o)
theorem Pq.congr (h : Pq w g S) {S' : Nat → Pur} (hs : ∀ i, i < 10 → S i = S' i) : Pq w g S' := by
  obtain ⟨cs, h1, h2, h3⟩ := h
  exact ⟨cs, h1, h2, fun k hk => by rw [← hs k hk]; exact h3 k hk⟩
theorem Pq.far (h : Pq w g S) {p : Addr} (hp : g ≠ p.block) (u : Value) : Pq (w.setCell p u) g S := h.keep (row := some p.block) ⟨rfl, rfl, rfl, by simp, fun k _ hk => Below.heap_setCell w p u k (fun e => hk (by rw [e]))⟩ (by simpa using hp)
theorem Pq.setWho (h : Pq w g S) {k : Nat} (hk : k < 10) (x : Int) : Pq (w.setCell ⟨g, k * 5, none⟩ (.int .i64 x)) g S := by
  obtain ⟨cs, h1, h2, h3⟩ := h
  refine ⟨cs.setIfInBounds (k * 5) (.int .i64 x), by simpa using h1, by simp [World.setCell, Array.getElem?_modify, h2], fun k' hk' => ⟨?_, fun j' hj0 hj' => ?_⟩⟩
  · rw [Array.getElem?_setIfInBounds]
    by_cases e : k' = k
    · subst e; rw [if_pos rfl, if_pos (by omega)]; exact ⟨x, rfl⟩
    · rw [if_neg (by omega)]; exact (h3 k' hk').1
  · rw [Array.getElem?_setIfInBounds, if_neg (by omega)]
    exact (h3 k' hk').2 j' hj0 hj'
theorem Pq.set (h : Pq w g S) {k j : Nat} (hk : k < 10) (hj0 : 0 < j) (hj : j < 5) {p : Pur} {v : Value} (hv : ∀ i, 0 < i → i < 5 → p.cell i = if i = j then v else (S k).cell i) : Pq (w.setCell ⟨g, k * 5 + j, none⟩ v) g (upd S k p) := by
  obtain ⟨cs, h1, h2, h3⟩ := h
  refine ⟨cs.setIfInBounds (k * 5 + j) v, by simpa using h1, by simp [World.setCell, Array.getElem?_modify, h2], fun k' hk' => ⟨?_, fun j' hj0' hj' => ?_⟩⟩
  · rw [Array.getElem?_setIfInBounds, if_neg (by omega)]
    exact (h3 k' hk').1
  · rw [Array.getElem?_setIfInBounds]
    by_cases e : k' = k
    · subst e
      rw [upd_same, hv j' hj0' hj']
      by_cases e2 : j' = j
      · subst e2
        rw [if_pos rfl, if_pos rfl, if_pos (by omega)]
      · rw [if_neg e2, if_neg (by omega)]
        exact (h3 k' hk').2 j' hj0' hj'
    · rw [upd_other e, if_neg (by omega)]
      exact (h3 k' hk').2 j' hj0' hj'
theorem Pq.setCash (h : Pq w g S) {k : Nat} (hk : k < 10) (x : Int) : Pq (w.setCell ⟨g, k * 5 + 1, none⟩ (.int .i64 x)) g (upd S k { S k with cash := x }) :=
  h.set hk (by omega) (by omega) fun i _ hi => by match i, hi with | 0, _ => rfl | 1, _ => rfl | 2, _ => rfl | 3, _ => rfl | 4, _ => rfl
theorem Pq.setHeld (h : Pq w g S) {k : Nat} (hk : k < 10) (x : Int) : Pq (w.setCell ⟨g, k * 5 + 2, none⟩ (.int .i64 x)) g (upd S k { S k with held := x }) :=
  h.set hk (by omega) (by omega) fun i _ hi => by match i, hi with | 0, _ => rfl | 1, _ => rfl | 2, _ => rfl | 3, _ => rfl | 4, _ => rfl
theorem Pq.setStock (h : Pq w g S) {k : Nat} (hk : k < 10) (x : Int) : Pq (w.setCell ⟨g, k * 5 + 3, none⟩ (.int .i64 x)) g (upd S k { S k with stock := x }) :=
  h.set hk (by omega) (by omega) fun i _ hi => by match i, hi with | 0, _ => rfl | 1, _ => rfl | 2, _ => rfl | 3, _ => rfl | 4, _ => rfl
theorem Pq.setHstock (h : Pq w g S) {k : Nat} (hk : k < 10) (x : Int) : Pq (w.setCell ⟨g, k * 5 + 4, none⟩ (.int .i64 x)) g (upd S k { S k with hstock := x }) :=
  h.set hk (by omega) (by omega) fun i _ hi => by match i, hi with | 0, _ => rfl | 1, _ => rfl | 2, _ => rfl | 3, _ => rfl | 4, _ => rfl
/-- a whole purse stored -/
theorem Pq.put (h : Pq w g S) {k : Nat} (hk : k < 10) (x a b c d : Int) : Pq (((((w.setCell ⟨g, k * 5, none⟩ (.int .i64 x)).setCell ⟨g, k * 5 + 1, none⟩ (.int .i64 a)).setCell ⟨g, k * 5 + 2, none⟩ (.int .i64 b)).setCell ⟨g, k * 5 + 3, none⟩ (.int .i64 c)).setCell ⟨g, k * 5 + 4, none⟩ (.int .i64 d)) g (upd S k ⟨(S k).who, a, b, c, d⟩) := by
  refine (((((h.setWho hk x).setCash hk a).setHeld hk b).setStock hk c).setHstock hk d).congr fun i _ => ?_
  by_cases e : i = k
  · subst e; simp [upd]
  · simp [upd, e]
end
/-- how each of its methods ends -/
def QPost (r : Int × (Nat → Pur)) (g : Nat) (w : World) (e : Ending) (w' : World) : Prop := e = .returned (.int .i64 r.1) ∧ Pq w' g r.2 ∧ w.grownBy w' (some g)
theorem swho_any (n : Int) (w : World) : Calls Tryd.prog 69 #[.int .i64 n] w fun e w' => e = .returned (.bool (inb n 1 9)) ∧ w = w' := by
  unfold inb
  rcases (show n < 1 ∨ (1 ≤ n ∧ 9 < n) ∨ (1 ≤ n ∧ n ≤ 9) by omega) with h | ⟨h, h2⟩ | ⟨h, h2⟩
  all_goals
    go_enter Tryd.func69, Tryd.ntmps69
    go_wp2
    go_ret
    exact ⟨ret_bool (by simp; omega), rfl⟩
theorem grown_five {w w' : World} {g : Nat} (h : w.grownBy w' (some g)) (i : Nat) (a b c d e : Value) : w.grownBy (((((w'.setCell ⟨g, i, none⟩ a).setCell ⟨g, i + 1, none⟩ b).setCell ⟨g, i + 2, none⟩ c).setCell ⟨g, i + 3, none⟩ d).setCell ⟨g, i + 4, none⟩ e) (some g) :=
  grown_cell (grown_cell (grown_cell (grown_cell (grown_cell h _ _) _ _) _ _) _ _) _ _
theorem put_cash {S : Nat → Pur} {k : Nat} {x : Int} : upd S k ⟨(S k).who, x, (S k).held, (S k).stock, (S k).hstock⟩ = upd S k { S k with cash := x } := rfl
set_option maxHeartbeats 400000 in
theorem spay_ok (S : Nat → Pur) (g : Nat) (k : Nat) (n : Int) (w : World) (hp : Pq w g S) (hs : PSound S) (hk1 : 1 ≤ k) (hk2 : k < 10) (h : inb k 1 9 = true) (h2 : inb n 1 1000000000 = true) :
    Calls Tryd.prog 24 #[.pointer (some ⟨g, 0, none⟩), .int .i64 k, .int .i64 n, .bool false] w (QPost (payP S k n) g w) := by
  have HP := Lib.hid hp
  have hS := hs k hk2
  obtain ⟨x, c0, c1, c2, c3, c4⟩ := hp.five hk2
  obtain ⟨s1, s2, s3, s4, s5, s6⟩ := hS
  obtain ⟨n1, n2⟩ : 1 ≤ n ∧ n ≤ 1000000000 := by simpa [inb] using h2
  have i0 : (0 : Int) ≤ (k : Int) := by omega
  have i1 : (k : Int) < 10 := by omega
  have hgl := hp.lt
  have e : payP S k n = if 1000000000 - n < (S k).cash then (4, S) else (0, upd S k { S k with cash := (S k).cash + n }) := by rw [payP, h, h2]; rfl
  have E := Lib.hid e
  clear e hp hs h2
  by_cases hc : 1000000000 - n < (S k).cash
  · have E2 := E.out
    rw [if_pos hc] at E2
    have E3 := Lib.hid E2; clear E E2
    have hc' : 1000000000 < (S k).cash + n := by omega
    go_enter Tryd.func24, Tryd.ntmps24
    go_wp2_with (go_at_call 69; refine (swho_any _ _).mono ?_; rintro e w' ⟨rfl, rfl⟩)
    go_ret
    rw [E3.out]
    refine ⟨rfl, ?_, ?_⟩
    · exact HP.out.alloc _
    · exact grown_alloc (grown_refl _ _) _
  · have E2 := E.out
    rw [if_neg hc] at E2
    have E3 := Lib.hid E2; clear E E2
    have hc' : (S k).cash ≤ 1000000000 - n := by omega
    have z1 := fun i => HP.out.free i
    go_enter Tryd.func24, Tryd.ntmps24
    go_wp2_with (go_at_call 69; refine (swho_any _ _).mono ?_; rintro e w' ⟨rfl, rfl⟩)
    go_region
    go_wp2
    go_ret
    rw [E3.out]
    refine ⟨rfl, ?_, ?_⟩
    · exact ((HP.out.put hk2 _ _ _ _ _).alloc _).drew
    · exact grown_drew (grown_alloc (grown_five (grown_refl _ _) _ _ _ _ _ _) _)
set_option maxHeartbeats 1000000 in
theorem sgive_ok (S : Nat → Pur) (g : Nat) (k : Nat) (n : Int) (w : World) (hp : Pq w g S) (hs : PSound S) (hk1 : 1 ≤ k) (hk2 : k < 10) (h : inb k 1 9 = true) (h2 : inb n 1 1000000000 = true) :
    Calls Tryd.prog 24 #[.pointer (some ⟨g, 0, none⟩), .int .i64 k, .int .i64 n, .bool true] w (QPost (giveP S k n) g w) := by
  have HP := Lib.hid hp
  have hS := hs k hk2
  obtain ⟨x, c0, c1, c2, c3, c4⟩ := hp.five hk2
  obtain ⟨s1, s2, s3, s4, s5, s6⟩ := hS
  obtain ⟨n1, n2⟩ : 1 ≤ n ∧ n ≤ 1000000000 := by simpa [inb] using h2
  have i0 : (0 : Int) ≤ (k : Int) := by omega
  have i1 : (k : Int) < 10 := by omega
  have hgl := hp.lt
  have e : giveP S k n = if 1000000000 - n < (S k).stock then (4, S) else (0, upd S k { S k with stock := (S k).stock + n }) := by rw [giveP, h, h2]; rfl
  have E := Lib.hid e
  clear e hp hs h2
  by_cases hc : 1000000000 - n < (S k).stock
  · have E2 := E.out
    rw [if_pos hc] at E2
    have E3 := Lib.hid E2; clear E E2
    have hc' : 1000000000 < (S k).stock + n := by omega
    go_enter Tryd.func24, Tryd.ntmps24
    go_wp2_with (go_at_call 69; refine (swho_any _ _).mono ?_; rintro e w' ⟨rfl, rfl⟩)
    go_ret
    rw [E3.out]
    refine ⟨rfl, ?_, ?_⟩
    · exact HP.out.alloc _
    · exact grown_alloc (grown_refl _ _) _
  · have E2 := E.out
    rw [if_neg hc] at E2
    have E3 := Lib.hid E2; clear E E2
    have hc' : (S k).stock ≤ 1000000000 - n := by omega
    have z1 := fun i => HP.out.free i
    go_enter Tryd.func24, Tryd.ntmps24
    go_wp2_with (go_at_call 69; refine (swho_any _ _).mono ?_; rintro e w' ⟨rfl, rfl⟩)
    go_region
    go_wp2
    go_ret
    rw [E3.out]
    refine ⟨rfl, ?_, ?_⟩
    · exact ((HP.out.put hk2 _ _ _ _ _).alloc _).drew
    · exact grown_drew (grown_alloc (grown_five (grown_refl _ _) _ _ _ _ _ _) _)
theorem spay_bad (S : Nat → Pur) (g : Nat) (who n : Int) (b : Bool) (w : World) (hp : Pq w g S) (h : (inb who 1 9 && inb n 1 1000000000) = false) :
    Calls Tryd.prog 24 #[.pointer (some ⟨g, 0, none⟩), .int .i64 who, .int .i64 n, .bool b] w (QPost (1, S) g w) := by
  have HP := Lib.hid hp
  clear hp
  have hn : inb n 1 1000000000 = decide (¬ (n < 1 ∨ 1000000000 < n)) := by unfold inb; congr 1; rw [eq_iff_iff]; omega
  rw [hn] at h
  clear hn
  rcases (show inb who 1 9 = false ∨ (inb who 1 9 = true ∧ n < 1) ∨ (inb who 1 9 = true ∧ 1 ≤ n ∧ 1000000000 < n) by cases hw : inb who 1 9 <;> simp [hw] at h ⊢; omega) with h1 | ⟨h1, h2⟩ | ⟨h1, h2, h3⟩
  all_goals
    clear h
    go_enter Tryd.func24, Tryd.ntmps24
    go_wp2_with (go_at_call 69; refine (swho_any _ _).mono ?_; rintro e w' ⟨rfl, rfl⟩)
    go_ret
    exact ⟨rfl, HP.out, grown_refl _ _⟩
theorem spay_any (S : Nat → Pur) (g : Nat) (who n : Int) (w : World) (hp : Pq w g S) (hs : PSound S) :
    Calls Tryd.prog 24 #[.pointer (some ⟨g, 0, none⟩), .int .i64 who, .int .i64 n, .bool false] w (QPost (payP S who n) g w) := by
  cases h : (inb who 1 9 && inb n 1 1000000000)
  · rw [show payP S who n = (1, S) by rw [payP, h]; rfl]
    exact spay_bad S g who n false w hp h
  · simp only [Bool.and_eq_true] at h
    obtain ⟨k, rfl, hk1, hk2⟩ := inb_nat h.1
    exact spay_ok S g k n w hp hs hk1 hk2 h.1 h.2
theorem sgive_any (S : Nat → Pur) (g : Nat) (who n : Int) (w : World) (hp : Pq w g S) (hs : PSound S) :
    Calls Tryd.prog 24 #[.pointer (some ⟨g, 0, none⟩), .int .i64 who, .int .i64 n, .bool true] w (QPost (giveP S who n) g w) := by
  cases h : (inb who 1 9 && inb n 1 1000000000)
  · rw [show giveP S who n = (1, S) by rw [giveP, h]; rfl]
    exact spay_bad S g who n true w hp h
  · simp only [Bool.and_eq_true] at h
    obtain ⟨k, rfl, hk1, hk2⟩ := inb_nat h.1
    exact sgive_ok S g k n w hp hs hk1 hk2 h.1 h.2
def SGetPost (r : Int × Pur) (w : World) (e : Ending) (w' : World) : Prop := e = .returned (.tuple #[.agg #[.int .i64 r.2.who, .int .i64 r.2.cash, .int .i64 r.2.held, .int .i64 r.2.stock, .int .i64 r.2.hstock], .int .i64 r.1]) ∧ Below w.heap.size w w'
theorem sget_any (S : Nat → Pur) (g : Nat) (who : Int) (w : World) (hp : Pq w g S) (hw : WhoOk S) :
    Calls Tryd.prog 28 #[.pointer (some ⟨g, 0, none⟩), .int .i64 who] w (SGetPost (getP S who) w) := by
  by_cases h : inb who 1 9 = true
  · obtain ⟨k, rfl, hk1, hk2⟩ := inb_nat h
    obtain ⟨x, c0, c1, c2, c3, c4⟩ := hp.five hk2
    have i0 : (0 : Int) ≤ (k : Int) := by omega
    have i1 : (k : Int) < 10 := by omega
    have hlt := hp.lt
    rw [show getP S k = (0, ⟨k, (S k).cash, (S k).held, (S k).stock, (S k).hstock⟩) by rw [getP, if_pos h]; simp only [Int.toNat_natCast]; rw [← hw k hk2]]
    generalize S k = p at *
    clear hp hw
    go_enter Tryd.func28, Tryd.ntmps28
    go_wp2_with (go_at_call 69; refine (swho_any _ _).mono ?_; rintro e w' ⟨rfl, rfl⟩)
    refine bodyPost_ret (v := .tuple #[.agg #[.int .i64 k, .int .i64 p.cash, .int .i64 p.held, .int .i64 p.stock, .int .i64 p.hstock], .int .i64 0]) (by simp [results, Tryd.results28, go_sem]) rfl ⟨rfl, ?_⟩
    (repeat (first | exact Below.refl _ _ | assumption | (refine below_then (by assumption) ?_) | (refine below_then_alloc ?_) | (refine Below.drew ?_)))
  · have h' : inb who 1 9 = false := by simpa using h
    rw [show getP S who = (1, pur0) by rw [getP, h']; rfl]
    clear hp h
    go_enter Tryd.func28, Tryd.ntmps28
    go_wp2_with (go_at_call 69; refine (swho_any _ _).mono ?_; rintro e w' ⟨rfl, rfl⟩)
    refine bodyPost_ret (v := .tuple #[.agg #[.int .i64 0, .int .i64 0, .int .i64 0, .int .i64 0, .int .i64 0], .int .i64 1]) (by simp [results, Tryd.results28, go_sem]) rfl ⟨rfl, ?_⟩
    (repeat (first | exact Below.refl _ _ | assumption | (refine below_then (by assumption) ?_) | (refine below_then_alloc ?_) | (refine Below.drew ?_)))
end Go.Proofs.YtefncbdkjljbjaaDoor
