/- The contract of pitsame.Rests. -/
import Derived.Test.YtbnjkcgkdpildaaDoorGrpB
import Derived.Deep.QuietTactic
import Derived.BigQuiet
namespace Go.Proofs.YtbnjkcgkdpildaaDoor
set_option linter.all false
open Go Go.RowKit
theorem take_eq_succ {α : Type} {l m : List α} {k : Nat} {x : α} (h : l.take k = m.take k) (h1 : l[k]? = some x) (h2 : m[k]? = some x) : l.take (k + 1) = m.take (k + 1) := by
  rw [List.take_add_one, List.take_add_one, h, h1, h2]
theorem ne_of_at {α : Type} {l m : List α} {k : Nat} {x y : α} (h1 : l[k]? = some x) (h2 : m[k]? = some y) (h : x ≠ y) : l ≠ m := by
  rintro rfl
  rw [h1] at h2
  exact h (Option.some.inj h2)
theorem ret_false {P : Prop} [Decidable P] (h : ¬ P) : Ending.returned (.bool false) = .returned (.bool (decide P)) := by simp [h]
theorem ret_true {P : Prop} [Decidable P] (h : P) : Ending.returned (.bool true) = .returned (.bool (decide P)) := by simp [h]
set_option maxHeartbeats 2000000 in
theorem rests_any (l m : List Rest) (A B : Option Addr) (c d : Nat) (w : World) (hr : Rd w w.heap.size A l.length 5 (rcell l)) (hs : Rd w w.heap.size B m.length 5 (rcell m)) (hl : l.length ≤ 1000) (hm : m.length ≤ 1000) :
    Calls Tryd.prog 74 #[.slice A l.length c, .slice B m.length d] w fun e w' => e = .returned (.bool (decide (l = m))) ∧ Below w.heap.size w w' := by
  by_cases hlen : l.length = m.length
  case neg =>
    have hne : l ≠ m := fun e => hlen (by rw [e])
    have H := Lib.hid hne
    have h2 : ((l.length : Int) == (m.length : Int)) = false := by simp; omega
    clear hne hr hs hlen
    go_enter Tryd.func74, Tryd.ntmps74
    go_wp2
    go_ret
    exact ⟨ret_false H.out, Below.refl _ _⟩
  case pos =>
    rw [← hlen] at hs ⊢
    have HL := Lib.hid hlen
    clear hlen hm
    have HR := Lib.hid hr
    have HS := Lib.hid hs
    clear hr hs
    go_enter Tryd.func74, Tryd.ntmps74
    go_wp2
    go_loopw [5] (fun i wr => ∃ k : Nat, k ≤ l.length ∧ i = .int .i64 k ∧ Below w.heap.size w wr ∧ Hid (l.take k = m.take k)) (fun i _ => l.length - (intOf i).toNat)
    case atStart => exact ⟨0, by omega, rfl, Below.refl _ _, Lib.hid (by simp)⟩
    case round =>
      obtain ⟨k, hk, rfl, hb, htk⟩ := hrel
      by_cases hlt : k < l.length
      · obtain ⟨b, off, t, rfl, hbl, ht, e0, e1, e2, e3, e4⟩ := rest_at (HR.out.below hb) hlt
        obtain ⟨b', off', u, rfl, hbl', hu, g0, g1, g2, g3, g4⟩ := rest_at (l := m) (by rw [← HL.out]; exact HS.out.below hb) (by rw [← HL.out]; exact hlt)
        have HT := Lib.hid ht; have HU := Lib.hid hu
        have j0 : (0 : Int) ≤ (k : Int) := by omega
        have j1 : (k : Int) < (l.length : Int) := by omega
        obtain ⟨a1, a2, a3, a4, a5⟩ := t
        obtain ⟨b1, b2, b3, b4, b5⟩ := u
        dsimp only at e0 e1 e2 e3 e4 g0 g1 g2 g3 g4
        clear ht hu
        by_cases e : (⟨a1, a2, a3, a4, a5⟩ : Rest) = ⟨b1, b2, b3, b4, b5⟩
        · cases e
          go_wp2
          go_quiet (fail)
          go_wp2
          go_roundw
          case rel => exact ⟨k + 1, by omega, by go_num, below_drewN hb _, take_eq_succ htk HT.out HU.out⟩
          case measure => simp [intOf]; omega
        · have HN := Lib.hid (ne_of_at HT.out HU.out e)
          have hc : a1 ≠ b1 ∨ (a1 = b1 ∧ a2 ≠ b2) ∨ (a1 = b1 ∧ a2 = b2 ∧ a3 ≠ b3) ∨ (a1 = b1 ∧ a2 = b2 ∧ a3 = b3 ∧ a4 ≠ b4) ∨ (a1 = b1 ∧ a2 = b2 ∧ a3 = b3 ∧ a4 = b4 ∧ a5 ≠ b5) := by
            simp only [Rest.mk.injEq, not_and] at e
            omega
          clear HT HU e
          rcases hc with h | ⟨rfl, h⟩ | ⟨rfl, rfl, h⟩ | ⟨rfl, rfl, rfl, h⟩ | ⟨rfl, rfl, rfl, rfl, h⟩
          all_goals
            have hb' := beq_eq_false_iff_ne.2 h
            go_wp2
            go_quiet (fail)
            go_wp2
            go_ret
            exact ⟨ret_false HN.out, below_drewN hb _⟩
      · obtain rfl : k = l.length := by omega
        go_wp2
        go_ret
        refine ⟨ret_true ?_, hb⟩
        have := htk.out
        rwa [List.take_length, HL.out, List.take_length] at this
end Go.Proofs.YtbnjkcgkdpildaaDoor
