/- The contract of pitsame.Trades. -/
import Derived.Test.YtbnjkcgkdpildaaDoorRests
import Derived.Test.YtbnjkcgkdpildaaDoorTrade
namespace Go.Proofs.YtbnjkcgkdpildaaDoor
set_option linter.all false
open Go Go.RowKit
instance : DecidableEq Trade := fun a b =>
  if h : a.maker = b.maker ∧ a.taker = b.taker ∧ a.frm = b.frm ∧ a.to = b.to ∧ a.price = b.price ∧ a.qty = b.qty then isTrue (by cases a; cases b; simp_all)
  else isFalse (fun e => h (by rw [e]; exact ⟨rfl, rfl, rfl, rfl, rfl, rfl⟩))
set_option maxHeartbeats 2000000 in
theorem trades_same (l m : List Trade) (A B : Option Addr) (c d : Nat) (w : World) (hr : Rd w w.heap.size A l.length 6 (tcell l)) (hs : Rd w w.heap.size B m.length 6 (tcell m)) (hl : l.length ≤ 100000) (hm : m.length ≤ 100000) :
    Calls Tryd.prog 17 #[.slice A l.length c, .slice B m.length d] w fun e w' => e = .returned (.bool (decide (l = m))) ∧ Below w.heap.size w w' := by
  by_cases hlen : l.length = m.length
  case neg =>
    have hne : l ≠ m := fun e => hlen (by rw [e])
    have H := Lib.hid hne
    have h2 : ((l.length : Int) == (m.length : Int)) = false := by simp; omega
    clear hne hr hs hlen
    go_enter Tryd.func17, Tryd.ntmps17
    go_wp2
    go_ret
    exact ⟨ret_false H.out, Below.refl _ _⟩
  case pos =>
    rw [← hlen] at hs ⊢
    have HL := Lib.hid hlen
    clear hlen hm
    have HR := Lib.hid hr
    have HS := Lib.hid hs
    clear hr hs
    go_enter Tryd.func17, Tryd.ntmps17
    go_wp2
    go_loopw [5] (fun i wr => ∃ k : Nat, k ≤ l.length ∧ i = .int .i64 k ∧ Below w.heap.size w wr ∧ Hid (l.take k = m.take k)) (fun i _ => l.length - (intOf i).toNat)
    case atStart => exact ⟨0, by omega, rfl, Below.refl _ _, Lib.hid (by simp)⟩
    case round =>
      obtain ⟨k, hk, rfl, hb, htk⟩ := hrel
      by_cases hlt : k < l.length
      · obtain ⟨b, off, t, rfl, hbl, ht, e0, e1, e2, e3, e4, e5⟩ := tr_at (HR.out.below hb) hlt
        obtain ⟨b', off', u, rfl, hbl', hu, g0, g1, g2, g3, g4, g5⟩ := tr_at (l := m) (by rw [← HL.out]; exact HS.out.below hb) (by rw [← HL.out]; exact hlt)
        have HT := Lib.hid ht; have HU := Lib.hid hu
        have j0 : (0 : Int) ≤ (k : Int) := by omega
        have j1 : (k : Int) < (l.length : Int) := by omega
        obtain ⟨a1, a2, a3, a4, a5, a6⟩ := t
        obtain ⟨b1, b2, b3, b4, b5, b6⟩ := u
        dsimp only at e0 e1 e2 e3 e4 e5 g0 g1 g2 g3 g4 g5
        clear ht hu
        by_cases e : (⟨a1, a2, a3, a4, a5, a6⟩ : Trade) = ⟨b1, b2, b3, b4, b5, b6⟩
        · cases e
          go_wp2
          go_quiet (fail)
          go_wp2
          go_roundw
          case rel => exact ⟨k + 1, by omega, by go_num, below_drewN hb _, take_eq_succ htk HT.out HU.out⟩
          case measure => simp [intOf]; omega
        · have HN := Lib.hid (ne_of_at HT.out HU.out e)
          have hc : a1 ≠ b1 ∨ (a1 = b1 ∧ a2 ≠ b2) ∨ (a1 = b1 ∧ a2 = b2 ∧ a3 ≠ b3) ∨ (a1 = b1 ∧ a2 = b2 ∧ a3 = b3 ∧ a4 ≠ b4) ∨ (a1 = b1 ∧ a2 = b2 ∧ a3 = b3 ∧ a4 = b4 ∧ a5 ≠ b5) ∨ (a1 = b1 ∧ a2 = b2 ∧ a3 = b3 ∧ a4 = b4 ∧ a5 = b5 ∧ a6 ≠ b6) := by
            simp only [Trade.mk.injEq, not_and] at e
            omega
          clear HT HU e
          rcases hc with h | ⟨rfl, h⟩ | ⟨rfl, rfl, h⟩ | ⟨rfl, rfl, rfl, h⟩ | ⟨rfl, rfl, rfl, rfl, h⟩ | ⟨rfl, rfl, rfl, rfl, rfl, h⟩
          all_goals
            have hb' := beq_eq_false_iff_ne.2 h
            go_wp2
            go_quiet (fail)
            go_wp2
            go_ret
            exact ⟨ret_false HN.out, below_drewN hb _⟩
      · obtain rfl : k = l.length := by omega
        go_wp2
        go_ret
        refine ⟨ret_true ?_, hb⟩
        have := htk.out
        rwa [List.take_length, HL.out, List.take_length] at this
end Go.Proofs.YtbnjkcgkdpildaaDoor
