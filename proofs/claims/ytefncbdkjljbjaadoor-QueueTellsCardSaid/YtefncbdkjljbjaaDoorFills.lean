/- The contract of pitsame.Fills. -/
import Derived.Test.YtefncbdkjljbjaaDoorTake3
import Derived.Test.YtefncbdkjljbjaaDoorRests
namespace Go.Proofs.YtefncbdkjljbjaaDoor
set_option linter.all false
open Go Go.RowKit
def fill0 : Fill := ⟨0, 0, 0⟩
/-- cell j of fill i -/
def fcell (l : List Fill) (i j : Nat) : Value := ((l.getD i fill0).vals)[j]?.getD undef
theorem frows_get {l : List Fill} {i j : Nat} (hi : i < l.length) (hj : j < 3) : (frows l)[i * 3 + j]? = some (fcell l i j) := by
  rw [frows, flat_get (f := Fill.vals) (s := 3) (fun _ => rfl) (List.getElem?_eq_getElem hi) hj]
  have hg : l.getD i fill0 = l[i] := by simp [hi]
  simp only [fcell, hg]
  rw [List.getElem?_eq_getElem (by exact hj)]
  rfl
theorem fill_rd {l : List Fill} {w : World} {B k : Nat} {A : Option Addr} (hr : Rd w B A l.length 3 (fcell l)) (hk : k < l.length) :
    ∃ b off t, A = some ⟨b, off, none⟩ ∧ b < B ∧ l[k]? = some t ∧ w.cell? ⟨b, off + k * 3, none⟩ = some (.int .i64 t.id) ∧ w.cell? ⟨b, off + k * 3 + 1, none⟩ = some (.int .i64 t.who) ∧ w.cell? ⟨b, off + k * 3 + 2, none⟩ = some (.int .i64 t.qty) := by
  obtain ⟨b, off, e, hb, hc⟩ := hr (by omega)
  have hg : l.getD k fill0 = l[k] := by simp [hk]
  have h := hc k hk
  have h0 := h 0 (by omega); have h1 := h 1 (by omega); have h2 := h 2 (by omega)
  simp only [fcell, hg, Fill.vals] at h0 h1 h2
  exact ⟨b, off, l[k], e, hb, List.getElem?_eq_getElem hk, h0, h1, h2⟩
set_option maxHeartbeats 2000000 in
theorem fills_any (l m : List Fill) (A B : Option Addr) (c d : Nat) (w : World) (hr : Rd w w.heap.size A l.length 3 (fcell l)) (hs : Rd w w.heap.size B m.length 3 (fcell m)) (hl : l.length ≤ 100000) (hm : m.length ≤ 100000) :
    Calls Tryd.prog 51 #[.slice A l.length c, .slice B m.length d] w fun e w' => e = .returned (.bool (decide (l = m))) ∧ Below w.heap.size w w' := by
  by_cases hlen : l.length = m.length
  case neg =>
    have hne : l ≠ m := fun e => hlen (by rw [e])
    have H := Lib.hid hne
    have h2 : ((l.length : Int) == (m.length : Int)) = false := by simp; omega
    clear hne hr hs hlen
    go_enter Tryd.func51, Tryd.ntmps51
    go_wp2
    go_ret
    exact ⟨ret_false H.out, Below.refl _ _⟩
  case pos =>
    rw [← hlen] at hs ⊢
    have HL := Lib.hid hlen
    clear hlen hm
    have HR := Lib.hid hr
    have HS := Lib.hid hs
    clear hr hs
    go_enter Tryd.func51, Tryd.ntmps51
    go_wp2
    go_loopw [5] (fun i wr => ∃ k : Nat, k ≤ l.length ∧ i = .int .i64 k ∧ Below w.heap.size w wr ∧ Hid (l.take k = m.take k)) (fun i _ => l.length - (intOf i).toNat)
    case atStart => exact ⟨0, by omega, rfl, Below.refl _ _, Lib.hid (by simp)⟩
    case round =>
      obtain ⟨k, hk, rfl, hb, htk⟩ := hrel
      by_cases hlt : k < l.length
      · obtain ⟨b, off, t, rfl, hbl, ht, e0, e1, e2⟩ := fill_rd (HR.out.below hb) hlt
        obtain ⟨b', off', u, rfl, hbl', hu, g0, g1, g2⟩ := fill_rd (l := m) (by rw [← HL.out]; exact HS.out.below hb) (by rw [← HL.out]; exact hlt)
        have HT := Lib.hid ht; have HU := Lib.hid hu
        have j0 : (0 : Int) ≤ (k : Int) := by omega
        have j1 : (k : Int) < (l.length : Int) := by omega
        obtain ⟨a1, a2, a3⟩ := t
        obtain ⟨b1, b2, b3⟩ := u
        dsimp only at e0 e1 e2 g0 g1 g2
        clear ht hu
        by_cases e : (⟨a1, a2, a3⟩ : Fill) = ⟨b1, b2, b3⟩
        · cases e
          go_wp2
          go_quiet (fail)
          go_wp2
          go_roundw
          case rel => exact ⟨k + 1, by omega, by go_num, below_drewN hb _, take_eq_succ htk HT.out HU.out⟩
          case measure => simp [intOf]; omega
        · have HN := Lib.hid (ne_of_at HT.out HU.out e)
          have hc : a1 ≠ b1 ∨ (a1 = b1 ∧ a2 ≠ b2) ∨ (a1 = b1 ∧ a2 = b2 ∧ a3 ≠ b3) := by
            simp only [Fill.mk.injEq, not_and] at e
            omega
          clear HT HU e
          rcases hc with h | ⟨rfl, h⟩ | ⟨rfl, rfl, h⟩
          all_goals
            have hb' := beq_eq_false_iff_ne.2 h
            go_wp2
            go_quiet (fail)
            go_wp2
            go_ret
            exact ⟨ret_false HN.out, below_drewN hb _⟩
      · obtain rfl : k = l.length := by omega
        go_wp2
        go_ret
        refine ⟨ret_true ?_, hb⟩
        have := htk.out
        rwa [List.take_length, HL.out, List.take_length] at this
end Go.Proofs.YtefncbdkjljbjaaDoor
