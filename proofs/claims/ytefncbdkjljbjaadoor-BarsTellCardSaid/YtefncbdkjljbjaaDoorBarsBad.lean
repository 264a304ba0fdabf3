/- The contracts of bars.Bars, Mean, Range, whatever comes. -/
import Derived.Test.YtefncbdkjljbjaaDoorBarsMk
import Derived.Test.YtefncbdkjljbjaaDoorBarsMean
import Derived.Test.YtefncbdkjljbjaaDoorBarsMore
import Derived.Test.YtefncbdkjljbjaaDoorBarsJoinC
namespace Go.Proofs.YtefncbdkjljbjaaDoor
set_option linter.all false
open Go Go.RowKit
def barsE (l : List Trade) (n : Int) : Int := if trErr l ≠ 0 then trErr l else if n < 1 ∨ 400 < n then 1 else 0
def barsL (l : List Trade) (n : Int) : List Bar := if barsE l n = 0 then barsTo n.toNat l l.length else []
/-- a slice of bars, and the fault -/
def BarsE (L : List Bar) (E : Int) (w : World) (e : Ending) (w' : World) : Prop := ∃ A' c', e = .returned (.tuple #[.slice A' L.length c', errV E]) ∧ Rd w' w'.heap.size A' L.length 5 (bcellv L) ∧ Below w.heap.size w w'
theorem bars_bad (l : List Trade) (A : Option Addr) (c : Nat) (n : Int) (w : World) (hr : Rd w w.heap.size A l.length 6 (tcell l)) (h : barsE l n ≠ 0) :
    Calls Tryd.prog 19 #[.slice A l.length c, .int .i64 n] w fun e w' => e = .returned (.tuple #[.slice none 0 0, er (barsE l n)]) ∧ Below w.heap.size w w' := by
  have cC := bars_check_any l A c w hr
  by_cases h0 : trErr l = 0
  · rw [h0, show errV 0 = .nilIface from rfl] at cC
    have hn : n < 1 ∨ 400 < n := by
      rw [barsE, if_neg (by simpa using h0)] at h
      by_cases hn : n < 1 ∨ 400 < n
      · exact hn
      · rw [if_neg hn] at h; omega
    rw [show barsE l n = 1 by rw [barsE, if_neg (by simpa using h0), if_pos hn]]
    clear h h0 hr
    rcases (show n < 1 ∨ (1 ≤ n ∧ 400 < n) by omega) with a | ⟨a, b⟩
    all_goals
      go_enter Tryd.func19, Tryd.ntmps19
      go_wp2_with (go_at_call 65; refine cC.mono ?_; rintro e w1 ⟨rfl, hb1⟩)
      go_ret2
      exact ⟨rfl, hb1⟩
  · rw [show barsE l n = trErr l by rw [barsE, if_pos h0]]
    rw [show errV (trErr l) = er (trErr l) by simp [errV, h0]] at cC
    clear h h0 hr
    generalize trErr l = E at *
    go_enter Tryd.func19, Tryd.ntmps19
    go_wp2_with (go_at_call 65; refine cC.mono ?_; rintro e w1 ⟨rfl, hb1⟩)
    go_ret2
    exact ⟨rfl, hb1⟩
theorem own_slice {w : World} {base n s : Nat} {e : TypeId} {v : Value} {xs : List Value} (h : w.ownsRow base e s v n xs) : ∃ A c, v = .slice A n c := by
  rcases h.2 with ⟨hv, hn⟩ | ⟨b, cap, cur, hv, _⟩
  · subst hn; exact ⟨none, 0, hv⟩
  · exact ⟨_, cap, hv⟩
theorem bars_all (l : List Trade) (A : Option Addr) (c : Nat) (n : Int) (w : World) (hr : Rd w w.heap.size A l.length 6 (tcell l)) :
    Calls Tryd.prog 19 #[.slice A l.length c, .int .i64 n] w (BarsE (barsL l n) (barsE l n) w) := by
  by_cases h : barsE l n = 0
  · have h0 : trErr l = 0 := by
      by_cases h0 : trErr l = 0
      · exact h0
      · rw [barsE, if_pos h0] at h; exact absurd h h0
    have hn : 1 ≤ n ∧ n ≤ 400 := by
      rw [barsE, if_neg (by simpa using h0)] at h
      by_cases hn : n < 1 ∨ 400 < n
      · rw [if_pos hn] at h; omega
      · omega
    obtain ⟨m, rfl⟩ := Int.eq_ofNat_of_zero_le (show 0 ≤ n by omega)
    refine (bars_ok l A c m w hr h0 (by omega) (by omega)).mono ?_
    rintro e w' ⟨v, he, ho, hb⟩
    obtain ⟨A', c', rfl⟩ := own_slice ho
    rw [barsL, if_pos h, h, Int.toNat_natCast]
    exact ⟨A', c', he, Rd.bars ho, hb⟩
  · refine (bars_bad l A c n w hr h).mono ?_
    rintro e w' ⟨he, hb⟩
    rw [barsL, if_neg h]
    exact ⟨none, 0, by rw [he, errV, if_neg h]; rfl, Rd.nil, hb⟩
def meanV (l : List Trade) : Int := if someErr l = 0 then worth l / qtys l else 0
def lowV (l : List Trade) : Int := if someErr l = 0 then lowOf l else 0
def highV (l : List Trade) : Int := if someErr l = 0 then highOf l else 0
theorem mean_all (l : List Trade) (A : Option Addr) (c : Nat) (w : World) (hr : Rd w w.heap.size A l.length 6 (tcell l)) :
    Calls Tryd.prog 20 #[.slice A l.length c] w fun e w' => e = .returned (.tuple #[.int .i64 (meanV l), errV (someErr l)]) ∧ Below w.heap.size w w' := by
  by_cases h : someErr l = 0
  · rw [meanV, if_pos h, h]
    exact mean_ok l A c w hr h
  · have cS := some_any l A c w hr
    rw [meanV, if_neg h]
    rw [show errV (someErr l) = er (someErr l) by simp [errV, h]] at cS ⊢
    clear h hr
    generalize someErr l = E at *
    go_enter Tryd.func20, Tryd.ntmps20
    go_wp2_with (go_at_call 67; refine cS.mono ?_; rintro e w1 ⟨rfl, hb1⟩)
    go_ret2
    exact ⟨rfl, hb1⟩
theorem range_all (l : List Trade) (A : Option Addr) (c : Nat) (w : World) (hr : Rd w w.heap.size A l.length 6 (tcell l)) :
    Calls Tryd.prog 21 #[.slice A l.length c] w fun e w' => e = .returned (.tuple #[.int .i64 (lowV l), .int .i64 (highV l), errV (someErr l)]) ∧ Below w.heap.size w w' := by
  by_cases h : someErr l = 0
  · rw [lowV, highV, if_pos h, if_pos h, h]
    exact range_ok l A c w hr h
  · have cS := some_any l A c w hr
    rw [lowV, highV, if_neg h, if_neg h]
    rw [show errV (someErr l) = er (someErr l) by simp [errV, h]] at cS ⊢
    clear h hr
    generalize someErr l = E at *
    go_enter Tryd.func21, Tryd.ntmps21
    go_wp2_with (go_at_call 67; refine cS.mono ?_; rintro e w1 ⟨rfl, hb1⟩)
    go_ret3
    exact ⟨rfl, hb1⟩
end Go.Proofs.YtefncbdkjljbjaaDoor
