/- The contract of Total. -/
import Derived.Test.YtefncbdkjljbjaaDoorPurse2
namespace Go.Proofs.YtefncbdkjljbjaaDoor
set_option linter.all false
open Go Go.RowKit
theorem run_index_purse {w : World} {cs : Array Value} {S : Nat → Pur} (h1 : cs.size = 50) (h3 : ∀ k j, k < 10 → j < 5 → cs[k * 5 + j]? = some ((S k).cell j)) {k : Nat} (hk : k < 10) :
    (Instr.index 53 (.agg cs) (.int .i64 k)).run Tryd.prog w = .ok (.agg #[.int .i64 (S k).who, .int .i64 (S k).cash, .int .i64 (S k).held, .int .i64 (S k).stock, .int .i64 (S k).hstock]) w := by
  have hz : (sizeOf 30).run Tryd.prog w = .ok 5 w := by kernel_rfl
  have hr : (0 : Int) ≤ (k : Int) ∧ (k : Int) < 10 := by omega
  have he : cs.extract (k * 5) (k * 5 + 5) = #[.int .i64 (S k).who, .int .i64 (S k).cash, .int .i64 (S k).held, .int .i64 (S k).stock, .int .i64 (S k).hstock] := by
    refine Array.ext_getElem? fun i => ?_
    rw [Array.getElem?_extract]
    by_cases hi : i < 5
    · rw [if_pos (by omega), h3 k i hk hi]
      match i, hi with
      | 0, _ => rfl
      | 1, _ => rfl
      | 2, _ => rfl
      | 3, _ => rfl
      | 4, _ => rfl
    · rw [if_neg (by omega), Array.getElem?_eq_none (by simp; omega)]
  simp [Instr.index, run_underlying Tryd.underlying53, asIntOf, part, hz, hk, he]
set_option maxHeartbeats 2000000 in
theorem total_any' (S : Nat → Pur) (g : Nat) (w : World) (hp : Pm w g S) (hs : PSound S) :
    Calls Tryd.prog 29 #[.pointer (some ⟨g, 0, none⟩)] w fun e w' => e = .returned (.tuple #[.int .i64 (cashOf S 10), .int .i64 (stockOf S 10)]) ∧ Below w.heap.size w w' := by
  obtain ⟨cs, h1, h2, h3⟩ := hp
  have hx := fun (w : World) (k : Nat) (hk : k < 10) => run_index_purse (w := w) h1 h3 hk
  have HS := Lib.hid hs
  have HX := Lib.hid hx
  have H2 := Lib.hid h2
  have H1 := Lib.hid h1
  clear hx hs h3 h2 h1
  go_enter Tryd.func29, Tryd.ntmps29
  go_wp2_with (refine wpList_load_row rfl 53 _ rfl g rfl 121 cs (0, 0) _ H2.out Tryd.underlying53 rfl (by rw [H1.out]; kernel_rfl) ?_)
  clear H1 H2
  go_loopw [4, 5, 12] (fun c s i wr => ∃ k : Nat, k ≤ 10 ∧ i = .int .i64 k ∧ c = .int .i64 (cashOf S k) ∧ s = .int .i64 (stockOf S k) ∧ Below w.heap.size w wr) (fun _ _ i _ => 10 - (intOf i).toNat)
  case atStart => exact ⟨0, by omega, rfl, rfl, rfl, Below.refl _ _⟩
  case round =>
    obtain ⟨k, hk, rfl, rfl, rfl, hb⟩ := hrel
    by_cases hlt : k < 10
    · have hx := fun w => HX.out w k hlt
      obtain ⟨b1, b2, b3, b4⟩ := sums_bounds HS.out k hk
      obtain ⟨h1, h2, h3, h4, h5, h6⟩ := HS.out k hlt
      have i0 : (0 : Int) ≤ (k : Int) := by omega
      have i1 : (k : Int) < 10 := by omega
      have HC := Lib.hid (cashOf_succ S k)
      have HT := Lib.hid (stockOf_succ S k)
      generalize cashOf S k = C at *
      generalize stockOf S k = T at *
      generalize S k = p at *
      go_wp2
      go_roundw
      case rel => exact ⟨k + 1, by omega, by go_num, by rw [HC.out], by rw [HT.out], hb.alloc hb.size _⟩
      case measure => simp [intOf]; omega
    · obtain rfl : k = 10 := by omega
      go_wp2
      go_ret2
      exact ⟨rfl, hb⟩
end Go.Proofs.YtefncbdkjljbjaaDoor
