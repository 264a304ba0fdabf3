/- The reference's purses: the contract of Trade. -/
import Derived.Test.YtefncbdkjljbjaaDoorSTrade2
import Derived.Test.YtefncbdkjljbjaaDoorSTrade3
import Derived.Test.YtefncbdkjljbjaaDoorPurse7
namespace Go.Proofs.YtefncbdkjljbjaaDoor
set_option linter.all false
open Go Go.RowKit
theorem strade_any (S : Nat → Pur) (g : Nat) (mk tk f t p q : Int) (w : World) (hp : Pq w g S) (hs : PSound S) :
    Calls Tryd.prog 26 #[.pointer (some ⟨g, 0, none⟩), .agg #[.int .i64 mk, .int .i64 tk, .int .i64 f, .int .i64 t, .int .i64 p, .int .i64 q]] w (QPost (tradeP S f t p q) g w) := by
  unfold tradeP
  by_cases h : (inb f 1 9 && inb t 1 9 && inb p 1 10000 && inb q 1 10000) = true
  · rw [if_pos h]
    simp only [Bool.and_eq_true] at h
    obtain ⟨⟨⟨hA, hB⟩, hp1⟩, hq1⟩ := h
    obtain ⟨a, rfl, ha1, ha2⟩ := inb_nat hA
    obtain ⟨b, rfl, hb1, hb2⟩ := inb_nat hB
    simp only [Int.toNat_natCast]
    by_cases h1 : (S a).hstock < q ∨ (S b).held < p * q
    · rw [if_pos h1]
      exact strade_poor S g a b mk tk p q w hp hs ha2 hb2 hp1 hq1 hA hB h1
    · rw [if_neg h1]
      by_cases h2 : (a : Int) ≠ (b : Int) ∧ (1000000000 - p * q < (S a).cash ∨ 1000000000 - q < (S b).stock)
      · rw [if_pos h2]
        by_cases h3 : 1000000000 - p * q < (S a).cash
        · exact strade_full1 S g a b mk tk p q w hp hs ha2 hb2 (by omega) hp1 hq1 hA hB (by omega) (by omega) h3
        · exact strade_full2 S g a b mk tk p q w hp hs ha2 hb2 (by omega) hp1 hq1 hA hB (by omega) (by omega) (by omega) (by omega)
      · rw [if_neg h2]
        by_cases e : a = b
        · subst e
          exact strade_self S g a mk tk p q w hp hs ha2 hp1 hq1 hA (by omega) (by omega)
        · exact strade_far S g a b mk tk p q w hp hs ha2 hb2 e hp1 hq1 hA hB (by omega) (by omega) (by omega) (by omega)
  · rw [if_neg h]
    exact strade_range S g mk tk f t p q w hp (by simpa using h)
end Go.Proofs.YtefncbdkjljbjaaDoor
