/- The walk of TwinBack. -/
import Derived.Test.YtkdgpdijbobmkaaGreatTbPlain
import Derived.Test.YtkdgpdijbobmkaaGreatGrpS
namespace Go.Proofs.YtkdgpdijbobmkaaGreat
set_option linter.all false
open Go Go.RowKit
set_option maxRecDepth 100000 in
set_option maxHeartbeats 8000000 in
theorem tb_walk (n : Nat) (h1 : 1 ≤ n) (h2 : n ≤ 60) (w : World) : Calls Tryz.prog 8 #[.int .i64 n] w fun e w' => e = .returned (.bool true) ∧ Below w.heap.size w w' := by
  have CN := tnew_any 0 (by decide) w
  unfold TNewPost at CN
  have CN := Lib.hid CN
  have g1 : ¬ (n : Int) < 1 := by omega
  have g2 : ¬ (60 : Int) < (n : Int) := by omega
  go_enter Tryz.func8, Tryz.ntmps8
  go_upto_region 4 with (go_at_call 28; refine CN.out.mono ?_; rintro e w1 ⟨g, rfl, H1, hb1⟩)
  clear CN
  go_wp2
  go_loopw [5] (fun v wr => ∃ m : Nat, m ≤ n ∧ v = .int .i64 ((n - m : Nat) : Int) ∧ Hid (TwM wr (fun k => w.heap.size ≤ k) (fun k => k < w.heap.size) g (if m < n then tbS n m else (tbE n).2)) ∧ Below w.heap.size w wr) (fun v _ => (intOf v).toNat)
  case atStart => exact ⟨0, by omega, by simp, Lib.hid (by rw [if_pos (by omega)]; exact H1.out), hb1⟩
  case round =>
    obtain ⟨m, hm, rfl, HT, hb⟩ := hrel
    clear H1 hb1
    have hz := hb.size
    by_cases hlt : m < n
    · rw [if_pos hlt] at HT
      have hok := tbS_ok (n := n) (m := m) h2 hm (.inl hlt)
      have cH := hear_any (tbS n m) ((n - m : Nat) : Int) (tbC (n - m)) _ _ g wr HT.out hok (fun k hk => Nat.le_trans hz hk)
      unfold HearPost at cH
      rw [tb_hear h2 hlt] at cH
      dsimp only at cH
      rw [show errV 0 = Value.nilIface from rfl] at cH
      obtain ⟨i, hi⟩ : ∃ i : Int, i = ((n - m : Nat) : Int) := ⟨_, rfl⟩
      have hin : (tbC (n - m)).n = i := hi.symm
      have hi1 : 1 ≤ i ∧ i ≤ 60 := by omega
      by_cases hone : m + 1 < n
      · --<wait
        rw [tb_wait hone] at cH
        dsimp only [tbC] at cH
        rw [← hi] at cH ⊢
        have CH := Lib.hid cH
        have HI := Lib.hid hi
        have hok2 := Lib.hid (tbS_ok (n := n) (m := m + 1) h2 (by omega) (.inl hone))
        have hgt : (1 : Int) < i := by omega
        have hne : (i == 1) = false := by simp; omega
        have hge : (1 : Int) ≤ i := by omega
        obtain ⟨L, hL⟩ : ∃ L : Nat, L = m + 1 := ⟨_, rfl⟩
        have hcnt : ((L : Int) != (n : Int) - i + 1) = false := by simp; omega
        have HLL := Lib.hid hL
        clear cH hok hin hi hL
        go_upto_region 8 with (go_at_call 29; (with_reducible refine CH.out.mono ?_); rintro e w2 ⟨rfl, H2, hk2⟩)
        have hb2 := hb.trans (hk2.below_to hz (fun k h => h))
        have cW := twaits_any H2.out hok2.out
        unfold WaitsPost at cW
        rw [show (tbS n (m + 1)).W.length = L by rw [HLL.out]; exact tbW_len n (m + 1)] at cW
        have CW := Lib.hid cW
        have HB2 := Lib.hid hb2
        clear cW hk2 hb2 CH HT
        go_wp2_with (go_at_call 30; (with_reducible refine CW.out.mono ?_); rintro e w3 ⟨A3, c3, rfl, _, hb3⟩)
        go_roundw
        case rel => exact ⟨m + 1, by omega, by rw [HI.out]; congr 1; omega, Lib.hid (by rw [if_pos hone]; exact H2.out.below hb3), below_then hb3 HB2.out⟩
        case measure => simp [intOf]; omega
        -->wait
      · --<last
        have hmn : m + 1 = n := by omega
        have he := tb_end h1 h2
        rw [hmn, show drainT 61 0 (tbS n n) = tbE n from rfl] at cH
        obtain rfl : i = 1 := by omega
        dsimp only [tbC] at cH
        rw [← hi, he.1] at cH
        rw [← hi]
        have CH := Lib.hid cH
        have HMN := Lib.hid hmn
        have hnn : ((n : Int) != (n : Int)) = false := by simp
        clear cH hok hin hi hi1 he hone
        go_wp2_with (go_at_call 29; (with_reducible refine CH.out.mono ?_); rintro e w2 ⟨rfl, H2, hk2⟩)
        go_roundw
        case rel => exact ⟨m + 1, by omega, by have := HMN.out; first | (congr 1; done) | (congr 1; omega), Lib.hid (by rw [if_neg (by have := HMN.out; omega)]; exact H2.out), hb.trans (hk2.below_to hz (fun k h => h))⟩
        case measure => simp [intOf] <;> omega
        -->last
    · --<end
      obtain rfl : m = n := by omega
      rw [if_neg hlt] at HT
      rw [show ((m - m : Nat) : Int) = 0 by simp]
      obtain ⟨e1, e2, e3⟩ := tb_end h1 h2
      have cN := tnext_any HT.out
      rw [e2] at cN
      have CNX := Lib.hid cN
      have CFL := Lib.hid (tfloor_any HT.out)
      obtain ⟨P, hP⟩ : ∃ P, P = (tbE m).2.f.S 1 := ⟨_, rfl⟩
      rw [← hP] at e3
      have hget : getP (tbE m).2.f.S 1 = (0, P) := by unfold getP; rw [if_pos (by decide), hP]; rfl
      have HP := Lib.hid hget; have HC := Lib.hid e3
      have HTT := Lib.hid (fun w' (hb : Below wr.heap.size wr w') => HT.out.below hb)
      have HNX := Lib.hid (show ∀ w', Below wr.heap.size wr w' → Calls Tryz.prog 32 #[.pointer (some ⟨g, 0, none⟩)] w' fun e w2 => e = .returned (.int .i64 ((m : Int) + 1)) ∧ w' = w2 from fun w' hb => by have := tnext_any (HT.out.below hb); rw [e2] at this; exact this)
      obtain ⟨T, hT⟩ : ∃ T : Nat, T = m * (m + 1) / 2 := ⟨_, rfl⟩
      rw [← hT] at HC
      have b1 : (m : Int) * ((m : Int) + 1) = (2 * T : Nat) := by
        have h3 : m * (m + 1) % 2 = 0 := by
          rcases Nat.mod_two_eq_zero_or_one m with h | h
          · rw [Nat.mul_mod, h]; simp
          · rw [Nat.mul_mod, show (m + 1) % 2 = 0 by omega]; simp
        have h4 : m * (m + 1) = 2 * T := by omega
        rw [← h4]; simp
      have b2 : T ≤ 2000 := by
        have : m * (m + 1) ≤ 60 * 61 := Nat.mul_le_mul h2 (by omega)
        omega
      have HB := Lib.hid hb
      clear hP e1 e2 e3 hget cN CNX HT hlt hb hT HTT
      go_upto_region 11 with (first | (go_at_call 31; (with_reducible refine CFL.out.mono ?_); rintro e w9 ⟨⟨X9, g9, rfl, H9⟩, rfl⟩; have c9 := fpurse_any (tbE m).2.f X9 g9 1 _ H9.out; rw [HP.out] at c9; dsimp only at c9; rw [show errV 0 = Value.nilIface from rfl, HC.out] at c9; have C9 := Lib.hid c9; clear c9) | (go_at_call 13; (with_reducible refine C9.out.mono ?_); rintro e w10 ⟨rfl, hb10⟩))
      have q1 : (w10.alloc (.cells #[.int .i64 P.who, .int .i64 T, .int .i64 P.held, .int .i64 P.stock, .int .i64 P.hstock] 36)).cell? ⟨w10.heap.size, 1, none⟩ = some (.int .i64 T) := (Bk.new w10 36 #[.int .i64 P.who, .int .i64 T, .int .i64 P.held, .int .i64 P.stock, .int .i64 P.hstock]).cell 1
      have hba := below_then_alloc (o := .cells #[.int .i64 P.who, .int .i64 T, .int .i64 P.held, .int .i64 P.stock, .int .i64 P.hstock] 36) hb10
      have CNX := Lib.hid (HNX.out _ hba)
      have HBF := Lib.hid (below_then hba HB.out)
      clear hba hb10 C9 CFL HNX HB
      generalize w10.alloc (.cells #[.int .i64 P.who, .int .i64 T, .int .i64 P.held, .int .i64 P.stock, .int .i64 P.hstock] 36) = w11 at *
      have b3 : Int.tdiv ((m : Int) * ((m : Int) + 1)) 2 = (T : Int) := by rw [b1, Int.tdiv_eq_ediv_of_nonneg (by omega)]; omega
      have b4 : 0 ≤ (m : Int) * ((m : Int) + 1) := by rw [b1]; omega
      have b5 : (m : Int) * ((m : Int) + 1) ≤ 4000 := by rw [b1]; omega
      clear b1
      go_wp2_with (go_at_call 32; (with_reducible refine CNX.out.mono ?_); rintro e w12 ⟨rfl, rfl⟩)
      go_ret
      exact ⟨by simp, HBF.out⟩
      -->end
theorem twinBack_law {H : Type} {enc : TypeId × Value → H} {v0 : Value} {d0 : DataW H} {p0 : List MemPlace} {base : Nat} {W : World}
    (h0 : Arg enc W base 3 v0 d0 p0) :
    Calls Tryz.prog 8 #[v0] W fun e w' => e = .returned (.bool true) ∧ Below W.heap.size W w' := by
  obtain ⟨n, rfl, _⟩ := h0.int
  clear h0
  rcases (show n < 1 ∨ (1 ≤ n ∧ 60 < n) ∨ (1 ≤ n ∧ n ≤ 60) by omega) with h | ⟨a, h⟩ | ⟨a, h⟩
  case inr.inr =>
    obtain ⟨k, rfl⟩ : ∃ k : Nat, n = k := ⟨n.toNat, by omega⟩
    exact tb_walk k (by omega) (by omega) W
  all_goals
    have CN := tnew_any 0 (by decide) W
    unfold TNewPost at CN
    have CN := Lib.hid CN
    go_enter Tryz.func8, Tryz.ntmps8
    go_wp2_with (go_at_call 28; refine CN.out.mono ?_; rintro e w1 ⟨g, rfl, H1, hb1⟩)
    go_ret
    exact ⟨rfl, hb1⟩
end Go.Proofs.YtkdgpdijbobmkaaGreat

