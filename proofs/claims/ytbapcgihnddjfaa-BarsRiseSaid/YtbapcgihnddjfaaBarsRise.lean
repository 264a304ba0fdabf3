/- The walk of BarsRise: the call returns true, whatever the two numbers. -/
import Derived.Test.YtbapcgihnddjfaaBarsMk
namespace Go.Proofs.Ytbapcgihnddjfaa
open Go.RowKit
/-- trades whose prices rise by one -/
def riseT (i : Nat) : Trade := ⟨0, 0, 0, 0, 1 + i, 1⟩
def rise (n : Nat) : List Trade := (List.range n).map riseT
theorem rise_len (n : Nat) : (rise n).length = n := by simp [rise]
theorem rise_get {n i : Nat} (h : i < n) : (rise n)[i]? = some (riseT i) := by simp [rise, h]
/-- bar i of the first m of them, k each -/
def riseB (k m i : Nat) : Bar := ⟨1 + (i * k : Nat), (min ((i + 1) * k) m : Nat), 1 + (i * k : Nat), (min ((i + 1) * k) m : Nat), (min ((i + 1) * k) m : Nat) - (i * k : Nat)⟩
theorem rise_bars {n k : Nat} (hk : 1 ≤ k) : ∀ m, m ≤ n → barsTo k (rise n) m = (List.range ((m + k - 1) / k)).map (riseB k m) := by
  intro m
  induction m with
  | zero => intro _; simp [barsTo, Nat.div_eq_of_lt (show k - 1 < k by omega)]
  | succ m ih =>
    intro hm
    rw [barsTo_succ (rise_get (show m < n by omega)), ih (by omega)]
    have hdm := Nat.div_add_mod m k
    have hlt := Nat.mod_lt m (show 0 < k by omega)
    have hq2 : (m + 1 + k - 1) / k = m / k + 1 := by
      rw [show m + 1 + k - 1 = m + k by omega, Nat.add_div_right _ (by omega)]
    generalize hq : m / k = q at *
    have hcomm : k * q = q * k := Nat.mul_comm _ _
    have hother : ∀ i, i < q → riseB k m i = riseB k (m + 1) i := by
      intro i hi
      have : (i + 1) * k ≤ q * k := Nat.mul_le_mul_right _ hi
      simp only [riseB, show min ((i + 1) * k) m = (i + 1) * k by omega, show min ((i + 1) * k) (m + 1) = (i + 1) * k by omega]
    have hsucc : (q + 1) * k = q * k + k := Nat.succ_mul _ _
    rw [hcomm] at hdm
    generalize hu : q * k = u at *
    generalize hv : (q + 1) * k = v at *
    by_cases h0 : m % k = 0
    · have hq1 : (m + k - 1) / k = q := by
        rw [show m + k - 1 = q * k + (k - 1) by omega, Nat.mul_comm, Nat.mul_add_div (by omega), Nat.div_eq_of_lt (show k - 1 < k by omega)]
        rfl
      rw [addBar_new h0, hq1, hq2, List.range_succ, List.map_append, List.map_cons, List.map_nil]
      congr 1
      · exact List.map_congr_left fun i hi => hother i (List.mem_range.1 hi)
      · congr 1
        simp only [joinB, bar0, if_true, tbar, riseT, riseB, hu, hv, show min v (m + 1) = m + 1 by omega]
        simp only [Bar.mk.injEq]
        omega
    · have hq1 : (m + k - 1) / k = q + 1 := by
        rw [show m + k - 1 = k * q + (m % k - 1) + k by omega, Nat.add_div_right _ (by omega), Nat.mul_add_div (by omega), Nat.div_eq_of_lt (show m % k - 1 < k by omega)]
      rw [hq1, hq2, List.range_succ, List.map_append, List.map_cons, List.map_nil, List.map_append, List.map_cons, List.map_nil, addBar_old h0]
      congr 1
      · exact List.map_congr_left fun i hi => hother i (List.mem_range.1 hi)
      · congr 1
        simp only [joinB, tbar, riseT, riseB, hu, hv, show min v (m + 1) = m + 1 by omega, show min v m = m by omega]
        rw [if_neg (by omega)]
        simp only [Bar.mk.injEq, true_and]
        refine ⟨?_, ?_, ?_, ?_⟩ <;> omega
def Trade.vals (t : Trade) : List Value := [.int .i64 t.maker, .int .i64 t.taker, .int .i64 t.frm, .int .i64 t.to, .int .i64 t.price, .int .i64 t.qty]
theorem Trade.vals_len (t : Trade) : t.vals.length = 6 := rfl
def flatT (l : List Trade) : List Value := l.flatMap Trade.vals
theorem flatT_snoc (l : List Trade) (t : Trade) : flatT (l ++ [t]) = flatT l ++ t.vals := by simp [flatT]
theorem trade_info : (Try.prog.info? 36).map (fun i => (i.zero, i.size, i.bytes)) = some (some (.agg #[.int .i64 0, .int .i64 0, .int .i64 0, .int .i64 0, .int .i64 0, .int .i64 0]), 6, 48) := by kernel_rfl
theorem rise_snoc (n : Nat) : rise (n + 1) = rise n ++ [riseT n] := by simp [rise, List.range_succ]
/-- trades of the call's own, as Bars wants them -/
theorem Rd.trades {base c : Nat} {A : Option Addr} {w : World} {l : List Trade} (h : w.ownsRow base 36 6 (.slice A l.length c) l.length (flatT l)) : Rd w w.heap.size A l.length 6 (tcell l) := by
  refine Rd.of_own h fun i j hi hj => ?_
  have ht : l[i]? = some (l.getD i tr0) := by simp [hi]
  rw [flatT, flat_get Trade.vals_len ht hj]
  match j, hj with
  | 0, _ => rfl
  | 1, _ => rfl
  | 2, _ => rfl
  | 3, _ => rfl
  | 4, _ => rfl
  | 5, _ => rfl
theorem rise_post {m K : Nat} (h3 : 1 ≤ K) {w : World} {e : Ending} {w' : World} (h : BarsPost K (rise m) w e w') :
    ∃ v, e = .returned (.tuple #[v, .nilIface]) ∧ w'.ownsRow w.heap.size 41 5 v ((m + K - 1) / K) (flatB ((List.range ((m + K - 1) / K)).map (riseB K m))) ∧ Below w.heap.size w w' := by
  obtain ⟨v, h1, h2, h4⟩ := h
  rw [rise_len, rise_bars h3 m (Nat.le_refl m), List.length_map, List.length_range] at h2
  exact ⟨v, h1, h2, h4⟩
set_option maxHeartbeats 2000000 in
set_option maxRecDepth 100000 in
theorem barsRise_in (N K : Nat) (h1 : 1 ≤ N) (h2 : N ≤ 400) (h3 : 1 ≤ K) (h4 : K ≤ 400) (w : World) :
    Calls Try.prog 6 #[.int .i64 N, .int .i64 K] w fun e w' => e = .returned (.bool true) ∧ Below w.heap.size w w' := by
  obtain ⟨i0, hi, hz0, hz1, hz2⟩ := info_parts trade_info
  have cB := fun w A c hr h0 => bars_ok (rise N) A c K w hr h0 h3 h4
  simp only [rise_len] at cB
  go_enter Try.func6, Try.ntmps6
  go_wp2
  go_loopw [5, 6] (fun v i wr => ∃ m : Nat, m ≤ N ∧ i = .int .i64 m ∧ Below w.heap.size w wr ∧ wr.ownsRow w.heap.size 36 6 v m (flatT (rise m))) (fun _ i _ => N - (intOf i).toNat)
  case atStart => exact ⟨0, by omega, rfl, Below.refl _ _, World.ownsRow_nil _ _ _ _⟩
  case round =>
    obtain ⟨m, hm, rfl, hb, hown⟩ := hrel
    by_cases hlt : m < N
    · clear cB
      go_wp2_with (first | (at_builtin; go_loud (refine wpList_append_own _ rfl _ _ 34 rfl w.heap.size 36 i0 (.agg #[.int .i64 0, .int .i64 0, .int .i64 0, .int .i64 0, .int .i64 0, .int .i64 0]) 6 48 Try.underlying34 hi hz0 hz1 hz2 rfl (by decide) _ _ _ rfl (hown.alloc _) ⟨wr.heap.size, 0, none⟩ 1 1 [.int .i64 0, .int .i64 0, .int .i64 0, .int .i64 0, .int .i64 (1 + m), .int .i64 1] rfl rfl (news_row _ _ _ _ rfl) (by simp [Value.oneCell']) (by unfold maxLen; omega) (by omega) (by have := hb.size; simp; omega) ?_); intro v1 w2 hown1 hg1 hnil))
      go_roundw
      case rel =>
        refine ⟨m + 1, by omega, by go_num, below_grown hown hg1 (hb.alloc hb.size _), ?_⟩
        rw [rise_snoc, flatT_snoc]
        exact hown1
      case measure => simp [intOf]; omega
    · obtain rfl : m = N := by omega
      obtain ⟨g, cap, rfl⟩ : ∃ g cap, u5 = .slice (some ⟨g, 0, none⟩) m cap := by
        obtain ⟨g, cap, h, _⟩ := hown.form (by omega)
        exact ⟨g, cap, h⟩
      have hrd : Rd wr wr.heap.size (some ⟨g, 0, none⟩) m 6 (tcell (rise m)) := by
        have := Rd.trades (l := rise m) (base := w.heap.size) (w := wr) (A := some ⟨g, 0, none⟩) (c := cap) (by rw [rise_len]; exact hown)
        rwa [rise_len] at this
      have hok : trErr (rise m) = 0 := trErr_ok (by rw [rise_len]; omega) (by
        rw [List.all_eq_true]
        intro t ht
        obtain ⟨i, hi, rfl⟩ := List.mem_map.1 ht
        have := List.mem_range.1 hi
        simp only [riseT, Trade.okB, Bool.and_eq_true]
        exact ⟨vp_y (by omega), inb_y (by omega)⟩)
      have cB' := fun c => cB wr (some ⟨g, 0, none⟩) c hrd hok
      have HB := Lib.hid cB'
      clear cB cB' hok hrd
      have hM1 : 1 ≤ (m + K - 1) / K := (Nat.le_div_iff_mul_le (by omega)).2 (by omega)
      have hM2 : (m + K - 1) / K ≤ m := Nat.div_le_of_le_mul (by have := Nat.mul_le_mul h1 h3; have : K * m = K * (m - 1) + K := by rw [← Nat.mul_succ]; congr 1; omega
                                                                 have : m - 1 ≤ K * (m - 1) := Nat.le_mul_of_pos_left _ (by omega)
                                                                 omega)
      have hne : ((((m + K - 1) / K : Nat) : Int) != ((m : Int) + (K : Int) - 1) / (K : Int)) = false := by
        have : (((m + K - 1) / K : Nat) : Int) = ((m : Int) + (K : Int) - 1) / (K : Int) := by
          rw [Int.natCast_ediv]; congr 1; omega
        simp [this]
      generalize hMM : (m + K - 1) / K = M at *
      have HM := Lib.hid hMM; clear hMM
      go_wp2_with (go_at_call 19; refine (HB.out _).mono ?_; intro e w2 hp; obtain ⟨x, he, hx, hb2⟩ := rise_post h3 hp; rw [HM.out] at hx; obtain ⟨g2, cap2, hv⟩ : ∃ g cap, x = .slice (some ⟨g, 0, none⟩) M cap := by { obtain ⟨g, cap, h, _⟩ := hx.form (by omega); exact ⟨g, cap, h⟩ }; rw [he, hv]; rw [hv] at hx; clear he hv hp)
      have hbw : Below w.heap.size w w2 := hb.trans (hb2.mono hb.size)
      clear HB hown hb hb2
      go_loopw [9] (fun i w3 => ∃ q : Nat, q ≤ M ∧ i = .int .i64 q ∧ Below w2.heap.size w2 w3) (fun i _ => M - (intOf i).toNat)
      case atStart => exact ⟨0, by omega, rfl, Below.refl _ _⟩
      case round =>
        obtain ⟨q, hq, rfl, hb⟩ := hrel
        by_cases hlt : q < M
        · have hcell : ∀ j, j < 5 → wr.cell? ⟨g2, q * 5 + j, none⟩ = (riseB K m q).vals[j]? := by
            intro j hj
            have hj2 : q * 5 + j < M * 5 := by omega
            have h5 := hx.cellAt (q * 5 + j) hj2
            rw [hb.cell (p := ⟨g2, q * 5 + j, none⟩) (hx.lt g2 rfl).2, h5]
            exact flat_get Bar.vals_len (by simp [hlt]) hj
          have hqk : q * K + 1 ≤ m := by
            have h5 : (q + 1) * K ≤ M * K := Nat.mul_le_mul_right _ hlt
            have h6 : M * K ≤ m + K - 1 := by rw [← HM.out]; exact Nat.div_mul_le_self _ _
            rw [Nat.succ_mul] at h5
            omega
          have hcm : min ((q + 1) * K) m ≤ m := Nat.min_le_right _ _
          have hcl : q * K + 1 ≤ min ((q + 1) * K) m := by rw [Nat.succ_mul]; omega
          have e0 := hcell 0 (by omega); have e1 := hcell 1 (by omega); have e2 := hcell 2 (by omega); have e3 := hcell 3 (by omega); have e4 := hcell 4 (by omega)
          simp only [riseB, Bar.vals, List.getElem?_cons_zero, List.getElem?_cons_succ, Nat.add_zero, Int.natCast_mul] at e0 e1 e2 e3 e4
          have hqk' : (q : Int) * (K : Int) + 1 ≤ (m : Int) := by have := Int.ofNat_le.2 hqk; simpa using this
          have hqk0 : 0 ≤ (q : Int) * (K : Int) := Int.mul_nonneg (by omega) (by omega)
          have hcl' : (q : Int) * (K : Int) + 1 ≤ ((min ((q + 1) * K) m : Nat) : Int) := by have := Int.ofNat_le.2 hcl; simpa using this
          generalize min ((q + 1) * K) m = c at *
          have t4 : (((c : Int) - (q : Int) * (K : Int)) != (c : Int) - (1 + (q : Int) * (K : Int)) + 1) = false := by
            rw [bne_eq_false_iff_eq]; omega
          clear hcell hx hqk hcl
          have hi1 : (q : Int) < (M : Int) := by omega
          have hi0 : 0 ≤ (q : Int) := by omega
          go_wp2_with fail
          go_quiet (fail)
          go_wp2
          go_roundw
          case rel => exact ⟨q + 1, by omega, by go_num, below_drewN hb _⟩
          case measure => simp [intOf]; omega
        · go_wp2
          go_ret
          exact ⟨rfl, hbw.trans (hb.mono hbw.size)⟩
theorem barsRise_law {H : Type} {enc : TypeId × Value → H} {v0 v1 : Value} {d0 d1 : DataW H} {p0 p1 : List MemPlace} {base : Nat} {W : World}
    (h0 : Arg enc W base 3 v0 d0 p0) (h1 : Arg enc W base 3 v1 d1 p1) :
    Calls Try.prog 6 #[v0, v1] W fun e w' => e = .returned (.bool true) ∧ Below W.heap.size W w' := by
  obtain ⟨n, rfl, _⟩ := h0.int
  obtain ⟨k, rfl, _⟩ := h1.int
  have hc : n < 1 ∨ (1 ≤ n ∧ 400 < n) ∨ (1 ≤ n ∧ n ≤ 400 ∧ k < 1) ∨ (1 ≤ n ∧ n ≤ 400 ∧ 1 ≤ k ∧ 400 < k) ∨ (1 ≤ n ∧ n ≤ 400 ∧ 1 ≤ k ∧ k ≤ 400) := by omega
  rcases hc with h | ⟨h, h2⟩ | ⟨h, h2, h3⟩ | ⟨h, h2, h3, h4⟩ | ⟨h, h2, h3, h4⟩
  case inr.inr.inr.inr =>
    obtain ⟨N, rfl⟩ := Int.eq_ofNat_of_zero_le (show 0 ≤ n by omega)
    obtain ⟨K, rfl⟩ := Int.eq_ofNat_of_zero_le (show 0 ≤ k by omega)
    exact barsRise_in N K (by omega) (by omega) (by omega) (by omega) W
  all_goals
    go_enter Try.func6, Try.ntmps6
    go_wp2
    go_ret
    exact ⟨rfl, Below.refl _ _⟩
end Go.Proofs.Ytbapcgihnddjfaa
