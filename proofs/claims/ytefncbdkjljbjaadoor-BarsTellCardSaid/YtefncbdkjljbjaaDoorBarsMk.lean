/- The contract of bars.Bars. -/
import Derived.Test.YtefncbdkjljbjaaDoorBars
import Derived.Test.YtefncbdkjljbjaaDoorRegion
import Derived.Deep.DeepFit
namespace Go.Proofs.YtefncbdkjljbjaaDoor
set_option linter.all false
open Go.RowKit
def Bar.vals (b : Bar) : List Value := [.int .i64 b.o, .int .i64 b.h, .int .i64 b.l, .int .i64 b.c, .int .i64 b.q]
theorem Bar.vals_len (b : Bar) : b.vals.length = 5 := rfl
def flatB (l : List Bar) : List Value := l.flatMap Bar.vals
theorem flatB_len (l : List Bar) : (flatB l).length = l.length * 5 := flat_len Bar.vals_len l
theorem flatB_snoc (l : List Bar) (b : Bar) : flatB (l ++ [b]) = flatB l ++ b.vals := by simp [flatB]
/-- the list's last bar, with one trade more -/
def lastJoin (L : List Bar) (t : Trade) : List Bar :=
  match L.getLast? with
  | none => []
  | some b => L.dropLast ++ [joinB b (tbar t)]
def addBar (n k : Nat) (L : List Bar) (t : Trade) : List Bar := lastJoin (if k % n = 0 then L ++ [bar0] else L) t
/-- bars of n trades each, of the first k -/
def barsTo (n : Nat) (l : List Trade) : Nat → List Bar
  | 0 => []
  | k + 1 => match l[k]? with
    | none => barsTo n l k
    | some t => addBar n k (barsTo n l k) t
theorem barsTo_succ {n k : Nat} {l : List Trade} {t : Trade} (h : l[k]? = some t) : barsTo n l (k + 1) = addBar n k (barsTo n l k) t := by
  simp [barsTo, h]
theorem lastJoin_len (L : List Bar) (t : Trade) : (lastJoin L t).length = L.length := by
  unfold lastJoin
  cases h : L.getLast? with
  | none => rw [List.getLast?_eq_none_iff] at h; subst h; rfl
  | some b =>
    have : L ≠ [] := by rintro rfl; simp at h
    have : 0 < L.length := List.length_pos_iff.2 this
    simp; omega
theorem barsTo_le (n : Nat) (l : List Trade) (k : Nat) : (barsTo n l k).length ≤ k := by
  induction k with
  | zero => simp [barsTo]
  | succ k ih =>
    unfold barsTo
    cases l[k]? with
    | none => simp only []; omega
    | some t =>
      simp only [addBar, lastJoin_len]
      split
      · simp; omega
      · omega
theorem addBar_new {n k : Nat} {L : List Bar} {t : Trade} (hm : k % n = 0) : addBar n k L t = L ++ [joinB bar0 (tbar t)] := by
  simp [addBar, lastJoin, hm]
theorem addBar_old {n k : Nat} {L : List Bar} {b : Bar} {t : Trade} (hm : k % n ≠ 0) : addBar n k (L ++ [b]) t = L ++ [joinB b (tbar t)] := by
  simp [addBar, lastJoin, hm]
theorem barsTo_ne {n k : Nat} {l : List Trade} (hk : k < l.length) : barsTo n l (k + 1) ≠ [] := by
  obtain ⟨t, ht⟩ : ∃ t, l[k]? = some t := ⟨_, List.getElem?_eq_getElem hk⟩
  rw [barsTo_succ ht]
  intro h
  have h2 : (addBar n k (barsTo n l k) t).length = 0 := by rw [h]; rfl
  simp only [addBar, lastJoin_len] at h2
  by_cases hm : k % n = 0
  · simp [hm] at h2
  · simp [hm] at h2
    cases k with
    | zero => simp at hm
    | succ k => exact barsTo_ne (n := n) (l := l) (k := k) (by omega) h2
theorem barsTo_q {n : Nat} {l : List Trade} (hok : ∀ t ∈ l, 1 ≤ t.qty ∧ t.qty ≤ 10000) : ∀ k, ∀ b ∈ barsTo n l k, 0 ≤ b.q ∧ b.q ≤ 10000 * k := by
  intro k
  induction k with
  | zero => simp [barsTo]
  | succ k ih =>
    intro b hb
    unfold barsTo at hb
    cases ht : l[k]? with
    | none =>
      rw [ht] at hb
      have := ih b hb
      omega
    | some t =>
      rw [ht] at hb
      have hq := hok t (List.mem_of_getElem? ht)
      simp only [addBar, lastJoin] at hb
      generalize hL : (if k % n = 0 then barsTo n l k ++ [bar0] else barsTo n l k) = L at hb
      have hin : ∀ b ∈ L, 0 ≤ b.q ∧ b.q ≤ 10000 * k := by
        intro b hb
        rw [← hL] at hb
        split at hb
        · rcases List.mem_append.1 hb with h | h
          · exact ih b h
          · simp at h; subst h; simp [bar0]; omega
        · exact ih b hb
      cases hg : L.getLast? with
      | none => rw [hg] at hb; simp at hb
      | some c =>
        rw [hg] at hb
        have hc := hin c (List.mem_of_getLast? hg)
        rcases List.mem_append.1 hb with h | h
        · have := hin b (List.dropLast_subset L h); omega
        · simp at h; subst h
          unfold joinB tbar
          split
          · simp only []; omega
          · simp only []; omega
theorem bar_info : (Tryd.prog.info? 38).map (fun i => (i.zero, i.size, i.bytes)) = some (some (.agg #[.int .i64 0, .int .i64 0, .int .i64 0, .int .i64 0, .int .i64 0]), 5, 40) := by kernel_rfl
/-- how Bars ends -/
def BarsPost (n : Nat) (l : List Trade) (w : World) (e : Ending) (w' : World) : Prop :=
  ∃ v, e = .returned (.tuple #[v, .nilIface]) ∧ w'.ownsRow w.heap.size 38 5 v (barsTo n l l.length).length (flatB (barsTo n l l.length)) ∧ Below w.heap.size w w'
set_option maxHeartbeats 1000000 in
set_option maxRecDepth 100000 in
theorem bars_ok (l : List Trade) (A : Option Addr) (c n : Nat) (w : World) (hr : Rd w w.heap.size A l.length 6 (tcell l)) (h0 : trErr l = 0) (h1 : 1 ≤ n) (h2 : n ≤ 400) :
    Calls Tryd.prog 19 #[.slice A l.length c, .int .i64 n] w (BarsPost n l w) := by
  have cC := fun w hr => bars_check_any l A c w hr
  simp only [h0, show errV 0 = .nilIface from rfl] at cC
  have hl : l.length ≤ 400 := by
    unfold trErr at h0
    split at h0 <;> omega
  have hok : l.all Trade.okB = true := by
    cases h : l.all Trade.okB
    · simp [trErr, h] at h0; omega
    · rfl
  have HOK := Lib.hid hok; clear hok h0
  obtain ⟨i0, hi, hz0, hz1, hz2⟩ := info_parts bar_info
  go_enter Tryd.func19, Tryd.ntmps19
  go_wp2_with (go_at_call 65; refine (cC _ hr).mono ?_; rintro e w1 ⟨rfl, hb1⟩)
  go_loopw [7, 25] (fun v i wr => ∃ k : Nat, k ≤ l.length ∧ i = .int .i64 k ∧ Below w.heap.size w wr ∧ wr.ownsRow w.heap.size 38 5 v (barsTo n l k).length (flatB (barsTo n l k))) (fun _ i _ => l.length - (intOf i).toNat)
  case atStart => exact ⟨0, by omega, rfl, hb1, World.ownsRow_nil _ _ _ _⟩
  case round =>
    obtain ⟨k, hk, rfl, hb, hown⟩ := hrel
    have hle := barsTo_le n l k
    by_cases hlt : k < l.length
    · obtain ⟨b, off, t, rfl, hbl, ht, e0, e1, e2, e3, e4, e5⟩ := tr_at (hr.below hb) hlt
      have htok := List.all_eq_true.1 HOK.out t (List.mem_of_getElem? ht)
      have hq : 1 ≤ t.qty ∧ t.qty ≤ 10000 := by
        simp only [Trade.okB, Bool.and_eq_true] at htok
        exact inb_t htok.2
      have hq0 : 0 ≤ (tbar t).q := by simp only [tbar]; omega
      have hq1 : (tbar t).q ≤ 4000000000 := by simp only [tbar]; omega
      clear htok
      have HT := Lib.hid ht; clear ht hr cC
      by_cases hm : k % n = 0
      · have hd : (((k : Int) % (n : Int)) == 0) = true := by simp; omega
        go_wp2_with (first | (at_builtin; go_loud (refine wpList_append_own _ rfl _ _ 35 rfl w.heap.size 38 i0 (.agg #[.int .i64 0, .int .i64 0, .int .i64 0, .int .i64 0, .int .i64 0]) 5 40 Tryd.underlying35 hi hz0 hz1 hz2 rfl (by decide) _ _ _ rfl (hown.alloc _ |>.alloc _) ⟨wr.heap.size + 1, 0, none⟩ 1 1 [.int .i64 0, .int .i64 0, .int .i64 0, .int .i64 0, .int .i64 0] rfl rfl (news_row _ _ _ _ (by simp)) (by simp [Value.oneCell']) (by unfold maxLen; omega) (by omega) (by have := hb.size; simp; omega) ?_); intro v1 w2 hown1 hg1 hnil; have f4 := (cell_behind (p := ⟨wr.heap.size, 4, none⟩) hown hg1 (Nat.le_refl _) (by simp; omega)); have f5 := (cell_behind (p := ⟨wr.heap.size, 5, none⟩) hown hg1 (Nat.le_refl _) (by simp; omega)); simp [go_sem] at f4 f5; obtain ⟨g, cap, hv⟩ := own_shape hown1; rw [hv]; rw [hv] at hown1; clear hv))
        have q0 := hown1.cellAt ((barsTo n l k).length * 5) (by omega)
        have q1 := hown1.cellAt ((barsTo n l k).length * 5 + 1) (by omega)
        have q2 := hown1.cellAt ((barsTo n l k).length * 5 + 2) (by omega)
        have q3 := hown1.cellAt ((barsTo n l k).length * 5 + 3) (by omega)
        have q4 := hown1.cellAt ((barsTo n l k).length * 5 + 4) (by omega)
        have hfl := flatB_len (barsTo n l k)
        simp [hfl] at q0 q1 q2 q3 q4
        have hb2 := below_grown hown hg1 (hb.alloc hb.size _ |>.alloc (by have := hb.size; simp; omega) _)

        have cJ := fun d os => Calls.regrown_of (w := w2) (d := d) (os := os) (join_any bar0 (tbar t) _ (by decide) (by decide) hq0 hq1)
        simp only [tbar, bar0] at cJ
        have k0 := cell_regrown q0
        have k1 := cell_regrown q1
        have k2 := cell_regrown q2
        have k3 := cell_regrown q3
        have k4 := cell_regrown q4
        have k5 := cell_regrown f4
        have k6 := cell_regrown f5
        (refine wp_region_head_below 16 (by kernel_rfl) (by kernel_rfl) ?_; simp only [List.take_succ_cons, List.take_zero, List.drop_succ_cons, List.drop_zero])
        repeat (quiet_step (exact cJ _ _))
        refine wpQuiet_nil ?_
        intro w3 hw3
        have hb3 : Below w2.heap.size w2 w3 := by obtain ⟨p, rfl⟩ := hw3; exact below_regrown _ _ _
        clear hw3 k0 k1 k2 k3 k4 k5 k6 cJ
        have hown3 := own_below hown1 hb3
        have hbb := hb2.trans (hb3.mono hb2.size)
        have s0 := (hb3.cell (p := ⟨g, (barsTo n l k).length * 5, none⟩) (World.block_lt_of_cell? w2 _ q0)).trans q0
        have s1 := (hb3.cell (p := ⟨g, (barsTo n l k).length * 5 + 1, none⟩) (World.block_lt_of_cell? w2 _ q1)).trans q1
        have s2 := (hb3.cell (p := ⟨g, (barsTo n l k).length * 5 + 2, none⟩) (World.block_lt_of_cell? w2 _ q2)).trans q2
        have s3 := (hb3.cell (p := ⟨g, (barsTo n l k).length * 5 + 3, none⟩) (World.block_lt_of_cell? w2 _ q3)).trans q3
        have s4 := (hb3.cell (p := ⟨g, (barsTo n l k).length * 5 + 4, none⟩) (World.block_lt_of_cell? w2 _ q4)).trans q4
        have z0 := hown3.frozenAt ((barsTo n l k).length * 5)
        have z1 := hown3.frozenAt ((barsTo n l k).length * 5 + 1)
        have z2 := hown3.frozenAt ((barsTo n l k).length * 5 + 2)
        have z3 := hown3.frozenAt ((barsTo n l k).length * 5 + 3)
        have z4 := hown3.frozenAt ((barsTo n l k).length * 5 + 4)
        go_wp2
        have hst := own_store5 hown3 (flatB_len _) (.int .i64 (joinB bar0 (tbar t)).o) (.int .i64 (joinB bar0 (tbar t)).h) (.int .i64 (joinB bar0 (tbar t)).l) (.int .i64 (joinB bar0 (tbar t)).c) (.int .i64 (joinB bar0 (tbar t)).q)
        have hgb : w.heap.size ≤ g := (hown3.lt g rfl).1
        go_roundw
        case rel =>
          refine ⟨k + 1, by omega, by go_num, hbb.grown hst.2 hbb.size (fun _ hk => by cases hk; exact hgb), ?_⟩
          rw [barsTo_succ HT.out, addBar_new hm, flatB_snoc, List.length_append]
          exact hst.1
        case measure => simp [intOf]; omega
      · have hd : (((k : Int) % (n : Int)) == 0) = false := by simp; omega
        obtain ⟨pre, last, hL⟩ : ∃ pre last, barsTo n l k = pre ++ [last] := by
          cases k with
          | zero => simp at hm
          | succ k => exact ⟨_, _, (List.dropLast_concat_getLast (barsTo_ne (by omega))).symm⟩
        have hlq := barsTo_q (n := n) (l := l) (fun t ht => by
          have := List.all_eq_true.1 HOK.out t ht
          simp only [Trade.okB, Bool.and_eq_true] at this
          exact inb_t this.2) k last (by rw [hL]; simp)
        have hr0 : 0 ≤ last.q := hlq.1
        have hr1 : last.q ≤ 4000000000 := by omega
        clear hlq
        rw [hL] at hown hle
        rw [List.length_append, flatB_snoc] at hown
        simp only [List.length_append, List.length_cons, List.length_nil, Nat.zero_add] at hown hle
        have HL := Lib.hid hL; clear hL
        obtain ⟨g, cap, rfl⟩ := own_shape hown
        go_wp2_with fail
        have hown1 := hown.alloc (.cells #[.int .i64 t.maker, .int .i64 t.taker, .int .i64 t.frm, .int .i64 t.to, .int .i64 t.price, .int .i64 t.qty] 43)
        have hb2 := hb.alloc hb.size (.cells #[.int .i64 t.maker, .int .i64 t.taker, .int .i64 t.frm, .int .i64 t.to, .int .i64 t.price, .int .i64 t.qty] 43)
        have f4 : (wr.alloc (.cells #[.int .i64 t.maker, .int .i64 t.taker, .int .i64 t.frm, .int .i64 t.to, .int .i64 t.price, .int .i64 t.qty] 43)).cell? ⟨wr.heap.size, 4, none⟩ = some (.int .i64 t.price) := by simp [go_sem]
        have f5 : (wr.alloc (.cells #[.int .i64 t.maker, .int .i64 t.taker, .int .i64 t.frm, .int .i64 t.to, .int .i64 t.price, .int .i64 t.qty] 43)).cell? ⟨wr.heap.size, 5, none⟩ = some (.int .i64 t.qty) := by simp [go_sem]
        generalize wr.alloc (.cells #[.int .i64 t.maker, .int .i64 t.taker, .int .i64 t.frm, .int .i64 t.to, .int .i64 t.price, .int .i64 t.qty] 43) = w2 at *
        have q0 := hown1.cellAt (pre.length * 5) (by omega)
        have q1 := hown1.cellAt (pre.length * 5 + 1) (by omega)
        have q2 := hown1.cellAt (pre.length * 5 + 2) (by omega)
        have q3 := hown1.cellAt (pre.length * 5 + 3) (by omega)
        have q4 := hown1.cellAt (pre.length * 5 + 4) (by omega)
        have hfl := flatB_len pre
        simp [hfl, Bar.vals] at q0 q1 q2 q3 q4
        have cJ := fun d os => Calls.regrown_of (w := w2) (d := d) (os := os) (join_any last (tbar t) _ hr0 hr1 hq0 hq1)
        simp only [tbar] at cJ
        have k0 := cell_regrown q0
        have k1 := cell_regrown q1
        have k2 := cell_regrown q2
        have k3 := cell_regrown q3
        have k4 := cell_regrown q4
        have k5 := cell_regrown f4
        have k6 := cell_regrown f5
        (refine wp_region_head_below 16 (by kernel_rfl) (by kernel_rfl) ?_; simp only [List.take_succ_cons, List.take_zero, List.drop_succ_cons, List.drop_zero])
        repeat (quiet_step (exact cJ _ _))
        refine wpQuiet_nil ?_
        intro w3 hw3
        have hb3 : Below w2.heap.size w2 w3 := by obtain ⟨p, rfl⟩ := hw3; exact below_regrown _ _ _
        clear hw3 k0 k1 k2 k3 k4 k5 k6 cJ
        have hown3 := own_below hown1 hb3
        have hbb := hb2.trans (hb3.mono hb2.size)
        have s0 := (hb3.cell (p := ⟨g, pre.length * 5, none⟩) (World.block_lt_of_cell? w2 _ q0)).trans q0
        have s1 := (hb3.cell (p := ⟨g, pre.length * 5 + 1, none⟩) (World.block_lt_of_cell? w2 _ q1)).trans q1
        have s2 := (hb3.cell (p := ⟨g, pre.length * 5 + 2, none⟩) (World.block_lt_of_cell? w2 _ q2)).trans q2
        have s3 := (hb3.cell (p := ⟨g, pre.length * 5 + 3, none⟩) (World.block_lt_of_cell? w2 _ q3)).trans q3
        have s4 := (hb3.cell (p := ⟨g, pre.length * 5 + 4, none⟩) (World.block_lt_of_cell? w2 _ q4)).trans q4
        have z0 := hown3.frozenAt (pre.length * 5)
        have z1 := hown3.frozenAt (pre.length * 5 + 1)
        have z2 := hown3.frozenAt (pre.length * 5 + 2)
        have z3 := hown3.frozenAt (pre.length * 5 + 3)
        have z4 := hown3.frozenAt (pre.length * 5 + 4)
        go_wp2
        have hst := own_store5 hown3 (flatB_len _) (.int .i64 (joinB last (tbar t)).o) (.int .i64 (joinB last (tbar t)).h) (.int .i64 (joinB last (tbar t)).l) (.int .i64 (joinB last (tbar t)).c) (.int .i64 (joinB last (tbar t)).q)
        have hgb : w.heap.size ≤ g := (hown3.lt g rfl).1
        go_roundw
        case rel =>
          refine ⟨k + 1, by omega, by go_num, hbb.grown hst.2 hbb.size (fun _ hk => by cases hk; exact hgb), ?_⟩
          rw [barsTo_succ HT.out, HL.out, addBar_old hm, flatB_snoc, List.length_append]
          exact hst.1
        case measure => simp [intOf]; omega
    · obtain rfl : k = l.length := by omega
      go_wp2
      go_ret2
      exact ⟨_, rfl, hown, hb⟩
end Go.Proofs.YtefncbdkjljbjaaDoor
