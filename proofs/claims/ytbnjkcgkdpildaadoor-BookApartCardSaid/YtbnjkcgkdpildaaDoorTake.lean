/- The contracts of slices.Clone over rests, queue.First in one, queue.All, queue.Total. -/
import Derived.Test.YtbnjkcgkdpildaaDoorFirst
namespace Go.Proofs.YtbnjkcgkdpildaaDoor
set_option linter.all false
open Go Go.RowKit
theorem err0 {r : Rest} (hr : r.err = 0) : 1 ≤ r.qty ∧ r.qty ≤ 10000 ∧ 0 ≤ r.hidden ∧ r.hidden ≤ 10000 ∧ 0 ≤ r.show_ ∧ r.show_ ≤ 10000 ∧ (r.show_ = 0 → r.hidden = 0) ∧ (r.show_ ≠ 0 → r.qty ≤ r.show_) ∧ inb r.id 1 9999 = true ∧ inb r.who 1 9 = true := by
  by_cases h1 : (inb r.id 1 9999 && inb r.who 1 9 && inb r.qty 1 10000 && inb r.hidden 0 10000 && inb r.show_ 0 10000) = true
  · simp only [Bool.and_eq_true] at h1
    obtain ⟨⟨⟨⟨a, b⟩, c⟩, d⟩, e⟩ := h1
    have hc := c; have hd := d; have he := e
    simp only [inb, decide_eq_true_eq] at hc hd he
    simp only [Rest.err, a, b, c, d, e] at hr
    refine ⟨by omega, by omega, by omega, by omega, by omega, by omega, fun h => ?_, fun h => ?_, a, b⟩
    · by_cases h0 : r.hidden = 0
      · exact h0
      · simp [h, h0] at hr
    · by_cases h0 : r.show_ < r.qty
      · simp [h, h0] at hr
      · omega
  · exfalso
    revert h1 hr
    unfold Rest.err
    cases inb r.id 1 9999 <;> cases inb r.who 1 9 <;> cases inb r.qty 1 10000 <;> cases inb r.hidden 0 10000 <;> cases inb r.show_ 0 10000 <;> simp
theorem first_any (r : Rest) (t : List Rest) (n : Int) (base : Nat) (A : Option Addr) (cap : Nat) (w : World) (h : OwnS w base 5 A (t.length + 1) cap (rows (r :: t))) (hb : base ≤ w.heap.size) (hn : 1 ≤ n) (hr : r.err = 0) (hl : t.length ≤ 100) :
    Calls Tryd.prog 72 #[.slice A (t.length + 1) cap, .int .i64 n] w (FirstPost r t n base A cap w) := by
  have hq := err0 hr
  by_cases h1 : n < r.qty
  · exact first_part r t n base A cap w h hn h1 (by omega) hl
  · by_cases h2 : r.hidden ≤ 0
    · exact first_whole r t n base A cap w h (by omega) (by omega) h2 hl
    · exact first_again r t n base A cap w h hb (by omega) (by omega) (by omega) (by omega) (by omega) hl
/-- how Clone ends -/
def ClonePost (s n : Nat) (xs : List Value) (w : World) (e : Ending) (w' : World) : Prop := ∃ A' c', e = .returned (.slice A' n c') ∧ OwnS w' w.heap.size s A' n c' xs ∧ Below w.heap.size w w' ∧ (A' = none → c' = 0)
set_option maxRecDepth 20000 in
theorem clone_rests (l : List Rest) (A : Option Addr) (c : Nat) (w : World) (hr : Rd w w.heap.size A l.length 5 (rcell l)) (hl : l.length ≤ 100) (hA : A = none → l.length = 0 ∧ c = 0) :
    Calls Tryd.prog 65 #[.slice A l.length c] w (ClonePost 5 l.length (rows l) w) := by
  cases A with
  | none =>
    obtain ⟨h0, rfl⟩ := hA rfl
    obtain rfl := List.eq_nil_of_length_eq_zero h0
    clear hr hA
    have hn := fun (w : World) (c : Nat) => Lib.run_eql_slice_nil (P := Tryd.prog) w 24 23 none 0 c 0 0 Tryd.underlying24
    go_enter Tryd.func65, Tryd.ntmps65
    go_wp2
    go_ret
    exact ⟨none, 0, rfl, OwnS.nil _ _ _ _, Below.refl _ _, fun _ => rfl⟩
  | some a =>
    obtain ⟨i0, hi, hz0, hz1, hz2⟩ := info_parts info_rest
    have HI := Lib.hid hi; have H0 := Lib.hid hz0; have H1 := Lib.hid hz1; have H2 := Lib.hid hz2; clear hi hz0 hz1 hz2 hA
    have HR := Lib.hid hr; clear hr
    have hn := fun (w : World) (n c : Nat) => Lib.run_eql_slice_nil (P := Tryd.prog) w 24 23 (some a) n c 0 0 Tryd.underlying24
    go_enter Tryd.func65, Tryd.ntmps65
    go_wp2_with (at_builtin; go_loud (refine wpList_append_S (base := w.heap.size) (s := 5) (n := 0) (cap := 0) (xs := []) rfl _ _ _ _ rfl 23 i0 _ 40 Tryd.underlying24 HI.out H0.out H1.out H2.out rfl rfl (OwnS.nil _ _ _ _) (by simp) _ rfl l.length (rows l) (src_rd (HR.out.below ((Below.refl _ _).alloc (Nat.le_refl _) _)) Tryd.underlying24 (rows_len l) (fun i j hi hj => rows_get hi hj) (rows_one l) (fun h => by cases h)) (by unfold maxLen; omega) (by omega) ?_); intro A' cap' w' gr)
    go_ret
    refine ⟨A', cap', by simp, by simpa using gr.own, Below.grown (((Below.refl _ _).alloc (Nat.le_refl _) _)) gr.grown (by simp) (fun k hk => by simp [rowOf] at hk), fun h => ?_⟩
    rcases Nat.eq_zero_or_pos cap' with h0 | h0
    · exact h0
    · obtain ⟨g, off, e, _⟩ := gr.own.lies h0
      rw [h] at e; cases e
theorem bodyBounds {l : List Rest} (h : qErr l = 0) : l.length ≤ 60 ∧ ∀ r ∈ l, r.err = 0 := by
  by_cases hl : 60 < l.length
  · rw [qErr, if_pos hl] at h; omega
  · refine ⟨by omega, fun r hr => ?_⟩
    rw [qErr, if_neg hl] at h
    obtain ⟨k, hk⟩ := List.mem_iff_getElem?.1 hr
    have hkl : k < l.length := (List.getElem?_eq_some_iff.1 hk).1
    by_cases he : r.err = 0
    · exact he
    · exfalso
      have hs : stepE l k ≠ 0 := by rw [stepE, hk]; dsimp only; rw [if_pos he]; exact he
      cases hf : (List.range l.length).find? (fun k => !(stepE l k == 0)) with
      | none =>
        rw [List.find?_eq_none] at hf
        have := hf k (List.mem_range.2 hkl)
        simp at this
        exact hs this
      | some j =>
        rw [hf] at h
        have := List.find?_some hf
        simp at this
        exact this h
/-- all of rests -/
def allQ (l : List Rest) : Int := (l.map fun r => r.qty + r.hidden).sum
theorem allQ_snoc (l : List Rest) (r : Rest) : allQ (l ++ [r]) = allQ l + (r.qty + r.hidden) := by simp [allQ]
theorem allQ_take {l : List Rest} {k : Nat} {r : Rest} (h : l[k]? = some r) : allQ (l.take (k + 1)) = allQ (l.take k) + (r.qty + r.hidden) := by
  rw [List.take_add_one, h]; simp [allQ]
theorem allQ_bounds {l : List Rest} (h : ∀ r ∈ l, r.err = 0) : 0 ≤ allQ l ∧ allQ l ≤ 20000 * l.length := by
  induction l with
  | nil => simp [allQ]
  | cons r l ih =>
    have h1 := err0 (h r (by simp))
    have h2 := ih (fun x hx => h x (by simp [hx]))
    simp only [allQ, List.map_cons, List.sum_cons, List.length_cons] at h2 ⊢
    omega
set_option maxHeartbeats 1000000 in
theorem all_any (l : List Rest) (A : Option Addr) (c : Nat) (w : World) (hr : Rd w w.heap.size A l.length 5 (rcell l)) (hl : l.length ≤ 1000) (he : ∀ r ∈ l, r.err = 0) :
    Calls Tryd.prog 51 #[.slice A l.length c] w fun e w' => e = .returned (.int .i64 (allQ l)) ∧ Below w.heap.size w w' := by
  have HE := Lib.hid he; clear he
  go_enter Tryd.func51, Tryd.ntmps51
  go_wp2
  go_loopw [3, 8] (fun s i wr => ∃ k : Nat, k ≤ l.length ∧ i = .int .i64 k ∧ s = .int .i64 (allQ (l.take k)) ∧ Below w.heap.size w wr) (fun _ i _ => l.length - (intOf i).toNat)
  case atStart => exact ⟨0, by omega, rfl, by simp [allQ], Below.refl _ _⟩
  case round =>
    obtain ⟨k, hk, rfl, rfl, hb⟩ := hrel
    have hS := allQ_bounds (l := l.take k) fun r h => HE.out r (List.mem_of_mem_take h)
    have hkl : (l.take k).length ≤ 1000 := by rw [List.length_take]; omega
    by_cases hlt : k < l.length
    · obtain ⟨b, off, t, rfl, hbl, ht, e0, e1, e2, e3, e4⟩ := rest_at (hr.below hb) hlt
      have hq := err0 (HE.out t (List.mem_of_getElem? ht))
      obtain ⟨q1, q2, q3, q4, _⟩ := hq
      have HS := Lib.hid (allQ_take ht)
      generalize allQ (l.take k) = S at *
      clear hr ht
      go_wp2
      go_roundw
      case rel => exact ⟨k + 1, by omega, by go_num, by rw [HS.out], hb.alloc hb.size _⟩
      case measure => simp [intOf]; omega
    · obtain rfl : k = l.length := by omega
      rw [List.take_length]
      go_wp2
      go_ret
      exact ⟨rfl, hb⟩
end Go.Proofs.YtbnjkcgkdpildaaDoor
