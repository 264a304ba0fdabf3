/- The contract of slices.Delete over orders: one taken out. -/
import Derived.Test.YtiaofbkhnodbhaaDoorGrpH
import Derived.Test.YtiaofbkhnodbhaaDoorOrds
namespace Go.Proofs.YtiaofbkhnodbhaaDoor
set_option linter.all false
open Go Go.RowKit
theorem ords_take (l : List Order) (i : Nat) : ords (l.take i) = (ords l).take (i * 8) := by
  induction l generalizing i with
  | nil => simp [ords]
  | cons r t ih =>
    cases i with
    | zero => simp [ords]
    | succ i =>
      rw [List.take_succ_cons, ords_cons, ords_cons, ih, show (i + 1) * 8 = r.vals.length + i * 8 by rw [Order.vals_len]; omega, List.take_length_add_append]
theorem ords_drop (l : List Order) (i : Nat) : ords (l.drop i) = (ords l).drop (i * 8) := by
  induction l generalizing i with
  | nil => simp [ords]
  | cons r t ih =>
    cases i with
    | zero => simp
    | succ i =>
      rw [List.drop_succ_cons, ords_cons, ih, show (i + 1) * 8 = r.vals.length + i * 8 by rw [Order.vals_len]; omega, List.drop_length_add_append]
theorem ords_erase (l : List Order) (i : Nat) : ords (l.eraseIdx i) = (ords l).take (i * 8) ++ (ords l).drop ((i + 1) * 8) := by
  rw [List.eraseIdx_eq_take_drop_succ, ords_app, ords_take, ords_drop]
theorem zero_ord (w : World) : (zeroValue 58).run Tryd.prog w = .ok (.agg #[.int .i64 0, .int .i64 0, .int .i64 0, .int .i64 0, .int .i64 0, .int .i64 0, .int .i64 0, .int .i64 0]) w := by kernel_rfl
/-- how Delete ends -/
def DelOPost (l : List Order) (i : Nat) (A : Option Addr) (c base : Nat) (w : World) (e : Ending) (w' : World) : Prop :=
  e = .returned (.slice A (l.eraseIdx i).length c) ∧ OwnS w' base 8 A (l.eraseIdx i).length c (ords (l.eraseIdx i)) ∧ w.grownBy w' (rowOf A c)
set_option maxRecDepth 100000 in
set_option maxHeartbeats 1000000 in
theorem delete_ords (l : List Order) (A : Option Addr) (c base i m : Nat) (w : World) (h : OwnS w base 8 A l.length c (ords l)) (hi : l.length = i + 1 + m) (hl : l.length ≤ 100) :
    Calls Tryd.prog 69 #[.slice A l.length c, .int .i64 i, .int .i64 (i + 1)] w (DelOPost l i A c base w) := by
  have hle := h.le
  have hmx := h.max
  unfold maxLen at hmx
  obtain ⟨g, off, rfl, hb, hlt, h1, h2⟩ := h.cell (by omega)
  have hrl := ords_len l
  rw [hi] at h h1 hle hl hrl ⊢
  have hcut := Lib.hid (OwnS.cut (w := w.drew) (s := 8) (n := i + m) (i := i) (zs := [.int .i64 0, .int .i64 0, .int .i64 0, .int .i64 0, .int .i64 0, .int .i64 0, .int .i64 0, .int .i64 0]) (by have := h.drew; rwa [show i + 1 + m = i + m + 1 by omega] at this) (by omega) rfl)
  obtain ⟨i0, hi0, hz0, hz1, hz2⟩ := info_parts info_ord
  have HI := Lib.hid hi0; have H1 := Lib.hid hz1
  clear hi0 hz0 hz1 hz2
  have f1 : (0 : Int) ≤ (i : Int) := by omega
  have f2 : (i : Int) ≤ (c : Int) := by omega
  have f3 : (i : Int) + 1 ≤ (c : Int) := by omega
  have f6 : (0 : Int) ≤ (i : Int) + 1 := by omega
  have f7 : (i : Int) + 1 ≤ (i : Int) + 1 + (m : Int) := by omega
  have f4 : i ≤ c := by omega
  have f5 : i + 1 ≤ c := by omega
  have e1 : ((i : Int) == (i : Int) + 1) = false := by simp; omega
  have e2 : Hid (((ords l).drop ((i + 1) * 8)).length = m * 8) := Lib.hid (by rw [List.length_drop, hrl]; omega)
  have s2 : Hid (∀ u ∈ (ords l).drop ((i + 1) * 8), u.oneCell' = true) := fun u hu => ords_one l u (List.mem_of_mem_drop hu)
  have s3 : Hid (∀ j, j < ((ords l).drop ((i + 1) * 8)).length → (w.drew.cell? ⟨g, off + i * 8 + j, none⟩).isSome = true ∧ w.drew.frozen? ⟨g, off + i * 8 + j, none⟩ = false) := by
    intro j hj
    rw [e2.out] at hj
    have := h2 (i * 8 + j) (by omega)
    rw [Nat.add_assoc]
    exact this
  have HH1 := Lib.hid h1
  have HH2 := Lib.hid h2
  have HHI := Lib.hid hi
  clear h h1 h2 hi
  generalize hnews : (ords l).drop ((i + 1) * 8) = news at *
  obtain ⟨W1, hW1⟩ : ∃ W1, W1 = w.drew.setCells g (off + i * 8) news := ⟨_, rfl⟩
  have hW := Lib.hid hW1
  clear hW1
  have hcl : ∀ ty, (Builtin.clear_ #[52] ty #[.slice (some ⟨g, off + (i + m) * 8, none⟩) 1 (c - (i + m))]).run Tryd.prog W1 = .ok (.tuple #[]) (W1.setCells g (off + (i + m) * 8) [.int .i64 0, .int .i64 0, .int .i64 0, .int .i64 0, .int .i64 0, .int .i64 0, .int .i64 0, .int .i64 0]) := by
    intro ty
    obtain ⟨g', off', e, _, _, _, h4⟩ := hcut.out.2.2.lies (by omega)
    cases e
    rw [← hW.out] at h4
    refine run_clear_one W1 _ _ ty _ Tryd.underlying52 zero_ord ord0.vals_one g _ _ (fun j hj => ?_) (fun j hj => ?_)
    all_goals
      have hj' : j < 8 := hj
      rw [Nat.add_assoc]
      first | exact (h4 ((i + m) * 8 + j) (by omega)).1 | exact (h4 ((i + m) * 8 + j) (by omega)).2
  have HCL := Lib.hid hcl
  have HE := Lib.hid (ords_erase l i)
  have HEL := Lib.hid (show (l.eraseIdx i).length = i + m by rw [List.length_eraseIdx_of_lt (by rw [HHI.out]; omega), HHI.out]; omega)
  have HN := Lib.hid hnews
  have f8 : (0 : Int) ≤ (i : Int) + (m : Int) := by omega
  have f9 : (i : Int) + (m : Int) ≤ (i : Int) + 1 + (m : Int) := by omega
  have f10 : (i : Int) + 1 + (m : Int) ≤ (c : Int) := by omega
  have f11 : i + 1 + m - (i + m) = 1 := by omega
  have f12 : ¬ c = i + m := by omega
  have f13 : i + m ≤ c := by omega
  have f14 : i + m ≤ i + 1 + m := by omega
  have f15 : i + 1 + m ≤ c := by omega
  have HF := Lib.hid f11
  clear f11 hcl
  have fin : ∀ W2, W2 = W1.setCells g (off + (i + m) * 8) [.int .i64 0, .int .i64 0, .int .i64 0, .int .i64 0, .int .i64 0, .int .i64 0, .int .i64 0, .int .i64 0] → DelOPost l i (some ⟨g, off, none⟩) c base w (.returned (.slice (some ⟨g, off, none⟩) (i + m) c)) W2 := by
    intro W2 e
    rw [hW.out] at e
    subst e
    refine ⟨by rw [HEL.out], ?_, ?_⟩
    · rw [HEL.out, HE.out, HN.out]; exact hcut.out.1
    · rw [rowOf_some (by omega)]
      have := hcut.out.2.1
      exact ⟨this.os, this.tape, this.output, this.size, this.block⟩
  have FIN := Lib.hid fin
  clear fin
  have HSRC : Hid (∀ j u, news[j]? = some u → ∀ ad : Addr, ad = ⟨g, off + (i + 1) * 8, none⟩ → w.drew.cell? (ad.add j) = some u) := by
    intro j u hu ad had
    subst had
    rw [← HN.out, List.getElem?_drop] at hu
    have hj : (i + 1) * 8 + j < (i + 1 + m) * 8 := by rw [← hrl]; exact (List.getElem?_eq_some_iff.1 hu).1
    have := HH1.out _ hj
    rw [Addr.add_lit, Nat.add_assoc]
    exact (show w.cell? _ = _ from this).trans hu
  clear hnews
  by_cases hjc : c = i + 1
  · obtain rfl : m = 0 := by omega
    subst hjc
    have f16 : (i : Int) ≤ (i : Int) + 1 := by omega
    have hsrc : Hid (∀ j u, news[j]? = some u → w.drew.cell? ((⟨g, off, none⟩ : Addr).add j) = some u) := by
      intro j u hu
      have := (List.getElem?_eq_some_iff.1 hu).1
      rw [e2.out] at this
      omega
    clear HH1 HH2
    go_enter Tryd.func69, Tryd.ntmps69
    go_wp2_with fail
    go_region_law (refine step_append_room rfl (.tmp 22) (.tmp 25) 52 rfl 58 i0 8 Tryd.underlying52 HI.out H1.out g off i (i + 1) (by simp [Act.eval, Act.put]) ⟨g, off, none⟩ 0 0 news (by simp [Act.eval, Act.put]) e2.out hsrc.out s2.out (by omega) s3.out ?_; rw [← hW.out])
    have hcl := HCL.out
    simp only [Nat.add_zero, Nat.add_sub_cancel_left] at hcl
    go_wp2
    go_ret
    exact FIN.out _ rfl
  · have hsrc : Hid (∀ j u, news[j]? = some u → w.drew.cell? ((⟨g, off + (i + 1) * 8, none⟩ : Addr).add j) = some u) := fun j u hu => HSRC.out j u hu _ rfl
    clear HH1 HH2
    go_enter Tryd.func69, Tryd.ntmps69
    go_wp2_with fail
    go_region_law (refine step_append_room rfl (.tmp 22) (.tmp 25) 52 rfl 58 i0 8 Tryd.underlying52 HI.out H1.out g off i c (by simp [Act.eval, Act.put]) ⟨g, off + (i + 1) * 8, none⟩ m (c - (i + 1)) news (by simp [Act.eval, Act.put]) e2.out hsrc.out s2.out (by omega) s3.out ?_; rw [← hW.out])
    have hcl := HCL.out
    have f11 := HF.out
    go_wp2
    go_ret
    exact FIN.out _ rfl
end Go.Proofs.YtiaofbkhnodbhaaDoor
