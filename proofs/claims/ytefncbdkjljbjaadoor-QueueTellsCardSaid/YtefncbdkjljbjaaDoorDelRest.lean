/- The contract of slices.Delete over rests: one taken out. -/
import Derived.Test.YtefncbdkjljbjaaDoorOwnDel
import Derived.Test.YtefncbdkjljbjaaDoorTake
namespace Go.Proofs.YtefncbdkjljbjaaDoor
set_option linter.all false
open Go Go.RowKit
theorem rows_take (l : List Rest) (i : Nat) : rows (l.take i) = (rows l).take (i * 5) := by
  induction l generalizing i with
  | nil => simp [rows]
  | cons r t ih =>
    cases i with
    | zero => simp [rows]
    | succ i =>
      rw [List.take_succ_cons, rows_cons, rows_cons, ih, show (i + 1) * 5 = r.vals.length + i * 5 by rw [Rest.vals_len]; omega, List.take_length_add_append]
theorem rows_drop (l : List Rest) (i : Nat) : rows (l.drop i) = (rows l).drop (i * 5) := by
  induction l generalizing i with
  | nil => simp [rows]
  | cons r t ih =>
    cases i with
    | zero => simp
    | succ i =>
      rw [List.drop_succ_cons, rows_cons, ih, show (i + 1) * 5 = r.vals.length + i * 5 by rw [Rest.vals_len]; omega, List.drop_length_add_append]
theorem rows_erase (l : List Rest) (i : Nat) : rows (l.eraseIdx i) = (rows l).take (i * 5) ++ (rows l).drop ((i + 1) * 5) := by
  rw [List.eraseIdx_eq_take_drop_succ, rows_app, rows_take, rows_drop]
theorem zero_rest (w : World) : (zeroValue 70).run Tryd.prog w = .ok (.agg #[.int .i64 0, .int .i64 0, .int .i64 0, .int .i64 0, .int .i64 0]) w := by kernel_rfl
/-- how Delete ends -/
def DelPost (l : List Rest) (i : Nat) (A : Option Addr) (c base : Nat) (w : World) (e : Ending) (w' : World) : Prop :=
  e = .returned (.slice A (l.eraseIdx i).length c) ∧ OwnS w' base 5 A (l.eraseIdx i).length c (rows (l.eraseIdx i)) ∧ w.grownBy w' (rowOf A c)
set_option maxRecDepth 100000 in
set_option maxHeartbeats 1000000 in
theorem delete_rests (l : List Rest) (A : Option Addr) (c base i m : Nat) (w : World) (h : OwnS w base 5 A l.length c (rows l)) (hi : l.length = i + 1 + m) (hl : l.length ≤ 100) :
    Calls Tryd.prog 83 #[.slice A l.length c, .int .i64 i, .int .i64 (i + 1)] w (DelPost l i A c base w) := by
  have hle := h.le
  have hmx := h.max
  unfold maxLen at hmx
  obtain ⟨g, off, rfl, hb, hlt, h1, h2⟩ := h.cell (by omega)
  have hrl := rows_len l
  rw [hi] at h h1 hle hl hrl ⊢
  have hcut := Lib.hid (OwnS.cut (w := w.drew) (s := 5) (n := i + m) (i := i) (zs := [.int .i64 0, .int .i64 0, .int .i64 0, .int .i64 0, .int .i64 0]) (by have := h.drew; rwa [show i + 1 + m = i + m + 1 by omega] at this) (by omega) rfl)
  obtain ⟨i0, hi0, hz0, hz1, hz2⟩ := info_parts info_rest
  have HI := Lib.hid hi0; have H1 := Lib.hid hz1
  clear hi0 hz0 hz1 hz2
  have f1 : (0 : Int) ≤ (i : Int) := by omega
  have f2 : (i : Int) ≤ (c : Int) := by omega
  have f3 : (i : Int) + 1 ≤ (c : Int) := by omega
  have f6 : (0 : Int) ≤ (i : Int) + 1 := by omega
  have f7 : (i : Int) + 1 ≤ (i : Int) + 1 + (m : Int) := by omega
  have f4 : i ≤ c := by omega
  have f5 : i + 1 ≤ c := by omega
  have e1 : ((i : Int) == (i : Int) + 1) = false := by simp; omega
  have e2 : Hid (((rows l).drop ((i + 1) * 5)).length = m * 5) := Lib.hid (by rw [List.length_drop, hrl]; omega)
  have s2 : Hid (∀ u ∈ (rows l).drop ((i + 1) * 5), u.oneCell' = true) := fun u hu => rows_one l u (List.mem_of_mem_drop hu)
  have s3 : Hid (∀ j, j < ((rows l).drop ((i + 1) * 5)).length → (w.drew.cell? ⟨g, off + i * 5 + j, none⟩).isSome = true ∧ w.drew.frozen? ⟨g, off + i * 5 + j, none⟩ = false) := by
    intro j hj
    rw [e2.out] at hj
    have := h2 (i * 5 + j) (by omega)
    rw [Nat.add_assoc]
    exact this
  have HH1 := Lib.hid h1
  have HH2 := Lib.hid h2
  have HHI := Lib.hid hi
  clear h h1 h2 hi
  generalize hnews : (rows l).drop ((i + 1) * 5) = news at *
  obtain ⟨W1, hW1⟩ : ∃ W1, W1 = w.drew.setCells g (off + i * 5) news := ⟨_, rfl⟩
  have hW := Lib.hid hW1
  clear hW1
  have hcl : ∀ ty, (Builtin.clear_ #[82] ty #[.slice (some ⟨g, off + (i + m) * 5, none⟩) 1 (c - (i + m))]).run Tryd.prog W1 = .ok (.tuple #[]) (W1.setCells g (off + (i + m) * 5) [.int .i64 0, .int .i64 0, .int .i64 0, .int .i64 0, .int .i64 0]) := by
    intro ty
    obtain ⟨g', off', e, _, _, _, h4⟩ := hcut.out.2.2.lies (by omega)
    cases e
    rw [← hW.out] at h4
    refine run_clear_one W1 _ _ ty _ Tryd.underlying82 zero_rest (rest_one _ _ _ _ _) g _ _ (fun j hj => ?_) (fun j hj => ?_)
    all_goals
      have hj' : j < 5 := hj
      rw [Nat.add_assoc]
      first | exact (h4 ((i + m) * 5 + j) (by omega)).1 | exact (h4 ((i + m) * 5 + j) (by omega)).2
  have HCL := Lib.hid hcl
  have HE := Lib.hid (rows_erase l i)
  have HEL := Lib.hid (show (l.eraseIdx i).length = i + m by rw [List.length_eraseIdx_of_lt (by rw [HHI.out]; omega), HHI.out]; omega)
  have HN := Lib.hid hnews
  have f8 : (0 : Int) ≤ (i : Int) + (m : Int) := by omega
  have f9 : (i : Int) + (m : Int) ≤ (i : Int) + 1 + (m : Int) := by omega
  have f10 : (i : Int) + 1 + (m : Int) ≤ (c : Int) := by omega
  have f11 : i + 1 + m - (i + m) = 1 := by omega
  have f12 : ¬ c = i + m := by omega
  have f13 : i + m ≤ c := by omega
  have f14 : i + m ≤ i + 1 + m := by omega
  have f15 : i + 1 + m ≤ c := by omega
  have HF := Lib.hid f11
  clear f11 hcl
  have fin : ∀ W2, W2 = W1.setCells g (off + (i + m) * 5) [.int .i64 0, .int .i64 0, .int .i64 0, .int .i64 0, .int .i64 0] → DelPost l i (some ⟨g, off, none⟩) c base w (.returned (.slice (some ⟨g, off, none⟩) (i + m) c)) W2 := by
    intro W2 e
    rw [hW.out] at e
    subst e
    refine ⟨by rw [HEL.out], ?_, ?_⟩
    · rw [HEL.out, HE.out, HN.out]; exact hcut.out.1
    · rw [rowOf_some (by omega)]
      have := hcut.out.2.1
      exact ⟨this.os, this.tape, this.output, this.size, this.block⟩
  have FIN := Lib.hid fin
  clear fin
  have HSRC : Hid (∀ j u, news[j]? = some u → ∀ ad : Addr, ad = ⟨g, off + (i + 1) * 5, none⟩ → w.drew.cell? (ad.add j) = some u) := by
    intro j u hu ad had
    subst had
    rw [← HN.out, List.getElem?_drop] at hu
    have hj : (i + 1) * 5 + j < (i + 1 + m) * 5 := by rw [← hrl]; exact (List.getElem?_eq_some_iff.1 hu).1
    have := HH1.out _ hj
    rw [Addr.add_lit, Nat.add_assoc]
    exact (show w.cell? _ = _ from this).trans hu
  clear hnews
  by_cases hjc : c = i + 1
  · obtain rfl : m = 0 := by omega
    subst hjc
    have f16 : (i : Int) ≤ (i : Int) + 1 := by omega
    have hsrc : Hid (∀ j u, news[j]? = some u → w.drew.cell? ((⟨g, off, none⟩ : Addr).add j) = some u) := by
      intro j u hu
      have := (List.getElem?_eq_some_iff.1 hu).1
      rw [e2.out] at this
      omega
    clear HH1 HH2
    go_enter Tryd.func83, Tryd.ntmps83
    go_wp2_with fail
    go_region_law (refine step_append_room rfl (.tmp 22) (.tmp 25) 82 rfl 70 i0 5 Tryd.underlying82 HI.out H1.out g off i (i + 1) (by simp [Act.eval, Act.put]) ⟨g, off, none⟩ 0 0 news (by simp [Act.eval, Act.put]) e2.out hsrc.out s2.out (by omega) s3.out ?_; rw [← hW.out])
    have hcl := HCL.out
    simp only [Nat.add_zero, Nat.add_sub_cancel_left] at hcl
    go_wp2
    go_ret
    exact FIN.out _ rfl
  · have hsrc : Hid (∀ j u, news[j]? = some u → w.drew.cell? ((⟨g, off + (i + 1) * 5, none⟩ : Addr).add j) = some u) := fun j u hu => HSRC.out j u hu _ rfl
    clear HH1 HH2
    go_enter Tryd.func83, Tryd.ntmps83
    go_wp2_with fail
    go_region_law (refine step_append_room rfl (.tmp 22) (.tmp 25) 82 rfl 70 i0 5 Tryd.underlying82 HI.out H1.out g off i c (by simp [Act.eval, Act.put]) ⟨g, off + (i + 1) * 5, none⟩ m (c - (i + 1)) news (by simp [Act.eval, Act.put]) e2.out hsrc.out s2.out (by omega) s3.out ?_; rw [← hW.out])
    have hcl := HCL.out
    have f11 := HF.out
    go_wp2
    go_ret
    exact FIN.out _ rfl
end Go.Proofs.YtefncbdkjljbjaaDoor
