/- A slice of the call's own with one element taken out: what slices.Delete does to it. The contract of slices.Delete over rests: one taken out. The contract of slices.Delete over levels: one taken out. -/
import Derived.Test.YtkdgpdijbobmkaaGreatGrpC
import Derived.Lib.SliceRun
import Derived.Deep.RegionLaw
import Derived.Test.YtkdgpdijbobmkaaGreatGrpD
import Derived.Test.YtkdgpdijbobmkaaGreatGrpG
namespace Go.Proofs.YtkdgpdijbobmkaaGreat
set_option linter.all false
open Go Go.RowKit
section
variable {w : World} {base s n cap : Nat} {xs : List Value}
/-- cells stored over a part of it -/
theorem OwnS.put {g off p n' : Nat} {xs' news : List Value} (h : OwnS w base s (some ⟨g, off, none⟩) n cap xs) (hc : 0 < cap) (hp : p + news.length ≤ cap * s) (hl : xs'.length = n' * s) (hn : n' ≤ cap)
    (hx : ∀ j, j < n' * s → xs'[j]? = if p ≤ j ∧ j < p + news.length then news[j - p]? else w.cell? ⟨g, off + j, none⟩) :
    OwnS (w.setCells g (off + p) news) base s (some ⟨g, off, none⟩) n' cap xs' := by
  refine ⟨hl, hn, h.max, fun _ => ?_⟩
  obtain ⟨g', off', e, hb, hlt, h1, h2⟩ := h.lies hc
  cases e
  have hsome : ∀ j, j < news.length → (w.cell? ⟨g, off + p + j, none⟩).isSome = true := fun j hj => by
    rw [Nat.add_assoc]; exact (h2 (p + j) (by omega)).1
  have hin : ∀ j, p ≤ j → j < p + news.length → (w.setCells g (off + p) news).cell? ⟨g, off + j, none⟩ = news[j - p]? := fun j h3 h4 => by
    have := World.cell?_setCells_in g news (off + p) w hsome (j - p) (by omega)
    rw [show off + p + (j - p) = off + j by omega] at this
    rw [this, List.getElem?_eq_getElem]
  have hout : ∀ j, ¬ (p ≤ j ∧ j < p + news.length) → (w.setCells g (off + p) news).cell? ⟨g, off + j, none⟩ = w.cell? ⟨g, off + j, none⟩ := fun j h3 =>
    World.cell?_setCells_out g _ _ _ _ (fun _ _ => by show off + j < off + p ∨ off + p + news.length ≤ off + j; omega)
  refine ⟨g, off, rfl, hb, by rw [size_setCells]; exact hlt, fun j hj => ?_, fun j hj => ⟨?_, ?_⟩⟩
  · rw [hx j hj]
    by_cases h3 : p ≤ j ∧ j < p + news.length
    · rw [if_pos h3]; exact hin j h3.1 h3.2
    · rw [if_neg h3]; exact hout j h3
  · by_cases h3 : p ≤ j ∧ j < p + news.length
    · rw [hin j h3.1 h3.2, List.getElem?_eq_getElem (by omega)]; rfl
    · rw [hout j h3]; exact (h2 j hj).1
  · exact (World.frozen?_setCells g _ _ _ _).trans (h2 j hj).2
theorem grown_setCells (w : World) (g o : Nat) (vs : List Value) : w.grownBy (w.setCells g o vs) (some g) :=
  ⟨World.os_setCells _ _ _ _, tape_setCells g _ _ w, World.output_setCells _ _ _ _, by rw [size_setCells]; exact Nat.le_refl _, fun k hk hne => World.heap_setCells_other w g _ vs hk (fun e => hne (by rw [e]))⟩
/-- one element out: what stood behind it moved up, the last place cleared -/
theorem OwnS.cut {g off i : Nat} {zs : List Value} (h : OwnS w base s (some ⟨g, off, none⟩) (n + 1) cap xs) (hi : i ≤ n) (hz : zs.length = s) :
    OwnS ((w.setCells g (off + i * s) (xs.drop ((i + 1) * s))).setCells g (off + n * s) zs) base s (some ⟨g, off, none⟩) n cap (xs.take (i * s) ++ xs.drop ((i + 1) * s)) ∧
    w.grownBy ((w.setCells g (off + i * s) (xs.drop ((i + 1) * s))).setCells g (off + n * s) zs) (some g) ∧
    OwnS (w.setCells g (off + i * s) (xs.drop ((i + 1) * s))) base s (some ⟨g, off, none⟩) n cap (xs.take (i * s) ++ xs.drop ((i + 1) * s)) := by
  have hle := h.le
  have hcs : (n + 1) * s ≤ cap * s := Nat.mul_le_mul_right _ hle
  have hlen := h.len
  have his : i * s + s ≤ n * s + s := by have := Nat.mul_le_mul_right s hi; omega
  have e1 : (i + 1) * s = i * s + s := Nat.succ_mul _ _
  have e2 : (n + 1) * s = n * s + s := Nat.succ_mul _ _
  have hdl : (xs.drop ((i + 1) * s)).length = n * s - i * s := by rw [List.length_drop, hlen]; omega
  have hc : 0 < cap := by omega
  obtain ⟨g', off', e, hb, hlt, h1, h2⟩ := h.lies hc
  cases e
  have hxl : (xs.take (i * s) ++ xs.drop ((i + 1) * s)).length = n * s := by
    rw [List.length_append, hdl, List.length_take, hlen]; omega
  have a1 : OwnS (w.setCells g (off + i * s) (xs.drop ((i + 1) * s))) base s (some ⟨g, off, none⟩) n cap (xs.take (i * s) ++ xs.drop ((i + 1) * s)) := by
    refine h.put hc (by rw [hdl]; omega) hxl (by omega) fun j hj => ?_
    by_cases h3 : j < i * s
    · rw [if_neg (by omega), List.getElem?_append_left (by rw [List.length_take, hlen]; omega), List.getElem?_take_of_lt h3]
      exact (h1 j (by omega)).symm
    · rw [if_pos (by rw [hdl]; omega), List.getElem?_append_right (by rw [List.length_take, hlen]; omega), List.length_take, hlen]
      congr 1
      omega
  refine ⟨a1.put hc (by rw [hz]; omega) hxl (by omega) fun j hj => ?_, (grown_setCells w g _ _).trans (grown_setCells _ g _ _), a1⟩
  rw [if_neg (by omega)]
  obtain ⟨g', off', e, _, _, h3, _⟩ := a1.lies hc
  cases e
  exact (h3 j hj).symm
end
/-- clear of one element -/
theorem run_clear_one {P : Program} (w : World) (t e ty : TypeId) (z : Value) (ht : P.underlying t = some (.slice e)) (hv : ∀ w, (zeroValue e).run P w = .ok z w) (h1 : ∀ v ∈ z.cells.toList, v.oneCell' = true) (b o c : Nat)
    (hc : ∀ j, j < z.cells.size → (w.cell? ⟨b, o + j, none⟩).isSome = true) (hf : ∀ j, j < z.cells.size → w.frozen? ⟨b, o + j, none⟩ = false) :
    (Builtin.clear_ #[t] ty #[.slice (some ⟨b, o, none⟩) 1 c]).run P w = .ok (.tuple #[]) (w.setCells b o z.cells.toList) := by
  have hzc : (Builtin.zeroCells z.cells 1).toList = z.cells.toList := by
    simp only [Builtin.zeroCells, Nat.one_mul]
    apply List.ext_getElem
    · simp
    · intro i h1 h2
      have h3 : i < z.cells.size := by simpa using h1
      simp [Nat.mod_eq_of_lt h3, h3]
  have hst := run_storeCells_cells (P := P) b o z.cells.toList 0 w (by simpa using hc) (by simpa using hf) h1
  simp only [Nat.add_zero] at hst
  simp [Builtin.clear_, run_underlying ht, hv, hzc, hst]
end Go.Proofs.YtkdgpdijbobmkaaGreat
namespace Go.Proofs.YtkdgpdijbobmkaaGreat
set_option linter.all false
open Go Go.RowKit
theorem rows_take (l : List Rest) (i : Nat) : rows (l.take i) = (rows l).take (i * 5) := by
  induction l generalizing i with
  | nil => simp [rows]
  | cons r t ih =>
    cases i with
    | zero => simp [rows]
    | succ i =>
      rw [List.take_succ_cons, rows_cons, rows_cons, ih, show (i + 1) * 5 = r.vals.length + i * 5 by rw [Rest.vals_len]; omega, List.take_length_add_append]
theorem rows_drop (l : List Rest) (i : Nat) : rows (l.drop i) = (rows l).drop (i * 5) := by
  induction l generalizing i with
  | nil => simp [rows]
  | cons r t ih =>
    cases i with
    | zero => simp
    | succ i =>
      rw [List.drop_succ_cons, rows_cons, ih, show (i + 1) * 5 = r.vals.length + i * 5 by rw [Rest.vals_len]; omega, List.drop_length_add_append]
theorem rows_erase (l : List Rest) (i : Nat) : rows (l.eraseIdx i) = (rows l).take (i * 5) ++ (rows l).drop ((i + 1) * 5) := by
  rw [List.eraseIdx_eq_take_drop_succ, rows_app, rows_take, rows_drop]
theorem zero_rest (w : World) : (zeroValue 62).run Tryz.prog w = .ok (.agg #[.int .i64 0, .int .i64 0, .int .i64 0, .int .i64 0, .int .i64 0]) w := by kernel_rfl
/-- how Delete ends -/
def DelPost (l : List Rest) (i : Nat) (A : Option Addr) (c base : Nat) (w : World) (e : Ending) (w' : World) : Prop :=
  e = .returned (.slice A (l.eraseIdx i).length c) ∧ OwnS w' base 5 A (l.eraseIdx i).length c (rows (l.eraseIdx i)) ∧ w.grownBy w' (rowOf A c)
set_option maxRecDepth 100000 in
set_option maxHeartbeats 1000000 in
theorem delete_rests (l : List Rest) (A : Option Addr) (c base i m : Nat) (w : World) (h : OwnS w base 5 A l.length c (rows l)) (hi : l.length = i + 1 + m) (hl : l.length ≤ 100) :
    Calls Tryz.prog 151 #[.slice A l.length c, .int .i64 i, .int .i64 (i + 1)] w (DelPost l i A c base w) := by
  have hle := h.le
  have hmx := h.max
  unfold maxLen at hmx
  obtain ⟨g, off, rfl, hb, hlt, h1, h2⟩ := h.cell (by omega)
  have hrl := rows_len l
  rw [hi] at h h1 hle hl hrl ⊢
  have hcut := Lib.hid (OwnS.cut (w := w.drew) (s := 5) (n := i + m) (i := i) (zs := [.int .i64 0, .int .i64 0, .int .i64 0, .int .i64 0, .int .i64 0]) (by have := h.drew; rwa [show i + 1 + m = i + m + 1 by omega] at this) (by omega) rfl)
  obtain ⟨i0, hi0, hz0, hz1, hz2⟩ := info_parts info_rest
  have HI := Lib.hid hi0; have H1 := Lib.hid hz1
  clear hi0 hz0 hz1 hz2
  have f1 : (0 : Int) ≤ (i : Int) := by omega
  have f2 : (i : Int) ≤ (c : Int) := by omega
  have f3 : (i : Int) + 1 ≤ (c : Int) := by omega
  have f6 : (0 : Int) ≤ (i : Int) + 1 := by omega
  have f7 : (i : Int) + 1 ≤ (i : Int) + 1 + (m : Int) := by omega
  have f4 : i ≤ c := by omega
  have f5 : i + 1 ≤ c := by omega
  have e1 : ((i : Int) == (i : Int) + 1) = false := by simp; omega
  have e2 : Hid (((rows l).drop ((i + 1) * 5)).length = m * 5) := Lib.hid (by rw [List.length_drop, hrl]; omega)
  have s2 : Hid (∀ u ∈ (rows l).drop ((i + 1) * 5), u.oneCell' = true) := fun u hu => rows_one l u (List.mem_of_mem_drop hu)
  have s3 : Hid (∀ j, j < ((rows l).drop ((i + 1) * 5)).length → (w.drew.cell? ⟨g, off + i * 5 + j, none⟩).isSome = true ∧ w.drew.frozen? ⟨g, off + i * 5 + j, none⟩ = false) := by
    intro j hj
    rw [e2.out] at hj
    have := h2 (i * 5 + j) (by omega)
    rw [Nat.add_assoc]
    exact this
  have HH1 := Lib.hid h1
  have HH2 := Lib.hid h2
  have HHI := Lib.hid hi
  clear h h1 h2 hi
  generalize hnews : (rows l).drop ((i + 1) * 5) = news at *
  obtain ⟨W1, hW1⟩ : ∃ W1, W1 = w.drew.setCells g (off + i * 5) news := ⟨_, rfl⟩
  have hW := Lib.hid hW1
  clear hW1
  have hcl : ∀ ty, (Builtin.clear_ #[58] ty #[.slice (some ⟨g, off + (i + m) * 5, none⟩) 1 (c - (i + m))]).run Tryz.prog W1 = .ok (.tuple #[]) (W1.setCells g (off + (i + m) * 5) [.int .i64 0, .int .i64 0, .int .i64 0, .int .i64 0, .int .i64 0]) := by
    intro ty
    obtain ⟨g', off', e, _, _, _, h4⟩ := hcut.out.2.2.lies (by omega)
    cases e
    rw [← hW.out] at h4
    refine run_clear_one W1 _ _ ty _ Tryz.underlying58 zero_rest (rest_one _ _ _ _ _) g _ _ (fun j hj => ?_) (fun j hj => ?_)
    all_goals
      have hj' : j < 5 := hj
      rw [Nat.add_assoc]
      first | exact (h4 ((i + m) * 5 + j) (by omega)).1 | exact (h4 ((i + m) * 5 + j) (by omega)).2
  have HCL := Lib.hid hcl
  have HE := Lib.hid (rows_erase l i)
  have HEL := Lib.hid (show (l.eraseIdx i).length = i + m by rw [List.length_eraseIdx_of_lt (by rw [HHI.out]; omega), HHI.out]; omega)
  have HN := Lib.hid hnews
  have f8 : (0 : Int) ≤ (i : Int) + (m : Int) := by omega
  have f9 : (i : Int) + (m : Int) ≤ (i : Int) + 1 + (m : Int) := by omega
  have f10 : (i : Int) + 1 + (m : Int) ≤ (c : Int) := by omega
  have f11 : i + 1 + m - (i + m) = 1 := by omega
  have f12 : ¬ c = i + m := by omega
  have f13 : i + m ≤ c := by omega
  have f14 : i + m ≤ i + 1 + m := by omega
  have f15 : i + 1 + m ≤ c := by omega
  have HF := Lib.hid f11
  clear f11 hcl
  have fin : ∀ W2, W2 = W1.setCells g (off + (i + m) * 5) [.int .i64 0, .int .i64 0, .int .i64 0, .int .i64 0, .int .i64 0] → DelPost l i (some ⟨g, off, none⟩) c base w (.returned (.slice (some ⟨g, off, none⟩) (i + m) c)) W2 := by
    intro W2 e
    rw [hW.out] at e
    subst e
    refine ⟨by rw [HEL.out], ?_, ?_⟩
    · rw [HEL.out, HE.out, HN.out]; exact hcut.out.1
    · rw [rowOf_some (by omega)]
      have := hcut.out.2.1
      exact ⟨this.os, this.tape, this.output, this.size, this.block⟩
  have FIN := Lib.hid fin
  clear fin
  have HSRC : Hid (∀ j u, news[j]? = some u → ∀ ad : Addr, ad = ⟨g, off + (i + 1) * 5, none⟩ → w.drew.cell? (ad.add j) = some u) := by
    intro j u hu ad had
    subst had
    rw [← HN.out, List.getElem?_drop] at hu
    have hj : (i + 1) * 5 + j < (i + 1 + m) * 5 := by rw [← hrl]; exact (List.getElem?_eq_some_iff.1 hu).1
    have := HH1.out _ hj
    rw [Addr.add_lit, Nat.add_assoc]
    exact (show w.cell? _ = _ from this).trans hu
  clear hnews
  by_cases hjc : c = i + 1
  · obtain rfl : m = 0 := by omega
    subst hjc
    have f16 : (i : Int) ≤ (i : Int) + 1 := by omega
    have hsrc : Hid (∀ j u, news[j]? = some u → w.drew.cell? ((⟨g, off, none⟩ : Addr).add j) = some u) := by
      intro j u hu
      have := (List.getElem?_eq_some_iff.1 hu).1
      rw [e2.out] at this
      omega
    clear HH1 HH2
    go_enter Tryz.func151, Tryz.ntmps151
    go_wp2_with fail
    go_region_law (refine step_append_room rfl (.tmp 22) (.tmp 25) 58 rfl 62 i0 5 Tryz.underlying58 HI.out H1.out g off i (i + 1) (by simp [Act.eval, Act.put]) ⟨g, off, none⟩ 0 0 news (by simp [Act.eval, Act.put]) e2.out hsrc.out s2.out (by omega) s3.out ?_; rw [← hW.out])
    have hcl := HCL.out
    simp only [Nat.add_zero, Nat.add_sub_cancel_left] at hcl
    go_wp2
    go_ret
    exact FIN.out _ rfl
  · have hsrc : Hid (∀ j u, news[j]? = some u → w.drew.cell? ((⟨g, off + (i + 1) * 5, none⟩ : Addr).add j) = some u) := fun j u hu => HSRC.out j u hu _ rfl
    clear HH1 HH2
    go_enter Tryz.func151, Tryz.ntmps151
    go_wp2_with fail
    go_region_law (refine step_append_room rfl (.tmp 22) (.tmp 25) 58 rfl 62 i0 5 Tryz.underlying58 HI.out H1.out g off i c (by simp [Act.eval, Act.put]) ⟨g, off + (i + 1) * 5, none⟩ m (c - (i + 1)) news (by simp [Act.eval, Act.put]) e2.out hsrc.out s2.out (by omega) s3.out ?_; rw [← hW.out])
    have hcl := HCL.out
    have f11 := HF.out
    go_wp2
    go_ret
    exact FIN.out _ rfl
end Go.Proofs.YtkdgpdijbobmkaaGreat
namespace Go.Proofs.YtkdgpdijbobmkaaGreat
set_option linter.all false
open Go Go.RowKit
theorem zero_lv (w : World) : (zeroValue 60).run Tryz.prog w = .ok (.agg #[.int .i64 0, .slice none 0 0]) w := by kernel_rfl
theorem zlv_one : ∀ u ∈ (#[Value.int .i64 0, .slice none 0 0] : Array Value).toList, u.oneCell' = true := by
  intro u hu
  simp only [List.mem_cons, List.not_mem_nil, or_false] at hu
  rcases hu with rfl | rfl <;> rfl
/-- how Delete ends -/
def DelLvPost (xs : List Value) (i m : Nat) (A : Option Addr) (c base : Nat) (w : World) (e : Ending) (w' : World) : Prop :=
  e = .returned (.slice A (i + m) c) ∧ OwnS w' base 2 A (i + m) c (xs.take (i * 2) ++ xs.drop ((i + 1) * 2)) ∧ w.grownBy w' (rowOf A c)
set_option maxRecDepth 100000 in
set_option maxHeartbeats 1000000 in
theorem delete_levels (xs : List Value) (n : Nat) (A : Option Addr) (c base i m : Nat) (w : World) (h : OwnS w base 2 A n c xs) (hone : ∀ u ∈ xs, u.oneCell' = true) (hi : n = i + 1 + m) (hl : n ≤ 1000) :
    Calls Tryz.prog 152 #[.slice A n c, .int .i64 i, .int .i64 (i + 1)] w (DelLvPost xs i m A c base w) := by
  have hle := h.le
  have hmx := h.max
  unfold maxLen at hmx
  obtain ⟨g, off, rfl, hb, hlt, h1, h2⟩ := h.cell (by omega)
  have hrl := h.len
  have HONE := Lib.hid hone
  clear hone
  rw [hi] at h h1 hle hl hrl ⊢
  have hcut := Lib.hid (OwnS.cut (w := w.drew) (s := 2) (n := i + m) (i := i) (zs := [.int .i64 0, .slice none 0 0]) (by have := h.drew; rwa [show i + 1 + m = i + m + 1 by omega] at this) (by omega) rfl)
  obtain ⟨i0, hi0, hz0, hz1, hz2⟩ := info_parts info_lv
  have HI := Lib.hid hi0; have H1 := Lib.hid hz1
  clear hi0 hz0 hz1 hz2
  have f1 : (0 : Int) ≤ (i : Int) := by omega
  have f2 : (i : Int) ≤ (c : Int) := by omega
  have f3 : (i : Int) + 1 ≤ (c : Int) := by omega
  have f6 : (0 : Int) ≤ (i : Int) + 1 := by omega
  have f7 : (i : Int) + 1 ≤ (i : Int) + 1 + (m : Int) := by omega
  have f4 : i ≤ c := by omega
  have f5 : i + 1 ≤ c := by omega
  have e1 : ((i : Int) == (i : Int) + 1) = false := by simp; omega
  have e2 : Hid ((xs.drop ((i + 1) * 2)).length = m * 2) := Lib.hid (by rw [List.length_drop, hrl]; omega)
  have s2 : Hid (∀ u ∈ xs.drop ((i + 1) * 2), u.oneCell' = true) := fun u hu => HONE.out u (List.mem_of_mem_drop hu)
  have s3 : Hid (∀ j, j < (xs.drop ((i + 1) * 2)).length → (w.drew.cell? ⟨g, off + i * 2 + j, none⟩).isSome = true ∧ w.drew.frozen? ⟨g, off + i * 2 + j, none⟩ = false) := by
    intro j hj
    rw [e2.out] at hj
    have := h2 (i * 2 + j) (by omega)
    rw [Nat.add_assoc]
    exact this
  have HH1 := Lib.hid h1
  have HH2 := Lib.hid h2
  have HHI := Lib.hid hi
  clear h h1 h2 hi
  generalize hnews : xs.drop ((i + 1) * 2) = news at *
  obtain ⟨W1, hW1⟩ : ∃ W1, W1 = w.drew.setCells g (off + i * 2) news := ⟨_, rfl⟩
  have hW := Lib.hid hW1
  clear hW1
  have hcl : ∀ ty, (Builtin.clear_ #[52] ty #[.slice (some ⟨g, off + (i + m) * 2, none⟩) 1 (c - (i + m))]).run Tryz.prog W1 = .ok (.tuple #[]) (W1.setCells g (off + (i + m) * 2) [.int .i64 0, .slice none 0 0]) := by
    intro ty
    obtain ⟨g', off', e, _, _, _, h4⟩ := hcut.out.2.2.lies (by omega)
    cases e
    rw [← hW.out] at h4
    refine run_clear_one W1 _ _ ty _ Tryz.underlying52 zero_lv (zlv_one) g _ _ (fun j hj => ?_) (fun j hj => ?_)
    all_goals
      have hj' : j < 2 := hj
      rw [Nat.add_assoc]
      first | exact (h4 ((i + m) * 2 + j) (by omega)).1 | exact (h4 ((i + m) * 2 + j) (by omega)).2
  have HCL := Lib.hid hcl
  have HN := Lib.hid hnews
  have f8 : (0 : Int) ≤ (i : Int) + (m : Int) := by omega
  have f9 : (i : Int) + (m : Int) ≤ (i : Int) + 1 + (m : Int) := by omega
  have f10 : (i : Int) + 1 + (m : Int) ≤ (c : Int) := by omega
  have f11 : i + 1 + m - (i + m) = 1 := by omega
  have f12 : ¬ c = i + m := by omega
  have f13 : i + m ≤ c := by omega
  have f14 : i + m ≤ i + 1 + m := by omega
  have f15 : i + 1 + m ≤ c := by omega
  have HF := Lib.hid f11
  clear f11 hcl
  have fin : ∀ W2, W2 = W1.setCells g (off + (i + m) * 2) [.int .i64 0, .slice none 0 0] → DelLvPost xs i m (some ⟨g, off, none⟩) c base w (.returned (.slice (some ⟨g, off, none⟩) (i + m) c)) W2 := by
    intro W2 e
    rw [hW.out] at e
    subst e
    refine ⟨rfl, ?_, ?_⟩
    · rw [HN.out]; exact hcut.out.1
    · rw [rowOf_some (by omega)]
      have := hcut.out.2.1
      exact ⟨this.os, this.tape, this.output, this.size, this.block⟩
  have FIN := Lib.hid fin
  clear fin
  have HSRC : Hid (∀ j u, news[j]? = some u → ∀ ad : Addr, ad = ⟨g, off + (i + 1) * 2, none⟩ → w.drew.cell? (ad.add j) = some u) := by
    intro j u hu ad had
    subst had
    rw [← HN.out, List.getElem?_drop] at hu
    have hj : (i + 1) * 2 + j < (i + 1 + m) * 2 := by rw [← hrl]; exact (List.getElem?_eq_some_iff.1 hu).1
    have := HH1.out _ hj
    rw [Addr.add_lit, Nat.add_assoc]
    exact (show w.cell? _ = _ from this).trans hu
  clear hnews
  by_cases hjc : c = i + 1
  · obtain rfl : m = 0 := by omega
    subst hjc
    have f16 : (i : Int) ≤ (i : Int) + 1 := by omega
    have hsrc : Hid (∀ j u, news[j]? = some u → w.drew.cell? ((⟨g, off, none⟩ : Addr).add j) = some u) := by
      intro j u hu
      have := (List.getElem?_eq_some_iff.1 hu).1
      rw [e2.out] at this
      omega
    clear HH1 HH2
    go_enter Tryz.func152, Tryz.ntmps152
    go_wp2_with fail
    go_region_law (refine step_append_room rfl (.tmp 22) (.tmp 25) 52 rfl 60 i0 2 Tryz.underlying52 HI.out H1.out g off i (i + 1) (by simp [Act.eval, Act.put]) ⟨g, off, none⟩ 0 0 news (by simp [Act.eval, Act.put]) e2.out hsrc.out s2.out (by omega) s3.out ?_; rw [← hW.out])
    have hcl := HCL.out
    simp only [Nat.add_zero, Nat.add_sub_cancel_left] at hcl
    go_wp2
    go_ret
    exact FIN.out _ rfl
  · have hsrc : Hid (∀ j u, news[j]? = some u → w.drew.cell? ((⟨g, off + (i + 1) * 2, none⟩ : Addr).add j) = some u) := fun j u hu => HSRC.out j u hu _ rfl
    clear HH1 HH2
    go_enter Tryz.func152, Tryz.ntmps152
    go_wp2_with fail
    go_region_law (refine step_append_room rfl (.tmp 22) (.tmp 25) 52 rfl 60 i0 2 Tryz.underlying52 HI.out H1.out g off i c (by simp [Act.eval, Act.put]) ⟨g, off + (i + 1) * 2, none⟩ m (c - (i + 1)) news (by simp [Act.eval, Act.put]) e2.out hsrc.out s2.out (by omega) s3.out ?_; rw [← hW.out])
    have hcl := HCL.out
    have f11 := HF.out
    go_wp2
    go_ret
    exact FIN.out _ rfl
end Go.Proofs.YtkdgpdijbobmkaaGreat
