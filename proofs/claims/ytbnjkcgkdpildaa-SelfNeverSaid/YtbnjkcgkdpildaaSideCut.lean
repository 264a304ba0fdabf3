/- The contract of side.Cut. -/
import Derived.Test.YtbnjkcgkdpildaaGrpH
import Derived.Test.YtbnjkcgkdpildaaGrpI
import Derived.Test.YtbnjkcgkdpildaaGrpG
namespace Go.Proofs.Ytbnjkcgkdpildaa
set_option linter.all false
open Go Go.RowKit
theorem below_of_grown {w w1 : World} {base : Nat} {row : Option Nat} (h : w.grownBy w1 row) (hr : ∀ k, row = some k → base ≤ k) (hb : base ≤ w.heap.size) : Below base w w1 :=
  ⟨h.os, h.tape, h.output, h.size, fun i hi => h.block i (by omega) (fun e => by have := hr i e.symm; omega)⟩
theorem lvCells_erase {L : List Lv} {vs : List (Option Addr × Nat)} {i : Nat} (h : vs.length = L.length) (hi : i < L.length) : lvCells (L.eraseIdx i) (vs.eraseIdx i) = (lvCells L vs).take (i * 2) ++ (lvCells L vs).drop ((i + 1) * 2) := by
  induction L generalizing vs i with
  | nil => simp at hi
  | cons a L ih =>
    cases vs with
    | nil => simp at h
    | cons b vs =>
      have e1 : ∀ (L' : List Lv) (vs' : List (Option Addr × Nat)), lvCells (a :: L') (b :: vs') = [.int .i64 a.price, .slice b.1 a.rs.length b.2] ++ lvCells L' vs' := fun _ _ => rfl
      cases i with
      | zero => rw [e1]; rfl
      | succ i =>
        have e := ih (vs := vs) (i := i) (by simpa using h) (by simpa using hi)
        have t1 : ∀ (P X : List Value), P.length = 2 → (P ++ X).take ((i + 1) * 2) = P ++ X.take (i * 2) := fun P X hP => by
          rw [show (i + 1) * 2 = P.length + i * 2 by omega, List.take_length_add_append]
        have t2 : ∀ (P X : List Value), P.length = 2 → (P ++ X).drop ((i + 1 + 1) * 2) = X.drop ((i + 1) * 2) := fun P X hP => by
          rw [show (i + 1 + 1) * 2 = P.length + (i + 1) * 2 by omega, List.drop_length_add_append]
        rw [List.eraseIdx_cons_succ, List.eraseIdx_cons_succ, e1, e1, e, t1 _ _ rfl, t2 _ _ rfl, List.append_assoc]
theorem erase_get {α : Type} {l : List α} {i j : Nat} {x : α} (h : (l.eraseIdx i)[j]? = some x) : l[if j < i then j else j + 1]? = some x := by
  rw [List.getElem?_eraseIdx] at h
  split at h <;> rename_i hj
  · rw [if_pos hj]; exact h
  · rw [if_neg hj]; exact h
theorem OwnLv.erase {w w1 : World} {base cap i : Nat} {A : Option Addr} {L : List Lv} {vs : List (Option Addr × Nat)} (h : OwnLv w base A cap L vs) (hi : i < L.length) (o : OwnS w1 base 2 A (L.length - 1) cap ((lvCells L vs).take (i * 2) ++ (lvCells L vs).drop ((i + 1) * 2))) (hg : w.grownBy w1 (rowOf A cap)) :
    OwnLv w1 base A cap (L.eraseIdx i) (vs.eraseIdx i) := by
  have hlen := h.len
  refine ⟨by rw [List.length_eraseIdx_of_lt hi, List.length_eraseIdx_of_lt (by omega), hlen], ?_, ?_, ?_⟩
  · rw [lvCells_erase hlen hi, List.length_eraseIdx_of_lt hi]; exact o
  · intro j y u hy hu
    have he := h.each _ y u (erase_get hy) (erase_get hu)
    exact ⟨he.1.apart hg he.2, he.2⟩
  · intro a b u v hab hu hv
    refine h.apart _ _ u v ?_ (erase_get hu) (erase_get hv)
    split <;> split <;> omega
theorem outL_set {L : List Lv} {i k : Nat} {x : Lv} (hx : L[i]? = some x) (h : (x.rs.eraseIdx k).length ≠ 0) : outL L i k = L.set i ⟨x.price, x.rs.eraseIdx k⟩ := by
  have hi := (List.getElem?_eq_some_iff.1 hx).1
  unfold outL
  rw [hx]
  dsimp only
  rw [mCut, if_neg h, List.set_eq_take_append_cons_drop, if_pos hi]
theorem outL_erase {L : List Lv} {i k : Nat} {x : Lv} (hx : L[i]? = some x) (h : (x.rs.eraseIdx k).length = 0) : outL L i k = L.eraseIdx i := by
  unfold outL
  rw [hx]
  dsimp only
  rw [mCut, if_pos h, List.eraseIdx_eq_take_drop_succ]
/-- the blocks of levels -/
def rowsOf (A : Option Addr) (c : Nat) (vs : List (Option Addr × Nat)) : List (Option Nat) := rowOf A c :: vs.map fun u => rowOf u.1 u.2
/-- all blocks but some are as they were -/
def KeepsBut (rs : List (Option Nat)) (w w' : World) : Prop := w.heap.size ≤ w'.heap.size ∧ ∀ b, b < w.heap.size → some b ∉ rs → w'.heap[b]? = w.heap[b]?
theorem KeepsBut.grown {rs : List (Option Nat)} {w w1 w2 : World} {row : Option Nat} (h : KeepsBut rs w w1) (hg : w1.grownBy w2 row) (hr : row ∈ rs) : KeepsBut rs w w2 :=
  ⟨Nat.le_trans h.1 hg.size, fun b hb hn => (hg.block b (Nat.lt_of_lt_of_le hb h.1) (fun e => hn (e ▸ hr))).trans (h.2 b hb hn)⟩
theorem KeepsBut.refl (rs : List (Option Nat)) (w : World) : KeepsBut rs w w := ⟨Nat.le_refl _, fun _ _ _ => rfl⟩
theorem KeepsBut.set {rs : List (Option Nat)} {w w1 : World} {p : Addr} (h : KeepsBut rs w w1) (hr : some p.block ∈ rs) (u : Value) : KeepsBut rs w (w1.setCell p u) :=
  h.grown (grown_set w1 p u) hr
theorem rows_set_sub {A : Option Addr} {c i : Nat} {vs : List (Option Addr × Nat)} {v : Option Addr × Nat} (hv : vs[i]? = some v) {r : Option Nat} (h : r ∈ rowsOf A c (vs.set i v)) : r ∈ rowsOf A c vs := by
  rcases List.mem_cons.1 h with h | h
  · rw [h]; exact List.mem_cons_self ..
  · obtain ⟨u, hu, e⟩ := List.mem_map.1 h
    refine List.mem_cons_of_mem _ (List.mem_map.2 ⟨u, ?_, e⟩)
    rcases List.mem_or_eq_of_mem_set hu with hu | rfl
    · exact hu
    · exact List.mem_of_getElem? hv
theorem rows_erase_sub {A : Option Addr} {c i : Nat} {vs : List (Option Addr × Nat)} {r : Option Nat} (h : r ∈ rowsOf A c (vs.eraseIdx i)) : r ∈ rowsOf A c vs := by
  rcases List.mem_cons.1 h with h | h
  · rw [h]; exact List.mem_cons_self ..
  · obtain ⟨u, hu, e⟩ := List.mem_map.1 h
    exact List.mem_cons_of_mem _ (List.mem_map.2 ⟨u, List.mem_of_mem_eraseIdx hu, e⟩)
set_option maxRecDepth 100000 in
set_option maxHeartbeats 4000000 in
theorem scut_keeps (L : List Lv) (vs : List (Option Addr × Nat)) (A : Option Addr) (c base i k : Nat) (x : Lv) (w : World) (h : OwnLv w base A c L vs) (hb : base ≤ w.heap.size) (hx : L[i]? = some x) (hk : k < x.rs.length) (hn : L.length ≤ 1000) (hl : x.rs.length ≤ 100) :
    Calls Try.prog 44 #[.slice A L.length c, .int .i64 i, .int .i64 k] w fun e w' => ∃ A' c' vs', e = .returned (.slice A' (outL L i k).length c') ∧ OwnLv w' base A' c' (outL L i k) vs' ∧ Below base w w' ∧ KeepsBut (rowsOf A c vs) w w' ∧ ∀ r ∈ rowsOf A' c' vs', r ∈ rowsOf A c vs := by
  have hi : i < L.length := (List.getElem?_eq_some_iff.1 hx).1
  have hlen := h.len
  have hv : vs[i]? = some (vs[i]'(by omega)) := List.getElem?_eq_getElem (by omega)
  generalize vs[i]'(by omega) = v at hv
  obtain ⟨Ar, cr⟩ := v
  obtain ⟨ho, hap⟩ := h.each i x _ hx hv
  have hle := h.own.le
  obtain ⟨g, off, rfl, hg0, hgl, hcell, hfree⟩ := h.own.cell (by omega)
  have hrow : rowOf (some (⟨g, off, none⟩ : Addr)) c = some g := by rw [rowOf, if_neg (by omega)]; rfl
  have hne : some g ≠ rowOf Ar cr := by
    rw [hrow] at hap
    rcases hap with e | e
    · intro e2; dsimp only at e; rw [e] at e2; cases e2
    · exact fun e2 => e e2.symm
  obtain ⟨c0, c1⟩ := lvCells_get hx hv
  have d1 : w.cell? ⟨g, off + i * 2 + 1, none⟩ = some (.slice Ar x.rs.length cr) := by rw [Nat.add_assoc, hcell _ (by omega)]; exact c1
  have f1 : w.frozen? ⟨g, off + i * 2 + 1, none⟩ = false := by rw [Nat.add_assoc]; exact (hfree (i * 2 + 1) (by omega)).2
  have hr5 : ∀ r, rowOf Ar cr = some r → base ≤ r := fun r hr => (ho.row_lt r hr).1
  have cD := Lib.hid (delete_rests x.rs Ar cr base k (x.rs.length - k - 1) w ho (by omega) hl)
  have hel : (x.rs.eraseIdx k).length = x.rs.length - 1 := List.length_eraseIdx_of_lt hk
  have H := Lib.hid h
  have HX := Lib.hid hx
  have HV := Lib.hid hv
  have HEL := Lib.hid hel
  have HR5 := Lib.hid hr5
  clear h hx hv ho hap hcell hfree c0 c1 hr5 hel
  go_enter Try.func44, Try.ntmps44
  go_wp2_with fail
  go_at_call 77
  refine cD.out.mono ?_
  rintro e w1 ⟨rfl, o1, gr⟩
  have d1' : w1.cell? ⟨g, off + i * 2 + 1, none⟩ = some (.slice Ar x.rs.length cr) := (gr.cell_far ⟨g, off + i * 2 + 1, none⟩ hgl hne).trans d1
  have f1' : w1.frozen? ⟨g, off + i * 2 + 1, none⟩ = false := (gr.frozen_far ⟨g, off + i * 2 + 1, none⟩ hgl hne).trans f1
  have s1 := (H.out.setAt HX.out HV.out gr o1 (.inr (.inl rfl)))
  rw [← Nat.add_assoc] at s1
  have b1 := (below_of_grown gr HR5.out hb).setCell (p := ⟨g, off + i * 2 + 1, none⟩) hg0 (.slice Ar (x.rs.eraseIdx k).length cr)
  have O1 := Lib.hid s1
  have HSUB := Lib.hid (fun r (hr : r ∈ rowsOf (some (⟨g, off, none⟩ : Addr)) c (vs.set i (Ar, cr))) => rows_set_sub HV.out hr)
  have K1 := Lib.hid (((KeepsBut.refl (rowsOf (some ⟨g, off, none⟩) c vs) w).grown gr (by rw [rowsOf]; exact List.mem_cons_of_mem _ (List.mem_map.2 ⟨_, List.mem_of_getElem? HV.out, rfl⟩))).set (p := ⟨g, off + i * 2 + 1, none⟩) (by rw [rowsOf, hrow]; exact List.mem_cons_self ..) (.slice Ar (x.rs.eraseIdx k).length cr))
  have GS := Lib.hid (show base ≤ w1.heap.size by have := gr.size; omega)
  clear d1 f1 cD o1 s1 gr H
  by_cases hz : (x.rs.eraseIdx k).length = 0
  · have HO := Lib.hid (outL_erase HX.out hz)
    have hle2 := O1.out.own.le
    rw [List.length_set] at hle2
    have cL := Lib.hid (fun W (e : W = w1.setCell ⟨g, off + i * 2 + 1, none⟩ (.slice Ar (x.rs.eraseIdx k).length cr)) => delete_levels (lvCells (L.set i ⟨x.price, x.rs.eraseIdx k⟩) (vs.set i (Ar, cr))) L.length (some ⟨g, off, none⟩) c base i (L.length - i - 1) W (by rw [e]; have := O1.out.own; rwa [List.length_set] at this) lvCells_one (by omega) hn)
    rw [hz] at O1 b1 cL K1 ⊢
    clear HEL HR5 hle2
    obtain ⟨W, hW⟩ : ∃ W, W = w1.setCell ⟨g, off + i * 2 + 1, none⟩ (.slice Ar (0 : Nat) cr) := ⟨_, rfl⟩
    have HW := Lib.hid hW
    have cW := Lib.hid (cL.out W hW)
    clear cL hW
    go_wp2_with fail
    go_at_call 78
    rw [← HW.out]
    refine cW.out.mono ?_
    rintro e w2 ⟨rfl, o2, gr2⟩
    have e2 : i + (L.length - i - 1) = L.length - 1 := by omega
    rw [e2] at o2 ⊢
    have O2 := Lib.hid o2
    have G2 := Lib.hid gr2
    clear o2 gr2 cW d1' f1'
    go_wp2
    go_ret
    have o1 := O1.out
    rw [← HW.out] at o1
    have o3 := o1.erase (i := i) (by rw [List.length_set]; exact hi) (by rw [List.length_set]; exact O2.out) G2.out
    have e4 : (L.set i ⟨x.price, x.rs.eraseIdx k⟩).eraseIdx i = L.eraseIdx i := List.eraseIdx_set_eq
    rw [e4] at o3
    refine ⟨_, _, _, ?_, by rw [HO.out]; exact o3, (by rw [← HW.out] at b1; exact b1.trans (below_of_grown G2.out (fun r hr => (o1.row_lt r hr).1) (by rw [HW.out]; simpa using GS.out))), (by have := K1.out; rw [← HW.out] at this; exact this.grown G2.out (by rw [rowsOf]; exact List.mem_cons_self ..)), fun r hr => HSUB.out r (rows_erase_sub hr)⟩
    rw [HO.out, List.length_eraseIdx_of_lt hi]
    rfl
  · have HO := Lib.hid (outL_set HX.out hz)
    have hz2 : ((x.rs.eraseIdx k).length : Int) ≠ 0 := by omega
    clear hz HEL HR5
    go_wp2
    go_ret
    refine ⟨_, _, _, ?_, by rw [HO.out]; exact O1.out, b1, K1.out, HSUB.out⟩
    rw [HO.out, List.length_set]
    rfl
theorem scut_any (L : List Lv) (vs : List (Option Addr × Nat)) (A : Option Addr) (c base i k : Nat) (x : Lv) (w : World) (h : OwnLv w base A c L vs) (hb : base ≤ w.heap.size) (hx : L[i]? = some x) (hk : k < x.rs.length) (hn : L.length ≤ 1000) (hl : x.rs.length ≤ 100) :
    Calls Try.prog 44 #[.slice A L.length c, .int .i64 i, .int .i64 k] w fun e w' => ∃ A' c' vs', e = .returned (.slice A' (outL L i k).length c') ∧ OwnLv w' base A' c' (outL L i k) vs' ∧ Below base w w' :=
  (scut_keeps L vs A c base i k x w h hb hx hk hn hl).mono fun _ _ ⟨A', c', vs', h1, h2, h3, _⟩ => ⟨A', c', vs', h1, h2, h3⟩
end Go.Proofs.Ytbnjkcgkdpildaa
