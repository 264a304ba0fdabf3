/- The contract of side.Cut. The contract of book.Own, the two sides apart. The contracts of side.Find, side.Drop. The contract of book.Cut. The contracts of book.Top, book.Count. What holds of a book with a rest more: plain. -/
import Derived.Test.YtkdgpdijbobmkaaGreatGrpH
import Derived.Test.YtkdgpdijbobmkaaGreatGrpI
import Derived.Test.YtkdgpdijbobmkaaGreatGrpG
import Derived.Test.YtkdgpdijbobmkaaGreatSidePut
namespace Go.Proofs.YtkdgpdijbobmkaaGreat
set_option linter.all false
open Go Go.RowKit
theorem below_of_grown {w w1 : World} {base : Nat} {row : Option Nat} (h : w.grownBy w1 row) (hr : ∀ k, row = some k → base ≤ k) (hb : base ≤ w.heap.size) : Below base w w1 :=
  ⟨h.os, h.tape, h.output, h.size, fun i hi => h.block i (by omega) (fun e => by have := hr i e.symm; omega)⟩
theorem lvCells_erase {L : List Lv} {vs : List (Option Addr × Nat)} {i : Nat} (h : vs.length = L.length) (hi : i < L.length) : lvCells (L.eraseIdx i) (vs.eraseIdx i) = (lvCells L vs).take (i * 2) ++ (lvCells L vs).drop ((i + 1) * 2) := by
  induction L generalizing vs i with
  | nil => simp at hi
  | cons a L ih =>
    cases vs with
    | nil => simp at h
    | cons b vs =>
      have e1 : ∀ (L' : List Lv) (vs' : List (Option Addr × Nat)), lvCells (a :: L') (b :: vs') = [.int .i64 a.price, .slice b.1 a.rs.length b.2] ++ lvCells L' vs' := fun _ _ => rfl
      cases i with
      | zero => rw [e1]; rfl
      | succ i =>
        have e := ih (vs := vs) (i := i) (by simpa using h) (by simpa using hi)
        have t1 : ∀ (P X : List Value), P.length = 2 → (P ++ X).take ((i + 1) * 2) = P ++ X.take (i * 2) := fun P X hP => by
          rw [show (i + 1) * 2 = P.length + i * 2 by omega, List.take_length_add_append]
        have t2 : ∀ (P X : List Value), P.length = 2 → (P ++ X).drop ((i + 1 + 1) * 2) = X.drop ((i + 1) * 2) := fun P X hP => by
          rw [show (i + 1 + 1) * 2 = P.length + (i + 1) * 2 by omega, List.drop_length_add_append]
        rw [List.eraseIdx_cons_succ, List.eraseIdx_cons_succ, e1, e1, e, t1 _ _ rfl, t2 _ _ rfl, List.append_assoc]
theorem erase_get {α : Type} {l : List α} {i j : Nat} {x : α} (h : (l.eraseIdx i)[j]? = some x) : l[if j < i then j else j + 1]? = some x := by
  rw [List.getElem?_eraseIdx] at h
  split at h <;> rename_i hj
  · rw [if_pos hj]; exact h
  · rw [if_neg hj]; exact h
theorem OwnLv.erase {w w1 : World} {base cap i : Nat} {A : Option Addr} {L : List Lv} {vs : List (Option Addr × Nat)} (h : OwnLv w base A cap L vs) (hi : i < L.length) (o : OwnS w1 base 2 A (L.length - 1) cap ((lvCells L vs).take (i * 2) ++ (lvCells L vs).drop ((i + 1) * 2))) (hg : w.grownBy w1 (rowOf A cap)) :
    OwnLv w1 base A cap (L.eraseIdx i) (vs.eraseIdx i) := by
  have hlen := h.len
  refine ⟨by rw [List.length_eraseIdx_of_lt hi, List.length_eraseIdx_of_lt (by omega), hlen], ?_, ?_, ?_⟩
  · rw [lvCells_erase hlen hi, List.length_eraseIdx_of_lt hi]; exact o
  · intro j y u hy hu
    have he := h.each _ y u (erase_get hy) (erase_get hu)
    exact ⟨he.1.apart hg he.2, he.2⟩
  · intro a b u v hab hu hv
    refine h.apart _ _ u v ?_ (erase_get hu) (erase_get hv)
    split <;> split <;> omega
theorem outL_set {L : List Lv} {i k : Nat} {x : Lv} (hx : L[i]? = some x) (h : (x.rs.eraseIdx k).length ≠ 0) : outL L i k = L.set i ⟨x.price, x.rs.eraseIdx k⟩ := by
  have hi := (List.getElem?_eq_some_iff.1 hx).1
  unfold outL
  rw [hx]
  dsimp only
  rw [mCut, if_neg h, List.set_eq_take_append_cons_drop, if_pos hi]
theorem outL_erase {L : List Lv} {i k : Nat} {x : Lv} (hx : L[i]? = some x) (h : (x.rs.eraseIdx k).length = 0) : outL L i k = L.eraseIdx i := by
  unfold outL
  rw [hx]
  dsimp only
  rw [mCut, if_pos h, List.eraseIdx_eq_take_drop_succ]
/-- the blocks of levels -/
def rowsOf (A : Option Addr) (c : Nat) (vs : List (Option Addr × Nat)) : List (Option Nat) := rowOf A c :: vs.map fun u => rowOf u.1 u.2
/-- all blocks but some are as they were -/
def KeepsBut (rs : List (Option Nat)) (w w' : World) : Prop := w.heap.size ≤ w'.heap.size ∧ ∀ b, b < w.heap.size → some b ∉ rs → w'.heap[b]? = w.heap[b]?
theorem KeepsBut.grown {rs : List (Option Nat)} {w w1 w2 : World} {row : Option Nat} (h : KeepsBut rs w w1) (hg : w1.grownBy w2 row) (hr : row ∈ rs) : KeepsBut rs w w2 :=
  ⟨Nat.le_trans h.1 hg.size, fun b hb hn => (hg.block b (Nat.lt_of_lt_of_le hb h.1) (fun e => hn (e ▸ hr))).trans (h.2 b hb hn)⟩
theorem KeepsBut.refl (rs : List (Option Nat)) (w : World) : KeepsBut rs w w := ⟨Nat.le_refl _, fun _ _ _ => rfl⟩
theorem KeepsBut.set {rs : List (Option Nat)} {w w1 : World} {p : Addr} (h : KeepsBut rs w w1) (hr : some p.block ∈ rs) (u : Value) : KeepsBut rs w (w1.setCell p u) :=
  h.grown (grown_set w1 p u) hr
theorem rows_set_sub {A : Option Addr} {c i : Nat} {vs : List (Option Addr × Nat)} {v : Option Addr × Nat} (hv : vs[i]? = some v) {r : Option Nat} (h : r ∈ rowsOf A c (vs.set i v)) : r ∈ rowsOf A c vs := by
  rcases List.mem_cons.1 h with h | h
  · rw [h]; exact List.mem_cons_self ..
  · obtain ⟨u, hu, e⟩ := List.mem_map.1 h
    refine List.mem_cons_of_mem _ (List.mem_map.2 ⟨u, ?_, e⟩)
    rcases List.mem_or_eq_of_mem_set hu with hu | rfl
    · exact hu
    · exact List.mem_of_getElem? hv
theorem rows_erase_sub {A : Option Addr} {c i : Nat} {vs : List (Option Addr × Nat)} {r : Option Nat} (h : r ∈ rowsOf A c (vs.eraseIdx i)) : r ∈ rowsOf A c vs := by
  rcases List.mem_cons.1 h with h | h
  · rw [h]; exact List.mem_cons_self ..
  · obtain ⟨u, hu, e⟩ := List.mem_map.1 h
    exact List.mem_cons_of_mem _ (List.mem_map.2 ⟨u, List.mem_of_mem_eraseIdx hu, e⟩)
set_option maxRecDepth 100000 in
set_option maxHeartbeats 4000000 in
theorem scut_keeps (L : List Lv) (vs : List (Option Addr × Nat)) (A : Option Addr) (c base i k : Nat) (x : Lv) (w : World) (h : OwnLv w base A c L vs) (hb : base ≤ w.heap.size) (hx : L[i]? = some x) (hk : k < x.rs.length) (hn : L.length ≤ 1000) (hl : x.rs.length ≤ 100) :
    Calls Tryz.prog 130 #[.slice A L.length c, .int .i64 i, .int .i64 k] w fun e w' => ∃ A' c' vs', e = .returned (.slice A' (outL L i k).length c') ∧ OwnLv w' base A' c' (outL L i k) vs' ∧ Below base w w' ∧ KeepsBut (rowsOf A c vs) w w' ∧ ∀ r ∈ rowsOf A' c' vs', r ∈ rowsOf A c vs := by
  have hi : i < L.length := (List.getElem?_eq_some_iff.1 hx).1
  have hlen := h.len
  have hv : vs[i]? = some (vs[i]'(by omega)) := List.getElem?_eq_getElem (by omega)
  generalize vs[i]'(by omega) = v at hv
  obtain ⟨Ar, cr⟩ := v
  obtain ⟨ho, hap⟩ := h.each i x _ hx hv
  have hle := h.own.le
  obtain ⟨g, off, rfl, hg0, hgl, hcell, hfree⟩ := h.own.cell (by omega)
  have hrow : rowOf (some (⟨g, off, none⟩ : Addr)) c = some g := by rw [rowOf, if_neg (by omega)]; rfl
  have hne : some g ≠ rowOf Ar cr := by
    rw [hrow] at hap
    rcases hap with e | e
    · intro e2; dsimp only at e; rw [e] at e2; cases e2
    · exact fun e2 => e e2.symm
  obtain ⟨c0, c1⟩ := lvCells_get hx hv
  have d1 : w.cell? ⟨g, off + i * 2 + 1, none⟩ = some (.slice Ar x.rs.length cr) := by rw [Nat.add_assoc, hcell _ (by omega)]; exact c1
  have f1 : w.frozen? ⟨g, off + i * 2 + 1, none⟩ = false := by rw [Nat.add_assoc]; exact (hfree (i * 2 + 1) (by omega)).2
  have hr5 : ∀ r, rowOf Ar cr = some r → base ≤ r := fun r hr => (ho.row_lt r hr).1
  have cD := Lib.hid (delete_rests x.rs Ar cr base k (x.rs.length - k - 1) w ho (by omega) hl)
  have hel : (x.rs.eraseIdx k).length = x.rs.length - 1 := List.length_eraseIdx_of_lt hk
  have H := Lib.hid h
  have HX := Lib.hid hx
  have HV := Lib.hid hv
  have HEL := Lib.hid hel
  have HR5 := Lib.hid hr5
  clear h hx hv ho hap hcell hfree c0 c1 hr5 hel
  go_enter Tryz.func130, Tryz.ntmps130
  go_wp2_with fail
  go_at_call 151
  refine cD.out.mono ?_
  rintro e w1 ⟨rfl, o1, gr⟩
  have d1' : w1.cell? ⟨g, off + i * 2 + 1, none⟩ = some (.slice Ar x.rs.length cr) := (gr.cell_far ⟨g, off + i * 2 + 1, none⟩ hgl hne).trans d1
  have f1' : w1.frozen? ⟨g, off + i * 2 + 1, none⟩ = false := (gr.frozen_far ⟨g, off + i * 2 + 1, none⟩ hgl hne).trans f1
  have s1 := (H.out.setAt HX.out HV.out gr o1 (.inr (.inl rfl)))
  rw [← Nat.add_assoc] at s1
  have b1 := (below_of_grown gr HR5.out hb).setCell (p := ⟨g, off + i * 2 + 1, none⟩) hg0 (.slice Ar (x.rs.eraseIdx k).length cr)
  have O1 := Lib.hid s1
  have HSUB := Lib.hid (fun r (hr : r ∈ rowsOf (some (⟨g, off, none⟩ : Addr)) c (vs.set i (Ar, cr))) => rows_set_sub HV.out hr)
  have K1 := Lib.hid (((KeepsBut.refl (rowsOf (some ⟨g, off, none⟩) c vs) w).grown gr (by rw [rowsOf]; exact List.mem_cons_of_mem _ (List.mem_map.2 ⟨_, List.mem_of_getElem? HV.out, rfl⟩))).set (p := ⟨g, off + i * 2 + 1, none⟩) (by rw [rowsOf, hrow]; exact List.mem_cons_self ..) (.slice Ar (x.rs.eraseIdx k).length cr))
  have GS := Lib.hid (show base ≤ w1.heap.size by have := gr.size; omega)
  clear d1 f1 cD o1 s1 gr H
  by_cases hz : (x.rs.eraseIdx k).length = 0
  · have HO := Lib.hid (outL_erase HX.out hz)
    have hle2 := O1.out.own.le
    rw [List.length_set] at hle2
    have cL := Lib.hid (fun W (e : W = w1.setCell ⟨g, off + i * 2 + 1, none⟩ (.slice Ar (x.rs.eraseIdx k).length cr)) => delete_levels (lvCells (L.set i ⟨x.price, x.rs.eraseIdx k⟩) (vs.set i (Ar, cr))) L.length (some ⟨g, off, none⟩) c base i (L.length - i - 1) W (by rw [e]; have := O1.out.own; rwa [List.length_set] at this) lvCells_one (by omega) hn)
    rw [hz] at O1 b1 cL K1 ⊢
    clear HEL HR5 hle2
    obtain ⟨W, hW⟩ : ∃ W, W = w1.setCell ⟨g, off + i * 2 + 1, none⟩ (.slice Ar (0 : Nat) cr) := ⟨_, rfl⟩
    have HW := Lib.hid hW
    have cW := Lib.hid (cL.out W hW)
    clear cL hW
    go_wp2_with fail
    go_at_call 152
    rw [← HW.out]
    refine cW.out.mono ?_
    rintro e w2 ⟨rfl, o2, gr2⟩
    have e2 : i + (L.length - i - 1) = L.length - 1 := by omega
    rw [e2] at o2 ⊢
    have O2 := Lib.hid o2
    have G2 := Lib.hid gr2
    clear o2 gr2 cW d1' f1'
    go_wp2
    go_ret
    have o1 := O1.out
    rw [← HW.out] at o1
    have o3 := o1.erase (i := i) (by rw [List.length_set]; exact hi) (by rw [List.length_set]; exact O2.out) G2.out
    have e4 : (L.set i ⟨x.price, x.rs.eraseIdx k⟩).eraseIdx i = L.eraseIdx i := List.eraseIdx_set_eq
    rw [e4] at o3
    refine ⟨_, _, _, ?_, by rw [HO.out]; exact o3, (by rw [← HW.out] at b1; exact b1.trans (below_of_grown G2.out (fun r hr => (o1.row_lt r hr).1) (by rw [HW.out]; simpa using GS.out))), (by have := K1.out; rw [← HW.out] at this; exact this.grown G2.out (by rw [rowsOf]; exact List.mem_cons_self ..)), fun r hr => HSUB.out r (rows_erase_sub hr)⟩
    rw [HO.out, List.length_eraseIdx_of_lt hi]
    rfl
  · have HO := Lib.hid (outL_set HX.out hz)
    have hz2 : ((x.rs.eraseIdx k).length : Int) ≠ 0 := by omega
    clear hz HEL HR5
    go_wp2
    go_ret
    refine ⟨_, _, _, ?_, by rw [HO.out]; exact O1.out, b1, K1.out, HSUB.out⟩
    rw [HO.out, List.length_set]
    rfl
theorem scut_any (L : List Lv) (vs : List (Option Addr × Nat)) (A : Option Addr) (c base i k : Nat) (x : Lv) (w : World) (h : OwnLv w base A c L vs) (hb : base ≤ w.heap.size) (hx : L[i]? = some x) (hk : k < x.rs.length) (hn : L.length ≤ 1000) (hl : x.rs.length ≤ 100) :
    Calls Tryz.prog 130 #[.slice A L.length c, .int .i64 i, .int .i64 k] w fun e w' => ∃ A' c' vs', e = .returned (.slice A' (outL L i k).length c') ∧ OwnLv w' base A' c' (outL L i k) vs' ∧ Below base w w' :=
  (scut_keeps L vs A c base i k x w h hb hx hk hn hl).mono fun _ _ ⟨A', c', vs', h1, h2, h3, _⟩ => ⟨A', c', vs', h1, h2, h3⟩
end Go.Proofs.YtkdgpdijbobmkaaGreat
namespace Go.Proofs.YtkdgpdijbobmkaaGreat
set_option linter.all false
open Go Go.RowKit
/-- blocks of the one are none of the other -/
def FarRows (rs qs : List (Option Nat)) : Prop := ∀ r ∈ rs, ∀ q ∈ qs, Ap r q
theorem OwnLv.rows_lt {w : World} {base c : Nat} {A : Option Addr} {L : List Lv} {vs : List (Option Addr × Nat)} (h : OwnLv w base A c L vs) {r : Option Nat} (hr : r ∈ rowsOf A c vs) : ∀ k, r = some k → base ≤ k ∧ k < w.heap.size := by
  rcases List.mem_cons.1 hr with rfl | hr
  · exact h.row_lt
  · obtain ⟨u, hu, rfl⟩ := List.mem_map.1 hr
    obtain ⟨i, hi, e⟩ := List.getElem_of_mem hu
    exact h.each_lt (by rw [← e]; exact List.getElem?_eq_getElem hi)
theorem OwnS.same {w w' : World} {base s n cap : Nat} {A : Option Addr} {xs : List Value} (h : OwnS w base s A n cap xs) (hz : w.heap.size ≤ w'.heap.size) (hb : ∀ k, rowOf A cap = some k → w'.heap[k]? = w.heap[k]?) : OwnS w' base s A n cap xs := by
  refine ⟨h.len, h.le, h.max, fun hc => ?_⟩
  obtain ⟨g, off, e, hb1, hl, h1, h2⟩ := h.lies hc
  have hblk := hb g (by rw [rowOf, if_neg (by omega), e]; rfl)
  refine ⟨g, off, e, hb1, Nat.lt_of_lt_of_le hl hz, fun j hj => ?_, fun j hj => ⟨?_, ?_⟩⟩
  · exact (World.cell?_of_block (a := ⟨g, off + j, none⟩) hblk).trans (h1 j hj)
  · exact (congrArg Option.isSome (World.cell?_of_block (a := ⟨g, off + j, none⟩) hblk)).trans (h2 j hj).1
  · exact (World.frozen?_of_block (a := ⟨g, off + j, none⟩) hblk).trans (h2 j hj).2
/-- levels whose blocks are as they were -/
theorem OwnLv.same {w w' : World} {base c : Nat} {A : Option Addr} {L : List Lv} {vs : List (Option Addr × Nat)} {rs : List (Option Nat)} (h : OwnLv w base A c L vs) (hk : KeepsBut rs w w') (hf : FarRows rs (rowsOf A c vs)) : OwnLv w' base A c L vs := by
  have key : ∀ r ∈ rowsOf A c vs, ∀ k, r = some k → w'.heap[k]? = w.heap[k]? := by
    rintro r hr k rfl
    refine hk.2 k (h.rows_lt hr k rfl).2 (fun hn => ?_)
    rcases hf _ hn _ hr with e | e
    · cases e
    · exact e rfl
  refine ⟨h.len, h.own.same hk.1 (key _ (List.mem_cons_self ..)), fun i x v hx hv => ⟨(h.each i x v hx hv).1.same hk.1 (key _ (List.mem_cons_of_mem _ (List.mem_map.2 ⟨v, List.mem_of_getElem? hv, rfl⟩))), (h.each i x v hx hv).2⟩, h.apart⟩
theorem FarRows.symm {rs qs : List (Option Nat)} (h : FarRows rs qs) : FarRows qs rs := fun q hq r hr => (h r hr q hq).symm
def BOwn2Post (L M : List Lv) (w : World) (e : Ending) (w' : World) : Prop :=
  ∃ A1 c1 v1 A2 c2 v2, e = .returned (.agg #[.slice A1 L.length c1, .slice A2 M.length c2]) ∧ OwnLv w' w.heap.size A1 c1 L v1 ∧ OwnLv w' w.heap.size A2 c2 M v2 ∧ Below w.heap.size w w' ∧ FarRows (rowsOf A1 c1 v1) (rowsOf A2 c2 v2)
set_option maxRecDepth 100000 in
set_option maxHeartbeats 4000000 in
theorem bown2_any (L M : List Lv) (A1 A2 : Option Addr) (c1 c2 : Nat) (w : World) (h1 : RdLv w w.heap.size A1 L) (h2 : RdLv w w.heap.size A2 M) (ok1 : LvOk L) (ok2 : LvOk M) (hA1 : A1 = none → c1 = 0) (hA2 : A2 = none → c2 = 0) :
    Calls Tryz.prog 45 #[.agg #[.slice A1 L.length c1, .slice A2 M.length c2]] w (BOwn2Post L M w) := by
  have HL := Lib.hid h1; have HM := Lib.hid h2
  have cL := Lib.hid (fun w' h => own_any L A1 c1 w' h ok1 hA1)
  have cM := Lib.hid (fun w' h => own_any M A2 c2 w' h ok2 hA2)
  clear h1 h2 ok1 ok2 hA1 hA2
  have hb : Below w.heap.size w ((w.alloc (.cells #[.slice A1 L.length c1, .slice A2 M.length c2] 54)).alloc (.cells #[.slice none 0 0, .slice none 0 0] 54)) := below_then_alloc ((Below.refl _ _).alloc (Nat.le_refl _) _)
  have bb := (Bk.new w 54 #[.slice A1 L.length c1, .slice A2 M.length c2]).alloc (.cells #[.slice none 0 0, .slice none 0 0] 54)
  have br := Bk.at_ (w := w.alloc (.cells #[.slice A1 L.length c1, .slice A2 M.length c2] 54)) (g' := w.heap.size + 1) (by simp) 54 #[.slice none 0 0, .slice none 0 0]
  go_enter Tryz.func45, Tryz.ntmps45
  go_upto_region 1 with fail
  generalize (w.alloc (.cells #[.slice A1 L.length c1, .slice A2 M.length c2] 54)).alloc (.cells #[.slice none 0 0, .slice none 0 0] 54) = w0 at *
  replace bb := bb.drew
  replace br := br.drew
  have hbd := hb.drew
  obtain ⟨q0, q1⟩ := box2 bb
  go_region_held3 (fun w' => w'.cell? ⟨w.heap.size, 0, none⟩ = some (.slice A1 L.length c1) ∧ w'.cell? ⟨w.heap.size, 1, none⟩ = some (.slice A2 M.length c2)) ((repeat' apply And.intro) <;> (first | (with_reducible assumption) | (with_reducible exact cell_far2 (by assumption) (by simp))))
    (first
      | (go_at_call 79; (with_reducible refine (cL.out _ (HL.out.on (by (repeat (first | exact Below.refl _ _ | assumption | (refine below_then (by assumption) ?_) | (refine below_then_alloc ?_) | (refine Below.drew ?_)))))).mono ?_); rintro e wa ⟨Aa, ca, va, rfl, oa, ha⟩; go_loud (have bbL : Bk wa w.heap.size 54 #[.slice A1 L.length c1, .slice A2 M.length c2] := by first | exact bb.keep ha | exact bbM.keep ha); go_loud (have brL : Bk wa (w.heap.size + 1) 54 #[.slice none 0 0, .slice none 0 0] := by first | exact br.keep ha | exact brM.keep ha); have s0 := bbL.cell 0; have s1 := bbL.cell 1; (simp at s0 s1); have r0 := brL.cell 0; have r1 := brL.cell 1; (simp at r0 r1); have f0 := brL.free 0; have f1 := brL.free 1)
      | (go_at_call 79; (with_reducible refine (cM.out _ (HM.out.on (by (repeat (first | exact Below.refl _ _ | assumption | (refine below_then (by assumption) ?_) | (refine below_then_alloc ?_) | (refine Below.drew ?_)))))).mono ?_); rintro e wm ⟨Am, cm, vm, rfl, om, hm⟩; go_loud (have bbM : Bk wm w.heap.size 54 #[.slice A1 L.length c1, .slice A2 M.length c2] := by first | exact bb.keep hm | exact bbL.keep hm); go_loud (have brM : Bk wm (w.heap.size + 1) 54 #[.slice none 0 0, .slice none 0 0] := by first | exact br.keep hm | exact brL.keep hm); have s0 := bbM.cell 0; have s1 := bbM.cell 1; (simp at s0 s1); have r0 := brM.cell 0; have r1 := brM.cell 1; (simp at r0 r1); have f0 := brM.free 0; have f1 := brM.free 1))
  · have kx := box2 (brM.set2 (.slice Aa L.length ca) (.slice Am M.length cm))
    have hbf := below_then hm (below_then ha hbd)
    have HFAR := Lib.hid (show FarRows (rowsOf Aa ca va) (rowsOf Am cm vm) from fun r hr q hq => (Ap.new (n := wa.heap.size) (fun k hk => (om.rows_lt hq k hk).1) (fun k hk => (oa.rows_lt hr k hk).2)).symm)
    have hz : w.heap.size + 1 < w0.heap.size := by have := br.lt; simpa using this
    have hz2 := ha.size
    have O1 := Lib.hid (((oa.below hm).far2 (g := w.heap.size + 1) (i := 0) (j := 1) (by simpa using hz) (.slice Aa L.length ca) (.slice Am M.length cm)).lower hbd.size)
    have O2 := Lib.hid ((om.far2 (g := w.heap.size + 1) (i := 0) (j := 1) (by simp at hz2; omega) (.slice Aa L.length ca) (.slice Am M.length cm)).lower (below_then ha hbd).size)
    have hb2 := (hbf.setCell (p := ⟨w.heap.size + 1, 0, none⟩) (by simp) (.slice Aa L.length ca)).setCell (p := ⟨w.heap.size + 1, 1, none⟩) (by simp) (.slice Am M.length cm)
    clear oa om ha hm hz hz2
    go_wp2
    exact bodyPost_ret (v := .agg #[.slice Aa L.length ca, .slice Am M.length cm]) (by simp [results, Tryz.results45, go_sem, kx]) rfl ⟨_, _, va, _, _, vm, rfl, O1.out, O2.out, hb2, HFAR.out⟩
end Go.Proofs.YtkdgpdijbobmkaaGreat
namespace Go.Proofs.YtkdgpdijbobmkaaGreat
set_option linter.all false
open Go Go.RowKit
/-- where a rest of an id is -/
structure At (L : List Lv) (id : Int) (i k : Nat) (x : Lv) (r : Rest) : Prop where
  where_ : whereL L id = ((i : Int), (k : Int))
  lv : L[i]? = some x
  rest : x.rs[k]? = some r
  id_ : r.id = id
theorem findI_at {l : List Rest} {id : Int} (h : 0 ≤ findI l id) : ∃ (k : Nat) (r : Rest), findI l id = k ∧ l[k]? = some r ∧ r.id = id := by
  unfold findI at h ⊢
  cases hf : l.findIdx? (fun r => r.id == id) with
  | none => rw [hf] at h; simp at h
  | some k =>
    obtain ⟨hk, h1, _⟩ := List.findIdx?_eq_some_iff_getElem.1 hf
    exact ⟨k, l[k], rfl, List.getElem?_eq_getElem hk, by simpa using h1⟩
theorem whereL_at {L : List Lv} {id : Int} (h : 0 ≤ (whereL L id).1) : ∃ i k x r, At L id i k x r := by
  unfold whereL at h
  cases hf : (List.range L.length).find? (fun k => decide (0 ≤ findI ((L.getD k ⟨0, []⟩).rs) id)) with
  | none => rw [hf] at h; simp at h
  | some i =>
    rw [List.find?_range_eq_some] at hf
    obtain ⟨h1, h2, h3⟩ := hf
    have hi : i < L.length := by simpa using h2
    have hx := lv_get hi
    have hg : L.getD i ⟨0, []⟩ = L[i] := by rw [List.getD_eq_getElem?_getD, hx]; rfl
    rw [hg] at h1
    have h1' : 0 ≤ findI L[i].rs id := by simpa using h1
    obtain ⟨k, r, e1, e2, e3⟩ := findI_at h1'
    refine ⟨i, k, L[i], r, ⟨?_, hx, e2, e3⟩⟩
    rw [whereL_hit hx (fun j hj => by have := h3 j hj; simpa using this) h1', e1]
/-- what is wrong when an id is looked for -/
def sdE (s : Int) (L : List Lv) (id : Int) : Int := if sideE s L ≠ 0 then sideE s L else if (whereL L id).1 < 0 then 5 else 0
theorem sdE_ok {s : Int} {L : List Lv} {id : Int} (h : sdE s L id = 0) : sideE s L = 0 ∧ 0 ≤ (whereL L id).1 := by
  unfold sdE at h
  by_cases h1 : sideE s L = 0
  · rw [if_neg (by simpa using h1)] at h
    by_cases h2 : (whereL L id).1 < 0
    · rw [if_pos h2] at h; omega
    · exact ⟨h1, by omega⟩
  · rw [if_pos h1] at h; exact absurd h h1
end Go.Proofs.YtkdgpdijbobmkaaGreat
namespace Go.Proofs.YtkdgpdijbobmkaaGreat
set_option linter.all false
open Go Go.RowKit
/-- where a rest of an id is in a book -/
structure BAt (L M : List Lv) (id s : Int) (i k : Nat) (x : Lv) (r : Rest) : Prop where
  where_ : whereB L M id = (s, (i : Int), (k : Int))
  side : vs s = true
  at_ : At (sidL s L M) id i k x r
theorem whereB_at {L M : List Lv} {id : Int} (h : (whereB L M id).1 ≠ 0) : ∃ s i k x r, BAt L M id s i k x r := by
  by_cases h1 : 0 ≤ (whereL L id).1
  · obtain ⟨i, k, x, r, ha⟩ := whereL_at h1
    refine ⟨1, i, k, x, r, ⟨?_, rfl, ha⟩⟩
    rw [whereB, if_pos h1, ha.where_]
  · by_cases h2 : 0 ≤ (whereL M id).1
    · obtain ⟨i, k, x, r, ha⟩ := whereL_at h2
      refine ⟨2, i, k, x, r, ⟨?_, rfl, ha⟩⟩
      rw [whereB, if_neg h1, if_pos h2, ha.where_]
    · rw [whereB, if_neg h1, if_neg h2] at h
      exact absurd rfl h
/-- a book without the k-th rest of level i of a side -/
def cutL (s : Int) (i k : Nat) (L : List Lv) : List Lv := if s = 1 then outL L i k else L
def cutM (s : Int) (i k : Nat) (M : List Lv) : List Lv := if s = 1 then M else outL M i k
def CutPost (L' M' : List Lv) (base : Nat) (w : World) (e : Ending) (w' : World) : Prop :=
  ∃ A1 c1 v1 A2 c2 v2, e = .returned (.agg #[.slice A1 L'.length c1, .slice A2 M'.length c2]) ∧ OwnLv w' base A1 c1 L' v1 ∧ OwnLv w' base A2 c2 M' v2 ∧ Below base w w'
theorem OwnLv.setNew {w : World} {base c : Nat} {A : Option Addr} {L : List Lv} {vs : List (Option Addr × Nat)} {p : Addr} (h : OwnLv w base A c L vs) (hn : some p.block ∉ rowsOf A c vs) (u : Value) : OwnLv (w.setCell p u) base A c L vs :=
  h.same ((KeepsBut.refl [some p.block] w).set (p := p) (List.mem_singleton.2 rfl) u) (fun r hr q hq => by
    rw [List.mem_singleton] at hr
    subst hr
    exact .inr (fun e => hn (e ▸ hq)))
set_option maxRecDepth 100000 in
set_option maxHeartbeats 4000000 in
theorem cutb_any (s : Int) (hs : vs s = true) (L M : List Lv) (A1 A2 : Option Addr) (c1 c2 : Nat) (v1 v2 : List (Option Addr × Nat)) (base i k : Nat) (x : Lv) (w : World) (o1 : OwnLv w base A1 c1 L v1) (o2 : OwnLv w base A2 c2 M v2) (hf : FarRows (rowsOf A1 c1 v1) (rowsOf A2 c2 v2)) (hb0 : base ≤ w.heap.size) (hx : (sidL s L M)[i]? = some x) (hk : k < x.rs.length) (hn : L.length ≤ 1000 ∧ M.length ≤ 1000) (hl : x.rs.length ≤ 100) :
    Calls Tryz.prog 99 #[.agg #[.slice A1 L.length c1, .slice A2 M.length c2], .int .i64 s, .int .i64 i, .int .i64 k] w (CutPost (cutL s i k L) (cutM s i k M) base w) := by
  have hb : Below w.heap.size w ((w.alloc (.cells #[.slice A1 L.length c1, .slice A2 M.length c2] 54)).alloc (.cells #[.slice none 0 0, .slice none 0 0] 54)) := below_then_alloc ((Below.refl _ _).alloc (Nat.le_refl _) _)
  have bb := (Bk.new w 54 #[.slice A1 L.length c1, .slice A2 M.length c2]).alloc (.cells #[.slice none 0 0, .slice none 0 0] 54)
  have br := Bk.at_ (w := w.alloc (.cells #[.slice A1 L.length c1, .slice A2 M.length c2] 54)) (g' := w.heap.size + 1) (by simp) 54 #[.slice none 0 0, .slice none 0 0]
  have hos : OwnLv w base (sid s A1 A2) (sid s c1 c2) (sidL s L M) (sid s v1 v2) := by
    rcases side_two hs with rfl | rfl
    · exact o1
    · exact o2
  have hnot : ∀ b, w.heap.size ≤ b → some b ∉ rowsOf (sid s A1 A2) (sid s c1 c2) (sid s v1 v2) := fun b hb hm => by
    have := (hos.rows_lt hm b rfl).2
    omega
  have hsl : (sidL s L M).length ≤ 1000 := by
    rcases side_two hs with rfl | rfl
    · exact hn.1
    · exact hn.2
  have cOf := Lib.hid (fun w => ofs_any s hs L M A1 A2 c1 c2 w)
  have cCut := Lib.hid (fun w' h hb => scut_keeps (sidL s L M) (sid s v1 v2) (sid s A1 A2) (sid s c1 c2) base i k x w' h hb hx hk hsl hl)
  have cWi := Lib.hid (fun A3 n3 c3 w => withs_any s hs A1 A2 A3 L.length M.length n3 c1 c2 c3 w)
  have HOS := Lib.hid hos; have HNOT := Lib.hid hnot; have HF := Lib.hid hf; have H1 := Lib.hid o1; have H2 := Lib.hid o2; have HS := Lib.hid hs
  clear hos hnot hsl hx hk hn hl o1 o2 hf hs
  go_enter Tryz.func99, Tryz.ntmps99
  go_upto_region 1 with fail
  generalize hw0 : (w.alloc (.cells #[.slice A1 L.length c1, .slice A2 M.length c2] 54)).alloc (.cells #[.slice none 0 0, .slice none 0 0] 54) = w0 at *
  clear hw0
  replace bb := bb.drew
  replace br := br.drew
  have hbd := hb.drew
  obtain ⟨q0, q1⟩ := box2 bb
  have HBR := Lib.hid br
  have hlt : w.heap.size + 1 < w0.heap.size := br.lt
  go_region_held3 (fun w' => w'.cell? ⟨w.heap.size, 0, none⟩ = some (.slice A1 L.length c1) ∧ w'.cell? ⟨w.heap.size, 1, none⟩ = some (.slice A2 M.length c2)) ((repeat' apply And.intro) <;> (first | (with_reducible assumption) | (with_reducible exact cell_far2 (by assumption) (by simp))))
    (first
      | (go_at_call 47; (with_reducible refine (cOf.out _).mono ?_); rintro e wo ⟨rfl, hbo⟩; have bbo := bb.keep hbo; obtain ⟨q0, q1⟩ := box2 bbo)
      | (go_at_call 130; (with_reducible refine (cCut.out _ (HOS.out.below (below_then hbo hbd)) (Nat.le_trans hb0 (below_then hbo hbd).size)).mono ?_); rintro e wc ⟨A3, c3, v3, rfl, oc, hbc, hkc, hsub⟩; have bbc : Bk wc w.heap.size 54 #[.slice A1 L.length c1, .slice A2 M.length c2] := (hkc.2 w.heap.size bbo.lt (HNOT.out _ (Nat.le_refl _))).trans bbo; obtain ⟨q0, q1⟩ := box2 bbc)
      | (go_at_call 129; (with_reducible refine (cWi.out A3 _ c3 _).mono ?_); rintro e wi ⟨rfl, hbi⟩; have bbi := bbc.keep hbi; obtain ⟨q0, q1⟩ := box2 bbi; go_loud (have bri : Bk wi (w.heap.size + 1) 54 #[.slice none 0 0, .slice none 0 0] := Bk.keep ((hkc.2 (w.heap.size + 1) (HBR.out.keep hbo).lt (HNOT.out _ (Nat.le_succ _))).trans (HBR.out.keep hbo)) hbi); have r0 := bri.cell 0; have r1 := bri.cell 1; (simp at r0 r1); have f0 := bri.free 0; have f1 := bri.free 1))
  have kx := box2 (bri.set2 (.slice (sid s A3 A1) (sid s (outL (sidL s L M) i k).length L.length) (sid s c3 c1)) (.slice (sid s A2 A3) (sid s M.length (outL (sidL s L M) i k).length) (sid s c2 c3)))
  have FIN := Lib.hid (show CutPost (cutL s i k L) (cutM s i k M) base w (.returned (.agg #[.slice (sid s A3 A1) (sid s (outL (sidL s L M) i k).length L.length) (sid s c3 c1), .slice (sid s A2 A3) (sid s M.length (outL (sidL s L M) i k).length) (sid s c2 c3)])) ((wi.setCell ⟨w.heap.size + 1, 0, none⟩ (.slice (sid s A3 A1) (sid s (outL (sidL s L M) i k).length L.length) (sid s c3 c1))).setCell ⟨w.heap.size + 1, 1, none⟩ (.slice (sid s A2 A3) (sid s M.length (outL (sidL s L M) i k).length) (sid s c2 c3))) by
    have hbw : Below base w wi := (((below_then hbo hbd).mono hb0).trans hbc).trans (hbi.mono (Nat.le_trans (Nat.le_trans hb0 (below_then hbo hbd).size) hbc.size))
    have hbf : ∀ (u v : Value), Below base w ((wi.setCell ⟨w.heap.size + 1, 0, none⟩ u).setCell ⟨w.heap.size + 1, 1, none⟩ v) := fun u v => (hbw.setCell (p := ⟨w.heap.size + 1, 0, none⟩) (by show base ≤ w.heap.size + 1; omega) u).setCell (p := ⟨w.heap.size + 1, 1, none⟩) (by show base ≤ w.heap.size + 1; omega) v
    have hc : some (w.heap.size + 1) ∉ rowsOf A3 c3 v3 := fun h => HNOT.out _ (Nat.le_succ _) (hsub _ h)
    have oc' : ∀ (u v : Value), OwnLv ((wi.setCell ⟨w.heap.size + 1, 0, none⟩ u).setCell ⟨w.heap.size + 1, 1, none⟩ v) base A3 c3 (outL (sidL s L M) i k) v3 := fun u v => ((oc.below hbi).setNew (p := ⟨w.heap.size + 1, 0, none⟩) hc u).setNew (p := ⟨w.heap.size + 1, 1, none⟩) hc v
    have other : ∀ {B : Option Addr} {cb : Nat} {K : List Lv} {vb : List (Option Addr × Nat)}, OwnLv w base B cb K vb → FarRows (rowsOf (sid s A1 A2) (sid s c1 c2) (sid s v1 v2)) (rowsOf B cb vb) → ∀ (u v : Value), OwnLv ((wi.setCell ⟨w.heap.size + 1, 0, none⟩ u).setCell ⟨w.heap.size + 1, 1, none⟩ v) base B cb K vb := fun o hfr u v => by
      have hn : some (w.heap.size + 1) ∉ rowsOf _ _ _ := fun h => by have := (o.rows_lt h _ rfl).2; omega
      exact ((((o.below (below_then hbo hbd)).same hkc hfr).below hbi).setNew (p := ⟨w.heap.size + 1, 0, none⟩) hn u).setNew (p := ⟨w.heap.size + 1, 1, none⟩) hn v
    rcases side_two HS.out with rfl | rfl
    · exact ⟨_, _, v3, _, _, v2, rfl, oc' _ _, other H2.out HF.out _ _, hbf _ _⟩
    · exact ⟨_, _, v1, _, _, v3, rfl, other H1.out HF.out.symm _ _, oc' _ _, hbf _ _⟩)
  clear hbo hbc hbi hkc hsub oc bbo bbc bbi bri bb br hb hbd
  go_wp2
  exact bodyPost_ret (v := .agg #[.slice (sid s A3 A1) (sid s (outL (sidL s L M) i k).length L.length) (sid s c3 c1), .slice (sid s A2 A3) (sid s M.length (outL (sidL s L M) i k).length) (sid s c2 c3)]) (by simp [results, Tryz.results99, go_sem, kx]) rfl FIN.out
end Go.Proofs.YtkdgpdijbobmkaaGreat
namespace Go.Proofs.YtkdgpdijbobmkaaGreat
set_option linter.all false
open Go Go.RowKit
/-- the best price; 0: there is none -/
def bestL : List Lv → Int
  | [] => 0
  | x :: _ => x.price
/-- how Count ends -/
def BCountPost (z a0 : Int) (w : World) (e : Ending) (w' : World) : Prop :=
  ∃ a ev, e = .returned (.tuple #[.int .i64 a, ev]) ∧ Hid ((z ≠ 0 ∧ ev = er z ∧ a = 0) ∨ (z = 0 ∧ ev = .nilIface ∧ a = a0)) ∧ Below w.heap.size w w'
set_option maxRecDepth 100000 in
set_option maxHeartbeats 4000000 in
theorem bcount_any (L M : List Lv) (A1 A2 : Option Addr) (c1 c2 : Nat) (w : World) (h1 : RdLv w w.heap.size A1 L) (h2 : RdLv w w.heap.size A2 M) (hl1 : L.length ≤ maxLen) (hl2 : M.length ≤ maxLen) (z : Int) (hz : z = bookE L M) :
    Calls Tryz.prog 25 #[.agg #[.slice A1 L.length c1, .slice A2 M.length c2]] w (BCountPost z (cnt L + cnt M : Nat) w) := by
  have HL := Lib.hid h1; have HM := Lib.hid h2; have HZ := Lib.hid hz
  have cC := Lib.hid (fun w' h h' => bcheck_any L M A1 A2 c1 c2 w' h h' hl1 hl2)
  have hb : Below w.heap.size w (w.alloc (.cells #[.slice A1 L.length c1, .slice A2 M.length c2] 54)) := (Below.refl _ _).alloc (Nat.le_refl _) _
  have bb := Bk.new w 54 #[.slice A1 L.length c1, .slice A2 M.length c2]
  clear h1 h2 hz
  go_enter Tryz.func25, Tryz.ntmps25
  go_upto_region 1 with fail
  generalize w.alloc (.cells #[.slice A1 L.length c1, .slice A2 M.length c2] 54) = w0 at *
  obtain ⟨q0, q1⟩ := box2 bb
  go_wp2_with fail
  go_at_call 18
  refine (cC.out _ (HL.out.on hb) (HM.out.on hb)).mono ?_
  rintro e w1 ⟨rfl, hb1⟩
  replace bb := bb.keep hb1; replace hb := below_then hb1 hb
  clear hb1 cC q0 q1
  by_cases h1 : bookE L M = 0
  case neg =>
    have HE := Lib.hid (show z = bookE L M from HZ.out)
    have HN := Lib.hid h1
    rw [show errV (bookE L M) = er (bookE L M) by rw [errV, if_neg h1]]
    clear h1
    generalize bookE L M = y at *
    go_wp2
    go_ret2
    exact ⟨0, er y, rfl, Lib.hid (.inl ⟨by rw [HE.out]; exact HN.out, by rw [HE.out], rfl⟩), hb⟩
  have HE := Lib.hid (show z = 0 by rw [HZ.out, h1])
  have hbk := bookE_iff.1 h1
  have f1 := hbk.buys.few; have f2 := hbk.sells.few
  have cX := Lib.hid (fun w' h => count_any L A1 c1 w' h hl1 (by unfold maxLen; omega))
  have cY := Lib.hid (fun w' h => count_any M A2 c2 w' h hl2 (by unfold maxLen; omega))
  rw [h1, show errV 0 = .nilIface from rfl]
  clear h1 HZ hbk hl1 hl2
  obtain ⟨q0, q1⟩ := box2 bb
  generalize cnt L = a0 at *
  generalize cnt M = b0 at *
  have x3 : IntKind.i64.wrap ((a0 : Int) + (b0 : Int)) = (a0 : Int) + (b0 : Int) := IntWalk.i64_in _ (by omega)
  go_upto_region 4 with fail
  have bbd := bb.drew
  have hbd := hb.drew
  go_region_held3 (fun w' => w'.cell? ⟨w.heap.size, 0, none⟩ = some (.slice A1 L.length c1) ∧ w'.cell? ⟨w.heap.size, 1, none⟩ = some (.slice A2 M.length c2)) ((repeat' apply And.intro) <;> (first | (with_reducible assumption) | (with_reducible exact cell_drew (by assumption))))
    (first
      | (go_at_call 56; (with_reducible refine (cX.out _ (HL.out.on (by (repeat (first | exact Below.refl _ _ | assumption | (refine below_then (by assumption) ?_) | (refine below_then_alloc ?_) | (refine Below.drew ?_)))))).mono ?_); rintro e wa ⟨rfl, ha⟩; go_loud (have bbL : Bk wa w.heap.size 54 #[.slice A1 L.length c1, .slice A2 M.length c2] := by first | exact bbd.keep ha | exact bbM.keep ha); obtain ⟨q0, q1⟩ := box2 bbL)
      | (go_at_call 56; (with_reducible refine (cY.out _ (HM.out.on (by (repeat (first | exact Below.refl _ _ | assumption | (refine below_then (by assumption) ?_) | (refine below_then_alloc ?_) | (refine Below.drew ?_)))))).mono ?_); rintro e wm ⟨rfl, hm⟩; go_loud (have bbM : Bk wm w.heap.size 54 #[.slice A1 L.length c1, .slice A2 M.length c2] := by first | exact bbd.keep hm | exact bbL.keep hm); obtain ⟨q0, q1⟩ := box2 bbM))
  all_goals
    have hbf : Below w.heap.size w _ := below_then hm (below_then ha hbd)
    go_wp2
    go_ret2
    exact ⟨_, .nilIface, rfl, Lib.hid (.inr ⟨HE.out, rfl, by simp⟩), hbf⟩
end Go.Proofs.YtkdgpdijbobmkaaGreat
namespace Go.Proofs.YtkdgpdijbobmkaaGreat
set_option linter.all false
open Go Go.RowKit
theorem putE_parts {L M : List Lv} {s p : Int} {r : Rest} (h : putE L M s p r = 0) : BookOk L M ∧ vs s = true ∧ addE s (sidL s L M) p r = 0 ∧ wholeE (putL s p r L) (putM s p r M) = 0 := by
  unfold putE at h
  by_cases h1 : bookE L M = 0
  · rw [if_neg (by simpa using h1)] at h
    cases h2 : vs s
    · rw [h2] at h; simp at h
    · rw [h2] at h
      simp only [Bool.true_eq_false, if_false] at h
      by_cases h3 : addE s (sidL s L M) p r = 0
      · rw [if_neg (by simpa using h3)] at h
        exact ⟨bookE_iff.1 h1, rfl, h3, h⟩
      · rw [if_pos h3] at h; exact absurd h h3
  · rw [if_pos h1] at h; exact absurd h h1
/-- what holds of a book with a rest more -/
structure Putted (L M : List Lv) (s p : Int) (r : Rest) : Prop where
  ok : BookOk (putL s p r L) (putM s p r M)
  old : BookOk L M
  side : vs s = true
  found : (whereB (putL s p r L) (putM s p r M) r.id).1 ≠ 0
  at_ : ∀ s' i k x q, BAt (putL s p r L) (putM s p r M) r.id s' i k x q → s' = s ∧ x.price = p ∧ q = r ∧ cutL s' i k (putL s p r L) = L ∧ cutM s' i k (putM s p r M) = M
  cnt_ : cnt (putL s p r L) + cnt (putM s p r M) = cnt L + cnt M + 1
theorem putted {L M : List Lv} {s p : Int} {r : Rest} (h : putE L M s p r = 0) : Putted L M s p r := by
  obtain ⟨h1, h2, h3, h4⟩ := putE_parts h
  obtain ⟨i, k, rs, ha⟩ := added h3
  have key : ∀ {K : List Lv} {i' k' : Nat} {x : Lv} {q : Rest}, Added s p r K i k rs → At (addL s p r K) r.id i' k' x q → x.price = p ∧ q = r ∧ outL (addL s p r K) i' k' = K := by
    intro K i' k' x q hA h2
    have e := hA.where_.symm.trans h2.where_
    simp only [Prod.mk.injEq] at e
    obtain rfl : i = i' := by omega
    obtain rfl : k = k' := by omega
    have e2 := hA.at_.symm.trans h2.lv
    cases e2
    refine ⟨rfl, ?_, hA.back⟩
    have := h2.rest
    rw [hA.len] at this
    simp at this
    exact this.symm
  rcases side_two h2 with rfl | rfl
  · change Added 1 p r L i k rs at ha
    have hok : BookOk (addL 1 p r L) M := by
      rw [← bookE_iff, bookE, sideE_iff.2 ha.side, sideE_iff.2 h1.sells]
      rw [if_neg (by simp), if_neg (by simp)]
      exact h4
    have hw : whereB (addL 1 p r L) M r.id = (1, (i : Int), (k : Int)) := by
      have := ha.where_
      rw [whereB, this, if_pos (by dsimp only; omega)]
    refine ⟨hok, h1, h2, by rw [show putL 1 p r L = addL 1 p r L from rfl, show putM 1 p r M = M from rfl, hw]; exact Int.one_ne_zero, fun s' i' k' x q hb => ?_, ?_⟩
    · have hb1 := hb.where_
      rw [show putL 1 p r L = addL 1 p r L from rfl, show putM 1 p r M = M from rfl, hw] at hb1
      simp only [Prod.mk.injEq] at hb1
      obtain ⟨rfl, _, _⟩ := hb1
      obtain ⟨e1, e2, e3⟩ := key ha hb.at_
      exact ⟨rfl, e1, e2, e3, rfl⟩
    · show cnt (addL 1 p r L) + cnt M = _
      rw [cnt_addL]; omega
  · change Added 2 p r M i k rs at ha
    have hok : BookOk L (addL 2 p r M) := by
      rw [← bookE_iff, bookE, sideE_iff.2 h1.buys, sideE_iff.2 ha.side]
      rw [if_neg (by simp), if_neg (by simp)]
      exact h4
    have hn : r.id ∉ ids L := by
      have h5 := hok.once
      rw [List.nodup_append] at h5
      intro hm
      have : r.id ∈ ids (addL 2 p r M) := ha.idp.mem_iff.2 (List.mem_cons_self ..)
      exact h5.2.2 _ hm _ this rfl
    have hw : whereB L (addL 2 p r M) r.id = (2, (i : Int), (k : Int)) := by
      have := ha.where_
      rw [whereB, if_neg (by have := whereL_neg.2 hn; omega), this, if_pos (by dsimp only; omega)]
    refine ⟨hok, h1, h2, by rw [show putL 2 p r L = L from rfl, show putM 2 p r M = addL 2 p r M from rfl, hw]; dsimp only; omega, fun s' i' k' x q hb => ?_, ?_⟩
    · have hb1 := hb.where_
      rw [show putL 2 p r L = L from rfl, show putM 2 p r M = addL 2 p r M from rfl, hw] at hb1
      simp only [Prod.mk.injEq] at hb1
      obtain ⟨rfl, _, _⟩ := hb1
      obtain ⟨e1, e2, e3⟩ := key ha hb.at_
      exact ⟨rfl, e1, e2, rfl, e3⟩
    · show cnt L + cnt (addL 2 p r M) = _
      rw [cnt_addL]; omega
/-- a book that is right has the best to buy below the best to sell -/
theorem BookOk.top {L M : List Lv} (h : BookOk L M) : bestL L = 0 ∨ bestL M = 0 ∨ bestL L < bestL M := by
  cases L with
  | nil => exact .inl rfl
  | cons a L =>
    cases M with
    | nil => exact .inr (.inl rfl)
    | cons b M => exact .inr (.inr (h.apart a (by simp) b (by simp)))
theorem BookOk.sizes {L M : List Lv} (h : BookOk L M) : (L.length ≤ maxLen ∧ ∀ x ∈ L, x.rs.length ≤ 1000) ∧ (M.length ≤ maxLen ∧ ∀ x ∈ M, x.rs.length ≤ 1000) := by
  have h1 := full_len h.buys.full; have h2 := full_len h.sells.full; have h3 := h.buys.few; have h4 := h.sells.few
  unfold maxLen
  exact ⟨⟨by omega, fun x hx => by have := len_cnt hx; omega⟩, ⟨by omega, fun x hx => by have := len_cnt hx; omega⟩⟩
end Go.Proofs.YtkdgpdijbobmkaaGreat
