/- The memory of a meeting, whole. -/
import Derived.Test.YtkdgpdijbobmkaaGreatGrpG
namespace Go.Proofs.YtkdgpdijbobmkaaGreat
set_option linter.all false
open Go Go.RowKit
def Trade.vals (t : Trade) : List Value := [.int .i64 t.maker, .int .i64 t.taker, .int .i64 t.frm, .int .i64 t.to, .int .i64 t.price, .int .i64 t.qty]
def trows (l : List Trade) : List Value := l.flatMap Trade.vals
theorem trows_len (l : List Trade) : (trows l).length = l.length * 6 := flat_len (f := Trade.vals) (s := 6) (fun _ => rfl) l
theorem trows_app (a b : List Trade) : trows (a ++ b) = trows a ++ trows b := List.flatMap_append
theorem trows_get {l : List Trade} {i j : Nat} (hi : i < l.length) (hj : j < 6) : (trows l)[i * 6 + j]? = some (tcell l i j) := by
  rw [trows, flat_get (f := Trade.vals) (s := 6) (fun _ => rfl) (List.getElem?_eq_getElem hi) hj]
  have hg : l.getD i tr0 = l[i] := by simp [hi]
  simp only [tcell, hg]
  rcases (show j = 0 ∨ j = 1 ∨ j = 2 ∨ j = 3 ∨ j = 4 ∨ j = 5 by omega) with rfl | rfl | rfl | rfl | rfl | rfl <;> rfl
theorem six_one (a b c d e f : Int) : ∀ u ∈ (#[Value.int .i64 a, .int .i64 b, .int .i64 c, .int .i64 d, .int .i64 e, .int .i64 f] : Array Value).toList, u.oneCell' = true := by
  intro u hu
  simp only [List.mem_cons, List.not_mem_nil, or_false] at hu
  rcases hu with rfl | rfl | rfl | rfl | rfl | rfl <;> rfl
def irows (l : List Int) : List Value := l.map (.int .i64)
theorem irows_app (a b : List Int) : irows (a ++ b) = irows a ++ irows b := List.map_append
theorem info_trade : (Tryz.prog.info? 40).map (fun i => (i.zero, i.size, i.bytes)) = some (some (.agg #[.int .i64 0, .int .i64 0, .int .i64 0, .int .i64 0, .int .i64 0, .int .i64 0]), 6, 48) := by kernel_rfl
theorem info_int : (Tryz.prog.info? 3).map (fun i => (i.zero, i.size, i.bytes)) = some (some (.int .i64 0), 1, 8) := by kernel_rfl
structure MMem (w : World) (base gm : Nat) (A : Option Addr) (cap : Nat) (L : List Lv) (vs : List (Option Addr × Nat)) (AT : Option Addr) (cT : Nat) (T : List Trade) (AW : Option Addr) (cW : Nat) (W : List Int) (left : Int) (ends : Bool) : Prop where
  lv : OwnLv w base A cap L vs
  tr : OwnS w base 6 AT T.length cT (trows T)
  wt : OwnS w base 1 AW W.length cW (irows W)
  m : Bk w gm 146 #[.slice none 0 0, .slice none 0 0, .slice AT T.length cT, .int .i64 left, .slice AW W.length cW, .bool ends]
  g1 : Ap (rowOf A cap) (some gm)
  g2 : ∀ (i : Nat) u, vs[i]? = some u → Ap (rowOf u.1 u.2) (some gm)
  g3 : Ap (rowOf AT cT) (some gm)
  g4 : Ap (rowOf AW cW) (some gm)
  a1 : Ap (rowOf AT cT) (rowOf A cap)
  a2 : ∀ (i : Nat) u, vs[i]? = some u → Ap (rowOf AT cT) (rowOf u.1 u.2)
  b1 : Ap (rowOf AW cW) (rowOf A cap)
  b2 : ∀ (i : Nat) u, vs[i]? = some u → Ap (rowOf AW cW) (rowOf u.1 u.2)
  c1 : Ap (rowOf AT cT) (rowOf AW cW)
  base0 : base ≤ w.heap.size
section
variable {w w1 w2 : World} {base gm cap cT cW c' g off cT' cW' : Nat} {A AT AW A' AT' AW' : Option Addr} {L : List Lv} {x : Lv} {v : Option Addr × Nat} {vs : List (Option Addr × Nat)} {T : List Trade} {W : List Int} {left left' : Int} {ends ends' : Bool} {rs : List Rest}
theorem MMem.below (h : MMem w base gm A cap L vs AT cT T AW cW W left ends) (hb : Below w.heap.size w w1) : MMem w1 base gm A cap L vs AT cT T AW cW W left ends :=
  ⟨h.lv.below hb, h.tr.below hb, h.wt.below hb, h.m.keep hb, h.g1, h.g2, h.g3, h.g4, h.a1, h.a2, h.b1, h.b2, h.c1, Nat.le_trans h.base0 hb.size⟩
theorem OwnLv.apart_gm {p : Addr} (h : OwnLv w base A cap L vs) (h1 : Ap (rowOf A cap) (some p.block)) (h2 : ∀ (i : Nat) u, vs[i]? = some u → Ap (rowOf u.1 u.2) (some p.block)) (u : Value) : OwnLv (w.setCell p u) base A cap L vs :=
  h.keep (grown_set w p u) h1 h2
/-- what is left is stored -/
theorem MMem.setLeft (h : MMem w base gm A cap L vs AT cT T AW cW W left ends) (left' : Int) : MMem (w.setCell ⟨gm, 3, none⟩ (.int .i64 left')) base gm A cap L vs AT cT T AW cW W left' ends :=
  ⟨h.lv.apart_gm (p := ⟨gm, 3, none⟩) h.g1 h.g2 _, h.tr.apart (grown_set w ⟨gm, 3, none⟩ _) h.g3, h.wt.apart (grown_set w ⟨gm, 3, none⟩ _) h.g4, h.m.set_ 3 _, h.g1, h.g2, h.g3, h.g4, h.a1, h.a2, h.b1, h.b2, h.c1, by simpa using h.base0⟩
theorem MMem.setEnds (h : MMem w base gm A cap L vs AT cT T AW cW W left ends) (ends' : Bool) : MMem (w.setCell ⟨gm, 5, none⟩ (.bool ends')) base gm A cap L vs AT cT T AW cW W left ends' :=
  ⟨h.lv.apart_gm (p := ⟨gm, 5, none⟩) h.g1 h.g2 _, h.tr.apart (grown_set w ⟨gm, 5, none⟩ _) h.g3, h.wt.apart (grown_set w ⟨gm, 5, none⟩ _) h.g4, h.m.set_ 5 _, h.g1, h.g2, h.g3, h.g4, h.a1, h.a2, h.b1, h.b2, h.c1, by simpa using h.base0⟩
theorem MMem.lt (h : MMem w base gm A cap L vs AT cT T AW cW W left ends) : gm < w.heap.size := h.m.lt
/-- a trade more -/
theorem MMem.trade {t : Trade} (h : MMem w base gm A cap L vs AT cT T AW cW W left ends) (gr : Grew w base 6 AT cT (T.length + 1) (trows T ++ t.vals) AT' cT' w1) :
    MMem (w1.setCell ⟨gm, 2, none⟩ (.slice AT' (T.length + 1) cT')) base gm A cap L vs AT' cT' (T ++ [t]) AW cW W left ends := by
  have new : ∀ r : Option Nat, Ap (rowOf AT cT) r → (∀ k, r = some k → k < w.heap.size) → Ap (rowOf AT' cT') r := by
    intro r h1 h2
    rcases gr.row with e | e
    · rw [e]; exact h1
    · rw [e]; exact .inr fun e2 => by have := h2 _ e2.symm; omega
  have hg := new (some gm) h.g3 (fun k hk => by cases hk; exact h.lt)
  have hm : Bk w1 gm 146 #[.slice none 0 0, .slice none 0 0, .slice AT T.length cT, .int .i64 left, .slice AW W.length cW, .bool ends] := h.m.grown gr.grown (by
    rcases h.g3 with e | e
    · rw [e]; simp
    · exact Ne.symm e)
  refine ⟨(h.lv.keep gr.grown h.a1.symm (fun i u hu => (h.a2 i u hu).symm)).apart_gm (p := ⟨gm, 2, none⟩) h.g1 h.g2 _, ?_, (h.wt.apart gr.grown h.c1.symm).apart (grown_set w1 ⟨gm, 2, none⟩ _) h.g4, ?_, h.g1, h.g2, hg, h.g4, new _ h.a1 (fun k hk => (h.lv.row_lt k hk).2), fun i u hu => new _ (h.a2 i u hu) (fun k hk => (h.lv.each_lt hu k hk).2), h.b1, h.b2, new _ h.c1 (fun k hk => (h.wt.row_lt k hk).2), ?_⟩
  · have := gr.own.apart (grown_set w1 ⟨gm, 2, none⟩ (.slice AT' (T.length + 1) cT')) hg
    rw [trows_app, List.length_append]
    exact this
  · have := hm.set_ 2 (.slice AT' (T.length + 1) cT')
    simpa using this
  · have := gr.grown.size; have := h.base0; simp; omega
/-- an id more that went -/
theorem MMem.went {t : Int} (h : MMem w base gm A cap L vs AT cT T AW cW W left ends) (gr : Grew w base 1 AW cW (W.length + 1) (irows W ++ [.int .i64 t]) AW' cW' w1) :
    MMem (w1.setCell ⟨gm, 4, none⟩ (.slice AW' (W.length + 1) cW')) base gm A cap L vs AT cT T AW' cW' (W ++ [t]) left ends := by
  have new : ∀ r : Option Nat, Ap (rowOf AW cW) r → (∀ k, r = some k → k < w.heap.size) → Ap (rowOf AW' cW') r := by
    intro r h1 h2
    rcases gr.row with e | e
    · rw [e]; exact h1
    · rw [e]; exact .inr fun e2 => by have := h2 _ e2.symm; omega
  have hg := new (some gm) h.g4 (fun k hk => by cases hk; exact h.lt)
  have hm : Bk w1 gm 146 #[.slice none 0 0, .slice none 0 0, .slice AT T.length cT, .int .i64 left, .slice AW W.length cW, .bool ends] := h.m.grown gr.grown (by
    rcases h.g4 with e | e
    · rw [e]; simp
    · exact Ne.symm e)
  refine ⟨(h.lv.keep gr.grown h.b1.symm (fun i u hu => (h.b2 i u hu).symm)).apart_gm (p := ⟨gm, 4, none⟩) h.g1 h.g2 _, (h.tr.apart gr.grown h.c1).apart (grown_set w1 ⟨gm, 4, none⟩ _) h.g3, ?_, ?_, h.g1, h.g2, h.g3, hg, h.a1, h.a2, new _ h.b1 (fun k hk => (h.lv.row_lt k hk).2), fun i u hu => new _ (h.b2 i u hu) (fun k hk => (h.lv.each_lt hu k hk).2), (new _ h.c1.symm (fun k hk => (h.tr.row_lt k hk).2)).symm, ?_⟩
  · have := gr.own.apart (grown_set w1 ⟨gm, 4, none⟩ (.slice AW' (W.length + 1) cW')) hg
    rw [irows_app, List.length_append]
    exact this
  · have := hm.set_ 4 (.slice AW' (W.length + 1) cW')
    simpa using this
  · have := gr.grown.size; have := h.base0; simp; omega
/-- the first level has other rests now -/
theorem MMem.head (h : MMem w base gm (some ⟨g, off, none⟩) cap (x :: L) (v :: vs) AT cT T AW cW W left ends) (hg : w.grownBy w1 (rowOf v.1 v.2)) (o : OwnS w1 base 5 A' rs.length c' (rows rs))
    (hr : rowOf A' c' = none ∨ rowOf A' c' = rowOf v.1 v.2 ∨ ∃ k, rowOf A' c' = some k ∧ w.heap.size ≤ k) :
    MMem (w1.setCell ⟨g, off + 1, none⟩ (.slice A' rs.length c')) base gm (some ⟨g, off, none⟩) cap (⟨x.price, rs⟩ :: L) ((A', c') :: vs) AT cT T AW cW W left ends := by
  have hcap : 0 < cap := by have := h.lv.own.le; simp at this; omega
  have hrow : rowOf (some ⟨g, off, none⟩) cap = some g := by rw [rowOf, if_neg (by omega)]; rfl
  have new : ∀ r : Option Nat, Ap (rowOf v.1 v.2) r → (∀ k, r = some k → k < w.heap.size) → Ap (rowOf A' c') r := by
    intro r h1 h2
    rcases hr with e | e | ⟨k, e, hk⟩
    · exact .inl e
    · rw [e]; exact h1
    · rw [e]; exact .inr fun e2 => by have := h2 _ e2.symm; omega
  have mgm : gm ≠ g := by
    rcases h.g1 with e | e
    · rw [hrow] at e; cases e
    · rw [hrow] at e; exact fun e2 => e (by rw [e2])
  have hvg := h.g2 0 v rfl
  refine ⟨h.lv.head hg o hr, (h.tr.apart hg (h.a2 0 v rfl)).apart (grown_set w1 ⟨g, off + 1, none⟩ _) (by rw [← hrow]; exact h.a1), (h.wt.apart hg (h.b2 0 v rfl)).apart (grown_set w1 ⟨g, off + 1, none⟩ _) (by rw [← hrow]; exact h.b1), ?_, h.g1, ?_, h.g3, h.g4, h.a1, ?_, h.b1, ?_, h.c1, ?_⟩
  · refine (h.m.grown hg ?_).far (p := ⟨g, off + 1, none⟩) mgm _
    rcases hvg with e | e
    · rw [e]; simp
    · exact Ne.symm e
  · intro i u hu
    cases i with
    | zero => cases hu; exact new _ hvg (fun k hk => by cases hk; exact h.lt)
    | succ i => exact h.g2 (i + 1) u hu
  · intro i u hu
    cases i with
    | zero => cases hu; exact (new _ (h.a2 0 v rfl).symm (fun k hk => (h.tr.row_lt k hk).2)).symm
    | succ i => exact h.a2 (i + 1) u hu
  · intro i u hu
    cases i with
    | zero => cases hu; exact (new _ (h.b2 0 v rfl).symm (fun k hk => (h.wt.row_lt k hk).2)).symm
    | succ i => exact h.b2 (i + 1) u hu
  · have := hg.size; have := h.base0; simp; omega
/-- the first level cut off -/
theorem MMem.tail (h : MMem w base gm (some ⟨g, off, none⟩) cap (x :: L) (v :: vs) AT cT T AW cW W left ends) :
    MMem w base gm (some (if cap = 1 then ⟨g, off, none⟩ else ⟨g, off + 2, none⟩)) (cap - 1) L vs AT cT T AW cW W left ends := by
  have hcap : 0 < cap := by have := h.lv.own.le; simp at this; omega
  have ap : ∀ r, Ap r (rowOf (some ⟨g, off, none⟩) cap) → Ap r (rowOf (some (if cap = 1 then (⟨g, off, none⟩ : Addr) else ⟨g, off + 2, none⟩)) (cap - 1)) := by
    intro r hr
    rcases row_tail (g := g) (off := off) (n := 2) hcap with e | e
    · rw [e]; exact Ap.none_right _
    · rw [e]; exact hr
  exact ⟨h.lv.tail, h.tr, h.wt, h.m, (ap _ h.g1.symm).symm, fun i u hu => h.g2 (i + 1) u hu, h.g3, h.g4, ap _ h.a1, fun i u hu => h.a2 (i + 1) u hu, ap _ h.b1, fun i u hu => h.b2 (i + 1) u hu, h.c1, h.base0⟩
end
end Go.Proofs.YtkdgpdijbobmkaaGreat
