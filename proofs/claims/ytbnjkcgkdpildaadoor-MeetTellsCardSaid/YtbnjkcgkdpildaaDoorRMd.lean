/- The memory of the reference's Meet. -/
import Derived.Test.YtbnjkcgkdpildaaDoorROut
import Derived.Test.YtbnjkcgkdpildaaDoorMeetRun
namespace Go.Proofs.YtbnjkcgkdpildaaDoor
set_option linter.all false
open Go Go.RowKit
theorem pick_left {α : Type} (s : Int) (a b : α) : pick s (pick s a b) a = a := by unfold pick; split <;> simp
theorem pick_right {α : Type} (s : Int) (a b : α) : pick s b (pick s a b) = b := by unfold pick; split <;> simp
theorem pick_len {s : Int} {L M : List Lv} : (pick s L M).length = pick s L.length M.length := by unfold pick; split <;> rfl
theorem rofm_any (s : Int) (hs : vs s = true) (AL A1 A2 : Option Addr) (nL n1 n2 cL c1 c2 : Nat) (w : World) :
    Calls Tryd.prog 19 #[.agg #[.slice (pick s AL A1) (pick s nL n1) (pick s cL c1), .slice (pick s A2 AL) (pick s n2 nL) (pick s c2 cL)], .int .i64 (3 - s)] w fun e w' => e = .returned (.slice AL nL cL) ∧ Below w.heap.size w w' := by
  rcases side_two hs with rfl | rfl
  · have := rof_any .nilIface .nilIface 2 A1 AL n1 nL c1 cL w
    rw [if_neg (by decide)] at this
    exact this
  · have := rof_any .nilIface .nilIface 1 AL A2 nL n2 cL c2 w
    rw [if_pos rfl] at this
    exact this
theorem rwithm_any (s : Int) (hs : vs s = true) (AL A1 A2 A3 : Option Addr) (nL n1 n2 n3 cL c1 c2 c3 : Nat) (w : World) :
    Calls Tryd.prog 44 #[.agg #[.slice (pick s AL A1) (pick s nL n1) (pick s cL c1), .slice (pick s A2 AL) (pick s n2 nL) (pick s c2 cL)], .int .i64 (3 - s), .slice A3 n3 c3] w fun e w' => e = .returned (.agg #[.slice (pick s A3 A1) (pick s n3 n1) (pick s c3 c1), .slice (pick s A2 A3) (pick s n2 n3) (pick s c2 c3)]) ∧ Below w.heap.size w w' := by
  rcases side_two hs with rfl | rfl
  · exact rwith_sell A1 AL A3 n1 nL n3 c1 cL c3 w
  · exact rwith_buy AL A2 A3 nL n2 n3 cL c2 c3 w
/-- the blocks that stay -/
def PS (g gm : Nat) (a b : Option Nat) (k : Nat) : Prop := (k < g ∨ gm < k) ∧ some k ≠ a ∧ some k ≠ b
structure RMd (lo : Nat) (w wr : World) (gm : Nat) (L M : List Lv) (o : Order) (A1 A2 : Option Addr) (c1 c2 : Nat) (s : MSt) (AL : Option Addr) (cL : Nat) (xs : List Value) (AT : Option Addr) (cT : Nat) (AW : Option Addr) (cW : Nat) : Prop where
  bb : Bk wr w.heap.size 29 #[.slice A1 L.length c1, .slice A2 M.length c2]
  bo : Bk wr (w.heap.size + 1) 36 #[.int .i64 o.id, .int .i64 o.who, .int .i64 o.side, .int .i64 o.kind, .int .i64 o.price, .int .i64 o.qty, .int .i64 o.show_, .int .i64 o.stop]
  br : Bk wr (w.heap.size + 2) 52 #[.slice none 0 0, .slice none 0 0, .slice none 0 0, .int .i64 0, .int .i64 0, .slice none 0 0, .bool false]
  m : Bk wr gm 52 #[.slice (pick o.side AL A1) (pick o.side s.L.length L.length) (pick o.side cL c1), .slice (pick o.side A2 AL) (pick o.side M.length s.L.length) (pick o.side c2 cL), .slice AT s.T.length cT, .int .i64 s.left, .int .i64 0, .slice AW s.W.length cW, .bool s.ends]
  lp : LP (PS lo gm (rowOf AT cT) (rowOf AW cW)) wr AL s.L xs
  cap : s.L.length ≤ cL
  max : cL ≤ maxLen
  tr : OwnS wr (gm + 1) 6 AT s.T.length cT (trows s.T)
  wt : OwnS wr (gm + 1) 1 AW s.W.length cW (irows s.W)
  ap : Ap (rowOf AT cT) (rowOf AW cW)
  hb : Below w.heap.size w wr
  lt : w.heap.size + 2 < gm
  le : lo ≤ w.heap.size
section
variable {lo : Nat} {w wr w1 : World} {gm c1 c2 cL cT cW cL' cT' cW' : Nat} {L M L' : List Lv} {o : Order} {A1 A2 AL AT AW AL' AT' AW' : Option Addr} {s : MSt} {xs xs' : List Value}
theorem RMd.gm_lt (h : RMd lo w wr gm L M o A1 A2 c1 c2 s AL cL xs AT cT AW cW) : gm < wr.heap.size := h.m.lt
theorem RMd.new (h : RMd lo w wr gm L M o A1 A2 c1 c2 s AL cL xs AT cT AW cW) : ∀ k, wr.heap.size ≤ k → PS lo gm (rowOf AT cT) (rowOf AW cW) k := by
  intro k hk
  have := h.m.lt
  exact ⟨.inr (by omega), fun e => by have := (h.tr.row_lt k e.symm).2; omega, fun e => by have := (h.wt.row_lt k e.symm).2; omega⟩
theorem RMd.below (h : RMd lo w wr gm L M o A1 A2 c1 c2 s AL cL xs AT cT AW cW) (hb : Below wr.heap.size wr w1) : RMd lo w w1 gm L M o A1 A2 c1 c2 s AL cL xs AT cT AW cW :=
  ⟨h.bb.keep hb, h.bo.keep hb, h.br.keep hb, h.m.keep hb, h.lp.on (Kp.below hb), h.cap, h.max, h.tr.below hb, h.wt.below hb, h.ap, below_then hb h.hb, h.lt, h.le⟩
theorem RMd.kset (i : Nat) (u : Value) {g gm : Nat} {a b : Option Nat} (hg : g ≤ gm) : Kp (PS g gm a b) (PS g gm a b) wr (wr.setCell ⟨gm, i, none⟩ u) :=
  Kp.grown (grown_set wr ⟨gm, i, none⟩ u) (fun k hp _ => ⟨fun e => by have e := Option.some.inj e; have := hp.1; dsimp only at e; omega, hp⟩)
/-- other levels are stored -/
theorem RMd.book (h : RMd lo w wr gm L M o A1 A2 c1 c2 s AL cL xs AT cT AW cW) (hl : LP (PS lo gm (rowOf AT cT) (rowOf AW cW)) wr AL' L' xs') (k1 : L'.length ≤ cL') (k2 : cL' ≤ maxLen) :
    RMd lo w ((wr.setCell ⟨gm, 0, none⟩ (.slice (pick o.side AL' A1) (pick o.side L'.length L.length) (pick o.side cL' c1))).setCell ⟨gm, 1, none⟩ (.slice (pick o.side A2 AL') (pick o.side M.length L'.length) (pick o.side c2 cL'))) gm L M o A1 A2 c1 c2 { s with L := L' } AL' cL' xs' AT cT AW cW := by
  have hg := h.lt
  have hle := h.le
  have n0 : w.heap.size ≠ gm := by omega
  have n1 : w.heap.size + 1 ≠ gm := by omega
  have n2 : w.heap.size + 2 ≠ gm := by omega
  exact ⟨(h.bb.far n0 _).far n0 _, (h.bo.far n1 _).far n1 _, (h.br.far n2 _).far n2 _, (h.m.set_ 0 _).set_ 1 _, (hl.on (RMd.kset 0 _ (by omega))).on (RMd.kset 1 _ (by omega)), k1, k2,
    (h.tr.under (p := ⟨gm, 0, none⟩) (Nat.lt_succ_self _) _).under (p := ⟨gm, 1, none⟩) (Nat.lt_succ_self _) _, (h.wt.under (p := ⟨gm, 0, none⟩) (Nat.lt_succ_self _) _).under (p := ⟨gm, 1, none⟩) (Nat.lt_succ_self _) _, h.ap, (h.hb.setCell (p := ⟨gm, 0, none⟩) (by show w.heap.size ≤ gm; omega) _).setCell (p := ⟨gm, 1, none⟩) (by show w.heap.size ≤ gm; omega) _, hg, h.le⟩
theorem RMd.setLeft (h : RMd lo w wr gm L M o A1 A2 c1 c2 s AL cL xs AT cT AW cW) (x : Int) : RMd lo w (wr.setCell ⟨gm, 3, none⟩ (.int .i64 x)) gm L M o A1 A2 c1 c2 { s with left := x } AL cL xs AT cT AW cW := by
  have hg := h.lt
  have hle := h.le
  exact ⟨h.bb.far (by simp; omega) _, h.bo.far (by simp; omega) _, h.br.far (by simp; omega) _, h.m.set_ 3 _, h.lp.on (RMd.kset 3 _ (by omega)), h.cap, h.max, h.tr.under (p := ⟨gm, 3, none⟩) (Nat.lt_succ_self _) _, h.wt.under (p := ⟨gm, 3, none⟩) (Nat.lt_succ_self _) _, h.ap, h.hb.setCell (p := ⟨gm, 3, none⟩) (by show w.heap.size ≤ gm; omega) _, hg, h.le⟩
theorem RMd.setEnds (h : RMd lo w wr gm L M o A1 A2 c1 c2 s AL cL xs AT cT AW cW) (x : Bool) : RMd lo w (wr.setCell ⟨gm, 6, none⟩ (.bool x)) gm L M o A1 A2 c1 c2 { s with ends := x } AL cL xs AT cT AW cW := by
  have hg := h.lt
  have hle := h.le
  exact ⟨h.bb.far (by simp; omega) _, h.bo.far (by simp; omega) _, h.br.far (by simp; omega) _, h.m.set_ 6 _, h.lp.on (RMd.kset 6 _ (by omega)), h.cap, h.max, h.tr.under (p := ⟨gm, 6, none⟩) (Nat.lt_succ_self _) _, h.wt.under (p := ⟨gm, 6, none⟩) (Nat.lt_succ_self _) _, h.ap, h.hb.setCell (p := ⟨gm, 6, none⟩) (by show w.heap.size ≤ gm; omega) _, hg, h.le⟩
/-- a trade more -/
theorem RMd.trade (h : RMd lo w wr gm L M o A1 A2 c1 c2 s AL cL xs AT cT AW cW) {t : Trade} (gr : Grew wr (gm + 1) 6 AT cT (s.T.length + 1) (trows s.T ++ t.vals) AT' cT' w1) :
    RMd lo w (w1.setCell ⟨gm, 2, none⟩ (.slice AT' (s.T.length + 1) cT')) gm L M o A1 A2 c1 c2 { s with T := s.T ++ [t] } AL cL xs AT' cT' AW cW := by
  have hg := h.lt
  have hle := h.le
  have hm := h.m.lt
  have hr : ∀ k, rowOf AT cT = some k → gm + 1 ≤ k := fun k hk => (h.tr.row_lt k hk).1
  have hf : ∀ k, k ≤ gm → some k ≠ rowOf AT cT := fun k hk e => by have := hr k e.symm; omega
  have hk : Kp (PS lo gm (rowOf AT cT) (rowOf AW cW)) (PS lo gm (rowOf AT' cT') (rowOf AW cW)) wr w1 := Kp.grown gr.grown (fun k hp hk => ⟨hp.2.1, hp.1, by
    rcases gr.row with e | e
    · rw [e]; exact hp.2.1
    · rw [e]; intro e2; cases e2; omega, hp.2.2⟩)
  have ht : OwnS (w1.setCell ⟨gm, 2, none⟩ (.slice AT' (s.T.length + 1) cT')) (gm + 1) 6 AT' (s.T.length + 1) cT' (trows s.T ++ t.vals) := gr.own.under (p := ⟨gm, 2, none⟩) (Nat.lt_succ_self _) _
  refine ⟨(h.bb.grown gr.grown (hf _ (by omega))).far (by simp; omega) _, (h.bo.grown gr.grown (hf _ (by omega))).far (by simp; omega) _, (h.br.grown gr.grown (hf _ (by omega))).far (by simp; omega) _, ?_, (h.lp.on hk).on (RMd.kset 2 _ (by omega)), h.cap, h.max, ?_, (h.wt.apart gr.grown h.ap.symm).under (p := ⟨gm, 2, none⟩) (Nat.lt_succ_self _) _, ?_, (h.hb.grown gr.grown h.hb.size (fun k hk => by have := hr k hk; omega)).setCell (p := ⟨gm, 2, none⟩) (by show w.heap.size ≤ gm; omega) _, hg, h.le⟩
  · have := (h.m.grown gr.grown (hf _ (Nat.le_refl _))).set_ 2 (.slice AT' (s.T.length + 1) cT')
    simpa using this
  · rw [trows_app, List.length_append]; exact ht
  · rcases gr.row with e | e
    · rw [e]; exact h.ap
    · rw [e]; exact .inr fun e2 => by have := (h.wt.row_lt _ e2.symm).2; omega
/-- an id more that went -/
theorem RMd.went (h : RMd lo w wr gm L M o A1 A2 c1 c2 s AL cL xs AT cT AW cW) {t : Int} (gr : Grew wr (gm + 1) 1 AW cW (s.W.length + 1) (irows s.W ++ [.int .i64 t]) AW' cW' w1) :
    RMd lo w (w1.setCell ⟨gm, 5, none⟩ (.slice AW' (s.W.length + 1) cW')) gm L M o A1 A2 c1 c2 { s with W := s.W ++ [t] } AL cL xs AT cT AW' cW' := by
  have hg := h.lt
  have hle := h.le
  have hm := h.m.lt
  have hr : ∀ k, rowOf AW cW = some k → gm + 1 ≤ k := fun k hk => (h.wt.row_lt k hk).1
  have hf : ∀ k, k ≤ gm → some k ≠ rowOf AW cW := fun k hk e => by have := hr k e.symm; omega
  have hk : Kp (PS lo gm (rowOf AT cT) (rowOf AW cW)) (PS lo gm (rowOf AT cT) (rowOf AW' cW')) wr w1 := Kp.grown gr.grown (fun k hp hk => ⟨hp.2.2, hp.1, hp.2.1, by
    rcases gr.row with e | e
    · rw [e]; exact hp.2.2
    · rw [e]; intro e2; cases e2; omega⟩)
  have ht : OwnS (w1.setCell ⟨gm, 5, none⟩ (.slice AW' (s.W.length + 1) cW')) (gm + 1) 1 AW' (s.W.length + 1) cW' (irows s.W ++ [.int .i64 t]) := gr.own.under (p := ⟨gm, 5, none⟩) (Nat.lt_succ_self _) _
  refine ⟨(h.bb.grown gr.grown (hf _ (by omega))).far (by simp; omega) _, (h.bo.grown gr.grown (hf _ (by omega))).far (by simp; omega) _, (h.br.grown gr.grown (hf _ (by omega))).far (by simp; omega) _, ?_, (h.lp.on hk).on (RMd.kset 5 _ (by omega)), h.cap, h.max, (h.tr.apart gr.grown h.ap).under (p := ⟨gm, 5, none⟩) (Nat.lt_succ_self _) _, ?_, ?_, (h.hb.grown gr.grown h.hb.size (fun k hk => by have := hr k hk; omega)).setCell (p := ⟨gm, 5, none⟩) (by show w.heap.size ≤ gm; omega) _, hg, h.le⟩
  · have := (h.m.grown gr.grown (hf _ (Nat.le_refl _))).set_ 5 (.slice AW' (s.W.length + 1) cW')
    simpa using this
  · rw [irows_app, List.length_append]; exact ht
  · rcases gr.row with e | e
    · rw [e]; exact h.ap
    · rw [e]; exact Ap.symm (.inr fun e2 => by have := (h.tr.row_lt _ e2.symm).2; omega)
end
end Go.Proofs.YtbnjkcgkdpildaaDoor
