/- The contract of book.Own. -/
import Derived.Test.YtbnjkcgkdpildaaDoorBookOwn
import Derived.Test.YtbnjkcgkdpildaaDoorMeetMem
namespace Go.Proofs.YtbnjkcgkdpildaaDoor
set_option linter.all false
open Go Go.RowKit
theorem cell_far1 {w : World} {p q : Addr} {v a : Value} (h : w.cell? p = some v) (hg : p.block ≠ q.block) : (w.setCell q a).cell? p = some v := by
  rw [World.cell?_setCell_other w _ _ a (fun e => hg (by rw [e]))]; exact h
theorem cell_far2 {w : World} {p : Addr} {g i j : Nat} {v a b : Value} (h : w.cell? p = some v) (hg : p.block ≠ g) : ((w.setCell ⟨g, i, none⟩ a).setCell ⟨g, j, none⟩ b).cell? p = some v := cell_far1 (cell_far1 h hg) hg
def BOwnPost (L M : List Lv) (w : World) (e : Ending) (w' : World) : Prop :=
  ∃ A1 c1 v1 A2 c2 v2, e = .returned (.agg #[.slice A1 L.length c1, .slice A2 M.length c2]) ∧ OwnLv w' w.heap.size A1 c1 L v1 ∧ OwnLv w' w.heap.size A2 c2 M v2 ∧ Below w.heap.size w w'
set_option maxRecDepth 100000 in
set_option maxHeartbeats 4000000 in
theorem bown_any (L M : List Lv) (A1 A2 : Option Addr) (c1 c2 : Nat) (w : World) (h1 : RdLv w w.heap.size A1 L) (h2 : RdLv w w.heap.size A2 M) (ok1 : LvOk L) (ok2 : LvOk M) (hA1 : A1 = none → c1 = 0) (hA2 : A2 = none → c2 = 0) :
    Calls Tryd.prog 30 #[.agg #[.slice A1 L.length c1, .slice A2 M.length c2]] w (BOwnPost L M w) := by
  have HL := Lib.hid h1; have HM := Lib.hid h2
  have cL := Lib.hid (fun w' h => own_any L A1 c1 w' h ok1 hA1)
  have cM := Lib.hid (fun w' h => own_any M A2 c2 w' h ok2 hA2)
  clear h1 h2 ok1 ok2 hA1 hA2
  have hb : Below w.heap.size w ((w.alloc (.cells #[.slice A1 L.length c1, .slice A2 M.length c2] 29)).alloc (.cells #[.slice none 0 0, .slice none 0 0] 29)) := below_then_alloc ((Below.refl _ _).alloc (Nat.le_refl _) _)
  have bb := (Bk.new w 29 #[.slice A1 L.length c1, .slice A2 M.length c2]).alloc (.cells #[.slice none 0 0, .slice none 0 0] 29)
  have br := Bk.at_ (w := w.alloc (.cells #[.slice A1 L.length c1, .slice A2 M.length c2] 29)) (g' := w.heap.size + 1) (by simp) 29 #[.slice none 0 0, .slice none 0 0]
  go_enter Tryd.func30, Tryd.ntmps30
  go_upto_region 1 with fail
  generalize (w.alloc (.cells #[.slice A1 L.length c1, .slice A2 M.length c2] 29)).alloc (.cells #[.slice none 0 0, .slice none 0 0] 29) = w0 at *
  replace bb := bb.drew
  replace br := br.drew
  have hbd := hb.drew
  obtain ⟨q0, q1⟩ := box2 bb
  go_region_held3 (fun w' => w'.cell? ⟨w.heap.size, 0, none⟩ = some (.slice A1 L.length c1) ∧ w'.cell? ⟨w.heap.size, 1, none⟩ = some (.slice A2 M.length c2)) ((repeat' apply And.intro) <;> (first | (with_reducible assumption) | (with_reducible exact cell_far2 (by assumption) (by simp))))
    (first
      | (go_at_call 40; (with_reducible refine (cL.out _ (HL.out.on (by (repeat (first | exact Below.refl _ _ | assumption | (refine below_then (by assumption) ?_) | (refine below_then_alloc ?_) | (refine Below.drew ?_)))))).mono ?_); rintro e wa ⟨Aa, ca, va, rfl, oa, ha⟩; go_loud (have bbL : Bk wa w.heap.size 29 #[.slice A1 L.length c1, .slice A2 M.length c2] := by first | exact bb.keep ha | exact bbM.keep ha); go_loud (have brL : Bk wa (w.heap.size + 1) 29 #[.slice none 0 0, .slice none 0 0] := by first | exact br.keep ha | exact brM.keep ha); have s0 := bbL.cell 0; have s1 := bbL.cell 1; (simp at s0 s1); have r0 := brL.cell 0; have r1 := brL.cell 1; (simp at r0 r1); have f0 := brL.free 0; have f1 := brL.free 1)
      | (go_at_call 40; (with_reducible refine (cM.out _ (HM.out.on (by (repeat (first | exact Below.refl _ _ | assumption | (refine below_then (by assumption) ?_) | (refine below_then_alloc ?_) | (refine Below.drew ?_)))))).mono ?_); rintro e wm ⟨Am, cm, vm, rfl, om, hm⟩; go_loud (have bbM : Bk wm w.heap.size 29 #[.slice A1 L.length c1, .slice A2 M.length c2] := by first | exact bb.keep hm | exact bbL.keep hm); go_loud (have brM : Bk wm (w.heap.size + 1) 29 #[.slice none 0 0, .slice none 0 0] := by first | exact br.keep hm | exact brL.keep hm); have s0 := bbM.cell 0; have s1 := bbM.cell 1; (simp at s0 s1); have r0 := brM.cell 0; have r1 := brM.cell 1; (simp at r0 r1); have f0 := brM.free 0; have f1 := brM.free 1))
  · have kx := box2 (brM.set2 (.slice Aa L.length ca) (.slice Am M.length cm))
    have hbf := below_then hm (below_then ha hbd)
    have hz : w.heap.size + 1 < w0.heap.size := by have := br.lt; simpa using this
    have hz2 := ha.size
    have O1 := Lib.hid (((oa.below hm).far2 (g := w.heap.size + 1) (i := 0) (j := 1) (by simpa using hz) (.slice Aa L.length ca) (.slice Am M.length cm)).lower hbd.size)
    have O2 := Lib.hid ((om.far2 (g := w.heap.size + 1) (i := 0) (j := 1) (by simp at hz2; omega) (.slice Aa L.length ca) (.slice Am M.length cm)).lower (below_then ha hbd).size)
    have hb2 := (hbf.setCell (p := ⟨w.heap.size + 1, 0, none⟩) (by simp) (.slice Aa L.length ca)).setCell (p := ⟨w.heap.size + 1, 1, none⟩) (by simp) (.slice Am M.length cm)
    clear oa om ha hm hz hz2
    go_wp2
    exact bodyPost_ret (v := .agg #[.slice Aa L.length ca, .slice Am M.length cm]) (by simp [results, Tryd.results30, go_sem, kx]) rfl ⟨_, _, va, _, _, vm, rfl, O1.out, O2.out, hb2⟩
end Go.Proofs.YtbnjkcgkdpildaaDoor
