/- The contract of book.Own, the two sides apart. -/
import Derived.Test.YtbnjkcgkdpildaaSideCut
import Derived.Test.YtbnjkcgkdpildaaGrpG
namespace Go.Proofs.Ytbnjkcgkdpildaa
set_option linter.all false
open Go Go.RowKit
/-- blocks of the one are none of the other -/
def FarRows (rs qs : List (Option Nat)) : Prop := ∀ r ∈ rs, ∀ q ∈ qs, Ap r q
theorem OwnLv.rows_lt {w : World} {base c : Nat} {A : Option Addr} {L : List Lv} {vs : List (Option Addr × Nat)} (h : OwnLv w base A c L vs) {r : Option Nat} (hr : r ∈ rowsOf A c vs) : ∀ k, r = some k → base ≤ k ∧ k < w.heap.size := by
  rcases List.mem_cons.1 hr with rfl | hr
  · exact h.row_lt
  · obtain ⟨u, hu, rfl⟩ := List.mem_map.1 hr
    obtain ⟨i, hi, e⟩ := List.getElem_of_mem hu
    exact h.each_lt (by rw [← e]; exact List.getElem?_eq_getElem hi)
theorem OwnS.same {w w' : World} {base s n cap : Nat} {A : Option Addr} {xs : List Value} (h : OwnS w base s A n cap xs) (hz : w.heap.size ≤ w'.heap.size) (hb : ∀ k, rowOf A cap = some k → w'.heap[k]? = w.heap[k]?) : OwnS w' base s A n cap xs := by
  refine ⟨h.len, h.le, h.max, fun hc => ?_⟩
  obtain ⟨g, off, e, hb1, hl, h1, h2⟩ := h.lies hc
  have hblk := hb g (by rw [rowOf, if_neg (by omega), e]; rfl)
  refine ⟨g, off, e, hb1, Nat.lt_of_lt_of_le hl hz, fun j hj => ?_, fun j hj => ⟨?_, ?_⟩⟩
  · exact (World.cell?_of_block (a := ⟨g, off + j, none⟩) hblk).trans (h1 j hj)
  · exact (congrArg Option.isSome (World.cell?_of_block (a := ⟨g, off + j, none⟩) hblk)).trans (h2 j hj).1
  · exact (World.frozen?_of_block (a := ⟨g, off + j, none⟩) hblk).trans (h2 j hj).2
/-- levels whose blocks are as they were -/
theorem OwnLv.same {w w' : World} {base c : Nat} {A : Option Addr} {L : List Lv} {vs : List (Option Addr × Nat)} {rs : List (Option Nat)} (h : OwnLv w base A c L vs) (hk : KeepsBut rs w w') (hf : FarRows rs (rowsOf A c vs)) : OwnLv w' base A c L vs := by
  have key : ∀ r ∈ rowsOf A c vs, ∀ k, r = some k → w'.heap[k]? = w.heap[k]? := by
    rintro r hr k rfl
    refine hk.2 k (h.rows_lt hr k rfl).2 (fun hn => ?_)
    rcases hf _ hn _ hr with e | e
    · cases e
    · exact e rfl
  refine ⟨h.len, h.own.same hk.1 (key _ (List.mem_cons_self ..)), fun i x v hx hv => ⟨(h.each i x v hx hv).1.same hk.1 (key _ (List.mem_cons_of_mem _ (List.mem_map.2 ⟨v, List.mem_of_getElem? hv, rfl⟩))), (h.each i x v hx hv).2⟩, h.apart⟩
theorem FarRows.symm {rs qs : List (Option Nat)} (h : FarRows rs qs) : FarRows qs rs := fun q hq r hr => (h r hr q hq).symm
def BOwn2Post (L M : List Lv) (w : World) (e : Ending) (w' : World) : Prop :=
  ∃ A1 c1 v1 A2 c2 v2, e = .returned (.agg #[.slice A1 L.length c1, .slice A2 M.length c2]) ∧ OwnLv w' w.heap.size A1 c1 L v1 ∧ OwnLv w' w.heap.size A2 c2 M v2 ∧ Below w.heap.size w w' ∧ FarRows (rowsOf A1 c1 v1) (rowsOf A2 c2 v2)
set_option maxRecDepth 100000 in
set_option maxHeartbeats 4000000 in
theorem bown2_any (L M : List Lv) (A1 A2 : Option Addr) (c1 c2 : Nat) (w : World) (h1 : RdLv w w.heap.size A1 L) (h2 : RdLv w w.heap.size A2 M) (ok1 : LvOk L) (ok2 : LvOk M) (hA1 : A1 = none → c1 = 0) (hA2 : A2 = none → c2 = 0) :
    Calls Try.prog 60 #[.agg #[.slice A1 L.length c1, .slice A2 M.length c2]] w (BOwn2Post L M w) := by
  have HL := Lib.hid h1; have HM := Lib.hid h2
  have cL := Lib.hid (fun w' h => own_any L A1 c1 w' h ok1 hA1)
  have cM := Lib.hid (fun w' h => own_any M A2 c2 w' h ok2 hA2)
  clear h1 h2 ok1 ok2 hA1 hA2
  have hb : Below w.heap.size w ((w.alloc (.cells #[.slice A1 L.length c1, .slice A2 M.length c2] 24)).alloc (.cells #[.slice none 0 0, .slice none 0 0] 24)) := below_then_alloc ((Below.refl _ _).alloc (Nat.le_refl _) _)
  have bb := (Bk.new w 24 #[.slice A1 L.length c1, .slice A2 M.length c2]).alloc (.cells #[.slice none 0 0, .slice none 0 0] 24)
  have br := Bk.at_ (w := w.alloc (.cells #[.slice A1 L.length c1, .slice A2 M.length c2] 24)) (g' := w.heap.size + 1) (by simp) 24 #[.slice none 0 0, .slice none 0 0]
  go_enter Try.func60, Try.ntmps60
  go_upto_region 1 with fail
  generalize (w.alloc (.cells #[.slice A1 L.length c1, .slice A2 M.length c2] 24)).alloc (.cells #[.slice none 0 0, .slice none 0 0] 24) = w0 at *
  replace bb := bb.drew
  replace br := br.drew
  have hbd := hb.drew
  obtain ⟨q0, q1⟩ := box2 bb
  go_region_held3 (fun w' => w'.cell? ⟨w.heap.size, 0, none⟩ = some (.slice A1 L.length c1) ∧ w'.cell? ⟨w.heap.size, 1, none⟩ = some (.slice A2 M.length c2)) ((repeat' apply And.intro) <;> (first | (with_reducible assumption) | (with_reducible exact cell_far2 (by assumption) (by simp))))
    (first
      | (go_at_call 43; (with_reducible refine (cL.out _ (HL.out.on (by (repeat (first | exact Below.refl _ _ | assumption | (refine below_then (by assumption) ?_) | (refine below_then_alloc ?_) | (refine Below.drew ?_)))))).mono ?_); rintro e wa ⟨Aa, ca, va, rfl, oa, ha⟩; go_loud (have bbL : Bk wa w.heap.size 24 #[.slice A1 L.length c1, .slice A2 M.length c2] := by first | exact bb.keep ha | exact bbM.keep ha); go_loud (have brL : Bk wa (w.heap.size + 1) 24 #[.slice none 0 0, .slice none 0 0] := by first | exact br.keep ha | exact brM.keep ha); have s0 := bbL.cell 0; have s1 := bbL.cell 1; (simp at s0 s1); have r0 := brL.cell 0; have r1 := brL.cell 1; (simp at r0 r1); have f0 := brL.free 0; have f1 := brL.free 1)
      | (go_at_call 43; (with_reducible refine (cM.out _ (HM.out.on (by (repeat (first | exact Below.refl _ _ | assumption | (refine below_then (by assumption) ?_) | (refine below_then_alloc ?_) | (refine Below.drew ?_)))))).mono ?_); rintro e wm ⟨Am, cm, vm, rfl, om, hm⟩; go_loud (have bbM : Bk wm w.heap.size 24 #[.slice A1 L.length c1, .slice A2 M.length c2] := by first | exact bb.keep hm | exact bbL.keep hm); go_loud (have brM : Bk wm (w.heap.size + 1) 24 #[.slice none 0 0, .slice none 0 0] := by first | exact br.keep hm | exact brL.keep hm); have s0 := bbM.cell 0; have s1 := bbM.cell 1; (simp at s0 s1); have r0 := brM.cell 0; have r1 := brM.cell 1; (simp at r0 r1); have f0 := brM.free 0; have f1 := brM.free 1))
  · have kx := box2 (brM.set2 (.slice Aa L.length ca) (.slice Am M.length cm))
    have hbf := below_then hm (below_then ha hbd)
    have HFAR := Lib.hid (show FarRows (rowsOf Aa ca va) (rowsOf Am cm vm) from fun r hr q hq => (Ap.new (n := wa.heap.size) (fun k hk => (om.rows_lt hq k hk).1) (fun k hk => (oa.rows_lt hr k hk).2)).symm)
    have hz : w.heap.size + 1 < w0.heap.size := by have := br.lt; simpa using this
    have hz2 := ha.size
    have O1 := Lib.hid (((oa.below hm).far2 (g := w.heap.size + 1) (i := 0) (j := 1) (by simpa using hz) (.slice Aa L.length ca) (.slice Am M.length cm)).lower hbd.size)
    have O2 := Lib.hid ((om.far2 (g := w.heap.size + 1) (i := 0) (j := 1) (by simp at hz2; omega) (.slice Aa L.length ca) (.slice Am M.length cm)).lower (below_then ha hbd).size)
    have hb2 := (hbf.setCell (p := ⟨w.heap.size + 1, 0, none⟩) (by simp) (.slice Aa L.length ca)).setCell (p := ⟨w.heap.size + 1, 1, none⟩) (by simp) (.slice Am M.length cm)
    clear oa om ha hm hz hz2
    go_wp2
    exact bodyPost_ret (v := .agg #[.slice Aa L.length ca, .slice Am M.length cm]) (by simp [results, Try.results60, go_sem, kx]) rfl ⟨_, _, va, _, _, vm, rfl, O1.out, O2.out, hb2, HFAR.out⟩
end Go.Proofs.Ytbnjkcgkdpildaa
