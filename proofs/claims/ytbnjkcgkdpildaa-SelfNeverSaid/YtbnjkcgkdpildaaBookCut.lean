/- The contract of book.Cut. -/
import Derived.Test.YtbnjkcgkdpildaaOwnBook2
import Derived.Test.YtbnjkcgkdpildaaGrpG
import Derived.Test.YtbnjkcgkdpildaaSideDrop
namespace Go.Proofs.Ytbnjkcgkdpildaa
set_option linter.all false
open Go Go.RowKit
/-- where a rest of an id is in a book -/
structure BAt (L M : List Lv) (id s : Int) (i k : Nat) (x : Lv) (r : Rest) : Prop where
  where_ : whereB L M id = (s, (i : Int), (k : Int))
  side : vs s = true
  at_ : At (sidL s L M) id i k x r
theorem whereB_at {L M : List Lv} {id : Int} (h : (whereB L M id).1 ≠ 0) : ∃ s i k x r, BAt L M id s i k x r := by
  by_cases h1 : 0 ≤ (whereL L id).1
  · obtain ⟨i, k, x, r, ha⟩ := whereL_at h1
    refine ⟨1, i, k, x, r, ⟨?_, rfl, ha⟩⟩
    rw [whereB, if_pos h1, ha.where_]
  · by_cases h2 : 0 ≤ (whereL M id).1
    · obtain ⟨i, k, x, r, ha⟩ := whereL_at h2
      refine ⟨2, i, k, x, r, ⟨?_, rfl, ha⟩⟩
      rw [whereB, if_neg h1, if_pos h2, ha.where_]
    · rw [whereB, if_neg h1, if_neg h2] at h
      exact absurd rfl h
/-- a book without the k-th rest of level i of a side -/
def cutL (s : Int) (i k : Nat) (L : List Lv) : List Lv := if s = 1 then outL L i k else L
def cutM (s : Int) (i k : Nat) (M : List Lv) : List Lv := if s = 1 then M else outL M i k
def CutPost (L' M' : List Lv) (base : Nat) (w : World) (e : Ending) (w' : World) : Prop :=
  ∃ A1 c1 v1 A2 c2 v2, e = .returned (.agg #[.slice A1 L'.length c1, .slice A2 M'.length c2]) ∧ OwnLv w' base A1 c1 L' v1 ∧ OwnLv w' base A2 c2 M' v2 ∧ Below base w w'
theorem OwnLv.setNew {w : World} {base c : Nat} {A : Option Addr} {L : List Lv} {vs : List (Option Addr × Nat)} {p : Addr} (h : OwnLv w base A c L vs) (hn : some p.block ∉ rowsOf A c vs) (u : Value) : OwnLv (w.setCell p u) base A c L vs :=
  h.same ((KeepsBut.refl [some p.block] w).set (p := p) (List.mem_singleton.2 rfl) u) (fun r hr q hq => by
    rw [List.mem_singleton] at hr
    subst hr
    exact .inr (fun e => hn (e ▸ hq)))
set_option maxRecDepth 100000 in
set_option maxHeartbeats 4000000 in
theorem cutb_any (s : Int) (hs : vs s = true) (L M : List Lv) (A1 A2 : Option Addr) (c1 c2 : Nat) (v1 v2 : List (Option Addr × Nat)) (base i k : Nat) (x : Lv) (w : World) (o1 : OwnLv w base A1 c1 L v1) (o2 : OwnLv w base A2 c2 M v2) (hf : FarRows (rowsOf A1 c1 v1) (rowsOf A2 c2 v2)) (hb0 : base ≤ w.heap.size) (hx : (sidL s L M)[i]? = some x) (hk : k < x.rs.length) (hn : L.length ≤ 1000 ∧ M.length ≤ 1000) (hl : x.rs.length ≤ 100) :
    Calls Try.prog 62 #[.agg #[.slice A1 L.length c1, .slice A2 M.length c2], .int .i64 s, .int .i64 i, .int .i64 k] w (CutPost (cutL s i k L) (cutM s i k M) base w) := by
  have hb : Below w.heap.size w ((w.alloc (.cells #[.slice A1 L.length c1, .slice A2 M.length c2] 24)).alloc (.cells #[.slice none 0 0, .slice none 0 0] 24)) := below_then_alloc ((Below.refl _ _).alloc (Nat.le_refl _) _)
  have bb := (Bk.new w 24 #[.slice A1 L.length c1, .slice A2 M.length c2]).alloc (.cells #[.slice none 0 0, .slice none 0 0] 24)
  have br := Bk.at_ (w := w.alloc (.cells #[.slice A1 L.length c1, .slice A2 M.length c2] 24)) (g' := w.heap.size + 1) (by simp) 24 #[.slice none 0 0, .slice none 0 0]
  have hos : OwnLv w base (sid s A1 A2) (sid s c1 c2) (sidL s L M) (sid s v1 v2) := by
    rcases side_two hs with rfl | rfl
    · exact o1
    · exact o2
  have hnot : ∀ b, w.heap.size ≤ b → some b ∉ rowsOf (sid s A1 A2) (sid s c1 c2) (sid s v1 v2) := fun b hb hm => by
    have := (hos.rows_lt hm b rfl).2
    omega
  have hsl : (sidL s L M).length ≤ 1000 := by
    rcases side_two hs with rfl | rfl
    · exact hn.1
    · exact hn.2
  have cOf := Lib.hid (fun w => ofs_any s hs L M A1 A2 c1 c2 w)
  have cCut := Lib.hid (fun w' h hb => scut_keeps (sidL s L M) (sid s v1 v2) (sid s A1 A2) (sid s c1 c2) base i k x w' h hb hx hk hsl hl)
  have cWi := Lib.hid (fun A3 n3 c3 w => withs_any s hs A1 A2 A3 L.length M.length n3 c1 c2 c3 w)
  have HOS := Lib.hid hos; have HNOT := Lib.hid hnot; have HF := Lib.hid hf; have H1 := Lib.hid o1; have H2 := Lib.hid o2; have HS := Lib.hid hs
  clear hos hnot hsl hx hk hn hl o1 o2 hf hs
  go_enter Try.func62, Try.ntmps62
  go_upto_region 1 with fail
  generalize hw0 : (w.alloc (.cells #[.slice A1 L.length c1, .slice A2 M.length c2] 24)).alloc (.cells #[.slice none 0 0, .slice none 0 0] 24) = w0 at *
  clear hw0
  replace bb := bb.drew
  replace br := br.drew
  have hbd := hb.drew
  obtain ⟨q0, q1⟩ := box2 bb
  have HBR := Lib.hid br
  have hlt : w.heap.size + 1 < w0.heap.size := br.lt
  go_region_held3 (fun w' => w'.cell? ⟨w.heap.size, 0, none⟩ = some (.slice A1 L.length c1) ∧ w'.cell? ⟨w.heap.size, 1, none⟩ = some (.slice A2 M.length c2)) ((repeat' apply And.intro) <;> (first | (with_reducible assumption) | (with_reducible exact cell_far2 (by assumption) (by simp))))
    (first
      | (go_at_call 54; (with_reducible refine (cOf.out _).mono ?_); rintro e wo ⟨rfl, hbo⟩; have bbo := bb.keep hbo; obtain ⟨q0, q1⟩ := box2 bbo)
      | (go_at_call 44; (with_reducible refine (cCut.out _ (HOS.out.below (below_then hbo hbd)) (Nat.le_trans hb0 (below_then hbo hbd).size)).mono ?_); rintro e wc ⟨A3, c3, v3, rfl, oc, hbc, hkc, hsub⟩; have bbc : Bk wc w.heap.size 24 #[.slice A1 L.length c1, .slice A2 M.length c2] := (hkc.2 w.heap.size bbo.lt (HNOT.out _ (Nat.le_refl _))).trans bbo; obtain ⟨q0, q1⟩ := box2 bbc)
      | (go_at_call 59; (with_reducible refine (cWi.out A3 _ c3 _).mono ?_); rintro e wi ⟨rfl, hbi⟩; have bbi := bbc.keep hbi; obtain ⟨q0, q1⟩ := box2 bbi; go_loud (have bri : Bk wi (w.heap.size + 1) 24 #[.slice none 0 0, .slice none 0 0] := Bk.keep ((hkc.2 (w.heap.size + 1) (HBR.out.keep hbo).lt (HNOT.out _ (Nat.le_succ _))).trans (HBR.out.keep hbo)) hbi); have r0 := bri.cell 0; have r1 := bri.cell 1; (simp at r0 r1); have f0 := bri.free 0; have f1 := bri.free 1))
  have kx := box2 (bri.set2 (.slice (sid s A3 A1) (sid s (outL (sidL s L M) i k).length L.length) (sid s c3 c1)) (.slice (sid s A2 A3) (sid s M.length (outL (sidL s L M) i k).length) (sid s c2 c3)))
  have FIN := Lib.hid (show CutPost (cutL s i k L) (cutM s i k M) base w (.returned (.agg #[.slice (sid s A3 A1) (sid s (outL (sidL s L M) i k).length L.length) (sid s c3 c1), .slice (sid s A2 A3) (sid s M.length (outL (sidL s L M) i k).length) (sid s c2 c3)])) ((wi.setCell ⟨w.heap.size + 1, 0, none⟩ (.slice (sid s A3 A1) (sid s (outL (sidL s L M) i k).length L.length) (sid s c3 c1))).setCell ⟨w.heap.size + 1, 1, none⟩ (.slice (sid s A2 A3) (sid s M.length (outL (sidL s L M) i k).length) (sid s c2 c3))) by
    have hbw : Below base w wi := (((below_then hbo hbd).mono hb0).trans hbc).trans (hbi.mono (Nat.le_trans (Nat.le_trans hb0 (below_then hbo hbd).size) hbc.size))
    have hbf : ∀ (u v : Value), Below base w ((wi.setCell ⟨w.heap.size + 1, 0, none⟩ u).setCell ⟨w.heap.size + 1, 1, none⟩ v) := fun u v => (hbw.setCell (p := ⟨w.heap.size + 1, 0, none⟩) (by show base ≤ w.heap.size + 1; omega) u).setCell (p := ⟨w.heap.size + 1, 1, none⟩) (by show base ≤ w.heap.size + 1; omega) v
    have hc : some (w.heap.size + 1) ∉ rowsOf A3 c3 v3 := fun h => HNOT.out _ (Nat.le_succ _) (hsub _ h)
    have oc' : ∀ (u v : Value), OwnLv ((wi.setCell ⟨w.heap.size + 1, 0, none⟩ u).setCell ⟨w.heap.size + 1, 1, none⟩ v) base A3 c3 (outL (sidL s L M) i k) v3 := fun u v => ((oc.below hbi).setNew (p := ⟨w.heap.size + 1, 0, none⟩) hc u).setNew (p := ⟨w.heap.size + 1, 1, none⟩) hc v
    have other : ∀ {B : Option Addr} {cb : Nat} {K : List Lv} {vb : List (Option Addr × Nat)}, OwnLv w base B cb K vb → FarRows (rowsOf (sid s A1 A2) (sid s c1 c2) (sid s v1 v2)) (rowsOf B cb vb) → ∀ (u v : Value), OwnLv ((wi.setCell ⟨w.heap.size + 1, 0, none⟩ u).setCell ⟨w.heap.size + 1, 1, none⟩ v) base B cb K vb := fun o hfr u v => by
      have hn : some (w.heap.size + 1) ∉ rowsOf _ _ _ := fun h => by have := (o.rows_lt h _ rfl).2; omega
      exact ((((o.below (below_then hbo hbd)).same hkc hfr).below hbi).setNew (p := ⟨w.heap.size + 1, 0, none⟩) hn u).setNew (p := ⟨w.heap.size + 1, 1, none⟩) hn v
    rcases side_two HS.out with rfl | rfl
    · exact ⟨_, _, v3, _, _, v2, rfl, oc' _ _, other H2.out HF.out _ _, hbf _ _⟩
    · exact ⟨_, _, v1, _, _, v3, rfl, other H1.out HF.out.symm _ _, oc' _ _, hbf _ _⟩)
  clear hbo hbc hbi hkc hsub oc bbo bbc bbi bri bb br hb hbd
  go_wp2
  exact bodyPost_ret (v := .agg #[.slice (sid s A3 A1) (sid s (outL (sidL s L M) i k).length L.length) (sid s c3 c1), .slice (sid s A2 A3) (sid s M.length (outL (sidL s L M) i k).length) (sid s c2 c3)]) (by simp [results, Try.results62, go_sem, kx]) rfl FIN.out
end Go.Proofs.Ytbnjkcgkdpildaa
