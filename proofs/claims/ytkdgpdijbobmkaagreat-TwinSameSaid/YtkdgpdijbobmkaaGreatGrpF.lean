/- Copies of levels: slices.Clone, slices.Grow, slices.Concat. The contracts of package book that look: Of, whole, Check. The contracts of book.Check, side.Where, book.Where. The contracts of book.Where, meet.Ready. The contract of meet.Ready. -/
import Derived.Test.YtkdgpdijbobmkaaGreatGrpE
import Derived.Lib.AppendZerosOnto
import Derived.Lib.SliceRun
import Derived.Lib.QuietBelow
import Derived.Deep.DeepCutAuto
import Derived.Deep.CutBlock
import Derived.Test.YtkdgpdijbobmkaaGreatGrpA
namespace Go.Proofs.YtkdgpdijbobmkaaGreat
set_option linter.all false
open Go Go.RowKit
theorem info_lv : (Tryz.prog.info? 60).map (fun i => (i.zero, i.size, i.bytes)) = some (some (.agg #[.int .i64 0, .slice none 0 0]), 2, 32) := by kernel_rfl
theorem RdLv.some {w : World} {B : Nat} {A : Option Addr} {L : List Lv} (h : RdLv w B A L) : A = none → L.length = 0 := by
  intro hA
  rcases Nat.eq_zero_or_pos L.length with h0 | h0
  · exact h0
  · obtain ⟨b, off, e, _⟩ := h h0
    rw [hA] at e; cases e
set_option maxRecDepth 20000 in
theorem clone_lv (L : List Lv) (A : Option Addr) (c : Nat) (w : World) (hr : RdLv w w.heap.size A L) (hl : L.length ≤ 100000) (hA : A = none → c = 0) :
    Calls Tryz.prog 109 #[.slice A L.length c] w fun e w' => ∃ A' c' xs, e = .returned (.slice A' L.length c') ∧ OwnS w' w.heap.size 2 A' L.length c' xs ∧ LvC w w.heap.size L xs ∧ Below w.heap.size w w' ∧ (A' = none → c' = 0) := by
  have h0 := hr.some
  obtain ⟨xs, hx, hrd⟩ := hr.cells
  cases A with
  | none =>
    obtain rfl := List.eq_nil_of_length_eq_zero (h0 rfl)
    obtain rfl := hA rfl
    have hx0 : xs = [] := List.eq_nil_of_length_eq_zero (by have := hx.len; simpa using this)
    subst hx0
    have HX := Lib.hid hx
    clear hr hA h0 hrd hx
    have hn := fun (w : World) (c : Nat) => Lib.run_eql_slice_nil (P := Tryz.prog) w 52 60 none 0 c 0 0 Tryz.underlying52
    go_enter Tryz.func109, Tryz.ntmps109
    go_wp2
    go_ret
    exact ⟨none, 0, [], rfl, OwnS.nil _ _ _ _, HX.out, Below.refl _ _, fun _ => rfl⟩
  | some a =>
    obtain ⟨i0, hi, hz0, hz1, hz2⟩ := info_parts info_lv
    have HI := Lib.hid hi; have H0 := Lib.hid hz0; have H1 := Lib.hid hz1; have H2 := Lib.hid hz2; clear hi hz0 hz1 hz2 hA
    have HX := Lib.hid hx; have HR := Lib.hid hrd; clear hr hx hrd h0
    have hn := fun (w : World) (n c : Nat) => Lib.run_eql_slice_nil (P := Tryz.prog) w 52 60 (some a) n c 0 0 Tryz.underlying52
    go_enter Tryz.func109, Tryz.ntmps109
    go_wp2_with (at_builtin; go_loud (refine wpList_append_S (base := w.heap.size) (s := 2) (n := 0) (cap := 0) (xs := []) rfl _ _ _ _ rfl 60 i0 _ 32 Tryz.underlying52 HI.out H0.out H1.out H2.out rfl rfl (OwnS.nil _ _ _ _) (by simp) _ rfl L.length xs (src_lv (HR.out.below ((Below.refl _ _).alloc (Nat.le_refl _) _)) (HX.out.below ((Below.refl _ _).alloc (Nat.le_refl _) _)) Tryz.underlying52 (fun h => by cases h)) (by unfold maxLen; omega) (by omega) ?_); intro A' cap' w' gr)
    go_ret
    refine ⟨A', cap', xs, by simp, by simpa using gr.own, HX.out, Below.grown (((Below.refl _ _).alloc (Nat.le_refl _) _)) gr.grown (by simp) (fun k hk => by simp [rowOf] at hk), fun h => ?_⟩
    rcases Nat.eq_zero_or_pos cap' with h0 | h0
    · exact h0
    · obtain ⟨g, off, e, _⟩ := gr.own.lies h0
      rw [h] at e; cases e
/-- a new room for n levels -/
theorem grow_lv (n : Nat) (hn : n ≤ 100000) (w : World) :
    Calls Tryz.prog 114 #[.slice none 0 0, .int .i64 n] w fun e w' => ∃ A c, e = .returned (.slice A 0 c) ∧ OwnS w' w.heap.size 2 A 0 c [] ∧ Below w.heap.size w w' := by
  rcases Nat.eq_zero_or_pos n with rfl | h0
  · go_enter Tryz.func114, Tryz.ntmps114
    go_wp2
    go_ret
    exact ⟨none, 0, rfl, OwnS.nil _ _ _ _, Below.refl _ _⟩
  · obtain ⟨i0, hi, hz0, hz1, hz2⟩ := info_parts info_lv
    have hrz : ∀ ty, (Builtin.append_ #[52, 3] ty #[.slice none 0 0, .int .i64 (n : Int)]).run Tryz.prog w =
        .ok (.slice (some ⟨w.heap.size, 0, none⟩) n (grownCap w n 0 60)) (w.drew.alloc (.cells (Builtin.zeroCells (Value.agg #[.int .i64 0, .slice none 0 0]).cells n ++ Builtin.zeroCells (Value.agg #[.int .i64 0, .slice none 0 0]).cells (grownCap w n 0 60 - n)) 60)) := fun ty => by
      have h := Lib.run_append_grow_zeros w 52 3 ty 60 i0 _ .i64 .i64 Tryz.underlying52 Tryz.underlying3 hi hz0 none 0 0 [] (run_firstCells_none w.drew i0.size 0 0 0) n h0 (by rw [hz1]; decide) (by omega) (by omega) (by rw [hz2]; omega) (growslice_fits (by omega) (by rw [hz2]; omega))
      rw [Nat.zero_add] at h
      simpa using h
    have hGn : n ≤ grownCap w n 0 60 := grownCap_ge w _ _ _
    have hG63 := grownCap_le_maxLen w n 0 60 (by unfold maxLen; omega)
    have HG := Lib.hid hG63
    generalize grownCap w n 0 60 = G at *
    have hsz : (Builtin.zeroCells (Value.agg #[.int .i64 0, .slice none 0 0]).cells n ++ Builtin.zeroCells (Value.agg #[.int .i64 0, .slice none 0 0]).cells (G - n)).size = G * 2 := by
      simp [Builtin.zeroCells, Value.cells]; omega
    have HS := Lib.hid hsz
    generalize Builtin.zeroCells (Value.agg #[.int .i64 0, .slice none 0 0]).cells n ++ Builtin.zeroCells (Value.agg #[.int .i64 0, .slice none 0 0]).cells (G - n) = cs at *
    clear hi hz0 hz1 hz2 hsz
    unfold maxLen at hG63
    have hn0 : ¬ ((n : Int) < 0) := by omega
    have h1 : (0 : Int) < (n : Int) := by omega
    go_enter Tryz.func114, Tryz.ntmps114
    go_wp2_with (at_builtin; refine Lib.wpList_append_run _ rfl _ _ _ _ rfl _ _ rfl rfl _ _ (hrz _) ?_)
    go_ret
    have hbk : Bk (w.alloc (.cells cs 60)).drew w.heap.size 60 cs := (Bk.new w _ _).drew
    refine ⟨some ⟨w.heap.size, 0, none⟩, G, rfl, ⟨rfl, Nat.zero_le _, HG.out, fun _ => ⟨w.heap.size, 0, rfl, Nat.le_refl _, hbk.lt, fun j hj => absurd hj (by omega), fun j hj => ⟨?_, hbk.free _⟩⟩⟩, ((Below.refl w.heap.size w).alloc (Nat.le_refl _) _).drew⟩
    rw [hbk.cell, Array.getElem?_eq_getElem (by rw [HS.out]; omega)]
    rfl
set_option maxRecDepth 100000 in
set_option maxHeartbeats 2000000 in
/-- both sides' levels, one behind the other -/
theorem concat_lv (L M : List Lv) (A1 A2 : Option Addr) (c1 c2 c g : Nat) (w : World) (h1 : RdLv w w.heap.size A1 L) (h2 : RdLv w w.heap.size A2 M) (hg : Bk w g 52 #[.slice A1 L.length c1, .slice A2 M.length c2]) (hl1 : L.length ≤ 10000) (hl2 : M.length ≤ 10000) :
    Calls Tryz.prog 83 #[.slice (some ⟨g, 0, none⟩) 2 c] w fun e w' => ∃ A' c', e = .returned (.slice A' (L ++ M).length c') ∧ RdLv w' w'.heap.size A' (L ++ M) ∧ Below w.heap.size w w' := by
  have hs1 := h1.some; have hs2 := h2.some
  obtain ⟨xs, hx, hrx⟩ := h1.cells
  obtain ⟨ys, hy, hry⟩ := h2.cells
  obtain ⟨i0, hi, hz0, hz1, hz2⟩ := info_parts info_lv
  have HI := Lib.hid hi; have H0 := Lib.hid hz0; have H1 := Lib.hid hz1; have H2 := Lib.hid hz2
  have HX := Lib.hid hx; have HY := Lib.hid hy; have HRX := Lib.hid hrx; have HRY := Lib.hid hry
  have HS1 := Lib.hid hs1; have HS2 := Lib.hid hs2
  have G := Lib.hid hg
  have q0 := hg.cell 0; have q1 := hg.cell 1
  simp at q0 q1
  have x3 : IntKind.i64.wrap ((L.length : Int) + (M.length : Int)) = (L.length : Int) + (M.length : Int) := IntWalk.i64_in _ (by omega)
  have x4 : IntKind.i64.wrap (L.length : Int) = (L.length : Int) := IntWalk.i64_in _ (by omega)
  clear hi hz0 hz1 hz2 hx hy hrx hry h1 h2 hs1 hs2 hg
  go_enter Tryz.func83, Tryz.ntmps83
  go_wp2_with fail
  go_loopw [3, 11] (fun n i wr => w = wr ∧ ((i = .int .i64 0 ∧ n = .int .i64 0) ∨ (i = .int .i64 1 ∧ n = .int .i64 L.length) ∨ (i = .int .i64 2 ∧ n = .int .i64 ((L.length : Int) + (M.length : Int))))) (fun _ i _ => 2 - (intOf i).toNat)
  case atStart => exact ⟨rfl, .inl ⟨rfl, rfl⟩⟩
  case round =>
    obtain ⟨rfl, hrel⟩ := hrel
    rcases hrel with ⟨rfl, rfl⟩ | ⟨rfl, rfl⟩ | ⟨rfl, rfl⟩
    · go_wp2
      go_roundw
      case rel => exact ⟨by trivial, .inr (.inl ⟨rfl, rfl⟩)⟩
      case measure => simp [intOf]
    · go_wp2
      go_roundw
      case rel => exact ⟨by trivial, .inr (.inr ⟨rfl, rfl⟩)⟩
      case measure => simp [intOf]
    · clear q0 q1 x3 x4
      go_wp2_with fail
      go_at_call 114
      have cG := grow_lv (L.length + M.length) (by omega) w
      rw [Int.natCast_add] at cG
      refine cG.mono ?_
      rintro e w1 ⟨A, cA, rfl, own, hb⟩
      clear cG
      go_wp2_with fail
      go_loopw [6, 27] (fun v i wr => ∃ (A : Option Addr) (cA : Nat), ((i = .int .i64 0 ∧ v = .slice A 0 cA ∧ Hid (OwnS wr w.heap.size 2 A 0 cA [])) ∨ (i = .int .i64 1 ∧ v = .slice A L.length cA ∧ Hid (OwnS wr w.heap.size 2 A L.length cA xs)) ∨ (i = .int .i64 2 ∧ v = .slice A (L.length + M.length) cA ∧ Hid (OwnS wr w.heap.size 2 A (L.length + M.length) cA (xs ++ ys)))) ∧ Below w.heap.size w wr) (fun _ i _ => 2 - (intOf i).toNat)
      case atStart => exact ⟨A, cA, .inl ⟨rfl, rfl, Lib.hid own⟩, hb⟩
      case round =>
        clear own hb
        obtain ⟨A, cA, hrel, hb⟩ := hrel
        have g2 := G.out.keep hb
        have q0 := g2.cell 0; have q1 := g2.cell 1
        simp at q0 q1
        clear g2
        rcases hrel with ⟨rfl, rfl, own⟩ | ⟨rfl, rfl, own⟩ | ⟨rfl, rfl, own⟩
        · go_wp2_with (at_builtin; go_loud (refine wpList_append_S (base := w.heap.size) (s := 2) (n := 0) rfl _ _ _ _ rfl 60 i0 _ 32 Tryz.underlying52 HI.out H0.out H1.out H2.out rfl rfl own.out hb.size _ rfl L.length xs (src_lv (HRX.out.below hb) (HX.out.below hb) Tryz.underlying52 HS1.out) (by unfold maxLen; omega) (by omega) ?_); intro A3 c3 w3 gr)
          go_roundw
          case rel => exact ⟨A3, c3, .inr (.inl ⟨rfl, by simp, Lib.hid (by simpa using gr.own)⟩), Below.grown hb gr.grown hb.size (fun k hk => (own.out.row_lt k hk).1)⟩
          case measure => simp [intOf]
        · go_wp2_with (at_builtin; go_loud (refine wpList_append_S (base := w.heap.size) (s := 2) (n := L.length) rfl _ _ _ _ rfl 60 i0 _ 32 Tryz.underlying52 HI.out H0.out H1.out H2.out rfl rfl own.out hb.size _ rfl M.length ys (src_lv (HRY.out.below hb) (HY.out.below hb) Tryz.underlying52 HS2.out) (by unfold maxLen; omega) (by omega) ?_); intro A3 c3 w3 gr)
          go_roundw
          case rel => exact ⟨A3, c3, .inr (.inr ⟨rfl, rfl, Lib.hid gr.own⟩), Below.grown hb gr.grown hb.size (fun k hk => (own.out.row_lt k hk).1)⟩
          case measure => simp [intOf]
        · have HF := Lib.hid (own.out.lv (((HX.out.app HY.out).below hb)) (by rw [List.length_append]) hb.size)
          clear own
          go_wp2
          go_ret
          exact ⟨A, cA, by rw [List.length_append]; rfl, HF.out, hb⟩
end Go.Proofs.YtkdgpdijbobmkaaGreat
namespace Go.Proofs.YtkdgpdijbobmkaaGreat
set_option linter.all false
open Go Go.RowKit
/-- do the best prices meet? -/
def crossB (L M : List Lv) : Bool := match L[0]?, M[0]? with
  | some x, some y => decide (y.price ≤ x.price)
  | _, _ => false
/-- what is wrong with both sides together -/
def wholeE (L M : List Lv) : Int := if crossB L M then 8 else if twice [] (ids (L ++ M)) then 7 else if 60 < cnt L + cnt M then 4 else 0
/-- what is wrong with a book -/
def bookE (L M : List Lv) : Int := if sideE 1 L ≠ 0 then sideE 1 L else if sideE 2 M ≠ 0 then sideE 2 M else wholeE L M
theorem ids_app (L M : List Lv) : ids (L ++ M) = ids L ++ ids M := by simp [ids]
theorem cnt_app (L M : List Lv) : cnt (L ++ M) = cnt L + cnt M := by simp [cnt]
/-- levels of a side that is right, but for how many, and twice -/
structure LvOk (L : List Lv) : Prop where
  few : L.length ≤ 10000
  each : ∀ x ∈ L, x.rs.length ≤ 60
  cnt : cnt L ≤ 600000
  ids : ∀ i ∈ ids L, 1 ≤ i ∧ i ≤ 9999
  full : ∀ x ∈ L, x.rs.length ≠ 0
theorem sideE_zero {s : Int} {L : List Lv} (h : sideE s L = 0) : vs s = true ∧ lvErr s L = 0 ∧ cnt L ≤ 60 ∧ twice [] (ids L) = false := by
  unfold sideE at h
  cases hs : vs s
  · rw [hs] at h; simp at h
  · rw [if_neg (by rw [hs]; decide)] at h
    by_cases h1 : lvErr s L = 0
    · rw [if_neg (by simpa using h1)] at h
      by_cases h2 : 60 < cnt L
      · rw [if_pos h2] at h; omega
      · rw [if_neg h2] at h
        cases h3 : twice [] (ids L)
        · exact ⟨rfl, h1, by omega, rfl⟩
        · rw [h3] at h; simp at h
    · rw [if_pos h1] at h; exact absurd h h1
theorem LvOk.of {s : Int} {L : List Lv} (h : sideE s L = 0) : LvOk L := by
  obtain ⟨h1, h2, _, _⟩ := sideE_zero h
  obtain ⟨a, b, c, d⟩ := lv_ok h1 h2
  exact ⟨a, b, c, d, lv_some h2⟩
/-- the levels of a side -/
def ofV (s : Int) (v1 v2 : Value) : Value := if s = 1 then v1 else v2
theorem of_any (v1 v2 : Value) (h1 : v1.oneCell' = true) (h2 : v2.oneCell' = true) (s : Int) (A1 A2 : Option Addr) (n1 n2 c1 c2 : Nat) (e1 : v1 = .slice A1 n1 c1) (e2 : v2 = .slice A2 n2 c2) (w : World) :
    Calls Tryz.prog 47 #[.agg #[v1, v2], .int .i64 s] w fun e w' => e = .returned (ofV s v1 v2) ∧ Below w.heap.size w w' := by
  subst e1 e2
  have hb : Below w.heap.size w (w.alloc (.cells #[.slice A1 n1 c1, .slice A2 n2 c2] 54)) := (Below.refl _ _).alloc (Nat.le_refl _) _
  have HB := Lib.hid hb
  clear hb h1 h2
  by_cases h : s = 1
  · subst h
    go_enter Tryz.func47, Tryz.ntmps47
    go_wp2
    go_ret
    exact ⟨rfl, HB.out⟩
  · have e : (s == 1) = false := by simpa using h
    have HI := Lib.hid (show ofV s (Value.slice A1 n1 c1) (.slice A2 n2 c2) = .slice A2 n2 c2 from if_neg h)
    clear h
    go_enter Tryz.func47, Tryz.ntmps47
    go_wp2
    go_ret
    exact ⟨by rw [HI.out]; rfl, HB.out⟩
set_option maxRecDepth 100000 in
set_option maxHeartbeats 400000 in
theorem whole_any (L M : List Lv) (A1 A2 : Option Addr) (c1 c2 : Nat) (w : World) (h1 : RdLv w w.heap.size A1 L) (h2 : RdLv w w.heap.size A2 M) (ok1 : LvOk L) (ok2 : LvOk M) :
    Calls Tryz.prog 48 #[.agg #[.slice A1 L.length c1, .slice A2 M.length c2]] w fun e w' => e = .returned (errV (wholeE L M)) ∧ Below w.heap.size w w' := by
  have HL := Lib.hid h1; have HM := Lib.hid h2
  have OL := Lib.hid ok1; have OM := Lib.hid ok2
  clear h1 h2 ok1 ok2
  have hb : Below w.heap.size w (w.alloc (.cells #[.slice A1 L.length c1, .slice A2 M.length c2] 54)) := (Below.refl _ _).alloc (Nat.le_refl _) _
  have bb := Bk.new w 54 #[.slice A1 L.length c1, .slice A2 M.length c2]
  go_enter Tryz.func48, Tryz.ntmps48
  go_upto_region 1 with fail
  generalize w.alloc (.cells #[.slice A1 L.length c1, .slice A2 M.length c2] 54) = w0 at *
  go_cut [3] (fun t wx => t = .bool (crossB L M) ∧ Bk wx w.heap.size 54 #[.slice A1 L.length c1, .slice A2 M.length c2] ∧ Below w.heap.size w wx)
  case first =>
    have q0 := bb.cell 0; have q1 := bb.cell 1
    simp at q0 q1
    have BB := Lib.hid bb
    have HB := Lib.hid hb
    clear bb hb
    rcases Nat.eq_zero_or_pos L.length with l0 | l0
    · have HC := Lib.hid (show crossB L M = false by rw [crossB, List.getElem?_eq_none (by omega)])
      have hg : decide (0 < L.length) = false := decide_eq_false (by omega)
      clear l0
      go_wp2
      go_quiet (fail)
      go_wp2
      go_meet
      case rel => exact ⟨by rw [HC.out], BB.out.drewN _, below_drewN HB.out _⟩
    · rcases Nat.eq_zero_or_pos M.length with m0 | m0
      · have HC := Lib.hid (show crossB L M = false by rw [crossB, List.getElem?_eq_none (l := M) (by omega)]; cases L[0]? <;> rfl)
        have hg : decide (0 < L.length) = true := decide_eq_true l0
        have hg2 : decide (0 < M.length) = false := decide_eq_false (by omega)
        clear l0 m0
        go_wp2
        go_quiet (fail)
        go_wp2
        go_meet
        case rel => exact ⟨by rw [HC.out], BB.out.drewN _, below_drewN HB.out _⟩
      · obtain ⟨b, off, x, Ar, cr, rfl, hbl, hx, e0, _⟩ := lv_at (HL.out.below HB.out) l0
        obtain ⟨b', off', y, Ar', cr', rfl, hbl', hy, f0, _⟩ := lv_at (HM.out.below HB.out) m0
        have HC := Lib.hid (show crossB L M = decide (y.price ≤ x.price) by rw [crossB, hx, hy])
        have hg : decide (0 < L.length) = true := decide_eq_true l0
        have hg2 : decide (0 < M.length) = true := decide_eq_true m0
        have hg3 : (0 : Int) < (L.length : Int) := by omega
        have hg4 : (0 : Int) < (M.length : Int) := by omega
        simp only [Nat.zero_mul, Nat.add_zero] at e0 f0
        clear hx hy l0 m0
        go_wp2
        go_quiet (fail)
        go_wp2
        go_meet
        case rel => exact ⟨by rw [HC.out], BB.out.drewN _, below_drewN HB.out _⟩
  clear hb bb
  obtain ⟨rfl, bb, hb⟩ := hcut
  cases hc : crossB L M
  · have HE := Lib.hid (show wholeE L M = if twice [] (ids (L ++ M)) then 7 else if 60 < cnt L + cnt M then 4 else 0 by rw [wholeE, hc]; rfl)
    clear hc
    have q0 := bb.cell 0; have q1 := bb.cell 1
    simp at q0 q1
    have cC := Lib.hid (fun g c w' h1 h2 hg => concat_lv L M A1 A2 c1 c2 c g w' h1 h2 hg OL.out.few OM.out.few)
    go_wp2_with fail
    go_at_call 83
    have hb1 := below_then_alloc (o := .cells #[.slice A1 L.length c1, .slice A2 M.length c2] 52) hb
    have bs := Bk.new wc 52 #[.slice A1 L.length c1, .slice A2 M.length c2]
    replace bb := bb.alloc (.cells #[.slice A1 L.length c1, .slice A2 M.length c2] 52)
    generalize wc.alloc (.cells #[.slice A1 L.length c1, .slice A2 M.length c2] 52) = w1 at *
    refine (cC.out _ _ _ (HL.out.on hb1) (HM.out.on hb1) bs).mono ?_
    rintro e w2 ⟨A3, c3, rfl, hr, hb2⟩
    replace bb := bb.keep hb2
    have hb3 := below_then hb2 hb1
    clear bs hb2 hb1 hb q0 q1
    have cT := Lib.hid (twice_any (L ++ M) A3 c3 w2 hr (by rw [List.length_append]; unfold maxLen; have := OL.out.few; have := OM.out.few; omega) (by rw [cnt_app]; unfold maxLen; have := OL.out.cnt; have := OM.out.cnt; omega)
      (fun i hi => by rw [ids_app] at hi; rcases List.mem_append.1 hi with h | h; exact OL.out.ids i h; exact OM.out.ids i h)
      (fun x hx => by unfold maxLen; rcases List.mem_append.1 hx with h | h; (have := OL.out.each x h; omega); (have := OM.out.each x h; omega)))
    clear hr
    generalize L ++ M = K at *
    go_wp2_with fail
    go_at_call 82
    refine cT.out.mono ?_
    rintro e w4 ⟨rfl, hb4⟩
    replace bb := bb.keep hb4
    replace hb3 := below_then hb4 hb3
    clear hb4 cT
    cases ht : twice [] (ids K)
    · have HE2 := HE.out
      rw [ht] at HE2
      have HE3 := Lib.hid (show wholeE L M = if 60 < cnt L + cnt M then 4 else 0 from HE2)
      clear ht HE2 HE
      have k0 := cell_regrown (bb.cell 0 : w4.cell? ⟨w.heap.size, 0, none⟩ = some (.slice A1 L.length c1))
      have k1 := cell_regrown (bb.cell 1 : w4.cell? ⟨w.heap.size, 1, none⟩ = some (.slice A2 M.length c2))
      have cG1 := fun d os => Calls.regrown_of (w := w4) (d := d) (os := os) (count_any L A1 c1 _ (((HL.out.on hb3).below (below_regrown w4 d os)).more (below_regrown w4 d os).size) (by unfold maxLen; have := OL.out.few; omega) (by unfold maxLen; have := OL.out.cnt; omega))
      have cG2 := fun d os => Calls.regrown_of (w := w4) (d := d) (os := os) (count_any M A2 c2 _ (((HM.out.on hb3).below (below_regrown w4 d os)).more (below_regrown w4 d os).size) (by unfold maxLen; have := OM.out.few; omega) (by unfold maxLen; have := OM.out.cnt; omega))
      have hn1 := OL.out.cnt; have hn2 := OM.out.cnt
      by_cases hc : 60 < cnt L + cnt M
      · have H := Lib.hid (show wholeE L M = 4 by rw [HE3.out, if_pos hc])
        have hc' : (60 : Int) < (cnt L : Int) + (cnt M : Int) := by omega
        clear hc
        generalize cnt L = n1 at *
        generalize cnt M = n2 at *
        have x1 : IntKind.i64.wrap ((n1 : Int) + (n2 : Int)) = (n1 : Int) + (n2 : Int) := IntWalk.i64_in _ (by omega)
        go_wp2
        refine wp_region_quiet_below (by kernel_rfl) (by kernel_rfl) ?_
        repeat (quiet_step (first | (with_reducible exact cG1 _ _) | (with_reducible exact cG2 _ _)))
        refine wpQuiet_nil ?_
        intro w5 hw5
        have hb5 : Below w4.heap.size w4 w5 := by obtain ⟨p, rfl⟩ := hw5; exact below_regrown _ _ _
        clear hw5 cG1 cG2 k0 k1
        go_wp2
        go_ret
        exact ⟨retE H.out (by omega), below_then hb5 hb3⟩
      · have H := Lib.hid (show wholeE L M = 0 by rw [HE3.out, if_neg hc])
        have hc' : (cnt L : Int) + (cnt M : Int) ≤ 60 := by omega
        clear hc
        generalize cnt L = n1 at *
        generalize cnt M = n2 at *
        have x1 : IntKind.i64.wrap ((n1 : Int) + (n2 : Int)) = (n1 : Int) + (n2 : Int) := IntWalk.i64_in _ (by omega)
        go_wp2
        refine wp_region_quiet_below (by kernel_rfl) (by kernel_rfl) ?_
        repeat (quiet_step (first | (with_reducible exact cG1 _ _) | (with_reducible exact cG2 _ _)))
        refine wpQuiet_nil ?_
        intro w5 hw5
        have hb5 : Below w4.heap.size w4 w5 := by obtain ⟨p, rfl⟩ := hw5; exact below_regrown _ _ _
        clear hw5 cG1 cG2 k0 k1
        go_wp2
        go_ret
        exact ⟨retE0 H.out, below_then hb5 hb3⟩
    · have HE2 := HE.out
      rw [ht] at HE2
      have H := Lib.hid (show wholeE L M = 7 from HE2)
      clear ht HE2 HE
      go_wp2
      go_ret
      exact ⟨retE H.out (by omega), hb3⟩
  · have H := Lib.hid (show wholeE L M = 8 by rw [wholeE, hc]; rfl)
    clear hc
    go_wp2
    go_ret
    exact ⟨retE H.out (by omega), hb⟩
end Go.Proofs.YtkdgpdijbobmkaaGreat
namespace Go.Proofs.YtkdgpdijbobmkaaGreat
set_option linter.all false
open Go Go.RowKit
theorem of_buy (A1 A2 : Option Addr) (n1 n2 c1 c2 : Nat) (w : World) :
    Calls Tryz.prog 47 #[.agg #[.slice A1 n1 c1, .slice A2 n2 c2], .int .i64 1] w fun e w' => e = .returned (.slice A1 n1 c1) ∧ Below w.heap.size w w' := of_any _ _ rfl rfl 1 A1 A2 n1 n2 c1 c2 rfl rfl w
theorem of_sell (A1 A2 : Option Addr) (n1 n2 c1 c2 : Nat) (w : World) :
    Calls Tryz.prog 47 #[.agg #[.slice A1 n1 c1, .slice A2 n2 c2], .int .i64 2] w fun e w' => e = .returned (.slice A2 n2 c2) ∧ Below w.heap.size w w' := of_any _ _ rfl rfl 2 A1 A2 n1 n2 c1 c2 rfl rfl w
set_option maxRecDepth 100000 in
set_option maxHeartbeats 1000000 in
theorem bcheck_any (L M : List Lv) (A1 A2 : Option Addr) (c1 c2 : Nat) (w : World) (h1 : RdLv w w.heap.size A1 L) (h2 : RdLv w w.heap.size A2 M) (hl1 : L.length ≤ maxLen) (hl2 : M.length ≤ maxLen) :
    Calls Tryz.prog 18 #[.agg #[.slice A1 L.length c1, .slice A2 M.length c2]] w fun e w' => e = .returned (errV (bookE L M)) ∧ Below w.heap.size w w' := by
  have HL := Lib.hid h1; have HM := Lib.hid h2
  have cS1 := Lib.hid (fun w' h => scheck_any 1 L A1 c1 w' h hl1)
  have cS2 := Lib.hid (fun w' h => scheck_any 2 M A2 c2 w' h hl2)
  clear h1 h2 hl1 hl2
  have hb : Below w.heap.size w ((w.alloc (.cells #[.slice A1 L.length c1, .slice A2 M.length c2] 54)).alloc (.cells #[.int .i64 1, .int .i64 2] 3)) := below_then_alloc ((Below.refl _ _).alloc (Nat.le_refl _) _)
  have bb := (Bk.new w 54 #[.slice A1 L.length c1, .slice A2 M.length c2]).alloc (.cells #[.int .i64 1, .int .i64 2] 3)
  have bs := Bk.at_ (w := w.alloc (.cells #[.slice A1 L.length c1, .slice A2 M.length c2] 54)) (g' := w.heap.size + 1) (by simp) 3 #[.int .i64 1, .int .i64 2]
  go_enter Tryz.func18, Tryz.ntmps18
  go_wp2_with fail
  generalize (w.alloc (.cells #[.slice A1 L.length c1, .slice A2 M.length c2] 54)).alloc (.cells #[.int .i64 1, .int .i64 2] 3) = w0 at *
  go_loopw [8] (fun i wr => (i = .int .i64 0 ∨ (i = .int .i64 1 ∧ Hid (sideE 1 L = 0)) ∨ (i = .int .i64 2 ∧ Hid (sideE 1 L = 0 ∧ sideE 2 M = 0))) ∧ Bk wr w.heap.size 54 #[.slice A1 L.length c1, .slice A2 M.length c2] ∧ Bk wr (w.heap.size + 1) 3 #[.int .i64 1, .int .i64 2] ∧ Below w.heap.size w wr) (fun i _ => 2 - (intOf i).toNat)
  case atStart => exact ⟨.inl rfl, bb, bs, hb⟩
  case round =>
    clear hb bb bs
    obtain ⟨hrel, bb, bs, hb⟩ := hrel
    have q0 := bb.cell 0; have q1 := bb.cell 1; have s0 := bs.cell 0; have s1 := bs.cell 1
    simp at q0 q1 s0 s1
    rcases hrel with rfl | ⟨rfl, hE⟩ | ⟨rfl, hE⟩
    · go_wp2_with fail
      go_at_call 47
      refine (of_buy A1 A2 L.length M.length c1 c2 wr).mono ?_
      rintro e w2 ⟨rfl, hb2⟩
      replace bb := bb.keep hb2; replace bs := bs.keep hb2; replace hb := below_then hb2 hb
      clear hb2 q0 q1 s0 s1
      go_wp2_with fail
      go_at_call 46
      refine (cS1.out _ (HL.out.on hb)).mono ?_
      rintro e w3 ⟨rfl, hb2⟩
      replace bb := bb.keep hb2; replace bs := bs.keep hb2; replace hb := below_then hb2 hb
      clear hb2
      by_cases h0 : sideE 1 L = 0
      · have H0 := Lib.hid h0
        rw [h0, show errV 0 = .nilIface from rfl]
        clear h0
        go_wp2
        go_roundw
        case rel => exact ⟨.inr (.inl ⟨rfl, H0⟩), bb, bs, hb⟩
        case measure => simp [intOf]
      · have H := Lib.hid (show bookE L M = sideE 1 L from if_pos h0)
        have HN := Lib.hid h0
        rw [show errV (sideE 1 L) = er (sideE 1 L) by rw [errV, if_neg h0]]
        clear h0
        generalize sideE 1 L = z at *
        go_wp2
        go_ret
        exact ⟨retE H.out HN.out, hb⟩
    · go_wp2_with fail
      go_at_call 47
      refine (of_sell A1 A2 L.length M.length c1 c2 wr).mono ?_
      rintro e w2 ⟨rfl, hb2⟩
      replace bb := bb.keep hb2; replace bs := bs.keep hb2; replace hb := below_then hb2 hb
      clear hb2 q0 q1 s0 s1
      go_wp2_with fail
      go_at_call 46
      refine (cS2.out _ (HM.out.on hb)).mono ?_
      rintro e w3 ⟨rfl, hb2⟩
      replace bb := bb.keep hb2; replace bs := bs.keep hb2; replace hb := below_then hb2 hb
      clear hb2
      by_cases h0 : sideE 2 M = 0
      · have H0 := Lib.hid (And.intro hE.out h0)
        rw [h0, show errV 0 = .nilIface from rfl]
        clear h0
        go_wp2
        go_roundw
        case rel => exact ⟨.inr (.inr ⟨rfl, H0⟩), bb, bs, hb⟩
        case measure => simp [intOf]
      · have H := Lib.hid (show bookE L M = sideE 2 M by rw [bookE, if_neg (by rw [hE.out]; decide), if_pos h0])
        have HN := Lib.hid h0
        rw [show errV (sideE 2 M) = er (sideE 2 M) by rw [errV, if_neg h0]]
        clear h0 hE
        generalize sideE 2 M = z at *
        go_wp2
        go_ret
        exact ⟨retE H.out HN.out, hb⟩
    · have H := Lib.hid (show bookE L M = wholeE L M by rw [bookE, if_neg (by rw [hE.out.1]; decide), if_neg (by rw [hE.out.2]; decide)])
      have O1 := LvOk.of hE.out.1
      have O2 := LvOk.of hE.out.2
      have cW := Lib.hid (fun w' h h' => whole_any L M A1 A2 c1 c2 w' h h' O1 O2)
      clear O1 O2
      go_wp2_with fail
      go_at_call 48
      refine (cW.out _ (HL.out.on hb) (HM.out.on hb)).mono ?_
      rintro e w3 ⟨rfl, hb2⟩
      go_wp2
      go_ret
      exact ⟨by rw [H.out]; rfl, below_then hb2 hb⟩
/-- where an id is: its level, its place there; below 0: it is not there -/
def whereL (L : List Lv) (id : Int) : Int × Int := match (List.range L.length).find? (fun k => decide (0 ≤ findI ((L.getD k ⟨0, []⟩).rs) id)) with
  | some k => ((k : Int), findI ((L.getD k ⟨0, []⟩).rs) id)
  | none => (-1, -1)
theorem whereL_hit {L : List Lv} {id : Int} {k : Nat} {x : Lv} (hx : L[k]? = some x) (h0 : ∀ j, j < k → findI ((L.getD j ⟨0, []⟩).rs) id < 0) (h : 0 ≤ findI x.rs id) : whereL L id = ((k : Int), findI x.rs id) := by
  have hk : k < L.length := (List.getElem?_eq_some_iff.1 hx).1
  have hg : L.getD k ⟨0, []⟩ = x := by rw [List.getD_eq_getElem?_getD, hx]; rfl
  have : (List.range L.length).find? (fun k => decide (0 ≤ findI ((L.getD k ⟨0, []⟩).rs) id)) = some k := by
    rw [List.find?_range_eq_some]
    refine ⟨by rw [hg]; simpa using h, by simpa using hk, fun j hj => ?_⟩
    have := h0 j hj
    simpa using this
  rw [whereL, this]
  simp only [hg]
theorem whereL_none {L : List Lv} {id : Int} (h0 : ∀ j, j < L.length → findI ((L.getD j ⟨0, []⟩).rs) id < 0) : whereL L id = (-1, -1) := by
  have : (List.range L.length).find? (fun k => decide (0 ≤ findI ((L.getD k ⟨0, []⟩).rs) id)) = none := by
    rw [List.find?_eq_none]
    intro x hx
    have := h0 x (List.mem_range.1 hx)
    simpa using this
  rw [whereL, this]
set_option maxRecDepth 100000 in
set_option maxHeartbeats 1000000 in
theorem swhere_any (L : List Lv) (A : Option Addr) (c : Nat) (id : Int) (w : World) (hr : RdLv w w.heap.size A L) (hL : L.length ≤ 10000) (heach : ∀ x ∈ L, x.rs.length ≤ 60) :
    Calls Tryz.prog 123 #[.slice A L.length c, .int .i64 id] w fun e w' => e = .returned (.tuple #[.int .i64 (whereL L id).1, .int .i64 (whereL L id).2]) ∧ Below w.heap.size w w' := by
  have HR := Lib.hid hr; have HE := Lib.hid heach
  clear hr heach
  go_enter Tryz.func123, Tryz.ntmps123
  go_wp2_with fail
  go_loopw [11] (fun i wr => ∃ k : Nat, k ≤ L.length ∧ i = .int .i64 k ∧ Below w.heap.size w wr ∧ Hid (∀ j, j < k → findI ((L.getD j ⟨0, []⟩).rs) id < 0)) (fun i _ => L.length - (intOf i).toNat)
  case atStart => exact ⟨0, by omega, rfl, Below.refl _ _, Lib.hid (fun j hj => absurd hj (by omega))⟩
  case round =>
    obtain ⟨k, hk, rfl, hb, hno⟩ := hrel
    by_cases hlt : k < L.length
    · obtain ⟨b, off, x, Ar, cr, rfl, hbl, hx, e0, e1, _, _, hrr⟩ := lv_at HR.out hlt
      have d0 := (hb.cell (p := ⟨b, _, none⟩) hbl).trans e0
      have d1 := (hb.cell (p := ⟨b, _, none⟩) hbl).trans e1
      have hx60 := HE.out x (List.mem_of_getElem? hx)
      have HX := Lib.hid hx
      have HRR := Lib.hid hrr
      have cF := Lib.hid (fun w' h => find_any x.rs Ar cr id w' h (by omega))
      clear hx hrr e0 e1
      go_wp2_with fail
      go_at_call 111
      have hb1 := below_then_alloc (o := .cells #[.int .i64 x.price, .slice Ar x.rs.length cr] 60) hb
      generalize wr.alloc (.cells #[.int .i64 x.price, .slice Ar x.rs.length cr] 60) = w1 at *
      refine (cF.out _ ((HRR.out.below hb1).more hb1.size)).mono ?_
      rintro e w2 ⟨rfl, hb2⟩
      have hb3 := below_then hb2 hb1
      by_cases hf : 0 ≤ findI x.rs id
      · have H := Lib.hid (whereL_hit HX.out hno.out hf)
        generalize findI x.rs id = f at *
        go_wp2
        exact bodyPost_ret (v := .tuple #[.int .i64 (k : Int), .int .i64 f]) (by simp [results, Tryz.results123, go_sem]) rfl ⟨by rw [H.out], hb3⟩
      · have hf' : findI x.rs id < 0 := by omega
        have HF := Lib.hid hf'
        clear hf
        have HN : Hid (∀ j, j < k + 1 → findI ((L.getD j ⟨0, []⟩).rs) id < 0) := Lib.hid (fun j hj => by
          by_cases hjk : j < k
          · exact hno.out j hjk
          · obtain rfl : j = k := by omega
            rw [List.getD_eq_getElem?_getD, HX.out]; exact HF.out)
        clear HF
        generalize findI x.rs id = f at *
        go_wp2
        go_roundw
        case rel => exact ⟨k + 1, by omega, by go_num, hb3, HN⟩
        case measure => simp [intOf]; omega
    · obtain rfl : k = L.length := by omega
      have H := Lib.hid (whereL_none hno.out)
      go_wp2
      exact bodyPost_ret (v := .tuple #[.int .i64 (-1), .int .i64 (-1)]) (by simp [results, Tryz.results123, go_sem]) rfl ⟨by rw [H.out], hb⟩
end Go.Proofs.YtkdgpdijbobmkaaGreat
namespace Go.Proofs.YtkdgpdijbobmkaaGreat
set_option linter.all false
open Go Go.RowKit
/-- where an id is in a book: its side, level, place; 0: it is nowhere -/
def whereB (L M : List Lv) (id : Int) : Int × Int × Int := if 0 ≤ (whereL L id).1 then (1, (whereL L id).1, (whereL L id).2) else if 0 ≤ (whereL M id).1 then (2, (whereL M id).1, (whereL M id).2) else (0, 0, 0)
set_option maxRecDepth 100000 in
set_option maxHeartbeats 1000000 in
theorem bwhere_any (L M : List Lv) (A1 A2 : Option Addr) (c1 c2 : Nat) (id : Int) (w : World) (h1 : RdLv w w.heap.size A1 L) (h2 : RdLv w w.heap.size A2 M) (ok1 : LvOk L) (ok2 : LvOk M) :
    Calls Tryz.prog 93 #[.agg #[.slice A1 L.length c1, .slice A2 M.length c2], .int .i64 id] w fun e w' => e = .returned (.tuple #[.int .i64 (whereB L M id).1, .int .i64 (whereB L M id).2.1, .int .i64 (whereB L M id).2.2]) ∧ Below w.heap.size w w' := by
  have HL := Lib.hid h1; have HM := Lib.hid h2
  have cS1 := Lib.hid (fun w' h => swhere_any L A1 c1 id w' h ok1.few ok1.each)
  have cS2 := Lib.hid (fun w' h => swhere_any M A2 c2 id w' h ok2.few ok2.each)
  clear h1 h2 ok1 ok2
  have hb : Below w.heap.size w ((w.alloc (.cells #[.slice A1 L.length c1, .slice A2 M.length c2] 54)).alloc (.cells #[.int .i64 1, .int .i64 2] 3)) := below_then_alloc ((Below.refl _ _).alloc (Nat.le_refl _) _)
  have bb := (Bk.new w 54 #[.slice A1 L.length c1, .slice A2 M.length c2]).alloc (.cells #[.int .i64 1, .int .i64 2] 3)
  have bs := Bk.at_ (w := w.alloc (.cells #[.slice A1 L.length c1, .slice A2 M.length c2] 54)) (g' := w.heap.size + 1) (by simp) 3 #[.int .i64 1, .int .i64 2]
  go_enter Tryz.func93, Tryz.ntmps93
  go_wp2_with fail
  generalize (w.alloc (.cells #[.slice A1 L.length c1, .slice A2 M.length c2] 54)).alloc (.cells #[.int .i64 1, .int .i64 2] 3) = w0 at *
  go_loopw [13] (fun i wr => (i = .int .i64 0 ∨ (i = .int .i64 1 ∧ Hid ((whereL L id).1 < 0)) ∨ (i = .int .i64 2 ∧ Hid ((whereL L id).1 < 0 ∧ (whereL M id).1 < 0))) ∧ Bk wr w.heap.size 54 #[.slice A1 L.length c1, .slice A2 M.length c2] ∧ Bk wr (w.heap.size + 1) 3 #[.int .i64 1, .int .i64 2] ∧ Below w.heap.size w wr) (fun i _ => 2 - (intOf i).toNat)
  case atStart => exact ⟨.inl rfl, bb, bs, hb⟩
  case round =>
    clear hb bb bs
    obtain ⟨hrel, bb, bs, hb⟩ := hrel
    have q0 := bb.cell 0; have q1 := bb.cell 1; have s0 := bs.cell 0; have s1 := bs.cell 1
    simp at q0 q1 s0 s1
    rcases hrel with rfl | ⟨rfl, hE⟩ | ⟨rfl, hE⟩
    · go_wp2_with fail
      go_at_call 47
      refine (of_buy A1 A2 L.length M.length c1 c2 wr).mono ?_
      rintro e w2 ⟨rfl, hb2⟩
      replace bb := bb.keep hb2; replace bs := bs.keep hb2; replace hb := below_then hb2 hb
      clear hb2 q0 q1 s0 s1
      go_wp2_with fail
      go_at_call 123
      refine (cS1.out _ (HL.out.on hb)).mono ?_
      rintro e w3 ⟨rfl, hb2⟩
      replace bb := bb.keep hb2; replace bs := bs.keep hb2; replace hb := below_then hb2 hb
      clear hb2 cS1
      by_cases h0 : 0 ≤ (whereL L id).1
      · have H := Lib.hid (show whereB L M id = (1, (whereL L id).1, (whereL L id).2) from if_pos h0)
        generalize (whereL L id).1 = z at *
        generalize (whereL L id).2 = y at *
        go_wp2
        exact bodyPost_ret (v := .tuple #[.int .i64 1, .int .i64 z, .int .i64 y]) (by simp [results, Tryz.results93, go_sem]) rfl ⟨by rw [H.out], hb⟩
      · have h0' : (whereL L id).1 < 0 := by omega
        have H0 := Lib.hid h0'
        clear h0
        go_wp2
        go_roundw
        case rel => exact ⟨.inr (.inl ⟨rfl, H0⟩), bb, bs, hb⟩
        case measure => simp [intOf]
    · go_wp2_with fail
      go_at_call 47
      refine (of_sell A1 A2 L.length M.length c1 c2 wr).mono ?_
      rintro e w2 ⟨rfl, hb2⟩
      replace bb := bb.keep hb2; replace bs := bs.keep hb2; replace hb := below_then hb2 hb
      clear hb2 q0 q1 s0 s1
      go_wp2_with fail
      go_at_call 123
      refine (cS2.out _ (HM.out.on hb)).mono ?_
      rintro e w3 ⟨rfl, hb2⟩
      replace bb := bb.keep hb2; replace bs := bs.keep hb2; replace hb := below_then hb2 hb
      clear hb2 cS2
      by_cases h0 : 0 ≤ (whereL M id).1
      · have H := Lib.hid (show whereB L M id = (2, (whereL M id).1, (whereL M id).2) by rw [whereB, if_neg (by have := hE.out; omega), if_pos h0])
        clear hE
        generalize (whereL M id).1 = z at *
        generalize (whereL M id).2 = y at *
        go_wp2
        exact bodyPost_ret (v := .tuple #[.int .i64 2, .int .i64 z, .int .i64 y]) (by simp [results, Tryz.results93, go_sem]) rfl ⟨by rw [H.out], hb⟩
      · have h0' : (whereL M id).1 < 0 := by omega
        have H0 := Lib.hid (And.intro hE.out h0')
        clear h0 hE
        go_wp2
        go_roundw
        case rel => exact ⟨.inr (.inr ⟨rfl, H0⟩), bb, bs, hb⟩
        case measure => simp [intOf]
    · have H := Lib.hid (show whereB L M id = (0, 0, 0) by rw [whereB, if_neg (by have := hE.out.1; omega), if_neg (by have := hE.out.2; omega)])
      clear hE
      go_wp2
      exact bodyPost_ret (v := .tuple #[.int .i64 0, .int .i64 0, .int .i64 0]) (by simp [results, Tryz.results93, go_sem]) rfl ⟨by rw [H.out], hb⟩
/-- what is wrong with a book and who comes -/
def readyE (L M : List Lv) (o : Order) : Int := if bookE L M ≠ 0 then bookE L M else if o.err ≠ 0 then o.err else if o.stop ≠ 0 then 6 else if (whereB L M o.id).1 ≠ 0 then 7 else 0
theorem bookE_zero {L M : List Lv} (h : bookE L M = 0) : sideE 1 L = 0 ∧ sideE 2 M = 0 ∧ wholeE L M = 0 := by
  unfold bookE at h
  by_cases h1 : sideE 1 L = 0
  · rw [if_neg (by simpa using h1)] at h
    by_cases h2 : sideE 2 M = 0
    · rw [if_neg (by simpa using h2)] at h
      exact ⟨h1, h2, h⟩
    · rw [if_pos h2] at h; exact absurd h h2
  · rw [if_pos h1] at h; exact absurd h h1
end Go.Proofs.YtkdgpdijbobmkaaGreat
namespace Go.Proofs.YtkdgpdijbobmkaaGreat
set_option linter.all false
open Go Go.RowKit
theorem box8o {w' : World} {v0 v1 v2 v3 v4 v5 v6 v7 : Value} {g : Nat} {t : TypeId} (h : Bk w' g t #[v0, v1, v2, v3, v4, v5, v6, v7]) : w'.cell? ⟨g, 0, none⟩ = some v0 ∧ w'.cell? ⟨g, 1, none⟩ = some v1 ∧ w'.cell? ⟨g, 2, none⟩ = some v2 ∧ w'.cell? ⟨g, 3, none⟩ = some v3 ∧ w'.cell? ⟨g, 4, none⟩ = some v4 ∧ w'.cell? ⟨g, 5, none⟩ = some v5 ∧ w'.cell? ⟨g, 6, none⟩ = some v6 ∧ w'.cell? ⟨g, 7, none⟩ = some v7 :=
  ⟨h.cell 0, h.cell 1, h.cell 2, h.cell 3, h.cell 4, h.cell 5, h.cell 6, h.cell 7⟩
set_option maxRecDepth 100000 in
set_option maxHeartbeats 2000000 in
theorem ready_any (L M : List Lv) (o : Order) (A1 A2 : Option Addr) (c1 c2 : Nat) (w : World) (h1 : RdLv w w.heap.size A1 L) (h2 : RdLv w w.heap.size A2 M) (hl1 : L.length ≤ maxLen) (hl2 : M.length ≤ maxLen) :
    Calls Tryz.prog 85 #[.agg #[.slice A1 L.length c1, .slice A2 M.length c2], .agg #[.int .i64 o.id, .int .i64 o.who, .int .i64 o.side, .int .i64 o.kind, .int .i64 o.price, .int .i64 o.qty, .int .i64 o.show_, .int .i64 o.stop]] w fun e w' => e = .returned (errV (readyE L M o)) ∧ Below w.heap.size w w' := by
  have HL := Lib.hid h1; have HM := Lib.hid h2
  have cB := Lib.hid (fun w' h h' => bcheck_any L M A1 A2 c1 c2 w' h h' hl1 hl2)
  have cO := Lib.hid (fun w => check_any o w)
  clear h1 h2 hl1 hl2
  have hb : Below w.heap.size w ((w.alloc (.cells #[.slice A1 L.length c1, .slice A2 M.length c2] 54)).alloc (.cells #[.int .i64 o.id, .int .i64 o.who, .int .i64 o.side, .int .i64 o.kind, .int .i64 o.price, .int .i64 o.qty, .int .i64 o.show_, .int .i64 o.stop] 31)) := below_then_alloc ((Below.refl _ _).alloc (Nat.le_refl _) _)
  have bb := (Bk.new w 54 #[.slice A1 L.length c1, .slice A2 M.length c2]).alloc (.cells #[.int .i64 o.id, .int .i64 o.who, .int .i64 o.side, .int .i64 o.kind, .int .i64 o.price, .int .i64 o.qty, .int .i64 o.show_, .int .i64 o.stop] 31)
  have bo := Bk.at_ (w := w.alloc (.cells #[.slice A1 L.length c1, .slice A2 M.length c2] 54)) (g' := w.heap.size + 1) (by simp) 31 #[.int .i64 o.id, .int .i64 o.who, .int .i64 o.side, .int .i64 o.kind, .int .i64 o.price, .int .i64 o.qty, .int .i64 o.show_, .int .i64 o.stop]
  go_enter Tryz.func85, Tryz.ntmps85
  go_upto_region 1 with fail
  generalize (w.alloc (.cells #[.slice A1 L.length c1, .slice A2 M.length c2] 54)).alloc (.cells #[.int .i64 o.id, .int .i64 o.who, .int .i64 o.side, .int .i64 o.kind, .int .i64 o.price, .int .i64 o.qty, .int .i64 o.show_, .int .i64 o.stop] 31) = w0 at *
  have q0 := bb.cell 0; have q1 := bb.cell 1
  simp at q0 q1
  have k8 := box8o bo
  go_wp2_with fail
  go_at_call 18
  refine (cB.out _ (HL.out.on hb) (HM.out.on hb)).mono ?_
  rintro e w1 ⟨rfl, hb2⟩
  replace bb := bb.keep hb2; replace bo := bo.keep hb2; replace hb := below_then hb2 hb
  clear hb2 q0 q1 cB k8
  by_cases h0 : bookE L M = 0
  · have HE := Lib.hid (show readyE L M o = if o.err ≠ 0 then o.err else if o.stop ≠ 0 then 6 else if (whereB L M o.id).1 ≠ 0 then 7 else 0 by rw [readyE, if_neg (by simpa using h0)])
    have HB := Lib.hid h0
    rw [h0, show errV 0 = .nilIface from rfl]
    clear h0
    have k8 := box8o bo
    go_wp2_with fail
    go_at_call 53
    refine (cO.out _).mono ?_
    rintro e w2 ⟨rfl, rfl⟩
    replace bb := bb.alloc (.cells #[.int .i64 o.id, .int .i64 o.who, .int .i64 o.side, .int .i64 o.kind, .int .i64 o.price, .int .i64 o.qty, .int .i64 o.show_, .int .i64 o.stop] 31); replace bo := bo.alloc (.cells #[.int .i64 o.id, .int .i64 o.who, .int .i64 o.side, .int .i64 o.kind, .int .i64 o.price, .int .i64 o.qty, .int .i64 o.show_, .int .i64 o.stop] 31); replace hb := below_then_alloc (o := .cells #[.int .i64 o.id, .int .i64 o.who, .int .i64 o.side, .int .i64 o.kind, .int .i64 o.price, .int .i64 o.qty, .int .i64 o.show_, .int .i64 o.stop] 31) hb
    generalize w1.alloc (.cells #[.int .i64 o.id, .int .i64 o.who, .int .i64 o.side, .int .i64 o.kind, .int .i64 o.price, .int .i64 o.qty, .int .i64 o.show_, .int .i64 o.stop] 31) = w3 at *
    clear k8
    by_cases h0 : o.err = 0
    · have HE2 := Lib.hid (show readyE L M o = if o.stop ≠ 0 then 6 else if (whereB L M o.id).1 ≠ 0 then 7 else 0 by rw [HE.out, if_neg (by simpa using h0)])
      rw [h0, show errV 0 = .nilIface from rfl]
      clear h0 HE
      have k8 := box8o bo
      by_cases h0 : o.stop = 0
      · have HE3 := Lib.hid (show readyE L M o = if (whereB L M o.id).1 ≠ 0 then 7 else 0 by rw [HE2.out, if_neg (by simpa using h0)])
        have h0' : (o.stop == 0) = true := by simpa using h0
        have q0 := bb.cell 0; have q1 := bb.cell 1
        simp at q0 q1
        have z := bookE_zero HB.out
        have O1 := LvOk.of z.1
        have O2 := LvOk.of z.2.1
        have cW := Lib.hid (fun w' h h' => bwhere_any L M A1 A2 c1 c2 o.id w' h h' O1 O2)
        clear h0 HE2 z O1 O2
        go_wp2_with fail
        go_at_call 93
        refine (cW.out _ (HL.out.on hb) (HM.out.on hb)).mono ?_
        rintro e w4 ⟨rfl, hb2⟩
        have hb4 := below_then hb2 hb
        clear hb2 cW
        by_cases h0 : (whereB L M o.id).1 = 0
        · have H := Lib.hid (show readyE L M o = 0 by rw [HE3.out, if_neg (by simpa using h0)])
          have h1 : ((whereB L M o.id).1 == 0) = true := by simpa using h0
          clear h0 HE3
          generalize (whereB L M o.id).1 = z at *
          go_wp2
          go_ret
          exact ⟨retE0 H.out, hb4⟩
        · have H := Lib.hid (show readyE L M o = 7 by rw [HE3.out, if_pos h0])
          have h1 : ((whereB L M o.id).1 == 0) = false := by simpa using h0
          clear h0 HE3
          generalize (whereB L M o.id).1 = z at *
          go_wp2
          go_ret
          exact ⟨retE H.out (by omega), hb4⟩
      · have H := Lib.hid (show readyE L M o = 6 by rw [HE2.out, if_pos h0])
        have h0' : (o.stop == 0) = false := by simpa using h0
        clear h0 HE2
        go_wp2
        go_ret
        exact ⟨retE H.out (by omega), hb⟩
    · have H := Lib.hid (show readyE L M o = o.err by rw [HE.out, if_pos h0])
      have HN := Lib.hid h0
      rw [show errV o.err = er o.err by rw [errV, if_neg h0]]
      clear h0 HE
      generalize o.err = z at *
      go_wp2
      go_ret
      exact ⟨retE H.out HN.out, hb⟩
  · have H := Lib.hid (show readyE L M o = bookE L M from if_pos h0)
    have HN := Lib.hid h0
    rw [show errV (bookE L M) = er (bookE L M) by rw [errV, if_neg h0]]
    clear h0
    generalize bookE L M = z at *
    go_wp2
    go_ret
    exact ⟨retE H.out HN.out, hb⟩
end Go.Proofs.YtkdgpdijbobmkaaGreat
