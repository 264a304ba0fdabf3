/- Copies of levels: slices.Clone, slices.Grow, slices.Concat. -/
import Derived.Test.YtbnjkcgkdpildaaDoorLvCells
import Derived.Lib.AppendZerosOnto
import Derived.Lib.SliceRun
namespace Go.Proofs.YtbnjkcgkdpildaaDoor
set_option linter.all false
open Go Go.RowKit
theorem info_lv : (Tryd.prog.info? 26).map (fun i => (i.zero, i.size, i.bytes)) = some (some (.agg #[.int .i64 0, .slice none 0 0]), 2, 32) := by kernel_rfl
theorem RdLv.some {w : World} {B : Nat} {A : Option Addr} {L : List Lv} (h : RdLv w B A L) : A = none → L.length = 0 := by
  intro hA
  rcases Nat.eq_zero_or_pos L.length with h0 | h0
  · exact h0
  · obtain ⟨b, off, e, _⟩ := h h0
    rw [hA] at e; cases e
set_option maxRecDepth 20000 in
theorem clone_lv (L : List Lv) (A : Option Addr) (c : Nat) (w : World) (hr : RdLv w w.heap.size A L) (hl : L.length ≤ 100000) (hA : A = none → c = 0) :
    Calls Tryd.prog 64 #[.slice A L.length c] w fun e w' => ∃ A' c' xs, e = .returned (.slice A' L.length c') ∧ OwnS w' w.heap.size 2 A' L.length c' xs ∧ LvC w w.heap.size L xs ∧ Below w.heap.size w w' ∧ (A' = none → c' = 0) := by
  have h0 := hr.some
  obtain ⟨xs, hx, hrd⟩ := hr.cells
  cases A with
  | none =>
    obtain rfl := List.eq_nil_of_length_eq_zero (h0 rfl)
    obtain rfl := hA rfl
    have hx0 : xs = [] := List.eq_nil_of_length_eq_zero (by have := hx.len; simpa using this)
    subst hx0
    have HX := Lib.hid hx
    clear hr hA h0 hrd hx
    have hn := fun (w : World) (c : Nat) => Lib.run_eql_slice_nil (P := Tryd.prog) w 27 26 none 0 c 0 0 Tryd.underlying27
    go_enter Tryd.func64, Tryd.ntmps64
    go_wp2
    go_ret
    exact ⟨none, 0, [], rfl, OwnS.nil _ _ _ _, HX.out, Below.refl _ _, fun _ => rfl⟩
  | some a =>
    obtain ⟨i0, hi, hz0, hz1, hz2⟩ := info_parts info_lv
    have HI := Lib.hid hi; have H0 := Lib.hid hz0; have H1 := Lib.hid hz1; have H2 := Lib.hid hz2; clear hi hz0 hz1 hz2 hA
    have HX := Lib.hid hx; have HR := Lib.hid hrd; clear hr hx hrd h0
    have hn := fun (w : World) (n c : Nat) => Lib.run_eql_slice_nil (P := Tryd.prog) w 27 26 (some a) n c 0 0 Tryd.underlying27
    go_enter Tryd.func64, Tryd.ntmps64
    go_wp2_with (at_builtin; go_loud (refine wpList_append_S (base := w.heap.size) (s := 2) (n := 0) (cap := 0) (xs := []) rfl _ _ _ _ rfl 26 i0 _ 32 Tryd.underlying27 HI.out H0.out H1.out H2.out rfl rfl (OwnS.nil _ _ _ _) (by simp) _ rfl L.length xs (src_lv (HR.out.below ((Below.refl _ _).alloc (Nat.le_refl _) _)) (HX.out.below ((Below.refl _ _).alloc (Nat.le_refl _) _)) Tryd.underlying27 (fun h => by cases h)) (by unfold maxLen; omega) (by omega) ?_); intro A' cap' w' gr)
    go_ret
    refine ⟨A', cap', xs, by simp, by simpa using gr.own, HX.out, Below.grown (((Below.refl _ _).alloc (Nat.le_refl _) _)) gr.grown (by simp) (fun k hk => by simp [rowOf] at hk), fun h => ?_⟩
    rcases Nat.eq_zero_or_pos cap' with h0 | h0
    · exact h0
    · obtain ⟨g, off, e, _⟩ := gr.own.lies h0
      rw [h] at e; cases e
/-- a new room for n levels -/
theorem grow_lv (n : Nat) (hn : n ≤ 100000) (w : World) :
    Calls Tryd.prog 80 #[.slice none 0 0, .int .i64 n] w fun e w' => ∃ A c, e = .returned (.slice A 0 c) ∧ OwnS w' w.heap.size 2 A 0 c [] ∧ Below w.heap.size w w' := by
  rcases Nat.eq_zero_or_pos n with rfl | h0
  · go_enter Tryd.func80, Tryd.ntmps80
    go_wp2
    go_ret
    exact ⟨none, 0, rfl, OwnS.nil _ _ _ _, Below.refl _ _⟩
  · obtain ⟨i0, hi, hz0, hz1, hz2⟩ := info_parts info_lv
    have hrz : ∀ ty, (Builtin.append_ #[27, 3] ty #[.slice none 0 0, .int .i64 (n : Int)]).run Tryd.prog w =
        .ok (.slice (some ⟨w.heap.size, 0, none⟩) n (grownCap w n 0 26)) (w.drew.alloc (.cells (Builtin.zeroCells (Value.agg #[.int .i64 0, .slice none 0 0]).cells n ++ Builtin.zeroCells (Value.agg #[.int .i64 0, .slice none 0 0]).cells (grownCap w n 0 26 - n)) 26)) := fun ty => by
      have h := Lib.run_append_grow_zeros w 27 3 ty 26 i0 _ .i64 .i64 Tryd.underlying27 Tryd.underlying3 hi hz0 none 0 0 [] (run_firstCells_none w.drew i0.size 0 0 0) n h0 (by rw [hz1]; decide) (by omega) (by omega) (by rw [hz2]; omega) (growslice_fits (by omega) (by rw [hz2]; omega))
      rw [Nat.zero_add] at h
      simpa using h
    have hGn : n ≤ grownCap w n 0 26 := grownCap_ge w _ _ _
    have hG63 := grownCap_le_maxLen w n 0 26 (by unfold maxLen; omega)
    have HG := Lib.hid hG63
    generalize grownCap w n 0 26 = G at *
    have hsz : (Builtin.zeroCells (Value.agg #[.int .i64 0, .slice none 0 0]).cells n ++ Builtin.zeroCells (Value.agg #[.int .i64 0, .slice none 0 0]).cells (G - n)).size = G * 2 := by
      simp [Builtin.zeroCells, Value.cells]; omega
    have HS := Lib.hid hsz
    generalize Builtin.zeroCells (Value.agg #[.int .i64 0, .slice none 0 0]).cells n ++ Builtin.zeroCells (Value.agg #[.int .i64 0, .slice none 0 0]).cells (G - n) = cs at *
    clear hi hz0 hz1 hz2 hsz
    unfold maxLen at hG63
    have hn0 : ¬ ((n : Int) < 0) := by omega
    have h1 : (0 : Int) < (n : Int) := by omega
    go_enter Tryd.func80, Tryd.ntmps80
    go_wp2_with (at_builtin; refine Lib.wpList_append_run _ rfl _ _ _ _ rfl _ _ rfl rfl _ _ (hrz _) ?_)
    go_ret
    have hbk : Bk (w.alloc (.cells cs 26)).drew w.heap.size 26 cs := (Bk.new w _ _).drew
    refine ⟨some ⟨w.heap.size, 0, none⟩, G, rfl, ⟨rfl, Nat.zero_le _, HG.out, fun _ => ⟨w.heap.size, 0, rfl, Nat.le_refl _, hbk.lt, fun j hj => absurd hj (by omega), fun j hj => ⟨?_, hbk.free _⟩⟩⟩, ((Below.refl w.heap.size w).alloc (Nat.le_refl _) _).drew⟩
    rw [hbk.cell, Array.getElem?_eq_getElem (by rw [HS.out]; omega)]
    rfl
set_option maxRecDepth 100000 in
set_option maxHeartbeats 2000000 in
/-- both sides' levels, one behind the other -/
theorem concat_lv (L M : List Lv) (A1 A2 : Option Addr) (c1 c2 c g : Nat) (w : World) (h1 : RdLv w w.heap.size A1 L) (h2 : RdLv w w.heap.size A2 M) (hg : Bk w g 27 #[.slice A1 L.length c1, .slice A2 M.length c2]) (hl1 : L.length ≤ 10000) (hl2 : M.length ≤ 10000) :
    Calls Tryd.prog 56 #[.slice (some ⟨g, 0, none⟩) 2 c] w fun e w' => ∃ A' c', e = .returned (.slice A' (L ++ M).length c') ∧ RdLv w' w'.heap.size A' (L ++ M) ∧ Below w.heap.size w w' := by
  have hs1 := h1.some; have hs2 := h2.some
  obtain ⟨xs, hx, hrx⟩ := h1.cells
  obtain ⟨ys, hy, hry⟩ := h2.cells
  obtain ⟨i0, hi, hz0, hz1, hz2⟩ := info_parts info_lv
  have HI := Lib.hid hi; have H0 := Lib.hid hz0; have H1 := Lib.hid hz1; have H2 := Lib.hid hz2
  have HX := Lib.hid hx; have HY := Lib.hid hy; have HRX := Lib.hid hrx; have HRY := Lib.hid hry
  have HS1 := Lib.hid hs1; have HS2 := Lib.hid hs2
  have G := Lib.hid hg
  have q0 := hg.cell 0; have q1 := hg.cell 1
  simp at q0 q1
  have x3 : IntKind.i64.wrap ((L.length : Int) + (M.length : Int)) = (L.length : Int) + (M.length : Int) := IntWalk.i64_in _ (by omega)
  have x4 : IntKind.i64.wrap (L.length : Int) = (L.length : Int) := IntWalk.i64_in _ (by omega)
  clear hi hz0 hz1 hz2 hx hy hrx hry h1 h2 hs1 hs2 hg
  go_enter Tryd.func56, Tryd.ntmps56
  go_wp2_with fail
  go_loopw [3, 11] (fun n i wr => w = wr ∧ ((i = .int .i64 0 ∧ n = .int .i64 0) ∨ (i = .int .i64 1 ∧ n = .int .i64 L.length) ∨ (i = .int .i64 2 ∧ n = .int .i64 ((L.length : Int) + (M.length : Int))))) (fun _ i _ => 2 - (intOf i).toNat)
  case atStart => exact ⟨rfl, .inl ⟨rfl, rfl⟩⟩
  case round =>
    obtain ⟨rfl, hrel⟩ := hrel
    rcases hrel with ⟨rfl, rfl⟩ | ⟨rfl, rfl⟩ | ⟨rfl, rfl⟩
    · go_wp2
      go_roundw
      case rel => exact ⟨by trivial, .inr (.inl ⟨rfl, rfl⟩)⟩
      case measure => simp [intOf]
    · go_wp2
      go_roundw
      case rel => exact ⟨by trivial, .inr (.inr ⟨rfl, rfl⟩)⟩
      case measure => simp [intOf]
    · clear q0 q1 x3 x4
      go_wp2_with fail
      go_at_call 80
      have cG := grow_lv (L.length + M.length) (by omega) w
      rw [Int.natCast_add] at cG
      refine cG.mono ?_
      rintro e w1 ⟨A, cA, rfl, own, hb⟩
      clear cG
      go_wp2_with fail
      go_loopw [6, 27] (fun v i wr => ∃ (A : Option Addr) (cA : Nat), ((i = .int .i64 0 ∧ v = .slice A 0 cA ∧ Hid (OwnS wr w.heap.size 2 A 0 cA [])) ∨ (i = .int .i64 1 ∧ v = .slice A L.length cA ∧ Hid (OwnS wr w.heap.size 2 A L.length cA xs)) ∨ (i = .int .i64 2 ∧ v = .slice A (L.length + M.length) cA ∧ Hid (OwnS wr w.heap.size 2 A (L.length + M.length) cA (xs ++ ys)))) ∧ Below w.heap.size w wr) (fun _ i _ => 2 - (intOf i).toNat)
      case atStart => exact ⟨A, cA, .inl ⟨rfl, rfl, Lib.hid own⟩, hb⟩
      case round =>
        clear own hb
        obtain ⟨A, cA, hrel, hb⟩ := hrel
        have g2 := G.out.keep hb
        have q0 := g2.cell 0; have q1 := g2.cell 1
        simp at q0 q1
        clear g2
        rcases hrel with ⟨rfl, rfl, own⟩ | ⟨rfl, rfl, own⟩ | ⟨rfl, rfl, own⟩
        · go_wp2_with (at_builtin; go_loud (refine wpList_append_S (base := w.heap.size) (s := 2) (n := 0) rfl _ _ _ _ rfl 26 i0 _ 32 Tryd.underlying27 HI.out H0.out H1.out H2.out rfl rfl own.out hb.size _ rfl L.length xs (src_lv (HRX.out.below hb) (HX.out.below hb) Tryd.underlying27 HS1.out) (by unfold maxLen; omega) (by omega) ?_); intro A3 c3 w3 gr)
          go_roundw
          case rel => exact ⟨A3, c3, .inr (.inl ⟨rfl, by simp, Lib.hid (by simpa using gr.own)⟩), Below.grown hb gr.grown hb.size (fun k hk => (own.out.row_lt k hk).1)⟩
          case measure => simp [intOf]
        · go_wp2_with (at_builtin; go_loud (refine wpList_append_S (base := w.heap.size) (s := 2) (n := L.length) rfl _ _ _ _ rfl 26 i0 _ 32 Tryd.underlying27 HI.out H0.out H1.out H2.out rfl rfl own.out hb.size _ rfl M.length ys (src_lv (HRY.out.below hb) (HY.out.below hb) Tryd.underlying27 HS2.out) (by unfold maxLen; omega) (by omega) ?_); intro A3 c3 w3 gr)
          go_roundw
          case rel => exact ⟨A3, c3, .inr (.inr ⟨rfl, rfl, Lib.hid gr.own⟩), Below.grown hb gr.grown hb.size (fun k hk => (own.out.row_lt k hk).1)⟩
          case measure => simp [intOf]
        · have HF := Lib.hid (own.out.lv (((HX.out.app HY.out).below hb)) (by rw [List.length_append]) hb.size)
          clear own
          go_wp2
          go_ret
          exact ⟨A, cA, by rw [List.length_append]; rfl, HF.out, hb⟩
end Go.Proofs.YtbnjkcgkdpildaaDoor
