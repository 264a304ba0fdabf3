/- The contract of the reference's Out, at the first rest. -/
import Derived.Test.YtbnjkcgkdpildaaDoorRWith
import Derived.Test.YtbnjkcgkdpildaaDoorLvP
import Derived.Test.YtbnjkcgkdpildaaDoorGrpG
import Derived.Test.YtbnjkcgkdpildaaDoorGrpF
import Derived.Test.YtbnjkcgkdpildaaDoorMeetRun
namespace Go.Proofs.YtbnjkcgkdpildaaDoor
set_option linter.all false
open Go Go.RowKit
theorem lvc_one (p : Int) (A : Option Addr) (n c : Nat) : ∀ u ∈ (#[Value.int .i64 p, .slice A n c] : Array Value).toList, u.oneCell' = true := by
  intro u hu
  simp only [List.mem_cons, List.not_mem_nil, or_false] at hu
  rcases hu with rfl | rfl <;> rfl
/-- how levels are given -/
def NewLv (P : Nat → Prop) (L : List Lv) (w : World) (e : Ending) (w' : World) : Prop :=
  ∃ A c xs, e = .returned (.slice A L.length c) ∧ LP P w' A L xs ∧ L.length ≤ c ∧ c ≤ maxLen ∧ Below w.heap.size w w'
set_option maxRecDepth 100000 in
set_option maxHeartbeats 4000000 in
theorem rout_any (P : Nat → Prop) (p : Int) (r : Rest) (t : List Rest) (L : List Lv) (A : Option Addr) (c : Nat) (xs : List Value) (w : World) (h : LP P w A (⟨p, r :: t⟩ :: L) xs) (hP : ∀ k, w.heap.size ≤ k → P k) (hcap : L.length + 1 ≤ c) (hmx : c ≤ maxLen) (hL : L.length ≤ 1000) (ht : t.length ≤ 99) :
    Calls Tryd.prog 45 #[.slice A (L.length + 1) c, .int .i64 0, .int .i64 0] w (NewLv P (mCut ⟨p, r :: t⟩ t L) w) := by
  obtain ⟨b, off, Ar, cr, ys, rfl, rfl, hbl, hPb, d0, d1, g1, g2, hrr, hlc⟩ := h.top
  dsimp only at *
  obtain ⟨i0, hi0, hz0, hz1, hz2⟩ := info_parts info_lv
  have HI := Lib.hid hi0; have H0 := Lib.hid hz0; have H1 := Lib.hid hz1; have H2 := Lib.hid hz2
  have cW := Lib.hid (fun w' (hb : Below w.heap.size w w') => rwithout_any (r :: t) Ar cr 0 t.length w' (by have := (hrr.on (Kp.below hb)).rd; exact this) (by simp; omega) (by simp; omega) g1 g2)
  have HLP := Lib.hid h; have HLC := Lib.hid hlc; have HP := Lib.hid hP
  have hlen : (r :: t).length = t.length + 1 := rfl
  rw [hlen] at d1
  unfold maxLen at hmx
  clear h hlc hrr hz0 hz1 hz2 hi0 hP g1 g2 hlen
  have hi1 : (0 : Int) < (L.length : Int) + 1 := by omega
  have hi2 : (0 : Int) < ((L.length + 1 : Nat) : Int) := by omega
  have hi3 : (1 : Int) ≤ (L.length : Int) + 1 := by omega
  have hi4 : (1 : Int) ≤ ((L.length + 1 : Nat) : Int) := by omega
  have hi5 : (0 : Int) ≤ (c : Int) := by omega
  go_enter Tryd.func45, Tryd.ntmps45
  go_upto_region 3 with (at_builtin; go_loud (refine wpList_append_S (base := w.heap.size) (s := 2) (n := 0) (xs := []) rfl _ _ _ _ rfl 26 i0 _ 32 Tryd.underlying27 HI.out H0.out H1.out H2.out rfl rfl (OwnS.nil _ _ _ _) (Nat.le_refl _) _ rfl 0 [] (src_none Tryd.underlying27 (fun _ => trivial)) (by unfold maxLen; omega) (by omega) ?_); intro A1 c1 w1 gr1)
  have hb1 := grown_none gr1.grown
  have own1 := Lib.hid (show OwnS w1 w.heap.size 2 A1 0 c1 [] from gr1.own)
  clear gr1
  replace d0 := keepC hb1 d0
  replace d1 := keepC hb1 d1
  go_wp2_with fail
  go_at_call 71
  refine (cW.out w1 hb1).mono ?_
  rintro e w2 ⟨Ar2, cr2, rfl, own2, hb2⟩
  simp only [List.eraseIdx_zero, List.tail_cons] at own2 ⊢
  have own1' := Lib.hid (own1.out.below hb2)
  have HR1 := Lib.hid (fun k hk => (own1.out.row_lt k hk).2)
  have hz1 := hb1.size
  replace hb1 := below_then hb2 hb1
  replace d0 := keepC hb2 d0
  clear d1 own1 hb2
  cases t with
  | nil =>
    have HC := Lib.hid (show mCut ⟨p, [r]⟩ [] L = L from rfl)
    clear own2
    simp only [List.length_nil] at *
    by_cases hc1 : c = 1
    · obtain rfl : L = [] := List.eq_nil_of_length_eq_zero (by omega)
      subst hc1
      obtain rfl : ys = [] := List.eq_nil_of_length_eq_zero (by have := HLC.out.len; simpa using this)
      go_wp2_with (at_builtin; go_loud (refine wpList_append_S (base := w.heap.size) (s := 2) (n := 0) (xs := []) rfl _ _ _ _ rfl 26 i0 _ 32 Tryd.underlying27 HI.out H0.out H1.out H2.out rfl rfl own1'.out hb1.size _ rfl 0 [] (src_none Tryd.underlying27 (fun _ => trivial)) (by unfold maxLen; omega) (by omega) ?_); intro A9 c9 w9 gr)
      go_ret
      have hb9 := hb1.grown gr.grown hb1.size (fun k hk => ((own1'.out).row_lt k hk).1)
      have ow := gr.own
      rw [HC.out]
      exact ⟨A9, c9, _, rfl, LP.of_own ow (HLC.out.on (Kp.below hb9)) rfl HP.out, by simpa using ow.le, ow.max, hb9⟩
    · have hcc : (1 : Int) < (c : Int) := by omega
      have HS := Lib.hid (fun w' (hb : Below w.heap.size w w') => (HLP.out.on (Kp.below hb)).src_tail (c := c - 1) Tryd.underlying27)
      go_wp2_with (at_builtin; go_loud (refine wpList_append_S (base := w.heap.size) (s := 2) (n := 0) (xs := []) rfl _ _ _ _ rfl 26 i0 _ 32 Tryd.underlying27 HI.out H0.out H1.out H2.out rfl rfl own1'.out hb1.size _ rfl L.length ys (HS.out _ (by first | exact hb1 | exact below_then_alloc hb1)) (by unfold maxLen; omega) (by omega) ?_); intro A9 c9 w9 gr)
      go_ret
      have hb9 := hb1.grown gr.grown hb1.size (fun k hk => ((own1'.out).row_lt k hk).1)
      have ow := gr.own
      rw [HC.out]
      exact ⟨A9, c9, _, by simp, LP.of_own ow (HLC.out.on (Kp.below hb9)) (by simp) HP.out, by simpa using ow.le, ow.max, hb9⟩
  | cons r2 t2 =>
    have HC := Lib.hid (show mCut ⟨p, r :: r2 :: t2⟩ (r2 :: t2) L = ⟨p, r2 :: t2⟩ :: L from rfl)
    have hlt : (r2 :: t2).length = t2.length + 1 := rfl
    rw [hlt] at own2 ⊢
    have HO2 := Lib.hid own2
    have hi6 : (0 : Int) < ((t2.length + 1 : Nat) : Int) := by omega
    clear own2 hlt
    go_upto_region 6 with (at_builtin; go_loud (refine wpList_append_S (base := w.heap.size) (s := 2) (n := 0) (xs := []) rfl _ _ _ _ rfl 26 i0 _ 32 Tryd.underlying27 HI.out H0.out H1.out H2.out rfl rfl (own1'.out.alloc _) (by have := hb1.size; simp; omega) _ rfl 1 [.int .i64 p, .slice Ar2 (t2.length + 1) cr2] (src_block (m := 1) (Bk.at_ (by simp) 26 #[.int .i64 p, .slice Ar2 (t2.length + 1) cr2]) Tryd.underlying27 rfl (lvc_one _ _ _ _) 1) (by unfold maxLen; omega) (by omega) ?_); intro A3 c3 w3 gr3)
    have hb3 := (below_then_alloc hb1).grown gr3.grown (below_then_alloc hb1).size (fun k hk => (own1'.out.row_lt k hk).1)
    have own3 := Lib.hid (show OwnS w3 w.heap.size 2 A3 1 c3 [.int .i64 p, .slice Ar2 (t2.length + 1) cr2] from gr3.own)
    have HO3 := Lib.hid ((HO2.out.alloc _).apart gr3.grown (Ap.new (n := w1.heap.size) (fun k hk => (HO2.out.row_lt k hk).1) (fun k hk => HR1.out k hk)))
    have HAp := Lib.hid (show Ap (rowOf Ar2 cr2) (rowOf A3 c3) by
      rcases gr3.row with e | e
      · rw [e]; exact Ap.new (n := w1.heap.size) (fun k hk => (HO2.out.row_lt k hk).1) (fun k hk => HR1.out k hk)
      · rw [e]; exact (Ap.new (n := w2.heap.size) (fun k hk => by cases hk; simp) (fun k hk => (HO2.out.row_lt k hk).2)).symm)
    clear HO2 own1' gr3
    by_cases hc1 : c = 1
    · obtain rfl : L = [] := List.eq_nil_of_length_eq_zero (by omega)
      subst hc1
      obtain rfl : ys = [] := List.eq_nil_of_length_eq_zero (by have := HLC.out.len; simpa using this)
      simp only [List.length_nil] at *
      go_wp2_with (at_builtin; go_loud (refine wpList_append_S (base := w.heap.size) (s := 2) (n := 1) (xs := [.int .i64 p, .slice Ar2 (t2.length + 1) cr2]) rfl _ _ _ _ rfl 26 i0 _ 32 Tryd.underlying27 HI.out H0.out H1.out H2.out rfl rfl own3.out hb3.size _ rfl 0 [] (src_none Tryd.underlying27 (fun _ => trivial)) (by unfold maxLen; omega) (by omega) ?_); intro A9 c9 w9 gr)
      go_ret
      have hb9 := hb3.grown gr.grown hb3.size (fun k hk => (own3.out.row_lt k hk).1)
      have ow := gr.own
      have o9 := HO3.out.apart gr.grown HAp.out
      rw [HC.out]
      exact ⟨A9, c9, _, rfl, LP.of_own ow (LC.cons (x := ⟨p, r2 :: t2⟩) (HLC.out.on (Kp.below hb9)) o9.le o9.max (RP.of_own (o9.lower hz1) HP.out)) rfl HP.out, by simpa using ow.le, ow.max, hb9⟩
    · have hcc : (1 : Int) < (c : Int) := by omega
      have HS := Lib.hid (fun w' (hb : Below w.heap.size w w') => (HLP.out.on (Kp.below hb)).src_tail (c := c - 1) Tryd.underlying27)
      go_wp2_with (at_builtin; go_loud (refine wpList_append_S (base := w.heap.size) (s := 2) (n := 1) (xs := [.int .i64 p, .slice Ar2 (t2.length + 1) cr2]) rfl _ _ _ _ rfl 26 i0 _ 32 Tryd.underlying27 HI.out H0.out H1.out H2.out rfl rfl own3.out hb3.size _ rfl L.length ys (HS.out _ hb3) (by unfold maxLen; omega) (by omega) ?_); intro A9 c9 w9 gr)
      go_ret
      have hb9 := hb3.grown gr.grown hb3.size (fun k hk => (own3.out.row_lt k hk).1)
      have ow := gr.own
      have o9 := HO3.out.apart gr.grown HAp.out
      rw [HC.out]
      exact ⟨A9, c9, _, by simp [Nat.add_comm], LP.of_own ow (LC.cons (x := ⟨p, r2 :: t2⟩) (HLC.out.on (Kp.below hb9)) o9.le o9.max (RP.of_own (o9.lower hz1) HP.out)) (by simp [Nat.add_comm]) HP.out, by have := ow.le; simp only [List.length_cons]; omega, ow.max, hb9⟩
end Go.Proofs.YtbnjkcgkdpildaaDoor
