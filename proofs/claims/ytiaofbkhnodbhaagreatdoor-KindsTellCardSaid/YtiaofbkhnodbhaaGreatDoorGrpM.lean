/- The contract of the reference's Out, at the first rest. The memory of the reference's Meet. -/
import Derived.Test.YtiaofbkhnodbhaaGreatDoorGrpL
import Derived.Test.YtiaofbkhnodbhaaGreatDoorGrpJ
import Derived.Test.YtiaofbkhnodbhaaGreatDoorGrpG
import Derived.Test.YtiaofbkhnodbhaaGreatDoorGrpF
import Derived.Test.YtiaofbkhnodbhaaGreatDoorMeetRun
namespace Go.Proofs.YtiaofbkhnodbhaaGreatDoor
set_option linter.all false
open Go Go.RowKit
theorem lvc_one (p : Int) (A : Option Addr) (n c : Nat) : ∀ u ∈ (#[Value.int .i64 p, .slice A n c] : Array Value).toList, u.oneCell' = true := by
  intro u hu
  simp only [List.mem_cons, List.not_mem_nil, or_false] at hu
  rcases hu with rfl | rfl <;> rfl
/-- how levels are given -/
def NewLv (P : Nat → Prop) (L : List Lv) (w : World) (e : Ending) (w' : World) : Prop :=
  ∃ A c xs, e = .returned (.slice A L.length c) ∧ LP P w' A L xs ∧ L.length ≤ c ∧ c ≤ maxLen ∧ Below w.heap.size w w'
set_option maxRecDepth 100000 in
set_option maxHeartbeats 4000000 in
theorem rout_any (P : Nat → Prop) (p : Int) (r : Rest) (t : List Rest) (L : List Lv) (A : Option Addr) (c : Nat) (xs : List Value) (w : World) (h : LP P w A (⟨p, r :: t⟩ :: L) xs) (hP : ∀ k, w.heap.size ≤ k → P k) (hcap : L.length + 1 ≤ c) (hmx : c ≤ maxLen) (hL : L.length ≤ 1000) (ht : t.length ≤ 99) :
    Calls Tryz.prog 38 #[.slice A (L.length + 1) c, .int .i64 0, .int .i64 0] w (NewLv P (mCut ⟨p, r :: t⟩ t L) w) := by
  obtain ⟨b, off, Ar, cr, ys, rfl, rfl, hbl, hPb, d0, d1, g1, g2, hrr, hlc⟩ := h.top
  dsimp only at *
  obtain ⟨i0, hi0, hz0, hz1, hz2⟩ := info_parts info_lv
  have HI := Lib.hid hi0; have H0 := Lib.hid hz0; have H1 := Lib.hid hz1; have H2 := Lib.hid hz2
  have cW := Lib.hid (fun w' (hb : Below w.heap.size w w') => rwithout_any (r :: t) Ar cr 0 t.length w' (by have := (hrr.on (Kp.below hb)).rd; exact this) (by simp; omega) (by simp; omega) g1 g2)
  have HLP := Lib.hid h; have HLC := Lib.hid hlc; have HP := Lib.hid hP
  have hlen : (r :: t).length = t.length + 1 := rfl
  rw [hlen] at d1
  unfold maxLen at hmx
  clear h hlc hrr hz0 hz1 hz2 hi0 hP g1 g2 hlen
  have hi1 : (0 : Int) < (L.length : Int) + 1 := by omega
  have hi2 : (0 : Int) < ((L.length + 1 : Nat) : Int) := by omega
  have hi3 : (1 : Int) ≤ (L.length : Int) + 1 := by omega
  have hi4 : (1 : Int) ≤ ((L.length + 1 : Nat) : Int) := by omega
  have hi5 : (0 : Int) ≤ (c : Int) := by omega
  go_enter Tryz.func38, Tryz.ntmps38
  go_upto_region 3 with (at_builtin; go_loud (refine wpList_append_S (base := w.heap.size) (s := 2) (n := 0) (xs := []) rfl _ _ _ _ rfl 66 i0 _ 32 Tryz.underlying22 HI.out H0.out H1.out H2.out rfl rfl (OwnS.nil _ _ _ _) (Nat.le_refl _) _ rfl 0 [] (src_none Tryz.underlying22 (fun _ => trivial)) (by unfold maxLen; omega) (by omega) ?_); intro A1 c1 w1 gr1)
  have hb1 := grown_none gr1.grown
  have own1 := Lib.hid (show OwnS w1 w.heap.size 2 A1 0 c1 [] from gr1.own)
  clear gr1
  replace d0 := keepC hb1 d0
  replace d1 := keepC hb1 d1
  go_wp2_with fail
  go_at_call 62
  refine (cW.out w1 hb1).mono ?_
  rintro e w2 ⟨Ar2, cr2, rfl, own2, hb2⟩
  simp only [List.eraseIdx_zero, List.tail_cons] at own2 ⊢
  have own1' := Lib.hid (own1.out.below hb2)
  have HR1 := Lib.hid (fun k hk => (own1.out.row_lt k hk).2)
  have hz1 := hb1.size
  replace hb1 := below_then hb2 hb1
  replace d0 := keepC hb2 d0
  clear d1 own1 hb2
  cases t with
  | nil =>
    have HC := Lib.hid (show mCut ⟨p, [r]⟩ [] L = L from rfl)
    clear own2
    simp only [List.length_nil] at *
    by_cases hc1 : c = 1
    · obtain rfl : L = [] := List.eq_nil_of_length_eq_zero (by omega)
      subst hc1
      obtain rfl : ys = [] := List.eq_nil_of_length_eq_zero (by have := HLC.out.len; simpa using this)
      go_wp2_with (at_builtin; go_loud (refine wpList_append_S (base := w.heap.size) (s := 2) (n := 0) (xs := []) rfl _ _ _ _ rfl 66 i0 _ 32 Tryz.underlying22 HI.out H0.out H1.out H2.out rfl rfl own1'.out hb1.size _ rfl 0 [] (src_none Tryz.underlying22 (fun _ => trivial)) (by unfold maxLen; omega) (by omega) ?_); intro A9 c9 w9 gr)
      go_ret
      have hb9 := hb1.grown gr.grown hb1.size (fun k hk => ((own1'.out).row_lt k hk).1)
      have ow := gr.own
      rw [HC.out]
      exact ⟨A9, c9, _, rfl, LP.of_own ow (HLC.out.on (Kp.below hb9)) rfl HP.out, by simpa using ow.le, ow.max, hb9⟩
    · have hcc : (1 : Int) < (c : Int) := by omega
      have HS := Lib.hid (fun w' (hb : Below w.heap.size w w') => (HLP.out.on (Kp.below hb)).src_tail (c := c - 1) Tryz.underlying22)
      go_wp2_with (at_builtin; go_loud (refine wpList_append_S (base := w.heap.size) (s := 2) (n := 0) (xs := []) rfl _ _ _ _ rfl 66 i0 _ 32 Tryz.underlying22 HI.out H0.out H1.out H2.out rfl rfl own1'.out hb1.size _ rfl L.length ys (HS.out _ (by first | exact hb1 | exact below_then_alloc hb1)) (by unfold maxLen; omega) (by omega) ?_); intro A9 c9 w9 gr)
      go_ret
      have hb9 := hb1.grown gr.grown hb1.size (fun k hk => ((own1'.out).row_lt k hk).1)
      have ow := gr.own
      rw [HC.out]
      exact ⟨A9, c9, _, by simp, LP.of_own ow (HLC.out.on (Kp.below hb9)) (by simp) HP.out, by simpa using ow.le, ow.max, hb9⟩
  | cons r2 t2 =>
    have HC := Lib.hid (show mCut ⟨p, r :: r2 :: t2⟩ (r2 :: t2) L = ⟨p, r2 :: t2⟩ :: L from rfl)
    have hlt : (r2 :: t2).length = t2.length + 1 := rfl
    rw [hlt] at own2 ⊢
    have HO2 := Lib.hid own2
    have hi6 : (0 : Int) < ((t2.length + 1 : Nat) : Int) := by omega
    clear own2 hlt
    go_upto_region 6 with (at_builtin; go_loud (refine wpList_append_S (base := w.heap.size) (s := 2) (n := 0) (xs := []) rfl _ _ _ _ rfl 66 i0 _ 32 Tryz.underlying22 HI.out H0.out H1.out H2.out rfl rfl (own1'.out.alloc _) (by have := hb1.size; simp; omega) _ rfl 1 [.int .i64 p, .slice Ar2 (t2.length + 1) cr2] (src_block (m := 1) (Bk.at_ (by simp) 66 #[.int .i64 p, .slice Ar2 (t2.length + 1) cr2]) Tryz.underlying22 rfl (lvc_one _ _ _ _) 1) (by unfold maxLen; omega) (by omega) ?_); intro A3 c3 w3 gr3)
    have hb3 := (below_then_alloc hb1).grown gr3.grown (below_then_alloc hb1).size (fun k hk => (own1'.out.row_lt k hk).1)
    have own3 := Lib.hid (show OwnS w3 w.heap.size 2 A3 1 c3 [.int .i64 p, .slice Ar2 (t2.length + 1) cr2] from gr3.own)
    have HO3 := Lib.hid ((HO2.out.alloc _).apart gr3.grown (Ap.new (n := w1.heap.size) (fun k hk => (HO2.out.row_lt k hk).1) (fun k hk => HR1.out k hk)))
    have HAp := Lib.hid (show Ap (rowOf Ar2 cr2) (rowOf A3 c3) by
      rcases gr3.row with e | e
      · rw [e]; exact Ap.new (n := w1.heap.size) (fun k hk => (HO2.out.row_lt k hk).1) (fun k hk => HR1.out k hk)
      · rw [e]; exact (Ap.new (n := w2.heap.size) (fun k hk => by cases hk; simp) (fun k hk => (HO2.out.row_lt k hk).2)).symm)
    clear HO2 own1' gr3
    by_cases hc1 : c = 1
    · obtain rfl : L = [] := List.eq_nil_of_length_eq_zero (by omega)
      subst hc1
      obtain rfl : ys = [] := List.eq_nil_of_length_eq_zero (by have := HLC.out.len; simpa using this)
      simp only [List.length_nil] at *
      go_wp2_with (at_builtin; go_loud (refine wpList_append_S (base := w.heap.size) (s := 2) (n := 1) (xs := [.int .i64 p, .slice Ar2 (t2.length + 1) cr2]) rfl _ _ _ _ rfl 66 i0 _ 32 Tryz.underlying22 HI.out H0.out H1.out H2.out rfl rfl own3.out hb3.size _ rfl 0 [] (src_none Tryz.underlying22 (fun _ => trivial)) (by unfold maxLen; omega) (by omega) ?_); intro A9 c9 w9 gr)
      go_ret
      have hb9 := hb3.grown gr.grown hb3.size (fun k hk => (own3.out.row_lt k hk).1)
      have ow := gr.own
      have o9 := HO3.out.apart gr.grown HAp.out
      rw [HC.out]
      exact ⟨A9, c9, _, rfl, LP.of_own ow (LC.cons (x := ⟨p, r2 :: t2⟩) (HLC.out.on (Kp.below hb9)) o9.le o9.max (RP.of_own (o9.lower hz1) HP.out)) rfl HP.out, by simpa using ow.le, ow.max, hb9⟩
    · have hcc : (1 : Int) < (c : Int) := by omega
      have HS := Lib.hid (fun w' (hb : Below w.heap.size w w') => (HLP.out.on (Kp.below hb)).src_tail (c := c - 1) Tryz.underlying22)
      go_wp2_with (at_builtin; go_loud (refine wpList_append_S (base := w.heap.size) (s := 2) (n := 1) (xs := [.int .i64 p, .slice Ar2 (t2.length + 1) cr2]) rfl _ _ _ _ rfl 66 i0 _ 32 Tryz.underlying22 HI.out H0.out H1.out H2.out rfl rfl own3.out hb3.size _ rfl L.length ys (HS.out _ hb3) (by unfold maxLen; omega) (by omega) ?_); intro A9 c9 w9 gr)
      go_ret
      have hb9 := hb3.grown gr.grown hb3.size (fun k hk => (own3.out.row_lt k hk).1)
      have ow := gr.own
      have o9 := HO3.out.apart gr.grown HAp.out
      rw [HC.out]
      exact ⟨A9, c9, _, by simp [Nat.add_comm], LP.of_own ow (LC.cons (x := ⟨p, r2 :: t2⟩) (HLC.out.on (Kp.below hb9)) o9.le o9.max (RP.of_own (o9.lower hz1) HP.out)) (by simp [Nat.add_comm]) HP.out, by have := ow.le; simp only [List.length_cons]; omega, ow.max, hb9⟩
end Go.Proofs.YtiaofbkhnodbhaaGreatDoor
namespace Go.Proofs.YtiaofbkhnodbhaaGreatDoor
set_option linter.all false
open Go Go.RowKit
theorem pick_left {α : Type} (s : Int) (a b : α) : pick s (pick s a b) a = a := by unfold pick; split <;> simp
theorem pick_right {α : Type} (s : Int) (a b : α) : pick s b (pick s a b) = b := by unfold pick; split <;> simp
theorem pick_len {s : Int} {L M : List Lv} : (pick s L M).length = pick s L.length M.length := by unfold pick; split <;> rfl
theorem rofm_any (s : Int) (hs : vs s = true) (AL A1 A2 : Option Addr) (nL n1 n2 cL c1 c2 : Nat) (w : World) :
    Calls Tryz.prog 23 #[.agg #[.slice (pick s AL A1) (pick s nL n1) (pick s cL c1), .slice (pick s A2 AL) (pick s n2 nL) (pick s c2 cL)], .int .i64 (3 - s)] w fun e w' => e = .returned (.slice AL nL cL) ∧ Below w.heap.size w w' := by
  rcases side_two hs with rfl | rfl
  · have := rof_any .nilIface .nilIface 2 A1 AL n1 nL c1 cL w
    rw [if_neg (by decide)] at this
    exact this
  · have := rof_any .nilIface .nilIface 1 AL A2 nL n2 cL c2 w
    rw [if_pos rfl] at this
    exact this
theorem rwithm_any (s : Int) (hs : vs s = true) (AL A1 A2 A3 : Option Addr) (nL n1 n2 n3 cL c1 c2 c3 : Nat) (w : World) :
    Calls Tryz.prog 37 #[.agg #[.slice (pick s AL A1) (pick s nL n1) (pick s cL c1), .slice (pick s A2 AL) (pick s n2 nL) (pick s c2 cL)], .int .i64 (3 - s), .slice A3 n3 c3] w fun e w' => e = .returned (.agg #[.slice (pick s A3 A1) (pick s n3 n1) (pick s c3 c1), .slice (pick s A2 A3) (pick s n2 n3) (pick s c2 c3)]) ∧ Below w.heap.size w w' := by
  rcases side_two hs with rfl | rfl
  · exact rwith_sell A1 AL A3 n1 nL n3 c1 cL c3 w
  · exact rwith_buy AL A2 A3 nL n2 n3 cL c2 c3 w
/-- the blocks that stay -/
def PS (g gm : Nat) (a b : Option Nat) (k : Nat) : Prop := (k < g ∨ gm < k) ∧ some k ≠ a ∧ some k ≠ b
structure RMd (lo : Nat) (w wr : World) (gm : Nat) (L M : List Lv) (o : Order) (A1 A2 : Option Addr) (c1 c2 : Nat) (s : MSt) (AL : Option Addr) (cL : Nat) (xs : List Value) (AT : Option Addr) (cT : Nat) (AW : Option Addr) (cW : Nat) : Prop where
  bb : Bk wr w.heap.size 24 #[.slice A1 L.length c1, .slice A2 M.length c2]
  bo : Bk wr (w.heap.size + 1) 26 #[.int .i64 o.id, .int .i64 o.who, .int .i64 o.side, .int .i64 o.kind, .int .i64 o.price, .int .i64 o.qty, .int .i64 o.show_, .int .i64 o.stop]
  br : Bk wr (w.heap.size + 2) 31 #[.slice none 0 0, .slice none 0 0, .slice none 0 0, .int .i64 0, .int .i64 0, .slice none 0 0, .bool false]
  m : Bk wr gm 31 #[.slice (pick o.side AL A1) (pick o.side s.L.length L.length) (pick o.side cL c1), .slice (pick o.side A2 AL) (pick o.side M.length s.L.length) (pick o.side c2 cL), .slice AT s.T.length cT, .int .i64 s.left, .int .i64 0, .slice AW s.W.length cW, .bool s.ends]
  lp : LP (PS lo gm (rowOf AT cT) (rowOf AW cW)) wr AL s.L xs
  cap : s.L.length ≤ cL
  max : cL ≤ maxLen
  tr : OwnS wr (gm + 1) 6 AT s.T.length cT (trows s.T)
  wt : OwnS wr (gm + 1) 1 AW s.W.length cW (irows s.W)
  ap : Ap (rowOf AT cT) (rowOf AW cW)
  hb : Below w.heap.size w wr
  lt : w.heap.size + 2 < gm
  le : lo ≤ w.heap.size
section
variable {lo : Nat} {w wr w1 : World} {gm c1 c2 cL cT cW cL' cT' cW' : Nat} {L M L' : List Lv} {o : Order} {A1 A2 AL AT AW AL' AT' AW' : Option Addr} {s : MSt} {xs xs' : List Value}
theorem RMd.gm_lt (h : RMd lo w wr gm L M o A1 A2 c1 c2 s AL cL xs AT cT AW cW) : gm < wr.heap.size := h.m.lt
theorem RMd.new (h : RMd lo w wr gm L M o A1 A2 c1 c2 s AL cL xs AT cT AW cW) : ∀ k, wr.heap.size ≤ k → PS lo gm (rowOf AT cT) (rowOf AW cW) k := by
  intro k hk
  have := h.m.lt
  exact ⟨.inr (by omega), fun e => by have := (h.tr.row_lt k e.symm).2; omega, fun e => by have := (h.wt.row_lt k e.symm).2; omega⟩
theorem RMd.below (h : RMd lo w wr gm L M o A1 A2 c1 c2 s AL cL xs AT cT AW cW) (hb : Below wr.heap.size wr w1) : RMd lo w w1 gm L M o A1 A2 c1 c2 s AL cL xs AT cT AW cW :=
  ⟨h.bb.keep hb, h.bo.keep hb, h.br.keep hb, h.m.keep hb, h.lp.on (Kp.below hb), h.cap, h.max, h.tr.below hb, h.wt.below hb, h.ap, below_then hb h.hb, h.lt, h.le⟩
theorem RMd.kset (i : Nat) (u : Value) {g gm : Nat} {a b : Option Nat} (hg : g ≤ gm) : Kp (PS g gm a b) (PS g gm a b) wr (wr.setCell ⟨gm, i, none⟩ u) :=
  Kp.grown (grown_set wr ⟨gm, i, none⟩ u) (fun k hp _ => ⟨fun e => by have e := Option.some.inj e; have := hp.1; dsimp only at e; omega, hp⟩)
/-- other levels are stored -/
theorem RMd.book (h : RMd lo w wr gm L M o A1 A2 c1 c2 s AL cL xs AT cT AW cW) (hl : LP (PS lo gm (rowOf AT cT) (rowOf AW cW)) wr AL' L' xs') (k1 : L'.length ≤ cL') (k2 : cL' ≤ maxLen) :
    RMd lo w ((wr.setCell ⟨gm, 0, none⟩ (.slice (pick o.side AL' A1) (pick o.side L'.length L.length) (pick o.side cL' c1))).setCell ⟨gm, 1, none⟩ (.slice (pick o.side A2 AL') (pick o.side M.length L'.length) (pick o.side c2 cL'))) gm L M o A1 A2 c1 c2 { s with L := L' } AL' cL' xs' AT cT AW cW := by
  have hg := h.lt
  have hle := h.le
  have n0 : w.heap.size ≠ gm := by omega
  have n1 : w.heap.size + 1 ≠ gm := by omega
  have n2 : w.heap.size + 2 ≠ gm := by omega
  exact ⟨(h.bb.far n0 _).far n0 _, (h.bo.far n1 _).far n1 _, (h.br.far n2 _).far n2 _, (h.m.set_ 0 _).set_ 1 _, (hl.on (RMd.kset 0 _ (by omega))).on (RMd.kset 1 _ (by omega)), k1, k2,
    (h.tr.under (p := ⟨gm, 0, none⟩) (Nat.lt_succ_self _) _).under (p := ⟨gm, 1, none⟩) (Nat.lt_succ_self _) _, (h.wt.under (p := ⟨gm, 0, none⟩) (Nat.lt_succ_self _) _).under (p := ⟨gm, 1, none⟩) (Nat.lt_succ_self _) _, h.ap, (h.hb.setCell (p := ⟨gm, 0, none⟩) (by show w.heap.size ≤ gm; omega) _).setCell (p := ⟨gm, 1, none⟩) (by show w.heap.size ≤ gm; omega) _, hg, h.le⟩
theorem RMd.setLeft (h : RMd lo w wr gm L M o A1 A2 c1 c2 s AL cL xs AT cT AW cW) (x : Int) : RMd lo w (wr.setCell ⟨gm, 3, none⟩ (.int .i64 x)) gm L M o A1 A2 c1 c2 { s with left := x } AL cL xs AT cT AW cW := by
  have hg := h.lt
  have hle := h.le
  exact ⟨h.bb.far (by simp; omega) _, h.bo.far (by simp; omega) _, h.br.far (by simp; omega) _, h.m.set_ 3 _, h.lp.on (RMd.kset 3 _ (by omega)), h.cap, h.max, h.tr.under (p := ⟨gm, 3, none⟩) (Nat.lt_succ_self _) _, h.wt.under (p := ⟨gm, 3, none⟩) (Nat.lt_succ_self _) _, h.ap, h.hb.setCell (p := ⟨gm, 3, none⟩) (by show w.heap.size ≤ gm; omega) _, hg, h.le⟩
theorem RMd.setEnds (h : RMd lo w wr gm L M o A1 A2 c1 c2 s AL cL xs AT cT AW cW) (x : Bool) : RMd lo w (wr.setCell ⟨gm, 6, none⟩ (.bool x)) gm L M o A1 A2 c1 c2 { s with ends := x } AL cL xs AT cT AW cW := by
  have hg := h.lt
  have hle := h.le
  exact ⟨h.bb.far (by simp; omega) _, h.bo.far (by simp; omega) _, h.br.far (by simp; omega) _, h.m.set_ 6 _, h.lp.on (RMd.kset 6 _ (by omega)), h.cap, h.max, h.tr.under (p := ⟨gm, 6, none⟩) (Nat.lt_succ_self _) _, h.wt.under (p := ⟨gm, 6, none⟩) (Nat.lt_succ_self _) _, h.ap, h.hb.setCell (p := ⟨gm, 6, none⟩) (by show w.heap.size ≤ gm; omega) _, hg, h.le⟩
/-- a trade more -/
theorem RMd.trade (h : RMd lo w wr gm L M o A1 A2 c1 c2 s AL cL xs AT cT AW cW) {t : Trade} (gr : Grew wr (gm + 1) 6 AT cT (s.T.length + 1) (trows s.T ++ t.vals) AT' cT' w1) :
    RMd lo w (w1.setCell ⟨gm, 2, none⟩ (.slice AT' (s.T.length + 1) cT')) gm L M o A1 A2 c1 c2 { s with T := s.T ++ [t] } AL cL xs AT' cT' AW cW := by
  have hg := h.lt
  have hle := h.le
  have hm := h.m.lt
  have hr : ∀ k, rowOf AT cT = some k → gm + 1 ≤ k := fun k hk => (h.tr.row_lt k hk).1
  have hf : ∀ k, k ≤ gm → some k ≠ rowOf AT cT := fun k hk e => by have := hr k e.symm; omega
  have hk : Kp (PS lo gm (rowOf AT cT) (rowOf AW cW)) (PS lo gm (rowOf AT' cT') (rowOf AW cW)) wr w1 := Kp.grown gr.grown (fun k hp hk => ⟨hp.2.1, hp.1, by
    rcases gr.row with e | e
    · rw [e]; exact hp.2.1
    · rw [e]; intro e2; cases e2; omega, hp.2.2⟩)
  have ht : OwnS (w1.setCell ⟨gm, 2, none⟩ (.slice AT' (s.T.length + 1) cT')) (gm + 1) 6 AT' (s.T.length + 1) cT' (trows s.T ++ t.vals) := gr.own.under (p := ⟨gm, 2, none⟩) (Nat.lt_succ_self _) _
  refine ⟨(h.bb.grown gr.grown (hf _ (by omega))).far (by simp; omega) _, (h.bo.grown gr.grown (hf _ (by omega))).far (by simp; omega) _, (h.br.grown gr.grown (hf _ (by omega))).far (by simp; omega) _, ?_, (h.lp.on hk).on (RMd.kset 2 _ (by omega)), h.cap, h.max, ?_, (h.wt.apart gr.grown h.ap.symm).under (p := ⟨gm, 2, none⟩) (Nat.lt_succ_self _) _, ?_, (h.hb.grown gr.grown h.hb.size (fun k hk => by have := hr k hk; omega)).setCell (p := ⟨gm, 2, none⟩) (by show w.heap.size ≤ gm; omega) _, hg, h.le⟩
  · have := (h.m.grown gr.grown (hf _ (Nat.le_refl _))).set_ 2 (.slice AT' (s.T.length + 1) cT')
    simpa using this
  · rw [trows_app, List.length_append]; exact ht
  · rcases gr.row with e | e
    · rw [e]; exact h.ap
    · rw [e]; exact .inr fun e2 => by have := (h.wt.row_lt _ e2.symm).2; omega
/-- an id more that went -/
theorem RMd.went (h : RMd lo w wr gm L M o A1 A2 c1 c2 s AL cL xs AT cT AW cW) {t : Int} (gr : Grew wr (gm + 1) 1 AW cW (s.W.length + 1) (irows s.W ++ [.int .i64 t]) AW' cW' w1) :
    RMd lo w (w1.setCell ⟨gm, 5, none⟩ (.slice AW' (s.W.length + 1) cW')) gm L M o A1 A2 c1 c2 { s with W := s.W ++ [t] } AL cL xs AT cT AW' cW' := by
  have hg := h.lt
  have hle := h.le
  have hm := h.m.lt
  have hr : ∀ k, rowOf AW cW = some k → gm + 1 ≤ k := fun k hk => (h.wt.row_lt k hk).1
  have hf : ∀ k, k ≤ gm → some k ≠ rowOf AW cW := fun k hk e => by have := hr k e.symm; omega
  have hk : Kp (PS lo gm (rowOf AT cT) (rowOf AW cW)) (PS lo gm (rowOf AT cT) (rowOf AW' cW')) wr w1 := Kp.grown gr.grown (fun k hp hk => ⟨hp.2.2, hp.1, hp.2.1, by
    rcases gr.row with e | e
    · rw [e]; exact hp.2.2
    · rw [e]; intro e2; cases e2; omega⟩)
  have ht : OwnS (w1.setCell ⟨gm, 5, none⟩ (.slice AW' (s.W.length + 1) cW')) (gm + 1) 1 AW' (s.W.length + 1) cW' (irows s.W ++ [.int .i64 t]) := gr.own.under (p := ⟨gm, 5, none⟩) (Nat.lt_succ_self _) _
  refine ⟨(h.bb.grown gr.grown (hf _ (by omega))).far (by simp; omega) _, (h.bo.grown gr.grown (hf _ (by omega))).far (by simp; omega) _, (h.br.grown gr.grown (hf _ (by omega))).far (by simp; omega) _, ?_, (h.lp.on hk).on (RMd.kset 5 _ (by omega)), h.cap, h.max, (h.tr.apart gr.grown h.ap).under (p := ⟨gm, 5, none⟩) (Nat.lt_succ_self _) _, ?_, ?_, (h.hb.grown gr.grown h.hb.size (fun k hk => by have := hr k hk; omega)).setCell (p := ⟨gm, 5, none⟩) (by show w.heap.size ≤ gm; omega) _, hg, h.le⟩
  · have := (h.m.grown gr.grown (hf _ (Nat.le_refl _))).set_ 5 (.slice AW' (s.W.length + 1) cW')
    simpa using this
  · rw [irows_app, List.length_append]; exact ht
  · rcases gr.row with e | e
    · rw [e]; exact h.ap
    · rw [e]; exact Ap.symm (.inr fun e2 => by have := (h.tr.row_lt _ e2.symm).2; omega)
end
end Go.Proofs.YtiaofbkhnodbhaaGreatDoor
