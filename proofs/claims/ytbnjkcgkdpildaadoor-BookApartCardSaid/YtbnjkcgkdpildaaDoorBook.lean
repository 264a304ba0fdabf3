/- The contracts of package book that look: Of, whole, Check. -/
import Derived.Test.YtbnjkcgkdpildaaDoorSideCheck
import Derived.Test.YtbnjkcgkdpildaaDoorLvCopy
import Derived.Lib.QuietBelow
import Derived.Deep.DeepCutAuto
import Derived.Deep.CutBlock
namespace Go.Proofs.YtbnjkcgkdpildaaDoor
set_option linter.all false
open Go Go.RowKit
/-- do the best prices meet? -/
def crossB (L M : List Lv) : Bool := match L[0]?, M[0]? with
  | some x, some y => decide (y.price ≤ x.price)
  | _, _ => false
/-- what is wrong with both sides together -/
def wholeE (L M : List Lv) : Int := if crossB L M then 8 else if twice [] (ids (L ++ M)) then 7 else if 60 < cnt L + cnt M then 4 else 0
/-- what is wrong with a book -/
def bookE (L M : List Lv) : Int := if sideE 1 L ≠ 0 then sideE 1 L else if sideE 2 M ≠ 0 then sideE 2 M else wholeE L M
theorem ids_app (L M : List Lv) : ids (L ++ M) = ids L ++ ids M := by simp [ids]
theorem cnt_app (L M : List Lv) : cnt (L ++ M) = cnt L + cnt M := by simp [cnt]
/-- levels of a side that is right, but for how many, and twice -/
structure LvOk (L : List Lv) : Prop where
  few : L.length ≤ 10000
  each : ∀ x ∈ L, x.rs.length ≤ 60
  cnt : cnt L ≤ 600000
  ids : ∀ i ∈ ids L, 1 ≤ i ∧ i ≤ 9999
  full : ∀ x ∈ L, x.rs.length ≠ 0
theorem sideE_zero {s : Int} {L : List Lv} (h : sideE s L = 0) : vs s = true ∧ lvErr s L = 0 ∧ cnt L ≤ 60 ∧ twice [] (ids L) = false := by
  unfold sideE at h
  cases hs : vs s
  · rw [hs] at h; simp at h
  · rw [if_neg (by rw [hs]; decide)] at h
    by_cases h1 : lvErr s L = 0
    · rw [if_neg (by simpa using h1)] at h
      by_cases h2 : 60 < cnt L
      · rw [if_pos h2] at h; omega
      · rw [if_neg h2] at h
        cases h3 : twice [] (ids L)
        · exact ⟨rfl, h1, by omega, rfl⟩
        · rw [h3] at h; simp at h
    · rw [if_pos h1] at h; exact absurd h h1
theorem LvOk.of {s : Int} {L : List Lv} (h : sideE s L = 0) : LvOk L := by
  obtain ⟨h1, h2, _, _⟩ := sideE_zero h
  obtain ⟨a, b, c, d⟩ := lv_ok h1 h2
  exact ⟨a, b, c, d, lv_some h2⟩
/-- the levels of a side -/
def ofV (s : Int) (v1 v2 : Value) : Value := if s = 1 then v1 else v2
theorem of_any (v1 v2 : Value) (h1 : v1.oneCell' = true) (h2 : v2.oneCell' = true) (s : Int) (A1 A2 : Option Addr) (n1 n2 c1 c2 : Nat) (e1 : v1 = .slice A1 n1 c1) (e2 : v2 = .slice A2 n2 c2) (w : World) :
    Calls Tryd.prog 28 #[.agg #[v1, v2], .int .i64 s] w fun e w' => e = .returned (ofV s v1 v2) ∧ Below w.heap.size w w' := by
  subst e1 e2
  have hb : Below w.heap.size w (w.alloc (.cells #[.slice A1 n1 c1, .slice A2 n2 c2] 29)) := (Below.refl _ _).alloc (Nat.le_refl _) _
  have HB := Lib.hid hb
  clear hb h1 h2
  by_cases h : s = 1
  · subst h
    go_enter Tryd.func28, Tryd.ntmps28
    go_wp2
    go_ret
    exact ⟨rfl, HB.out⟩
  · have e : (s == 1) = false := by simpa using h
    have HI := Lib.hid (show ofV s (Value.slice A1 n1 c1) (.slice A2 n2 c2) = .slice A2 n2 c2 from if_neg h)
    clear h
    go_enter Tryd.func28, Tryd.ntmps28
    go_wp2
    go_ret
    exact ⟨by rw [HI.out]; rfl, HB.out⟩
set_option maxRecDepth 100000 in
set_option maxHeartbeats 400000 in
theorem whole_any (L M : List Lv) (A1 A2 : Option Addr) (c1 c2 : Nat) (w : World) (h1 : RdLv w w.heap.size A1 L) (h2 : RdLv w w.heap.size A2 M) (ok1 : LvOk L) (ok2 : LvOk M) :
    Calls Tryd.prog 31 #[.agg #[.slice A1 L.length c1, .slice A2 M.length c2]] w fun e w' => e = .returned (errV (wholeE L M)) ∧ Below w.heap.size w w' := by
  have HL := Lib.hid h1; have HM := Lib.hid h2
  have OL := Lib.hid ok1; have OM := Lib.hid ok2
  clear h1 h2 ok1 ok2
  have hb : Below w.heap.size w (w.alloc (.cells #[.slice A1 L.length c1, .slice A2 M.length c2] 29)) := (Below.refl _ _).alloc (Nat.le_refl _) _
  have bb := Bk.new w 29 #[.slice A1 L.length c1, .slice A2 M.length c2]
  go_enter Tryd.func31, Tryd.ntmps31
  go_upto_region 1 with fail
  generalize w.alloc (.cells #[.slice A1 L.length c1, .slice A2 M.length c2] 29) = w0 at *
  go_cut [3] (fun t wx => t = .bool (crossB L M) ∧ Bk wx w.heap.size 29 #[.slice A1 L.length c1, .slice A2 M.length c2] ∧ Below w.heap.size w wx)
  case first =>
    have q0 := bb.cell 0; have q1 := bb.cell 1
    simp at q0 q1
    have BB := Lib.hid bb
    have HB := Lib.hid hb
    clear bb hb
    rcases Nat.eq_zero_or_pos L.length with l0 | l0
    · have HC := Lib.hid (show crossB L M = false by rw [crossB, List.getElem?_eq_none (by omega)])
      have hg : decide (0 < L.length) = false := decide_eq_false (by omega)
      clear l0
      go_wp2
      go_quiet (fail)
      go_wp2
      go_meet
      case rel => exact ⟨by rw [HC.out], BB.out.drewN _, below_drewN HB.out _⟩
    · rcases Nat.eq_zero_or_pos M.length with m0 | m0
      · have HC := Lib.hid (show crossB L M = false by rw [crossB, List.getElem?_eq_none (l := M) (by omega)]; cases L[0]? <;> rfl)
        have hg : decide (0 < L.length) = true := decide_eq_true l0
        have hg2 : decide (0 < M.length) = false := decide_eq_false (by omega)
        clear l0 m0
        go_wp2
        go_quiet (fail)
        go_wp2
        go_meet
        case rel => exact ⟨by rw [HC.out], BB.out.drewN _, below_drewN HB.out _⟩
      · obtain ⟨b, off, x, Ar, cr, rfl, hbl, hx, e0, _⟩ := lv_at (HL.out.below HB.out) l0
        obtain ⟨b', off', y, Ar', cr', rfl, hbl', hy, f0, _⟩ := lv_at (HM.out.below HB.out) m0
        have HC := Lib.hid (show crossB L M = decide (y.price ≤ x.price) by rw [crossB, hx, hy])
        have hg : decide (0 < L.length) = true := decide_eq_true l0
        have hg2 : decide (0 < M.length) = true := decide_eq_true m0
        have hg3 : (0 : Int) < (L.length : Int) := by omega
        have hg4 : (0 : Int) < (M.length : Int) := by omega
        simp only [Nat.zero_mul, Nat.add_zero] at e0 f0
        clear hx hy l0 m0
        go_wp2
        go_quiet (fail)
        go_wp2
        go_meet
        case rel => exact ⟨by rw [HC.out], BB.out.drewN _, below_drewN HB.out _⟩
  clear hb bb
  obtain ⟨rfl, bb, hb⟩ := hcut
  cases hc : crossB L M
  · have HE := Lib.hid (show wholeE L M = if twice [] (ids (L ++ M)) then 7 else if 60 < cnt L + cnt M then 4 else 0 by rw [wholeE, hc]; rfl)
    clear hc
    have q0 := bb.cell 0; have q1 := bb.cell 1
    simp at q0 q1
    have cC := Lib.hid (fun g c w' h1 h2 hg => concat_lv L M A1 A2 c1 c2 c g w' h1 h2 hg OL.out.few OM.out.few)
    go_wp2_with fail
    go_at_call 56
    have hb1 := below_then_alloc (o := .cells #[.slice A1 L.length c1, .slice A2 M.length c2] 27) hb
    have bs := Bk.new wc 27 #[.slice A1 L.length c1, .slice A2 M.length c2]
    replace bb := bb.alloc (.cells #[.slice A1 L.length c1, .slice A2 M.length c2] 27)
    generalize wc.alloc (.cells #[.slice A1 L.length c1, .slice A2 M.length c2] 27) = w1 at *
    refine (cC.out _ _ _ (HL.out.on hb1) (HM.out.on hb1) bs).mono ?_
    rintro e w2 ⟨A3, c3, rfl, hr, hb2⟩
    replace bb := bb.keep hb2
    have hb3 := below_then hb2 hb1
    clear bs hb2 hb1 hb q0 q1
    have cT := Lib.hid (twice_any (L ++ M) A3 c3 w2 hr (by rw [List.length_append]; unfold maxLen; have := OL.out.few; have := OM.out.few; omega) (by rw [cnt_app]; unfold maxLen; have := OL.out.cnt; have := OM.out.cnt; omega)
      (fun i hi => by rw [ids_app] at hi; rcases List.mem_append.1 hi with h | h; exact OL.out.ids i h; exact OM.out.ids i h)
      (fun x hx => by unfold maxLen; rcases List.mem_append.1 hx with h | h; (have := OL.out.each x h; omega); (have := OM.out.each x h; omega)))
    clear hr
    generalize L ++ M = K at *
    go_wp2_with fail
    go_at_call 36
    refine cT.out.mono ?_
    rintro e w4 ⟨rfl, hb4⟩
    replace bb := bb.keep hb4
    replace hb3 := below_then hb4 hb3
    clear hb4 cT
    cases ht : twice [] (ids K)
    · have HE2 := HE.out
      rw [ht] at HE2
      have HE3 := Lib.hid (show wholeE L M = if 60 < cnt L + cnt M then 4 else 0 from HE2)
      clear ht HE2 HE
      have k0 := cell_regrown (bb.cell 0 : w4.cell? ⟨w.heap.size, 0, none⟩ = some (.slice A1 L.length c1))
      have k1 := cell_regrown (bb.cell 1 : w4.cell? ⟨w.heap.size, 1, none⟩ = some (.slice A2 M.length c2))
      have cG1 := fun d os => Calls.regrown_of (w := w4) (d := d) (os := os) (count_any L A1 c1 _ (((HL.out.on hb3).below (below_regrown w4 d os)).more (below_regrown w4 d os).size) (by unfold maxLen; have := OL.out.few; omega) (by unfold maxLen; have := OL.out.cnt; omega))
      have cG2 := fun d os => Calls.regrown_of (w := w4) (d := d) (os := os) (count_any M A2 c2 _ (((HM.out.on hb3).below (below_regrown w4 d os)).more (below_regrown w4 d os).size) (by unfold maxLen; have := OM.out.few; omega) (by unfold maxLen; have := OM.out.cnt; omega))
      have hn1 := OL.out.cnt; have hn2 := OM.out.cnt
      by_cases hc : 60 < cnt L + cnt M
      · have H := Lib.hid (show wholeE L M = 4 by rw [HE3.out, if_pos hc])
        have hc' : (60 : Int) < (cnt L : Int) + (cnt M : Int) := by omega
        clear hc
        generalize cnt L = n1 at *
        generalize cnt M = n2 at *
        have x1 : IntKind.i64.wrap ((n1 : Int) + (n2 : Int)) = (n1 : Int) + (n2 : Int) := IntWalk.i64_in _ (by omega)
        go_wp2
        refine wp_region_quiet_below (by kernel_rfl) (by kernel_rfl) ?_
        repeat (quiet_step (first | (with_reducible exact cG1 _ _) | (with_reducible exact cG2 _ _)))
        refine wpQuiet_nil ?_
        intro w5 hw5
        have hb5 : Below w4.heap.size w4 w5 := by obtain ⟨p, rfl⟩ := hw5; exact below_regrown _ _ _
        clear hw5 cG1 cG2 k0 k1
        go_wp2
        go_ret
        exact ⟨retE H.out (by omega), below_then hb5 hb3⟩
      · have H := Lib.hid (show wholeE L M = 0 by rw [HE3.out, if_neg hc])
        have hc' : (cnt L : Int) + (cnt M : Int) ≤ 60 := by omega
        clear hc
        generalize cnt L = n1 at *
        generalize cnt M = n2 at *
        have x1 : IntKind.i64.wrap ((n1 : Int) + (n2 : Int)) = (n1 : Int) + (n2 : Int) := IntWalk.i64_in _ (by omega)
        go_wp2
        refine wp_region_quiet_below (by kernel_rfl) (by kernel_rfl) ?_
        repeat (quiet_step (first | (with_reducible exact cG1 _ _) | (with_reducible exact cG2 _ _)))
        refine wpQuiet_nil ?_
        intro w5 hw5
        have hb5 : Below w4.heap.size w4 w5 := by obtain ⟨p, rfl⟩ := hw5; exact below_regrown _ _ _
        clear hw5 cG1 cG2 k0 k1
        go_wp2
        go_ret
        exact ⟨retE0 H.out, below_then hb5 hb3⟩
    · have HE2 := HE.out
      rw [ht] at HE2
      have H := Lib.hid (show wholeE L M = 7 from HE2)
      clear ht HE2 HE
      go_wp2
      go_ret
      exact ⟨retE H.out (by omega), hb3⟩
  · have H := Lib.hid (show wholeE L M = 8 by rw [wholeE, hc]; rfl)
    clear hc
    go_wp2
    go_ret
    exact ⟨retE H.out (by omega), hb⟩
end Go.Proofs.YtbnjkcgkdpildaaDoor
