/- The contracts of book.Top, book.Count. -/
import Derived.Test.YtbnjkcgkdpildaaGrpG
namespace Go.Proofs.Ytbnjkcgkdpildaa
set_option linter.all false
open Go Go.RowKit
/-- the best price; 0: there is none -/
def bestL : List Lv → Int
  | [] => 0
  | x :: _ => x.price
theorem best_any (L : List Lv) (A : Option Addr) (c : Nat) (w : World) (hr : RdLv w w.heap.size A L) : Calls Try.prog 63 #[.slice A L.length c] w fun e w' => e = .returned (.int .i64 (bestL L)) ∧ Below w.heap.size w w' := by
  cases L with
  | nil =>
    go_enter Try.func63, Try.ntmps63
    go_wp2
    go_ret
    exact ⟨rfl, Below.refl _ _⟩
  | cons x L =>
    obtain ⟨b, off, y, Ar, cr, rfl, hbl, hy, d0, d1, _⟩ := lv_at hr (k := 0) (by simp)
    cases hy
    simp only [Nat.zero_mul, Nat.add_zero] at d0
    have hl : ((x :: L).length : Int) = (L.length : Int) + 1 := by simp
    have h1 : ((L.length : Int) + 1 == 0) = false := by simp; omega
    have h2 : (0 : Int) < (L.length : Int) + 1 := by omega
    rw [show bestL (x :: L) = x.price from rfl, show (x :: L).length = L.length + 1 from rfl]
    clear hr d1 hl
    go_enter Try.func63, Try.ntmps63
    go_wp2
    go_ret
    exact ⟨rfl, Below.refl _ _⟩
/-- how Top ends -/
def BTopPost (z a0 b0 : Int) (w : World) (e : Ending) (w' : World) : Prop :=
  ∃ a b ev, e = .returned (.tuple #[.int .i64 a, .int .i64 b, ev]) ∧ Hid ((z ≠ 0 ∧ ev = er z ∧ a = 0 ∧ b = 0) ∨ (z = 0 ∧ ev = .nilIface ∧ a = a0 ∧ b = b0)) ∧ Below w.heap.size w w'
set_option maxRecDepth 100000 in
set_option maxHeartbeats 4000000 in
theorem btop_any (L M : List Lv) (A1 A2 : Option Addr) (c1 c2 : Nat) (w : World) (h1 : RdLv w w.heap.size A1 L) (h2 : RdLv w w.heap.size A2 M) (hl1 : L.length ≤ maxLen) (hl2 : M.length ≤ maxLen) (z : Int) (hz : z = bookE L M) :
    Calls Try.prog 26 #[.agg #[.slice A1 L.length c1, .slice A2 M.length c2]] w (BTopPost z (bestL L) (bestL M) w) := by
  have HL := Lib.hid h1; have HM := Lib.hid h2; have HZ := Lib.hid hz
  have cC := Lib.hid (fun w' h h' => bcheck_any L M A1 A2 c1 c2 w' h h' hl1 hl2)
  have cX := Lib.hid (fun w' h => best_any L A1 c1 w' h)
  have cY := Lib.hid (fun w' h => best_any M A2 c2 w' h)
  have hb : Below w.heap.size w (w.alloc (.cells #[.slice A1 L.length c1, .slice A2 M.length c2] 24)) := (Below.refl _ _).alloc (Nat.le_refl _) _
  have bb := Bk.new w 24 #[.slice A1 L.length c1, .slice A2 M.length c2]
  clear h1 h2 hl1 hl2 hz
  go_enter Try.func26, Try.ntmps26
  go_upto_region 1 with fail
  generalize w.alloc (.cells #[.slice A1 L.length c1, .slice A2 M.length c2] 24) = w0 at *
  obtain ⟨q0, q1⟩ := box2 bb
  go_wp2_with fail
  go_at_call 20
  refine (cC.out _ (HL.out.on hb) (HM.out.on hb)).mono ?_
  rintro e w1 ⟨rfl, hb1⟩
  replace bb := bb.keep hb1; replace hb := below_then hb1 hb
  clear hb1 cC q0 q1
  by_cases h1 : bookE L M = 0
  case neg =>
    have HE := Lib.hid (show z = bookE L M from HZ.out)
    have HN := Lib.hid h1
    rw [show errV (bookE L M) = er (bookE L M) by rw [errV, if_neg h1]]
    clear h1
    generalize bookE L M = y at *
    go_wp2
    exact bodyPost_ret (v := .tuple #[.int .i64 0, .int .i64 0, er y]) (by simp [results, Try.results26, go_sem]) rfl ⟨0, 0, er y, rfl, Lib.hid (.inl ⟨by rw [HE.out]; exact HN.out, by rw [HE.out], rfl, rfl⟩), hb⟩
  have HE := Lib.hid (show z = 0 by rw [HZ.out, h1])
  rw [h1, show errV 0 = .nilIface from rfl]
  clear h1 HZ
  obtain ⟨q0, q1⟩ := box2 bb
  generalize bestL L = a0 at *
  generalize bestL M = b0 at *
  go_upto_region 4 with fail
  have bbd := bb.drew
  have hbd := hb.drew
  go_region_held3 (fun w' => w'.cell? ⟨w.heap.size, 0, none⟩ = some (.slice A1 L.length c1) ∧ w'.cell? ⟨w.heap.size, 1, none⟩ = some (.slice A2 M.length c2)) ((repeat' apply And.intro) <;> (first | (with_reducible assumption) | (with_reducible exact cell_drew (by assumption))))
    (first
      | (go_at_call 63; (with_reducible refine (cX.out _ (HL.out.on (by (repeat (first | exact Below.refl _ _ | assumption | (refine below_then (by assumption) ?_) | (refine below_then_alloc ?_) | (refine Below.drew ?_)))))).mono ?_); rintro e wa ⟨rfl, ha⟩; go_loud (have bbL : Bk wa w.heap.size 24 #[.slice A1 L.length c1, .slice A2 M.length c2] := by first | exact bbd.keep ha | exact bbM.keep ha); obtain ⟨q0, q1⟩ := box2 bbL)
      | (go_at_call 63; (with_reducible refine (cY.out _ (HM.out.on (by (repeat (first | exact Below.refl _ _ | assumption | (refine below_then (by assumption) ?_) | (refine below_then_alloc ?_) | (refine Below.drew ?_)))))).mono ?_); rintro e wm ⟨rfl, hm⟩; go_loud (have bbM : Bk wm w.heap.size 24 #[.slice A1 L.length c1, .slice A2 M.length c2] := by first | exact bbd.keep hm | exact bbL.keep hm); obtain ⟨q0, q1⟩ := box2 bbM))
  all_goals
    have hbf : Below w.heap.size w _ := below_then hm (below_then ha hbd)
    go_wp2
    exact bodyPost_ret (v := .tuple #[.int .i64 a0, .int .i64 b0, .nilIface]) (by simp [results, Try.results26, go_sem]) rfl ⟨a0, b0, .nilIface, rfl, Lib.hid (.inr ⟨HE.out, rfl, rfl, rfl⟩), hbf⟩
/-- how Count ends -/
def BCountPost (z a0 : Int) (w : World) (e : Ending) (w' : World) : Prop :=
  ∃ a ev, e = .returned (.tuple #[.int .i64 a, ev]) ∧ Hid ((z ≠ 0 ∧ ev = er z ∧ a = 0) ∨ (z = 0 ∧ ev = .nilIface ∧ a = a0)) ∧ Below w.heap.size w w'
set_option maxRecDepth 100000 in
set_option maxHeartbeats 4000000 in
theorem bcount_any (L M : List Lv) (A1 A2 : Option Addr) (c1 c2 : Nat) (w : World) (h1 : RdLv w w.heap.size A1 L) (h2 : RdLv w w.heap.size A2 M) (hl1 : L.length ≤ maxLen) (hl2 : M.length ≤ maxLen) (z : Int) (hz : z = bookE L M) :
    Calls Try.prog 27 #[.agg #[.slice A1 L.length c1, .slice A2 M.length c2]] w (BCountPost z (cnt L + cnt M : Nat) w) := by
  have HL := Lib.hid h1; have HM := Lib.hid h2; have HZ := Lib.hid hz
  have cC := Lib.hid (fun w' h h' => bcheck_any L M A1 A2 c1 c2 w' h h' hl1 hl2)
  have hb : Below w.heap.size w (w.alloc (.cells #[.slice A1 L.length c1, .slice A2 M.length c2] 24)) := (Below.refl _ _).alloc (Nat.le_refl _) _
  have bb := Bk.new w 24 #[.slice A1 L.length c1, .slice A2 M.length c2]
  clear h1 h2 hz
  go_enter Try.func27, Try.ntmps27
  go_upto_region 1 with fail
  generalize w.alloc (.cells #[.slice A1 L.length c1, .slice A2 M.length c2] 24) = w0 at *
  obtain ⟨q0, q1⟩ := box2 bb
  go_wp2_with fail
  go_at_call 20
  refine (cC.out _ (HL.out.on hb) (HM.out.on hb)).mono ?_
  rintro e w1 ⟨rfl, hb1⟩
  replace bb := bb.keep hb1; replace hb := below_then hb1 hb
  clear hb1 cC q0 q1
  by_cases h1 : bookE L M = 0
  case neg =>
    have HE := Lib.hid (show z = bookE L M from HZ.out)
    have HN := Lib.hid h1
    rw [show errV (bookE L M) = er (bookE L M) by rw [errV, if_neg h1]]
    clear h1
    generalize bookE L M = y at *
    go_wp2
    go_ret2
    exact ⟨0, er y, rfl, Lib.hid (.inl ⟨by rw [HE.out]; exact HN.out, by rw [HE.out], rfl⟩), hb⟩
  have HE := Lib.hid (show z = 0 by rw [HZ.out, h1])
  have hbk := bookE_iff.1 h1
  have f1 := hbk.buys.few; have f2 := hbk.sells.few
  have cX := Lib.hid (fun w' h => count_any L A1 c1 w' h hl1 (by unfold maxLen; omega))
  have cY := Lib.hid (fun w' h => count_any M A2 c2 w' h hl2 (by unfold maxLen; omega))
  rw [h1, show errV 0 = .nilIface from rfl]
  clear h1 HZ hbk hl1 hl2
  obtain ⟨q0, q1⟩ := box2 bb
  generalize cnt L = a0 at *
  generalize cnt M = b0 at *
  have x3 : IntKind.i64.wrap ((a0 : Int) + (b0 : Int)) = (a0 : Int) + (b0 : Int) := IntWalk.i64_in _ (by omega)
  go_upto_region 4 with fail
  have bbd := bb.drew
  have hbd := hb.drew
  go_region_held3 (fun w' => w'.cell? ⟨w.heap.size, 0, none⟩ = some (.slice A1 L.length c1) ∧ w'.cell? ⟨w.heap.size, 1, none⟩ = some (.slice A2 M.length c2)) ((repeat' apply And.intro) <;> (first | (with_reducible assumption) | (with_reducible exact cell_drew (by assumption))))
    (first
      | (go_at_call 41; (with_reducible refine (cX.out _ (HL.out.on (by (repeat (first | exact Below.refl _ _ | assumption | (refine below_then (by assumption) ?_) | (refine below_then_alloc ?_) | (refine Below.drew ?_)))))).mono ?_); rintro e wa ⟨rfl, ha⟩; go_loud (have bbL : Bk wa w.heap.size 24 #[.slice A1 L.length c1, .slice A2 M.length c2] := by first | exact bbd.keep ha | exact bbM.keep ha); obtain ⟨q0, q1⟩ := box2 bbL)
      | (go_at_call 41; (with_reducible refine (cY.out _ (HM.out.on (by (repeat (first | exact Below.refl _ _ | assumption | (refine below_then (by assumption) ?_) | (refine below_then_alloc ?_) | (refine Below.drew ?_)))))).mono ?_); rintro e wm ⟨rfl, hm⟩; go_loud (have bbM : Bk wm w.heap.size 24 #[.slice A1 L.length c1, .slice A2 M.length c2] := by first | exact bbd.keep hm | exact bbL.keep hm); obtain ⟨q0, q1⟩ := box2 bbM))
  all_goals
    have hbf : Below w.heap.size w _ := below_then hm (below_then ha hbd)
    go_wp2
    go_ret2
    exact ⟨_, .nilIface, rfl, Lib.hid (.inr ⟨HE.out, rfl, by simp⟩), hbf⟩
end Go.Proofs.Ytbnjkcgkdpildaa
