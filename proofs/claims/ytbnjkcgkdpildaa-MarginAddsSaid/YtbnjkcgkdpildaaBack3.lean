/- The walk of margin.Back. -/
import Derived.Test.YtbnjkcgkdpildaaBack2
namespace Go.Proofs.Ytbnjkcgkdpildaa
set_option linter.all false
open Go Go.RowKit
/-- how margin's ends -/
def MBackPost (r : Int × Int × Int) (w : World) (e : Ending) (w' : World) : Prop := e = .returned (.tuple #[.int .i64 r.2.1, .int .i64 r.2.2, errV r.1]) ∧ Below w.heap.size w w'
theorem mret {r : Int × Int × Int} {k : Int} (h : r = (k, 0, 0)) (hk : k ≠ 0) : Ending.returned (.tuple #[.int .i64 0, .int .i64 0, er k]) = .returned (.tuple #[.int .i64 r.2.1, .int .i64 r.2.2, errV r.1]) := by rw [h, errV, if_neg hk]
theorem mret0 {r : Int × Int × Int} {a b : Int} (h : r = (0, a, b)) : Ending.returned (.tuple #[.int .i64 a, .int .i64 b, .nilIface]) = .returned (.tuple #[.int .i64 r.2.1, .int .i64 r.2.2, errV r.1]) := by rw [h]; rfl
theorem mback_err (o : Order) (l : List Trade) (A : Option Addr) (c : Nat) (gone : Int) (w : World) (h : o.err ≠ 0) :
    Calls Try.prog 34 #[.agg #[.int .i64 o.id, .int .i64 o.who, .int .i64 o.side, .int .i64 o.kind, .int .i64 o.price, .int .i64 o.qty, .int .i64 o.show_, .int .i64 o.stop], .slice A l.length c, .int .i64 gone] w (MBackPost (o.err, 0, 0) w) := by
  rcases check_ex o with ⟨h2, _⟩ | ⟨h2, cC⟩
  · exact absurd h2 h
  have H := Lib.hid h
  clear h h2
  generalize o.err = E at *
  go_enter Try.func34, Try.ntmps34
  go_wp2_with (first | (go_at_call 50; ((with_reducible refine (cC _).mono ?_); rintro e w' ⟨rfl, rfl⟩)))
  go_ret3
  exact ⟨mret rfl H.out, by (repeat (first | exact Below.refl _ _ | assumption | (refine below_then (by assumption) ?_) | (refine below_then_alloc ?_) | (refine Below.drew ?_)))⟩
theorem mback_range (o : Order) (l : List Trade) (A : Option Addr) (c : Nat) (gone : Int) (w : World) (h : o.err = 0) (hg : gone < 0 ∨ o.qty < gone) :
    Calls Try.prog 34 #[.agg #[.int .i64 o.id, .int .i64 o.who, .int .i64 o.side, .int .i64 o.kind, .int .i64 o.price, .int .i64 o.qty, .int .i64 o.show_, .int .i64 o.stop], .slice A l.length c, .int .i64 gone] w (MBackPost (1, 0, 0) w) := by
  rcases check_ex o with ⟨_, cC⟩ | ⟨h2, _⟩
  case inr => exact absurd h h2
  clear h
  rcases (show gone < 0 ∨ (0 ≤ gone ∧ o.qty < gone) by omega) with hg | ⟨hg0, hg⟩
  all_goals
    go_enter Try.func34, Try.ntmps34
    go_wp2_with (first | (go_at_call 50; ((with_reducible refine (cC _).mono ?_); rintro e w' ⟨rfl, rfl⟩)))
    go_ret3
    exact ⟨mret rfl (by decide), by (repeat (first | exact Below.refl _ _ | assumption | (refine below_then (by assumption) ?_) | (refine below_then_alloc ?_) | (refine Below.drew ?_)))⟩
set_option maxRecDepth 100000 in
set_option maxHeartbeats 8000000 in
theorem mback_in (o : Order) (l : List Trade) (A : Option Addr) (c : Nat) (gone L C S : Int) (w : World) (hr : Rd w w.heap.size A l.length 6 (tcell l)) (h : o.err = 0) (h1 : 0 ≤ gone) (h2 : gone ≤ o.qty) (hl : l.length ≤ maxLen)
    (hL : Hid (L = o.lim)) (hC : Hid (C = mcash o.side o.lim gone)) (hS : Hid (S = mstock o.side gone)) :
    Calls Try.prog 34 #[.agg #[.int .i64 o.id, .int .i64 o.who, .int .i64 o.side, .int .i64 o.kind, .int .i64 o.price, .int .i64 o.qty, .int .i64 o.show_, .int .i64 o.stop], .slice A l.length c, .int .i64 gone] w (MBackPost (backR o l gone) w) := by
  rcases check_ex o with ⟨_, cC⟩ | ⟨h2, _⟩
  case inr => exact absurd h h2
  have hlb := lim_bd h
  rw [← hL.out] at hlb
  obtain ⟨_, _, hs, _, hp, hq, _⟩ := Order.err_ok h
  have HB := Lib.hid (show backR o l gone = if (backL o l (mcash o.side o.lim gone)).1 ≠ 0 then ((backL o l (mcash o.side o.lim gone)).1, 0, 0) else (0, (backL o l (mcash o.side o.lim gone)).2, mstock o.side gone) by rw [backR, if_neg (by omega)])
  have hs1 : 1 ≤ o.side ∧ o.side ≤ 2 := by omega
  have CM := Lib.hid (fun p w => may_any o p w)
  have cL := fun w => limit_any o w
  have cO := fun w => mof_any o.side o.lim gone w (by rw [← hL.out]; omega) (by rw [← hL.out]; omega) h1 (by omega)
  rw [← hL.out] at cL cO
  rw [show mcash o.side L gone = C by rw [hC.out, hL.out], ← hS.out] at cO
  have CL := Lib.hid cL; have CO := Lib.hid cO
  have HR := Lib.hid hr
  have CC := Lib.hid cC
  obtain ⟨hs2, hs3⟩ := hs1
  obtain ⟨hl0, hl1⟩ := hlb
  unfold maxLen at hl
  clear h hr hp hq hs cL cO cC
  go_enter Try.func34, Try.ntmps34
  go_upto_region 6 with (first | (go_at_call 50; refine (CC.out _).mono ?_; rintro e w' ⟨rfl, rfl⟩))
  obtain ⟨W1, hW1⟩ : ∃ W1, W1 = (w.alloc (.cells #[.int .i64 o.id, .int .i64 o.who, .int .i64 o.side, .int .i64 o.kind, .int .i64 o.price, .int .i64 o.qty, .int .i64 o.show_, .int .i64 o.stop] 36)).alloc (.cells #[.int .i64 o.id, .int .i64 o.who, .int .i64 o.side, .int .i64 o.kind, .int .i64 o.price, .int .i64 o.qty, .int .i64 o.show_, .int .i64 o.stop] 36) := ⟨_, rfl⟩
  rw [← hW1]
  have bx : Bk W1 w.heap.size 36 #[.int .i64 o.id, .int .i64 o.who, .int .i64 o.side, .int .i64 o.kind, .int .i64 o.price, .int .i64 o.qty, .int .i64 o.show_, .int .i64 o.stop] := by rw [hW1]; exact (Bk.new w _ _).alloc _
  have hb0 : Below w.heap.size w W1 := by rw [hW1]; exact ((Below.refl _ _).alloc (Nat.le_refl _) _).alloc (by simp) _
  clear hW1
  obtain ⟨c0, c1, c2, c3, c4, c5, c6, c7⟩ := box8 bx
  have k0 := cell_regrown c0; have k1 := cell_regrown c1; have k2 := cell_regrown c2; have k3 := cell_regrown c3; have k4 := cell_regrown c4; have k5 := cell_regrown c5; have k6 := cell_regrown c6; have k7 := cell_regrown c7
  have cG := fun d os => Calls.regrown_of (w := W1) (d := d) (os := os) ((CL.out _).mono fun e w' ⟨h1, h2⟩ => ⟨h1, by rw [h2]; exact (Below.refl _ _).alloc (Nat.le_refl _) _⟩)
  have cH := fun d os => Calls.regrown_of (w := W1) (d := d) (os := os) ((CO.out _).mono fun e w' ⟨h1, h2⟩ => ⟨h1, by rw [h2]; exact Below.refl _ _⟩)
  refine wp_region_quiet_below (by kernel_rfl) (by kernel_rfl) ?_
  repeat (quiet_step (first | exact cG _ _ | exact cH _ _))
  refine wpQuiet_nil ?_
  intro w3 hw3
  have hb3 : Below W1.heap.size W1 w3 := by obtain ⟨p, rfl⟩ := hw3; exact below_regrown _ _ _
  have hbx3 := bx.keep hb3
  have hbw := hb0.trans (hb3.mono hb0.size)
  clear hw3 cG cH k0 k1 k2 k3 k4 k5 k6 k7 c0 c1 c2 c3 c4 c5 c6 c7 hb3 hb0 bx
  have HX0 := Lib.hid hbx3; clear hbx3
  go_wp2_with fail
  go_loopw [10, 39] (fun cs i wr => ∃ (k : Nat) (x : Int), k ≤ l.length ∧ i = .int .i64 k ∧ cs = .int .i64 x ∧ Bk wr w.heap.size 36 #[.int .i64 o.id, .int .i64 o.who, .int .i64 o.side, .int .i64 o.kind, .int .i64 o.price, .int .i64 o.qty, .int .i64 o.show_, .int .i64 o.stop] ∧ Below w.heap.size w wr ∧ Hid (backL o l (mcash o.side o.lim gone) = backL o (l.drop k) x)) (fun _ i _ => l.length - (intOf i).toNat)
  case atStart => exact ⟨0, C, by omega, rfl, rfl, HX0.out, hbw, Lib.hid (by rw [← hC.out]; rfl)⟩
  case round =>
    obtain ⟨k, x, hk, rfl, rfl, hbx, hb, hbl⟩ := hrel
    clear hbw HX0
    by_cases hlt : k < l.length
    case neg =>
      obtain rfl : k = l.length := by omega
      go_wp2
      go_ret3
      exact ⟨mret0 (by rw [backR_ok HB.out (hbl.out.trans (backL_end (Nat.le_refl _))), ← hS.out]), hb⟩
    case pos =>
      obtain ⟨b, off, t, rfl, hbb, ht, e0, e1, e2, e3, e4, e5⟩ := tr_at (HR.out.below hb) hlt
      have HT := Lib.hid ht
      clear ht
      have i0 : (0 : Int) ≤ (k : Int) := by omega
      have i1 : (k : Int) < (l.length : Int) := by omega
      have hb1 := hb.alloc hb.size (.cells #[.int .i64 t.maker, .int .i64 t.taker, .int .i64 t.frm, .int .i64 t.to, .int .i64 t.price, .int .i64 t.qty] 38)
      cases hvp : vp t.price
      · have H1 := Lib.hid (bErr_1 (o := o) (t := t) (by simp [Trade.okB, hvp]))
        go_wp2_with (first | (go_at_call 52; refine (valid_any _ _).mono ?_; rintro e w' ⟨rfl, rfl⟩) | (go_at_call 68; refine (qty_any _ _).mono ?_; rintro e w' ⟨rfl, rfl⟩))
        go_ret3
        exact ⟨mret (by rw [backR_bad HB.out (hbl.out.trans (backL_bad HT.out (by rw [H1.out]; decide))) (by rw [H1.out]; decide), H1.out]) (by decide), hb1⟩
      obtain ⟨p1, p2⟩ := vp_t hvp
      cases hiq : inb t.qty 1 10000
      · have H1 := Lib.hid (bErr_1 (o := o) (t := t) (by simp [Trade.okB, hiq]))
        go_wp2_with (first | (go_at_call 52; refine (valid_any _ _).mono ?_; rintro e w' ⟨rfl, rfl⟩) | (go_at_call 68; refine (qty_any _ _).mono ?_; rintro e w' ⟨rfl, rfl⟩))
        go_ret3
        exact ⟨mret (by rw [backR_bad HB.out (hbl.out.trans (backL_bad HT.out (by rw [H1.out]; decide))) (by rw [H1.out]; decide), H1.out]) (by decide), hb1⟩
      obtain ⟨q1, q2⟩ := inb_t hiq
      have hok : Hid (t.okB = true) := Lib.hid (by simp [Trade.okB, hvp, hiq])
      obtain ⟨c0, c1, c2, c3, c4, c5, c6, c7⟩ := box8 (hbx.alloc (.cells #[.int .i64 t.maker, .int .i64 t.taker, .int .i64 t.frm, .int .i64 t.to, .int .i64 t.price, .int .i64 t.qty] 38))
      have z0 : w.heap.size < wr.heap.size := hbx.lt
      have z1 : w.heap.size < wr.heap.size + 1 := by omega
      have HX := Lib.hid (hbx.alloc (.cells #[.int .i64 t.maker, .int .i64 t.taker, .int .i64 t.frm, .int .i64 t.to, .int .i64 t.price, .int .i64 t.qty] 38))
      clear hbx
      by_cases htk : t.taker = o.id
      case neg =>
        have H1 := Lib.hid (bErr_3 hok.out (.inl htk))
        have htk2 : (t.taker != o.id) = true := bne_iff_ne.2 htk
        have htk3 : (t.taker == o.id) = false := by simpa using htk
        clear htk
        go_wp2_with (first | (go_at_call 52; refine (valid_any _ _).mono ?_; rintro e w' ⟨rfl, rfl⟩) | (go_at_call 68; refine (qty_any _ _).mono ?_; rintro e w' ⟨rfl, rfl⟩))
        go_ret3
        exact ⟨mret (by rw [backR_bad HB.out (hbl.out.trans (backL_bad HT.out (by rw [H1.out]; decide))) (by rw [H1.out]; decide), H1.out]) (by decide), hb1⟩
      case pos =>
        have htk2 : (t.taker != o.id) = false := by rw [htk]; simp
        have cMt := CM.out t.price
        cases hm : may o t.price
        · have H1 := Lib.hid (bErr_3 hok.out (.inr hm))
          rw [hm] at cMt
          have CMt := Lib.hid cMt
          clear htk cMt hm
          go_wp2_with (first | (first | (go_at_call 52; refine (valid_any _ _).mono ?_; rintro e w' ⟨rfl, rfl⟩) | (go_at_call 68; refine (qty_any _ _).mono ?_; rintro e w' ⟨rfl, rfl⟩)) | (go_at_call 51; refine (CMt.out _).mono ?_; rintro e w' ⟨rfl, rfl⟩))
          go_ret3
          exact ⟨mret (by rw [backR_bad HB.out (hbl.out.trans (backL_bad HT.out (by rw [H1.out]; decide))) (by rw [H1.out]; decide), H1.out]) (by decide), hb1.alloc hb1.size _⟩
        · have H0 := Lib.hid (bErr_0 hok.out htk hm)
          rw [hm] at cMt
          have CMt := Lib.hid cMt
          clear htk cMt hm
          rcases (show o.side = 1 ∨ o.side = 2 by omega) with hs | hs
          · have hs' : (o.side == 1) = true := by rw [hs]; rfl
            have HAD := Lib.hid (show bAdd o x t = wrap64 (x + (L - t.price) * t.qty) by rw [bAdd, if_pos hs, hL.out])
            clear hs
            go_upto_region 15 with (first | (first | (go_at_call 52; refine (valid_any _ _).mono ?_; rintro e w' ⟨rfl, rfl⟩) | (go_at_call 68; refine (qty_any _ _).mono ?_; rintro e w' ⟨rfl, rfl⟩)) | (go_at_call 51; refine (CMt.out _).mono ?_; rintro e w' ⟨rfl, rfl⟩))
            obtain ⟨m1, m2⟩ := prod_bd2 (a := L - t.price) (b := t.qty) (by omega) (by omega) (by omega) q2
            have x1 : IntKind.i64.wrap (L - t.price) = L - t.price := IntWalk.i64_in _ (by omega)
            have x2 : IntKind.i64.wrap ((L - t.price) * t.qty) = (L - t.price) * t.qty := IntWalk.i64_in _ (by omega)
            obtain ⟨W4, hW4⟩ : ∃ W4, W4 = (wr.alloc (.cells #[.int .i64 t.maker, .int .i64 t.taker, .int .i64 t.frm, .int .i64 t.to, .int .i64 t.price, .int .i64 t.qty] 38)).alloc (.cells #[.int .i64 o.id, .int .i64 o.who, .int .i64 o.side, .int .i64 o.kind, .int .i64 o.price, .int .i64 o.qty, .int .i64 o.show_, .int .i64 o.stop] 36) := ⟨_, rfl⟩
            rw [← hW4]
            have bx : Bk W4 w.heap.size 36 #[.int .i64 o.id, .int .i64 o.who, .int .i64 o.side, .int .i64 o.kind, .int .i64 o.price, .int .i64 o.qty, .int .i64 o.show_, .int .i64 o.stop] := by rw [hW4]; exact HX.out.alloc _
            have by4 : Bk W4 wr.heap.size 38 #[.int .i64 t.maker, .int .i64 t.taker, .int .i64 t.frm, .int .i64 t.to, .int .i64 t.price, .int .i64 t.qty] := by rw [hW4]; exact (Bk.new _ _ _).alloc _
            have hb4 : Below w.heap.size w W4 := by rw [hW4]; exact hb1.alloc hb1.size _
            have HX4 := Lib.hid bx
            clear hW4 c0 c1 c2 c3 c4 c5 c6 c7 hb1 hb
            obtain ⟨c0, c1, c2, c3, c4, c5, c6, c7⟩ := box8 bx
            have d4 := by4.cell 4
            have d5 := by4.cell 5
            simp only [List.getElem?_toArray, List.getElem?_cons_zero, List.getElem?_cons_succ] at d4 d5
            have k0 := cell_regrown c0; have k1 := cell_regrown c1; have k2 := cell_regrown c2; have k3 := cell_regrown c3; have k4 := cell_regrown c4; have k5 := cell_regrown c5; have k6 := cell_regrown c6; have k7 := cell_regrown c7
            have kp := cell_regrown d4
            have kq := cell_regrown d5
            have cG := fun d os => Calls.regrown_of (w := W4) (d := d) (os := os) ((CL.out _).mono fun e w' ⟨h1, h2⟩ => ⟨h1, by rw [h2]; exact (Below.refl _ _).alloc (Nat.le_refl _) _⟩)
            clear bx by4
            refine wp_region_quiet_below (by kernel_rfl) (by kernel_rfl) ?_
            repeat (quiet_step (exact cG _ _))
            refine wpQuiet_nil ?_
            intro w3 hw3
            have hb3 : Below W4.heap.size W4 w3 := by obtain ⟨p, rfl⟩ := hw3; exact below_regrown _ _ _
            have hbx3 := Lib.hid (HX4.out.keep hb3)
            have hbw := hb4.trans (hb3.mono hb4.size)
            clear hw3 cG k0 k1 k2 k3 k4 k5 k6 k7 kp kq c0 c1 c2 c3 c4 c5 c6 c7 d4 d5 hb3 hb4 x1 x2
            go_wp2
            go_roundw
            case rel => exact ⟨k + 1, bAdd o x t, by omega, by go_num, by rw [HAD.out, IntWalk.i64_left], hbx3.out, hbw, Lib.hid (hbl.out.trans (backL_next HT.out H0.out))⟩
            case measure => simp [intOf]; omega
          · have hs' : (o.side == 1) = false := by rw [hs]; rfl
            have HAD := Lib.hid (show bAdd o x t = x by rw [bAdd, if_neg (by omega)])
            clear hs
            go_wp2_with (first | (first | (go_at_call 52; refine (valid_any _ _).mono ?_; rintro e w' ⟨rfl, rfl⟩) | (go_at_call 68; refine (qty_any _ _).mono ?_; rintro e w' ⟨rfl, rfl⟩)) | (go_at_call 51; refine (CMt.out _).mono ?_; rintro e w' ⟨rfl, rfl⟩))
            go_roundw
            case rel => exact ⟨k + 1, bAdd o x t, by omega, by go_num, by rw [HAD.out], HX.out.alloc _, hb1.alloc hb1.size _, Lib.hid (hbl.out.trans (backL_next HT.out H0.out))⟩
            case measure => simp [intOf]; omega
theorem mback_any (o : Order) (l : List Trade) (A : Option Addr) (c : Nat) (gone : Int) (w : World) (hr : Rd w w.heap.size A l.length 6 (tcell l)) (hl : l.length ≤ maxLen) :
    Calls Try.prog 34 #[.agg #[.int .i64 o.id, .int .i64 o.who, .int .i64 o.side, .int .i64 o.kind, .int .i64 o.price, .int .i64 o.qty, .int .i64 o.show_, .int .i64 o.stop], .slice A l.length c, .int .i64 gone] w (MBackPost (if o.err ≠ 0 then (o.err, 0, 0) else backR o l gone) w) := by
  by_cases h : o.err = 0
  · rw [if_neg (by simpa using h)]
    by_cases hg : gone < 0 ∨ o.qty < gone
    · have := mback_range o l A c gone w h hg
      rwa [show backR o l gone = (1, 0, 0) from if_pos hg]
    · exact mback_in o l A c gone _ _ _ w hr h (by omega) (by omega) hl (Lib.hid rfl) (Lib.hid rfl) (Lib.hid rfl)
  · rw [if_pos h]
    exact mback_err o l A c gone w h
end Go.Proofs.Ytbnjkcgkdpildaa
