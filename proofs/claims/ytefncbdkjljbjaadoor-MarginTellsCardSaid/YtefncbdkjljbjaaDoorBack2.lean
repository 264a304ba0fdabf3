/- The walk of the reference's Back. -/
import Derived.Test.YtefncbdkjljbjaaDoorBack
import Derived.IntWalk
import Derived.Deep.DeepCutAuto
import Derived.Deep.CutBlock
namespace Go.Proofs.YtefncbdkjljbjaaDoor
set_option linter.all false
open Go Go.RowKit
theorem backR_bad {o : Order} {l : List Trade} {g e : Int} (HB : backR o l g = if (backL o l (mcash o.side o.lim g)).1 ≠ 0 then ((backL o l (mcash o.side o.lim g)).1, 0, 0) else (0, (backL o l (mcash o.side o.lim g)).2, mstock o.side g))
    (h : backL o l (mcash o.side o.lim g) = (e, 0)) (he : e ≠ 0) : backR o l g = (e, 0, 0) := by
  rw [HB, h, if_pos he]
theorem backR_ok {o : Order} {l : List Trade} {g c : Int} (HB : backR o l g = if (backL o l (mcash o.side o.lim g)).1 ≠ 0 then ((backL o l (mcash o.side o.lim g)).1, 0, 0) else (0, (backL o l (mcash o.side o.lim g)).2, mstock o.side g))
    (h : backL o l (mcash o.side o.lim g) = (0, c)) : backR o l g = (0, c, mstock o.side g) := by
  rw [HB, h]; rfl
theorem bErr_1 {o : Order} {t : Trade} (h : t.okB = false) : bErr o t = 1 := if_pos h
theorem bErr_3 {o : Order} {t : Trade} (h : t.okB = true) (h2 : t.taker ≠ o.id ∨ may o t.price = false) : bErr o t = 3 := by
  rw [bErr, if_neg (by simp [h]), if_neg]
  rintro ⟨a, b⟩
  rcases h2 with h2 | h2
  · exact h2 a
  · rw [h2] at b; cases b
theorem bErr_0 {o : Order} {t : Trade} (h : t.okB = true) (h1 : t.taker = o.id) (h2 : may o t.price = true) : bErr o t = 0 := by
  rw [bErr, if_neg (by simp [h]), if_pos ⟨h1, h2⟩]
theorem sret {r : Int × Int × Int} {a b c : Int} (h : r = (c, a, b)) : Ending.returned (.tuple #[.int .i64 a, .int .i64 b, .int .i64 c]) = .returned (.tuple #[.int .i64 r.2.1, .int .i64 r.2.2, .int .i64 r.1]) := by rw [h]
set_option maxRecDepth 100000 in
set_option maxHeartbeats 8000000 in
theorem sback_in (o : Order) (l : List Trade) (A : Option Addr) (c : Nat) (gone L C S : Int) (w : World) (hr : Rd w w.heap.size A l.length 6 (tcell l)) (h : o.err = 0) (h1 : 0 ≤ gone) (h2 : gone ≤ o.qty) (hl : l.length ≤ maxLen)
    (hL : Hid (L = o.lim)) (hC : Hid (C = mcash o.side o.lim gone)) (hS : Hid (S = mstock o.side gone)) :
    Calls Tryd.prog 33 #[.agg #[.int .i64 o.id, .int .i64 o.who, .int .i64 o.side, .int .i64 o.kind, .int .i64 o.price, .int .i64 o.qty, .int .i64 o.show_, .int .i64 o.stop], .slice A l.length c, .int .i64 gone] w (SBackPost (backR o l gone) w) := by
  have hlb := lim_bd h
  rw [← hL.out] at hlb
  obtain ⟨_, _, hs, _, hp, hq, _⟩ := Order.err_ok h
  have HB := Lib.hid (show backR o l gone = if (backL o l (mcash o.side o.lim gone)).1 ≠ 0 then ((backL o l (mcash o.side o.lim gone)).1, 0, 0) else (0, (backL o l (mcash o.side o.lim gone)).2, mstock o.side gone) by rw [backR, if_neg (by omega)])
  obtain ⟨hpr0, hpr1⟩ := prod_bd hlb.1 hlb.2 h1 (by omega : gone ≤ 10000)
  have hs1 : 1 ≤ o.side ∧ o.side ≤ 2 := by omega
  have CM := Lib.hid (fun p w => rmay_any o p w (vs_y hs1))
  have HR := Lib.hid hr
  obtain ⟨hs2, hs3⟩ := hs1
  obtain ⟨hl0, hl1⟩ := hlb
  unfold maxLen at hl
  clear h hr hp hq hs
  go_enter Tryd.func33, Tryd.ntmps33
  go_upto_if 27 with fail
  go_cut [9] (fun p w2 => p = .int .i64 L ∧ w2 = w.alloc (.cells #[.int .i64 o.id, .int .i64 o.who, .int .i64 o.side, .int .i64 o.kind, .int .i64 o.price, .int .i64 o.qty, .int .i64 o.show_, .int .i64 o.stop] 68))
  case first =>
    by_cases hk : o.kind = 2
    · have hk2 : (o.kind == 2) = true := by simpa using hk
      have HL := Lib.hid (show L = 10000 by rw [hL.out, Order.lim, if_pos hk])
      clear hk
      go_wp2
      go_meet
      case rel => exact ⟨by rw [HL.out], rfl⟩
    · have hk2 : (o.kind == 2) = false := by simpa using hk
      have HL := Lib.hid (show L = o.price by rw [hL.out, Order.lim, if_neg hk])
      clear hk
      go_wp2
      go_meet
      case rel => exact ⟨by rw [HL.out], rfl⟩
  case rest =>
    obtain ⟨rfl, rfl⟩ := hcut
    go_upto_if 33 with fail
    go_cut [10, 11] (fun x y w2 => x = .int .i64 C ∧ y = .int .i64 S ∧ w2 = w.alloc (.cells #[.int .i64 o.id, .int .i64 o.who, .int .i64 o.side, .int .i64 o.kind, .int .i64 o.price, .int .i64 o.qty, .int .i64 o.show_, .int .i64 o.stop] 68))
    case first =>
      rcases (show o.side = 1 ∨ o.side = 2 by omega) with hk | hk
      · have hk2 : (o.side == 2) = false := by rw [hk]; rfl
        have H1 := Lib.hid (show C = L * gone by rw [hC.out, mcash, if_pos hk, hL.out])
        have H2 := Lib.hid (show S = 0 by rw [hS.out, mstock, if_pos hk])
        clear hk
        go_wp2
        go_meet
        case rel => exact ⟨by rw [H1.out], by rw [H2.out], rfl⟩
      · have hk2 : (o.side == 2) = true := by rw [hk]; rfl
        have H1 := Lib.hid (show C = 0 by rw [hC.out, mcash, if_neg (by omega)])
        have H2 := Lib.hid (show S = gone by rw [hS.out, mstock, if_neg (by omega)])
        clear hk
        go_wp2
        go_meet
        case rel => exact ⟨by rw [H1.out], by rw [H2.out], rfl⟩
    case rest =>
      obtain ⟨rfl, rfl, rfl⟩ := hcut
      have bx := Bk.new w 68 #[.int .i64 o.id, .int .i64 o.who, .int .i64 o.side, .int .i64 o.kind, .int .i64 o.price, .int .i64 o.qty, .int .i64 o.show_, .int .i64 o.stop]
      have hb0 := (Below.refl w.heap.size w).alloc (Nat.le_refl _) (.cells #[.int .i64 o.id, .int .i64 o.who, .int .i64 o.side, .int .i64 o.kind, .int .i64 o.price, .int .i64 o.qty, .int .i64 o.show_, .int .i64 o.stop] 68)
      generalize w.alloc (.cells #[.int .i64 o.id, .int .i64 o.who, .int .i64 o.side, .int .i64 o.kind, .int .i64 o.price, .int .i64 o.qty, .int .i64 o.show_, .int .i64 o.stop] 68) = w0 at *
      go_wp2_with fail
      go_loopw [10, 12] (fun cs i wr => ∃ (k : Nat) (x : Int), k ≤ l.length ∧ i = .int .i64 k ∧ cs = .int .i64 x ∧ Bk wr w.heap.size 68 #[.int .i64 o.id, .int .i64 o.who, .int .i64 o.side, .int .i64 o.kind, .int .i64 o.price, .int .i64 o.qty, .int .i64 o.show_, .int .i64 o.stop] ∧ Below w.heap.size w wr ∧ Hid (backL o l (mcash o.side o.lim gone) = backL o (l.drop k) x)) (fun _ i _ => l.length - (intOf i).toNat)
      case atStart => exact ⟨0, C, by omega, rfl, rfl, bx, hb0, Lib.hid (by rw [← hC.out]; rfl)⟩
      case round =>
        obtain ⟨k, x, hk, rfl, rfl, hbx, hb, hbl⟩ := hrel
        clear bx hb0
        by_cases hlt : k < l.length
        case neg =>
          obtain rfl : k = l.length := by omega
          go_wp2
          go_ret3
          exact ⟨sret (by rw [backR_ok HB.out (hbl.out.trans (backL_end (Nat.le_refl _))), ← hS.out]), hb⟩
        case pos =>
          obtain ⟨b, off, t, rfl, hbb, ht, e0, e1, e2, e3, e4, e5⟩ := tr_at (HR.out.below hb) hlt
          have HT := Lib.hid ht
          clear ht
          have i0 : (0 : Int) ≤ (k : Int) := by omega
          have i1 : (k : Int) < (l.length : Int) := by omega
          cases hvp : vp t.price
          · have H1 := Lib.hid (bErr_1 (o := o) (t := t) (by simp [Trade.okB, hvp]))
            go_wp2_with (go_at_call 37; refine (rprice_any _ _).mono ?_; rintro e w' ⟨rfl, rfl⟩)
            go_ret3
            exact ⟨sret (by rw [backR_bad HB.out (hbl.out.trans (backL_bad HT.out (by rw [H1.out]; decide))) (by rw [H1.out]; decide), H1.out]), hb⟩
          obtain ⟨p1, p2⟩ := vp_t hvp
          rcases (show t.qty < 1 ∨ (1 ≤ t.qty ∧ 10000 < t.qty) ∨ (1 ≤ t.qty ∧ t.qty ≤ 10000) by omega) with hq | ⟨hq, hq2⟩ | ⟨hq, hq2⟩
          · have H1 := Lib.hid (bErr_1 (o := o) (t := t) (by simp [Trade.okB, inb_n (show t.qty < 1 ∨ 10000 < t.qty by omega)]))
            go_wp2_with (go_at_call 37; refine (rprice_any _ _).mono ?_; rintro e w' ⟨rfl, rfl⟩)
            go_ret3
            exact ⟨sret (by rw [backR_bad HB.out (hbl.out.trans (backL_bad HT.out (by rw [H1.out]; decide))) (by rw [H1.out]; decide), H1.out]), hb⟩
          · have H1 := Lib.hid (bErr_1 (o := o) (t := t) (by simp [Trade.okB, inb_n (show t.qty < 1 ∨ 10000 < t.qty by omega)]))
            go_wp2_with (go_at_call 37; refine (rprice_any _ _).mono ?_; rintro e w' ⟨rfl, rfl⟩)
            go_ret3
            exact ⟨sret (by rw [backR_bad HB.out (hbl.out.trans (backL_bad HT.out (by rw [H1.out]; decide))) (by rw [H1.out]; decide), H1.out]), hb⟩
          · have hok : Hid (t.okB = true) := Lib.hid (by simp [Trade.okB, hvp, inb_y (show 1 ≤ t.qty ∧ t.qty ≤ 10000 from ⟨hq, hq2⟩)])
            go_upto_region 17 with (go_at_call 37; refine (rprice_any _ _).mono ?_; rintro e w' ⟨rfl, rfl⟩)
            obtain ⟨c0, c1, c2, c3, c4, c5, c6, c7⟩ := box8 hbx
            have k0 := cell_regrown c0; have k1 := cell_regrown c1; have k2 := cell_regrown c2; have k3 := cell_regrown c3; have k4 := cell_regrown c4; have k5 := cell_regrown c5; have k6 := cell_regrown c6; have k7 := cell_regrown c7
            have kp := cell_regrown e4
            have cG := fun d os => Calls.regrown_of (w := wr) (d := d) (os := os) ((CM.out t.price _).mono fun e w' ⟨h1, h2⟩ => ⟨h1, by rw [h2]; exact (Below.refl _ _).alloc (Nat.le_refl _) _⟩)
            refine wp_region_quiet_below (by kernel_rfl) (by kernel_rfl) ?_
            repeat (quiet_step (exact cG _ _))
            refine wpQuiet_nil ?_
            intro w3 hw3
            have hb3 : Below wr.heap.size wr w3 := by obtain ⟨p, rfl⟩ := hw3; exact below_regrown _ _ _
            have hbx3 := hbx.keep hb3
            have hbw := hb.trans (hb3.mono hb.size)
            have g1 := keepc hb3 e1; have g4 := keepc hb3 e4; have g5 := keepc hb3 e5
            clear hw3 cG k0 k1 k2 k3 k4 k5 k6 k7 kp c0 c1 c2 c3 c4 c5 c6 c7 e0 e1 e2 e3 e4 e5
            obtain ⟨c0, c1, c2, c3, c4, c5, c6, c7⟩ := box8 hbx3
            have HX := Lib.hid hbx3
            clear hbx hbx3 hb hb3
            by_cases htk : t.taker = o.id
            case neg =>
              have H1 := Lib.hid (bErr_3 hok.out (.inl htk))
              have htk2 : (t.taker != o.id) = true := bne_iff_ne.2 htk
              clear htk
              go_wp2
              go_quiet (fail)
              go_wp2
              go_ret3
              exact ⟨sret (by rw [backR_bad HB.out (hbl.out.trans (backL_bad HT.out (by rw [H1.out]; decide))) (by rw [H1.out]; decide), H1.out]), below_drewN hbw _⟩
            case pos =>
              have htk2 : (t.taker != o.id) = false := by rw [htk]; simp
              cases hm : may o t.price
              · have H1 := Lib.hid (bErr_3 hok.out (.inr hm))
                clear htk
                go_wp2
                go_quiet (fail)
                go_wp2
                go_ret3
                exact ⟨sret (by rw [backR_bad HB.out (hbl.out.trans (backL_bad HT.out (by rw [H1.out]; decide))) (by rw [H1.out]; decide), H1.out]), below_drewN hbw _⟩
              · have H0 := Lib.hid (bErr_0 hok.out htk hm)
                clear htk
                go_wp2
                go_quiet (fail)
                rcases (show o.side = 1 ∨ o.side = 2 by omega) with hs | hs
                · have hs' : (o.side == 1) = true := by rw [hs]; rfl
                  have HAD := Lib.hid (show bAdd o x t = wrap64 (x + (L - t.price) * t.qty) by rw [bAdd, if_pos hs, hL.out])
                  clear hs
                  go_wp2
                  obtain ⟨m1, m2⟩ := prod_bd2 (a := L - t.price) (b := t.qty) (by omega) (by omega) (by omega) hq2
                  have x1 : IntKind.i64.wrap (L - t.price) = L - t.price := IntWalk.i64_in _ (by omega)
                  have x2 : IntKind.i64.wrap ((L - t.price) * t.qty) = (L - t.price) * t.qty := IntWalk.i64_in _ (by omega)
                  go_quiet (fail)
                  clear x1 x2
                  go_wp2
                  go_roundw
                  case rel => exact ⟨k + 1, bAdd o x t, by omega, by go_num, by rw [HAD.out], by first | exact HX.out.drewN _ | exact (HX.out.drewN _).drewN _, by first | exact below_drewN hbw _ | exact below_drewN (below_drewN hbw _) _, Lib.hid (hbl.out.trans (backL_next HT.out H0.out))⟩
                  case measure => simp [intOf]; omega
                · have hs' : (o.side == 1) = false := by rw [hs]; rfl
                  have HAD := Lib.hid (show bAdd o x t = x by rw [bAdd, if_neg (by omega)])
                  clear hs
                  go_wp2
                  go_roundw
                  case rel => exact ⟨k + 1, bAdd o x t, by omega, by go_num, by rw [HAD.out], HX.out.drewN _, below_drewN hbw _, Lib.hid (hbl.out.trans (backL_next HT.out H0.out))⟩
                  case measure => simp [intOf]; omega
theorem sback_any (o : Order) (l : List Trade) (A : Option Addr) (c : Nat) (gone : Int) (w : World) (hr : Rd w w.heap.size A l.length 6 (tcell l)) (h : o.err = 0) (hl : l.length ≤ maxLen) :
    Calls Tryd.prog 33 #[.agg #[.int .i64 o.id, .int .i64 o.who, .int .i64 o.side, .int .i64 o.kind, .int .i64 o.price, .int .i64 o.qty, .int .i64 o.show_, .int .i64 o.stop], .slice A l.length c, .int .i64 gone] w (SBackPost (backR o l gone) w) := by
  by_cases hg : gone < 0 ∨ o.qty < gone
  · have := sback_range o l A c gone w hg
    rwa [show backR o l gone = (1, 0, 0) from if_pos hg]
  · exact sback_in o l A c gone _ _ _ w hr h (by omega) (by omega) hl (Lib.hid rfl) (Lib.hid rfl) (Lib.hid rfl)
end Go.Proofs.YtefncbdkjljbjaaDoor
