/- The walk of LogStops. -/
import Derived.Test.YtkdgpdijbobmkaaGreatDoorLsSteps
import Derived.Test.YtkdgpdijbobmkaaGreatDoorGrpAD
import Derived.Test.YtkdgpdijbobmkaaGreatDoorGrpT
namespace Go.Proofs.YtkdgpdijbobmkaaGreatDoor
set_option linter.all false
open Go Go.RowKit
theorem lgdo_no {s s' : LgS} {c : Cmd} {E : Int} {lo gl : Nat} (hr : s.doR c = (E, [], s')) (h0 : E ≠ 0) (hok : LgOk s) (hs : s.b.size ≤ 168) (w : World) (h : LgM w lo gl s) (hlo : lo ≤ w.heap.size) :
    Calls Tryz.prog 17 #[.pointer (some ⟨gl, 0, none⟩), .agg #[.int .i64 c.what, .int .i64 c.o.id, .int .i64 c.o.who, .int .i64 c.o.side, .int .i64 c.o.kind, .int .i64 c.o.price, .int .i64 c.o.qty, .int .i64 c.o.show_, .int .i64 c.o.stop, .int .i64 c.who, .int .i64 c.n]] w fun e w' => ∃ A cap, e = .returned (.tuple #[.slice A 0 cap, er E]) ∧ Hid (LgM w' lo gl s') ∧ Below lo w w' := by
  refine (lgdo_any s c lo gl w h hok hlo (by omega)).mono fun e w' hp => ?_
  obtain ⟨A, cap, h1, h2, _, h4⟩ := hp
  rw [hr, errV, if_neg h0] at h1
  rw [hr] at h2
  exact ⟨A, cap, h1, h2, h4⟩
theorem lgdo_yes {s s' : LgS} {c : Cmd} {V : List Ev} {lo gl : Nat} (hr : s.doR c = (0, V, s')) (hok : LgOk s) (hs : s.b.size ≤ 10000) (w : World) (h : LgM w lo gl s) (hlo : lo ≤ w.heap.size) :
    Calls Tryz.prog 17 #[.pointer (some ⟨gl, 0, none⟩), .agg #[.int .i64 c.what, .int .i64 c.o.id, .int .i64 c.o.who, .int .i64 c.o.side, .int .i64 c.o.kind, .int .i64 c.o.price, .int .i64 c.o.qty, .int .i64 c.o.show_, .int .i64 c.o.stop, .int .i64 c.who, .int .i64 c.n]] w fun e w' => ∃ A cap, e = .returned (.tuple #[.slice A V.length cap, .nilIface]) ∧ Hid (LgM w' lo gl s') ∧ Below lo w w' := by
  refine (lgdo_any s c lo gl w h hok hlo (by omega)).mono fun e w' hp => ?_
  obtain ⟨A, cap, h1, h2, _, h4⟩ := hp
  rw [hr] at h1 h2
  exact ⟨A, cap, h1, h2, h4⟩
theorem lsync_is {s s' : LgS} {E : Int} {lo gl : Nat} (hr : s.syncR = (E, s')) (hok : LgOk s) (hs : s.b.size ≤ 10000) (w : World) (h : LgM w lo gl s) (hlo : lo ≤ w.heap.size) (hgl : lo ≤ gl) :
    Calls Tryz.prog 21 #[.pointer (some ⟨gl, 0, none⟩)] w fun e w' => e = .returned (errV E) ∧ Hid (LgM w' lo gl s') ∧ Below lo w w' := by
  refine (lsync_any s lo gl w h hok (by omega)).mono fun e w' hp => ?_
  obtain ⟨h1, h2, h3⟩ := hp
  rw [hr] at h1 h2
  exact ⟨h1, h2, (Below.refl lo w).grown h3 hlo (fun k e => by cases e; exact hgl)⟩
theorem LgM.lo_le {w : World} {lo gl : Nat} {s : LgS} (h : LgM w lo gl s) : lo ≤ gl := by obtain ⟨X, gf, _, _, hx, _, hl⟩ := h; exact hl gl hx
theorem ls_start (n : Nat) (h : n ≤ 20) : LsGo n 0 ((LgS.new 0).fail n) := by
  refine ⟨rfl, ⟨0, Nat.le_refl _, rfl, rfl⟩, Int.le_refl _, Int.le_refl _, Nat.zero_le _, h, ?_, rfl⟩
  show max (-1) (n : Int) = _
  omega
/-- where it stands behind t steps -/
def LsAt (n t : Nat) (s : LgS) : Prop := (t ≤ n ∧ LsGo n t s) ∨ (n < t ∧ LsSt s)
set_option maxRecDepth 100000 in
set_option maxHeartbeats 8000000 in
theorem ls_walk (n m : Nat) (hn : n ≤ 20) (hm : m ≤ 20) (keep : Int) (w : World) (hl : Laid w) : Calls Tryz.prog 5 #[.int .i64 n, .int .i64 m, .int .i64 keep] w fun e w' => e = .returned (.bool true) ∧ Below w.heap.size w w' := by
  have hLD := Lib.hid hl
  have CN := Lib.hid (lnew_any 0 (by decide) w)
  have g1 : (0 : Int) ≤ (n : Int) := by omega
  have g2 : (n : Int) ≤ 20 := by omega
  have g3 : (0 : Int) ≤ (m : Int) := by omega
  have g4 : (m : Int) ≤ 20 := by omega
  clear hl
  go_enter Tryz.func5, Tryz.ntmps5
  go_upto_region 4 with (go_at_call 16; refine CN.out.mono ?_; rintro e w1 ⟨gl, rfl, H1, hb1⟩)
  have CF := Lib.hid (lfail_any _ (n : Int) _ _ w1 H1.out)
  have hgl := H1.out.lo_le
  go_upto_region 6 with (go_at_call 20; (with_reducible refine CF.out.mono ?_); rintro e w2 ⟨rfl, H2, g2'⟩)
  have HB2 := Lib.hid (hb1.grown g2' hb1.size (fun k e => by cases e; exact hgl))
  have HA := Lib.hid (show LsAt n 0 ((LgS.new 0).fail n) from .inl ⟨Nat.zero_le _, ls_start n hn⟩)
  generalize (LgS.new 0).fail n = s0 at *
  clear CF CN H1 hb1 g2'
  go_wp2
  go_loopw [9, 10] (fun a i wr => ∃ (t : Nat) (s : LgS), t ≤ m ∧ i = .int .i64 t ∧ a = .int .i64 t ∧ Hid (LgM wr w.heap.size gl s) ∧ Hid (LsAt n t s) ∧ Hid (Below w.heap.size w wr)) (fun _ i _ => m - (intOf i).toNat)
  case atStart => exact ⟨0, s0, by omega, rfl, rfl, H2, HA, HB2⟩
  case round =>
    obtain ⟨t, s, ht, rfl, rfl, HM, HAT, HB⟩ := hrel
    clear H2 HA HB2 s0
    by_cases hlt : t < m
    · --<round
      have hB := HB.out
      have hz := hB.size
      have hLQ := Laid.below hLD.out hB
      rcases (show (t < n ∧ LsGo n t s) ∨ (t = n ∧ LsGo n n s) ∨ (n < t ∧ LsSt s) by
        rcases HAT.out with ⟨h1, h2⟩ | ⟨h1, h2⟩
        · rcases Nat.lt_or_ge t n with h | h
          · exact .inl ⟨h, h2⟩
          · obtain rfl : t = n := by omega
            exact .inr (.inl ⟨rfl, h2⟩)
        · exact .inr (.inr ⟨h1, h2⟩)) with ⟨hc, hgo⟩ | ⟨rfl, hgo⟩ | ⟨hc, hst⟩
      · have D0 := Lib.hid (lgdo_no (lo := w.heap.size) (gl := gl) hgo.none (by decide) hgo.good hgo.size)
        obtain ⟨V, s2, hr, hs2⟩ := hgo.pay hc
        have D1 := Lib.hid (lgdo_yes (lo := w.heap.size) (gl := gl) hr hgo.good (by have := hgo.size; omega))
        have HS2 := Lib.hid (show LsAt n (t + 1) s2 from .inl ⟨hc, hs2⟩)
        have i1 : (t : Int) < (n : Int) := by omega
        have i2 : ((t : Int) == (n : Int)) = false := by simp; omega
        clear hr hs2 hgo HAT
        (go_upto_region 11 with (first | (go_at_call 17; (with_reducible refine (D0.out _ HM.out hz).mono ?_); rintro e w3 ⟨A3, c3, rfl, H3, hb3⟩; have hz3 := Nat.le_trans hz hb3.size) | (go_at_call 17; (with_reducible refine (D1.out _ H3.out hz3).mono ?_); rintro e w4 ⟨A4, c4, rfl, H4, hb4⟩)); replace hB := (hB.trans hb3).trans hb4; have hM := H4.out; replace hLQ := Laid.below hLD.out hB; clear hb3 hb4 H3 D0 D1 HM hz hz3; go_wp2_with (go_at_call 9; first | ((with_reducible refine (same_nil _ _).mono ?_); rintro e w' ⟨rfl, rfl⟩) | ((with_reducible refine (same_er _ _ _ (by first | assumption | exact Laid.below (by assumption) (by assumption))).mono ?_); rintro e wq ⟨rfl, hbq⟩; go_loud (replace hB := below_then hbq hB); go_loud (have hLQ := Laid.below hLD.out hB); go_loud (replace hM := LgM.below hM hbq))); exact ⟨⟨t + 1, s2, by omega, by go_num, by go_num, Lib.hid hM, HS2, Lib.hid hB⟩, by simp [intOf]; omega⟩)
      · have D0 := Lib.hid (lgdo_no (lo := w.heap.size) (gl := gl) hgo.none (by decide) hgo.good hgo.size)
        obtain ⟨s2, hr, hs2⟩ := hgo.stop
        have D1 := Lib.hid (lgdo_no (lo := w.heap.size) (gl := gl) hr (by decide) hgo.good hgo.size)
        have HS2 := Lib.hid (show LsAt t (t + 1) s2 from .inr ⟨by omega, hs2⟩)
        clear hr hs2 hgo HAT
        (go_upto_region 11 with (first | (go_at_call 17; (with_reducible refine (D0.out _ HM.out hz).mono ?_); rintro e w3 ⟨A3, c3, rfl, H3, hb3⟩; have hz3 := Nat.le_trans hz hb3.size) | (go_at_call 17; (with_reducible refine (D1.out _ H3.out hz3).mono ?_); rintro e w4 ⟨A4, c4, rfl, H4, hb4⟩)); replace hB := (hB.trans hb3).trans hb4; have hM := H4.out; replace hLQ := Laid.below hLD.out hB; clear hb3 hb4 H3 D0 D1 HM hz hz3; go_wp2_with (go_at_call 9; first | ((with_reducible refine (same_nil _ _).mono ?_); rintro e w' ⟨rfl, rfl⟩) | ((with_reducible refine (same_er _ _ _ (by first | assumption | exact Laid.below (by assumption) (by assumption))).mono ?_); rintro e wq ⟨rfl, hbq⟩; go_loud (replace hB := below_then hbq hB); go_loud (have hLQ := Laid.below hLD.out hB); go_loud (replace hM := LgM.below hM hbq))); exact ⟨⟨t + 1, s2, by omega, by go_num, by go_num, Lib.hid hM, HS2, Lib.hid hB⟩, by simp [intOf]; omega⟩)
      · have D0 := Lib.hid (lgdo_no (lo := w.heap.size) (gl := gl) (hst.do lsC0) (by decide) hst.good hst.size)
        have D1 := Lib.hid (lgdo_no (lo := w.heap.size) (gl := gl) (hst.do lsC1) (by decide) hst.good hst.size)
        obtain ⟨s2, hs2⟩ : ∃ x, x = s := ⟨_, rfl⟩
        subst hs2
        have HS2 := Lib.hid (show LsAt n (t + 1) s2 from .inr ⟨by omega, hst⟩)
        have i1 : (n : Int) < (t : Int) := by omega
        have i2 : ((t : Int) == (n : Int)) = false := by simp; omega
        clear hst HAT
        (go_upto_region 11 with (first | (go_at_call 17; (with_reducible refine (D0.out _ HM.out hz).mono ?_); rintro e w3 ⟨A3, c3, rfl, H3, hb3⟩; have hz3 := Nat.le_trans hz hb3.size) | (go_at_call 17; (with_reducible refine (D1.out _ H3.out hz3).mono ?_); rintro e w4 ⟨A4, c4, rfl, H4, hb4⟩)); replace hB := (hB.trans hb3).trans hb4; have hM := H4.out; replace hLQ := Laid.below hLD.out hB; clear hb3 hb4 H3 D0 D1 HM hz hz3; go_wp2_with (go_at_call 9; first | ((with_reducible refine (same_nil _ _).mono ?_); rintro e w' ⟨rfl, rfl⟩) | ((with_reducible refine (same_er _ _ _ (by first | assumption | exact Laid.below (by assumption) (by assumption))).mono ?_); rintro e wq ⟨rfl, hbq⟩; go_loud (replace hB := below_then hbq hB); go_loud (have hLQ := Laid.below hLD.out hB); go_loud (replace hM := LgM.below hM hbq))); exact ⟨⟨t + 1, s2, by omega, by go_num, by go_num, Lib.hid hM, HS2, Lib.hid hB⟩, by simp [intOf]; omega⟩)
      -->round
    · --<rest
      obtain rfl : t = m := by omega
      clear hlt ht
      have hgl := HM.out.lo_le
      go_wp2
      go_loopw [9] (fun a wr => ∃ (u : Nat) (s : LgS), u ≤ 40 ∧ a = .int .i64 u ∧ Hid (LgM wr w.heap.size gl s) ∧ Hid (LsAt n u s) ∧ Hid (Below w.heap.size w wr)) (fun a _ => n + 1 - (intOf a).toNat)
      case atStart => exact ⟨t, s, by omega, rfl, HM, HAT, HB⟩
      case round =>
        obtain ⟨u, s, hu, rfl, HM, HAT, HB⟩ := hrel
        by_cases hlu : u ≤ n
        · --<sync
          have hB := HB.out
          have hz := hB.size
          have hlu2 : (u : Int) ≤ (n : Int) := by omega
          rcases (show (u < n ∧ LsGo n u s) ∨ (u = n ∧ LsGo n n s) by
            rcases HAT.out with ⟨h1, h2⟩ | ⟨h1, h2⟩
            · rcases Nat.lt_or_ge u n with h | h
              · exact .inl ⟨h, h2⟩
              · obtain rfl : u = n := by omega
                exact .inr ⟨rfl, h2⟩
            · omega) with ⟨hc, hgo⟩ | ⟨rfl, hgo⟩
          · obtain ⟨s2, hr, hs2⟩ := hgo.sync hc
            have D0 := Lib.hid (lsync_is (lo := w.heap.size) (gl := gl) hr hgo.good (by have := hgo.size; omega))
            have D1 := D0.out
            rw [show errV 0 = Value.nilIface from rfl] at D1
            have D2 := Lib.hid D1
            have HS2 := Lib.hid (show LsAt n (u + 1) s2 from .inl ⟨hc, hs2⟩)
            have i2 : ((u : Int) == (n : Int)) = false := by simp; omega
            clear hr hs2 hgo D0 D1
            go_wp2_with (go_at_call 21; (with_reducible refine (D2.out _ HM.out hz hgl).mono ?_); rintro e w3 ⟨rfl, H3, hb3⟩)
            exact ⟨⟨u + 1, s2, by omega, by go_num, H3, HS2, Lib.hid (hB.trans hb3)⟩, by simp [intOf] <;> omega⟩
          · obtain ⟨s2, hr, hs2⟩ := hgo.syncStop
            have D0 := Lib.hid (lsync_is (lo := w.heap.size) (gl := gl) hr hgo.good (by have := hgo.size; omega))
            have D1 := D0.out
            rw [show errV 6 = er 6 from rfl] at D1
            have D2 := Lib.hid D1
            have HS2 := Lib.hid (show LsAt u (u + 1) s2 from .inr ⟨by omega, hs2⟩)
            clear hr hs2 hgo D0 D1
            go_wp2_with (go_at_call 21; (with_reducible refine (D2.out _ HM.out hz hgl).mono ?_); rintro e w3 ⟨rfl, H3, hb3⟩)
            exact ⟨⟨u + 1, s2, by omega, by go_num, H3, HS2, Lib.hid (hB.trans hb3)⟩, by simp [intOf] <;> omega⟩
          -->sync
        · --<crash
          have hst : LsSt s := HAT.out.elim (fun h => by omega) (fun h => h.2)
          have hlu2 : ¬ (u : Int) ≤ (n : Int) := by omega
          have hB := HB.out
          have hz := hB.size
          have d0 := fun w' (h : LgM w' w.heap.size gl s) (hz : w.heap.size ≤ w'.heap.size) => lsync_is (lo := w.heap.size) (gl := gl) hst.sync hst.good (by have := hst.size; omega) w' h hz hgl
          rw [show errV 6 = er 6 from rfl] at d0
          have D0 := Lib.hid d0
          have D1 := Lib.hid (lgdo_no (lo := w.heap.size) (gl := gl) (hst.do lsC1) (by decide) hst.good hst.size)
          have HST := Lib.hid hst
          clear hst d0 HAT HB hlu hu
          go_upto_region 24 with (first | (go_at_call 21; (with_reducible refine (D0.out _ HM.out hz).mono ?_); rintro e w3 ⟨rfl, H3, hb3⟩; have hz3 := Nat.le_trans hz hb3.size) | (go_at_call 17; (with_reducible refine (D1.out _ H3.out hz3).mono ?_); rintro e w4 ⟨A4, c4, rfl, H4, hb4⟩))
          replace hB := (hB.trans hb3).trans hb4
          have hM := H4.out
          have hLQ := Laid.below hLD.out hB
          clear hb3 hb4 H3 H4 D0 D1 HM hz hz3
          go_upto_region 26 with (go_at_call 9; first | ((with_reducible refine (same_nil _ _).mono ?_); rintro e w' ⟨rfl, rfl⟩) | ((with_reducible refine (same_er _ _ _ (by first | assumption | exact Laid.below (by assumption) (by assumption))).mono ?_); rintro e wq ⟨rfl, hbq⟩; go_loud (replace hB := below_then hbq hB); go_loud (have hLQ := Laid.below hLD.out hB); go_loud (replace hM := LgM.below hM hbq)))
          have hz := hB.size
          have CC := Lib.hid (lcrash_any s keep w.heap.size gl _ hM HST.out.good hz (by have := HST.out.size; omega))
          obtain ⟨j, hj, hjf, hjs, hjo, hjl, hjr⟩ := HST.out.crash keep
          obtain ⟨V, s3, hr3, hf3, hl3, hrr3, hm3, hsa3, hb3⟩ := ls_after hj hjf hjl hjr
          obtain ⟨s4, hr4, hf4⟩ := ls_sync hl3 hrr3
          have hok3 : LgOk s3 := by
            refine ⟨by rw [hm3]; exact hjo.mode, by rw [hf3]; exact (fP_ok j).do _, by rw [hsa3]; exact hjo.safe0, ?_, by omega, by omega⟩
            rw [hsa3, hb3, ByteArray.size_append]
            have := hjo.safe1
            omega
          have hps : (packS [lsC2]).size ≤ 19 := by have := packS_size (l := [lsC2]) (by intro c hc; rw [List.mem_singleton] at hc; subst hc; decide); simpa using this
          have hsz3 : s3.b.size ≤ 10000 := by rw [hb3, ByteArray.size_append]; omega
          have D3 := Lib.hid (lgdo_yes (lo := w.heap.size) (gl := gl) hr3 hjo (by omega))
          have d4 := fun w' (h : LgM w' w.heap.size gl s3) (hz : w.heap.size ≤ w'.heap.size) => lsync_is (lo := w.heap.size) (gl := gl) hr4 hok3 hsz3 w' h hz hgl
          rw [show errV 0 = Value.nilIface from rfl] at d4
          have D4 := Lib.hid d4
          have hget : ∃ P, getP s4.f.S 2 = (0, P) ∧ P.cash = 9 := ⟨s4.f.S 2, by unfold getP; rw [if_pos (by decide)]; rfl, by rw [hf4, hf3]; exact (fp_at hj).2.2.2⟩
          obtain ⟨P, hP, hc9⟩ := hget
          have HP := Lib.hid hP; have HC := Lib.hid hc9
          clear hj hjf hjs hjo hjl hjr hr3 hf3 hl3 hrr3 hm3 hsa3 hb3 hr4 hf4 hok3 hps hsz3 d4 hP hc9 HST
          generalize s.crash keep = s2 at *
          go_upto_region 27 with (go_at_call 22; (with_reducible refine CC.out.mono ?_); rintro e w6 ⟨rfl, H6, hb6⟩)
          have hz6 := Nat.le_trans hz hb6.size
          go_upto_region 29 with (first | (go_at_call 17; (with_reducible refine (D3.out _ H6.out hz6).mono ?_); rintro e w7 ⟨A7, c7, rfl, H7, hb7⟩; have hz7 := Nat.le_trans hz6 hb7.size) | (go_at_call 21; (with_reducible refine (D4.out _ H7.out hz7).mono ?_); rintro e w8 ⟨rfl, H8, hb8⟩))
          have HB8 := Lib.hid (((hB.trans hb6).trans hb7).trans hb8)
          have CFL := Lib.hid (lfloor_any _ _ _ _ H8.out)
          clear hb6 hb7 hb8 H6 H7 D3 D4 CC hz6 hz7 hM hz hB
          go_upto_region 30 with (first | (go_at_call 23; (with_reducible refine CFL.out.mono ?_); rintro e w9 ⟨⟨X9, g9, rfl, H9⟩, rfl⟩; have c9 := fpurse_any s4.f X9 g9 2 _ H9.out; rw [HP.out] at c9; dsimp only at c9; rw [show errV 0 = Value.nilIface from rfl, HC.out] at c9; have C9 := Lib.hid c9; clear c9) | (go_at_call 15; (with_reducible refine C9.out.mono ?_); rintro e w10 ⟨rfl, hb10⟩))
          have q1 : (w10.alloc (.cells #[.int .i64 P.who, .int .i64 9, .int .i64 P.held, .int .i64 P.stock, .int .i64 P.hstock] 35)).cell? ⟨w10.heap.size, 1, none⟩ = some (.int .i64 9) := (Bk.new w10 35 #[.int .i64 P.who, .int .i64 9, .int .i64 P.held, .int .i64 P.stock, .int .i64 P.hstock]).cell 1
          have HBF := Lib.hid (below_then (below_then_alloc (o := .cells #[.int .i64 P.who, .int .i64 9, .int .i64 P.held, .int .i64 P.stock, .int .i64 P.hstock] 35) hb10) HB8.out)
          clear hb10 C9 HB8 CFL
          generalize w10.alloc (.cells #[.int .i64 P.who, .int .i64 9, .int .i64 P.held, .int .i64 P.stock, .int .i64 P.hstock] 35) = w11 at *
          go_wp2
          go_ret
          exact ⟨rfl, HBF.out⟩
          -->crash
      -->rest
set_option maxRecDepth 100000 in
set_option maxHeartbeats 4000000 in
theorem logStops_law {H : Type} {enc : TypeId × Value → H} {v0 v1 v2 : Value} {d0 d1 d2 : DataW H} {p0 p1 p2 : List MemPlace} {base : Nat} {W : World}
    (h0 : Arg enc W base 3 v0 d0 p0) (h1 : Arg enc W base 3 v1 d1 p1) (h2 : Arg enc W base 3 v2 d2 p2) (hl : Laid W) :
    Calls Tryz.prog 5 #[v0, v1, v2] W fun e w' => e = .returned (.bool true) ∧ Below W.heap.size W w' := by
  obtain ⟨n, rfl, _⟩ := h0.int
  obtain ⟨m, rfl, _⟩ := h1.int
  obtain ⟨k, rfl, _⟩ := h2.int
  clear h0 h1 h2
  rcases (show n < 0 ∨ (0 ≤ n ∧ 20 < n) ∨ (0 ≤ n ∧ n ≤ 20 ∧ m < 0) ∨ (0 ≤ n ∧ n ≤ 20 ∧ 0 ≤ m ∧ 20 < m) ∨ (0 ≤ n ∧ n ≤ 20 ∧ 0 ≤ m ∧ m ≤ 20) by omega) with h | ⟨a, h⟩ | ⟨a, b, h⟩ | ⟨a, b, c, h⟩ | ⟨a, b, c, h⟩
  case inr.inr.inr.inr =>
    obtain ⟨n', rfl⟩ := Int.eq_ofNat_of_zero_le a
    obtain ⟨m', rfl⟩ := Int.eq_ofNat_of_zero_le c
    exact ls_walk n' m' (by omega) (by omega) k W hl
  all_goals
    clear hl
    have CN := Lib.hid (lnew_any 0 (by decide) W)
    go_enter Tryz.func5, Tryz.ntmps5
    go_wp2_with (go_at_call 16; refine CN.out.mono ?_; rintro e w1 ⟨gl, rfl, H1, hb1⟩)
    go_ret
    exact ⟨rfl, hb1⟩
end Go.Proofs.YtkdgpdijbobmkaaGreatDoor
