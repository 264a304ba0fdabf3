/- WakeOnce holds: for all arguments the law's function returns true. No condition. -/
import Derived.Test.YtiaofbkhnodbhaaWnPlain
import Derived.Test.YtiaofbkhnodbhaaOrdsArg
namespace Go.Proofs.Ytiaofbkhnodbhaa
set_option linter.all false
open Go Go.RowKit Go.ChangeShapes Go.WideShapes
def onO : Order := ⟨1, 1, 1, 2, 0, 5, 0, 100⟩
theorem on_wait : waitE [] onO = 0 := by decide
theorem on_wake : wakeL 100 [onO] = [⟨1, 1, 1, 2, 0, 5, 0, 0⟩] := by
  have h : wokenL 100 [onO] = [onO] := by simp [wokenL, wakesB, onO]
  rw [wakeL, h]; rfl
set_option maxRecDepth 100000 in
set_option maxHeartbeats 8000000 in
theorem wakeOnce_any (xs : List Order) (p : Int) (A : Option Addr) (c : Nat) (w : World) (hr : Rd w w.heap.size A xs.length 8 (ocell xs)) :
    Calls Try.prog 6 #[.slice A xs.length c, .int .i64 p] w fun e w' => e = .returned (.bool true) ∧ Below w.heap.size w w' := by
  have HR := Lib.hid hr
  clear hr
  go_enter Try.func6, Try.ntmps6
  go_wp2_with fail
  go_at_call 17
  refine (wnew_any _).mono ?_
  rintro e w1 ⟨rfl, hw1⟩
  have hb1 : Below w.heap.size w w1 := by rw [hw1]; exact (Below.refl _ _).alloc (Nat.le_refl _) _
  have hs1 : StM w1 w.heap.size w.heap.size none 0 [] := by rw [hw1]; exact StM.new w _
  have cP := Lib.hid (wput_any [] onO w.heap.size w.heap.size none 0 w1 hs1 (by simp) hb1.size (.inr (Nat.le_refl _)))
  clear hw1 hs1
  go_wp2_with fail
  go_at_call 18
  refine cP.out.mono ?_
  rintro e w2 ⟨rfl, A1, c1, hst, hkb, _⟩
  rw [on_wait, show errV 0 = .nilIface from rfl]
  have hb2 : Below w.heap.size w w2 := hb1.trans (hkb.out.to_below hb1.size (fun j hj => by
    rcases List.mem_cons.1 hj with e | hj
    · cases e; exact Nat.le_refl _
    · rw [List.mem_singleton] at hj; simp [rowOf] at hj))
  have cW := Lib.hid (wwake_any 100 [onO] w.heap.size w.heap.size A1 c1 w2 (by have := hst.out; rwa [waitL, if_pos on_wait] at this) (by simp) (by decide) hb2.size)
  clear cP hst hkb hb1
  go_wp2_with fail
  go_at_call 19
  refine cW.out.mono ?_
  rintro e w3 ⟨AO, cO, A', c', rfl, ho, _, hkb, _, _⟩
  have hb3 : Below w.heap.size w w3 := hb2.trans (hkb.out.to_below hb2.size (fun j hj => by rw [List.mem_singleton] at hj; cases hj; exact Nat.le_refl _))
  rw [on_wake] at ho ⊢
  obtain ⟨b, off, o, rfl, hbl, ht, e0, e1, e2, e3, e4, e5, e6, e7⟩ := ord_at ho.out.rdO (k := 0) (by simp)
  cases ht
  have e0' : w3.cell? ⟨b, off, none⟩ = some (.int .i64 1) := by simpa using e0
  have e7' : w3.cell? ⟨b, off + 7, none⟩ = some (.int .i64 0) := by simpa using e7
  clear cW hkb ho e0 e1 e2 e3 e4 e5 e6 e7 hb2
  rw [show ([⟨1, 1, 1, 2, 0, 5, 0, 0⟩] : List Order).length = 1 from rfl]
  go_wp2_with fail
  go_at_call 17
  refine (wnew_any _).mono ?_
  rintro e w4 ⟨rfl, hw4⟩
  obtain ⟨g, hg⟩ : ∃ g, g = w3.heap.size := ⟨_, rfl⟩
  have hb4 : Below w.heap.size w w4 := by rw [hw4]; exact hb3.alloc hb3.size _
  have hs4 : StM w4 g g none 0 [] := by rw [hw4, hg]; exact StM.new w3 _
  have hgw : w.heap.size ≤ g := by rw [hg]; exact hb3.size
  have hg4 : g < w4.heap.size := by rw [hw4, hg]; simp
  rw [← hg]
  have HS4 := Lib.hid hs4
  clear hw4 hs4 hg e0' e7' hb3
  go_wp2
  go_loopw [9, 10] (fun n i wr => ∃ (k : Nat) (S : List Order) (AS : Option Addr) (cS : Nat), k ≤ xs.length ∧ k ≤ 40 ∧ i = .int .i64 k ∧ n = .int .i64 S.length ∧ Hid (StOk S ∧ StM wr g g AS cS S) ∧ S.length ≤ 20 ∧ Below w.heap.size w wr ∧ g < wr.heap.size) (fun _ i _ => xs.length - (intOf i).toNat)
  case atStart => exact ⟨0, [], none, 0, by omega, by omega, rfl, rfl, Lib.hid ⟨StOk.nil, HS4.out⟩, by simp, hb4, hg4⟩
  case round =>
    obtain ⟨k, S, AS, cS, hk, hk40, rfl, rfl, HS, hS20, hb, hgl⟩ := hrel
    clear HS4 hb4 hg4
    by_cases hlt : k < xs.length ∧ k < 40
    · obtain ⟨hlt1, hlt2⟩ := hlt
      obtain ⟨b2, off2, o, rfl, hbl2, ht, e0, e1, e2, e3, e4, e5, e6, e7⟩ := ord_at (HR.out.below hb) hlt1
      have hj0 : (0 : Int) ≤ (k : Int) := by omega
      have hj1 : (k : Int) < (xs.length : Int) := by omega
      have hj2 : (k : Int) < 40 := by omega
      have cP := Lib.hid (wput_any S o g g AS cS wr HS.out.2 (by omega) (by omega) (.inr (Nat.le_refl _)))
      clear ht
      go_wp2_with fail
      go_at_call 18
      refine cP.out.mono ?_
      rintro e w5 ⟨rfl, A5, c5, hst, hkb, _⟩
      have hb5 : Below w.heap.size w w5 := hb.trans (hkb.out.to_below hb.size (fun j hj => by
        rcases List.mem_cons.1 hj with e | hj
        · cases e; exact hgw
        · rw [List.mem_singleton] at hj
          have := (HS.out.2.own.row_lt j hj.symm).1; omega))
      have hg5 : g < w5.heap.size := Nat.lt_of_lt_of_le hgl hkb.out.size
      have HN := Lib.hid (And.intro (HS.out.1.wait o) hst.out)
      have hfew := HN.out.1.few
      have hLW : waitE S o = 0 → (waitL S o).length = S.length + 1 := fun h => by rw [waitL, if_pos h]; simp
      have hLN : waitE S o ≠ 0 → (waitL S o).length = S.length := fun h => by rw [waitL, if_neg h]
      have HLW := Lib.hid hLW; have HLN := Lib.hid hLN
      clear cP hst hkb e0 e1 e2 e3 e4 e5 e6 e7 hb hgl hLW hLN
      by_cases he : waitE S o = 0
      · have hl := HLW.out he
        rw [he, show errV 0 = .nilIface from rfl]
        clear he
        go_wp2
        go_roundw
        case rel => exact ⟨k + 1, waitL S o, A5, c5, by omega, by omega, by go_num, by rw [hl]; go_num, HN, hfew, hb5, hg5⟩
        case measure => simp [intOf]; omega
      · have hl := HLN.out he
        rw [show errV (waitE S o) = er (waitE S o) by rw [errV, if_neg he]]
        clear he
        generalize waitE S o = z at *
        go_wp2
        go_roundw
        case rel => exact ⟨k + 1, waitL S o, A5, c5, by omega, by omega, by go_num, by rw [hl], HN, hfew, hb5, hg5⟩
        case measure => simp [intOf]; omega
    · have hend : ¬ (k : Int) < (xs.length : Int) ∨ (k : Int) < (xs.length : Int) ∧ ¬ (k : Int) < 40 := by omega
      have cAll := Lib.hid (wall_any S g g AS cS wr HS.out.2 (by omega))
      clear hlt HR
      rcases hend with h | ⟨h, h'⟩
      all_goals
        go_wp2_with fail
        go_at_call 20
        refine cAll.out.mono ?_
        rintro e w5 ⟨A5, c5, rfl, _, hb5⟩
        have hst := HS.out.2.below hb5
        have hgl5 : g < w5.heap.size := Nat.lt_of_lt_of_le hgl hb5.size
        have hbw := below_then hb5 hb
        have HST := Lib.hid hst
        have HOK := Lib.hid HS.out.1
        clear cAll hb5 hst hb hgl HS
        try clear h
        try clear h'
        cases hvp : vp p
        · have cB := Lib.hid (wwake_bad p g w5 hvp)
          have hpb := vp_f hvp
          clear hvp
          rcases (show p < 1 ∨ 1 ≤ p ∧ 10000 < p by omega) with hq | ⟨hq, hq2⟩
          all_goals
            clear hpb
            go_wp2_with fail
            go_at_call 19
            refine cB.out.mono ?_
            rintro e w6 ⟨rfl, rfl⟩
            clear cB
            go_wp2
            go_ret
            exact ⟨rfl, hbw⟩
        · have cW := Lib.hid (wwake_any p S g g AS cS w5 HST.out hS20 hvp (by omega))
          have HVP := Lib.hid hvp
          clear hvp
          go_wp2_with fail
          go_at_call 19
          refine cW.out.mono ?_
          rintro e w6 ⟨AO, cO, A', c', rfl, ho, hst, hkb, _, _⟩
          have hb6 : Below w.heap.size w w6 := hbw.trans (hkb.out.to_below hbw.size (fun j hj => by rw [List.mem_singleton] at hj; cases hj; exact hgw))
          have hg6 : g < w6.heap.size := Nat.lt_of_lt_of_le hgl5 hkb.out.size
          have hlL := leftS_len p S
          have cAll := Lib.hid (wall_any (leftS p S) g g A' c' w6 hst.out (by omega))
          have hxr := ho.out.rdO
          have HST6 := Lib.hid hst.out
          have hall := wake_all (S := S) (p := p)
          clear cW ho hst hkb hbw hgl5 HST
          obtain ⟨X, hX⟩ : ∃ X, X = wakeL p S := ⟨_, rfl⟩
          obtain ⟨Y, hY⟩ : ∃ Y, Y = leftS p S := ⟨_, rfl⟩
          have HX := Lib.hid hX; have HY := Lib.hid hY
          rw [← hX] at hxr hall
          rw [← hY] at hlL cAll HST6 hall
          rw [← hX]
          clear hX hY
          go_wp2_with fail
          go_at_call 20
          refine cAll.out.mono ?_
          rintro e w7 ⟨A7, c7, rfl, hoY, hb7⟩
          have hxr7 := (hxr.below hb7).more hb7.size
          have hyr7 := hoY.rdO
          have hst7 := HST6.out.below hb7
          have hbw := below_then hb7 hb6
          have hg7 : g < w7.heap.size := Nat.lt_of_lt_of_le hg6 hb7.size
          have HXR := Lib.hid hxr7; have HYR := Lib.hid hyr7; have HST7 := Lib.hid hst7
          clear cAll hxr hxr7 hyr7 hst7 hoY hb7 hb6 hg6 HST6
          have hX20 : X.length ≤ 20 := by omega
          have hY20 : Y.length ≤ 20 := by omega
          go_wp2
          go_loopw [14, 15] (fun i _ wx => ∃ j : Nat, j ≤ X.length ∧ i = .int .i64 j ∧ Below w7.heap.size w7 wx) (fun i _ _ => X.length - (intOf i).toNat)
          case atStart => exact ⟨0, by omega, rfl, Below.refl _ _⟩
          case round =>
            obtain ⟨j, hj, rfl, hbx⟩ := hrel
            obtain ⟨wj, rfl⟩ : ∃ z : World, z = wr := ⟨_, rfl⟩
            by_cases hjl : j < X.length
            · obtain ⟨b3, off3, o, hA3, hbl3, ho, e0, e1, e2, e3, e4, e5, e6, e7⟩ := ord_at (HXR.out.below hbx) hjl
              subst hA3
              have hoX : (wakeL p S)[j]? = some o := by rw [← HX.out]; exact ho
              have hsto := (wakeL_at HOK.out hoX).1
              have herr := (wakeL_at HOK.out hoX).2
              have HJX := Lib.hid hoX
              have cC := Lib.hid (fun w => check_any o w)
              rw [herr, show errV 0 = .nilIface from rfl] at cC
              rw [hsto] at e7
              have j0 : (0 : Int) ≤ (j : Int) := by omega
              have j1 : (j : Int) < (X.length : Int) := by omega
              have HE := Lib.hid (And.intro e0 (And.intro e1 (And.intro e2 (And.intro e3 (And.intro e4 (And.intro e5 (And.intro e6 e7)))))))
              clear ho hoX herr e0 e1 e2 e3 e4 e5 e6 e7
              go_wp2_with fail
              go_loopw [15] (fun i wy => ∃ q : Nat, q ≤ j ∧ i = .int .i64 q ∧ Below wj.heap.size wj wy) (fun i _ => j - (intOf i).toNat)
              case atStart => exact ⟨0, by omega, rfl, Below.refl _ _⟩
              case round =>
                obtain ⟨q, hq, rfl, hby⟩ := hrel
                have hkc : ∀ {a : Addr} {v : Value}, wj.cell? a = some v → ∀ w', Below wj.heap.size wj w' → w'.cell? a = some v := fun h w' hb => (hb.cell (World.block_lt_of_cell? wj _ h)).trans h
                by_cases hqj : q < j
                · obtain ⟨b4, off4, o2, hA4, hbl4, ho2, f0, _⟩ := ord_at (k := q) (HXR.out.below (hbx.trans (hby.mono hbx.size))) (by omega)
                  cases hA4
                  have hne := wakeL_ne HOK.out hqj (by rw [← HX.out]; exact ho2) HJX.out
                  have g0 := hkc HE.out.1 _ hby
                  have q0 : (0 : Int) ≤ (q : Int) := by omega
                  have q1 : (q : Int) < (X.length : Int) := by omega
                  have q2 : (q : Int) < (j : Int) := by omega
                  have d0 : (o2.id == o.id) = false := by simpa using hne
                  have HBY := Lib.hid (fun d => below_drewN hby d)
                  clear hne ho2 hkc
                  go_upto_region 26 with fail
                  go_quiet (fail)
                  go_wp2
                  go_roundw
                  case rel => exact ⟨q + 1, by omega, by go_num, HBY.out _⟩
                  case measure => simp [intOf]; omega
                · have hqe : q = j := by omega
                  subst q
                  obtain ⟨e0, e1, e2, e3, e4, e5, e6, e7⟩ := HE.out
                  have e0 := hkc e0 _ hby; have e1 := hkc e1 _ hby; have e2 := hkc e2 _ hby; have e3 := hkc e3 _ hby; have e4 := hkc e4 _ hby; have e5 := hkc e5 _ hby; have e6 := hkc e6 _ hby; have e7 := hkc e7 _ hby
                  clear hkc
                  go_wp2_with fail
                  go_at_call 21
                  rw [← hsto]
                  refine (cC.out _).mono ?_
                  rintro e w9 ⟨rfl, hw9⟩
                  have hb9 : Below w7.heap.size w7 w9 := (hbx.trans (hby.mono hbx.size)).trans ((show Below _ _ w9 by rw [hw9]; exact (Below.refl _ _).alloc (Nat.le_refl _) _ : Below wr.heap.size wr w9).mono (by have := hbx.size; have := hby.size; omega))
                  clear hw9 e0 e1 e2 e3 e4 e5 e6 e7
                  go_wp2
                  go_roundw
                  case rel => exact ⟨j + 1, by omega, by go_num, hb9⟩
                  case measure => simp [intOf]; omega
            · have hje : j = X.length := by omega
              subst j
              have hbj := hbx
              clear hbx hjl
              go_wp2_with fail
              go_loopw [16, 17] (fun i _ wy => ∃ q : Nat, q ≤ Y.length ∧ i = .int .i64 q ∧ Below w7.heap.size w7 wy) (fun i _ _ => Y.length - (intOf i).toNat)
              case atStart => exact ⟨0, by omega, rfl, hbj⟩
              case round =>
                obtain ⟨q, hq, rfl, hby⟩ := hrel
                clear hbj
                by_cases hqj : q < Y.length
                · obtain ⟨b4, off4, o, hA4, hbl4, ho, e0, e1, e2, e3, e4, e5, e6, e7⟩ := ord_at (HYR.out.below hby) hqj
                  subst hA4
                  have hfac := leftS_at HOK.out (by rw [← HY.out]; exact ho)
                  have q0 : (0 : Int) ≤ (q : Int) := by omega
                  have q1 : (q : Int) < (Y.length : Int) := by omega
                  have hbn := hby.alloc hby.size (.cells #[.int .i64 o.id, .int .i64 o.who, .int .i64 o.side, .int .i64 o.kind, .int .i64 o.price, .int .i64 o.qty, .int .i64 o.show_, .int .i64 o.stop] 47)
                  have ways : (o.side = 1 ∧ p < o.stop) ∨ (o.side = 2 ∧ o.stop < p) ∨ (o.side ≠ 1 ∧ o.side ≠ 2) := by
                    have h1 := hfac.1; have h2 := hfac.2; omega
                  clear ho hfac hby
                  rcases ways with ⟨h1, h2⟩ | ⟨h1, h2⟩ | ⟨h1, h2⟩
                  · have s1 : (o.side == 1) = true := by simpa using h1
                    have s2 : (o.side == 2) = false := by simp [h1]
                    clear h1
                    go_wp2
                    go_roundw
                    case rel => exact ⟨q + 1, by omega, by go_num, hbn⟩
                    case measure => simp [intOf]; omega
                  · have s1 : (o.side == 1) = false := by simp [h1]
                    have s2 : (o.side == 2) = true := by simpa using h1
                    clear h1
                    go_wp2
                    go_roundw
                    case rel => exact ⟨q + 1, by omega, by go_num, hbn⟩
                    case measure => simp [intOf]; omega
                  · have s1 : (o.side == 1) = false := by simpa using h1
                    have s2 : (o.side == 2) = false := by simpa using h2
                    clear h1 h2
                    go_wp2
                    go_roundw
                    case rel => exact ⟨q + 1, by omega, by go_num, hbn⟩
                    case measure => simp [intOf]; omega
                · have hqe : q = Y.length := by omega
                  subst q
                  have hz := (hbw.trans (hby.mono hbw.size)).size
                  have cW2 := Lib.hid (wwake_any p Y g g A' c' wr (HST7.out.below hby) hY20 HVP.out (by have := hby.size; omega))
                  have hwl : wakeL p Y = [] := by rw [HY.out]; exact wake_left
                  have HWL := Lib.hid hwl
                  have hbf := hbw.trans (hby.mono hbw.size)
                  have hsum : ((X.length : Int) + (Y.length : Int) == (S.length : Int)) = true := by simp; omega
                  clear hby hwl hqj
                  go_wp2_with fail
                  go_at_call 19
                  refine cW2.out.mono ?_
                  rintro e w9 ⟨A9, c9, A10, c10, rfl, _, _, hkb, _, _⟩
                  rw [HWL.out, show ([] : List Order).length = 0 from rfl]
                  have hb9 := hbf.trans (hkb.out.to_below hz (fun j hj => by rw [List.mem_singleton] at hj; cases hj; exact hgw))
                  clear cW2 hkb hbf
                  go_wp2
                  go_ret
                  exact ⟨ret_bool (by simp), hb9⟩
theorem wakeOnce_law {H : Type} {enc : TypeId × Value → H} {v0 v1 : Value} {d0 d1 : DataW H} {p0 p1 : List MemPlace} {base : Nat} {W : World}
    (h0 : Arg enc W base 54 v0 d0 p0) (h1 : Arg enc W base 3 v1 d1 p1) :
    Calls Try.prog 6 #[v0, v1] W fun e w' => e = .returned (.bool true) ∧ Below W.heap.size W w' := by
  obtain ⟨A, l, c, rfl, _, _, hr⟩ := h0.ords
  obtain ⟨p, rfl, _⟩ := h1.int
  exact wakeOnce_any l p A c W hr
end Go.Proofs.Ytiaofbkhnodbhaa
