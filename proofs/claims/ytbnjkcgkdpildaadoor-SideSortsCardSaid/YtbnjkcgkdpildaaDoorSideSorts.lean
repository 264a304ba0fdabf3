/- SideSorts holds: for all arguments the law's function returns true, where the variable that it lists reads as its text lays it. -/
import Derived.Test.YtbnjkcgkdpildaaDoorSideAdd
import Derived.Test.YtbnjkcgkdpildaaDoorSortPlain
import Derived.Test.YtbnjkcgkdpildaaDoorIntsArg
import Derived.Test.YtbnjkcgkdpildaaDoorSame
import Derived.Test.YtbnjkcgkdpildaaDoorLaid
namespace Go.Proofs.YtbnjkcgkdpildaaDoor
set_option linter.all false
open Go Go.RowKit Go.ChangeShapes Go.WideShapes
set_option maxHeartbeats 1000000 in
theorem sbest_cons (s : Int) (x : Lv) (L : List Lv) (A : Option Addr) (c : Nat) (w : World) (hr : RdLv w w.heap.size A (x :: L)) (hL : (x :: L).length ≤ 1000) (h : sideE s (x :: L) = 0) :
    Calls Tryd.prog 12 #[.int .i64 s, .slice A (x :: L).length c] w fun e w' => e = .returned (.tuple #[.int .i64 x.price, .nilIface]) ∧ Below w.heap.size w w' := by
  have cC := scheck_any s (x :: L) A c w hr (by unfold maxLen; omega)
  rw [h, show errV 0 = .nilIface from rfl] at cC
  have HR := Lib.hid hr
  have CC := Lib.hid cC
  clear cC h hr
  have hl : ((L.length : Int) + 1 == 0) = false := by simp; omega
  have hl2 : (0 : Int) < (L.length : Int) + 1 := by omega
  rw [show (x :: L).length = L.length + 1 from rfl] at CC ⊢
  go_enter Tryd.func12, Tryd.ntmps12
  go_wp2_with fail
  go_at_call 10
  refine CC.out.mono ?_
  rintro e w1 ⟨rfl, hb⟩
  obtain ⟨b, off, y, Ar, cr, rfl, hbl, hy, d0, d1, _⟩ := lv_at (HR.out.below hb) (k := 0) (by simp)
  cases hy
  simp only [Nat.zero_mul, Nat.add_zero] at d0
  clear d1
  go_wp2
  go_ret2
  exact ⟨rfl, hb⟩
set_option maxRecDepth 100000 in
set_option maxHeartbeats 8000000 in
theorem sideSorts_any (s : Int) (l : List Int) (A : Option Addr) (c : Nat) (w : World) (hr : RdI w w.heap.size A l) (hl : l.length ≤ maxLen) (HLD : Hid (Laid w)) :
    Calls Tryd.prog 5 #[.int .i64 s, .slice A l.length c] w fun e w' => e = .returned (.bool true) ∧ Below w.heap.size w w' := by
  cases hvs : vs s
  · have hz : sideE s [] = 1 := by rw [sideE, if_pos hvs]
    have cC := Lib.hid (scheck_any s [] none 0 w RdLv.nil (by unfold maxLen; simp))
    rw [hz, show errV 1 = er 1 from rfl] at cC
    have hs := vs_f hvs
    have s1 : (s == 1) = false := by simp; omega
    have s2 : (s == 2) = false := by simp; omega
    have s3 : (s != 1) = true := by simp [bne, s1]
    have s4 : (s != 2) = true := by simp [bne, s2]
    clear hz hvs hs hr
    go_enter Tryd.func5, Tryd.ntmps5
    go_wp2_with fail
    go_at_call 10
    refine cC.out.mono ?_
    rintro e w1 ⟨rfl, hb⟩
    have HL1 := Lib.hid (Laid.below HLD.out hb)
    go_wp2_with fail
    go_at_call 8
    refine (same_er 1 1 _ HL1.out).mono ?_
    rintro e w2 ⟨rfl, hb2⟩
    have hb3 := below_then hb2 hb
    go_wp2
    go_ret
    exact ⟨ret_bool (by simp), hb3⟩
  · have HR := Lib.hid hr
    have HST := Lib.hid (SS.start hvs l)
    have hs := side_two hvs
    have HVS := Lib.hid hvs
    unfold maxLen at hl
    have cAd := Lib.hid (fun (X : List Lv) (AX : Option Addr) (cX k : Nat) (p : Int) w' h hL hA z hz => sadd_any s p (ssR k) X AX cX w' h hL hA z hz)
    have cCh := Lib.hid (fun (X : List Lv) (AX : Option Addr) (cX : Nat) w' h hL => scheck_any s X AX cX w' h hL)
    have cBe := Lib.hid (fun (x : Lv) (X : List Lv) (AX : Option Addr) (cX : Nat) w' h hL h0 => sbest_cons s x X AX cX w' h hL h0)
    clear hr hvs
    have s0 : (s == 1 || s == 2) = true := by rcases hs with rfl | rfl <;> rfl
    have s9 : (s != 1 && s != 2) = false := by rcases hs with rfl | rfl <;> rfl
    rcases hs with rfl | rfl
    all_goals
      clear s0 s9
      go_enter Tryd.func5, Tryd.ntmps5
      go_wp2
      go_loopw [6, 7] (fun x i wr => ∃ (k : Nat) (X : List Lv) (AX : Option Addr) (cX : Nat), k ≤ l.length ∧ k ≤ 50 ∧ i = .int .i64 k ∧ x = .slice AX X.length cX ∧ Hid (SS _ l k X ∧ RdLv wr wr.heap.size AX X ∧ (AX = none → cX = 0)) ∧ Below w.heap.size w wr) (fun _ i _ => 50 - (intOf i).toNat)
      case atStart => exact ⟨0, [], none, 0, by omega, by omega, rfl, rfl, Lib.hid ⟨HST.out, RdLv.nil, fun _ => rfl⟩, Below.refl _ _⟩
      case round =>
        obtain ⟨k, X, AX, cX, hk, hk50, rfl, rfl, hi, hb⟩ := hrel
        have hin := hi.out.1
        have hXl : X.length ≤ 50 := by have := full_len hin.ok.full; have := hin.few; omega
        by_cases hlt : k < l.length ∧ k < 50
        · obtain ⟨hlt1, hlt2⟩ := hlt
          obtain ⟨b, off, p, rfl, hbl, hp, e0⟩ := ri_at (HR.out.below hb) hlt1
          have hj1 : (k : Int) < (l.length : Int) := by omega
          have hj2 : (k : Int) < 50 := by omega
          have hj0 : (0 : Int) ≤ (k : Int) := by omega
          have x1 : IntKind.i64.wrap ((k : Int) + 1) = (k : Int) + 1 := IntWalk.i64_in _ (by omega)
          have cA := Lib.hid (cAd.out X AX cX k p wr hi.out.2.1 (by unfold maxLen; omega) hi.out.2.2 _ (hin.fault hlt2 p).symm)
          have HP := Lib.hid hp
          cases hv : vp p
          · rw [hv] at cA
            have HN := Lib.hid (hin.skip hp hv)
            have hpb := vp_f hv
            clear hv hp hin
            go_wp2_with fail
            go_at_call 11
            refine cA.out.mono ?_
            rintro e w1 ⟨A1, n1, d1, ev1, rfl, h1, hb1⟩
            rcases h1.out with ⟨_, rfl, rfl⟩ | ⟨h, _⟩
            case inr => exact absurd h (by decide)
            have hb2 := below_then hb1 hb
            have HX2 := Lib.hid (hi.out.2.1.on hb1)
            have e1 := (hb1.cell (World.block_lt_of_cell? wr _ e0)).trans e0
            rcases (show p < 1 ∨ 1 ≤ p ∧ 10000 < p by omega) with hq | ⟨hq, hq2⟩
            · clear h1 hb1 e0 cA hpb
              go_wp2
              go_roundw
              case rel => exact ⟨k + 1, X, AX, cX, by omega, by omega, by go_num, rfl, Lib.hid ⟨HN.out, HX2.out, hi.out.2.2⟩, hb2⟩
              case measure => simp [intOf]; omega
            · clear h1 hb1 e0 cA hpb
              go_wp2
              go_roundw
              case rel => exact ⟨k + 1, X, AX, cX, by omega, by omega, by go_num, rfl, Lib.hid ⟨HN.out, HX2.out, hi.out.2.2⟩, hb2⟩
              case measure => simp [intOf]; omega
          · rw [hv] at cA
            have HN := Lib.hid (hin.add hlt2 hp hv)
            clear hv hp hin
            go_wp2_with fail
            go_at_call 11
            refine cA.out.mono ?_
            rintro e w1 ⟨A1, n1, d1, ev1, rfl, h1, hb1⟩
            rcases h1.out with ⟨h, _⟩ | ⟨_, rfl, rfl, vs1, o1⟩
            · exact absurd rfl h
            have hb2 := below_then hb1 hb
            have HO := Lib.hid o1
            obtain ⟨x, X', hX⟩ := addL_some _ p (ssR k) X
            rw [hX] at HN HO ⊢
            have HXN := Lib.hid hX
            have hX2l : (x :: X').length ≤ 1000 := by have := full_len HN.out.ok.full; have := HN.out.few; omega
            have cB := Lib.hid (cBe.out x X' A1 d1 w1 HO.out.rd hX2l (sideE_iff.2 HN.out.ok))
            have HCAP := Lib.hid (fun e => (HO.out.own.none_cap e).2)
            clear h1 hb1 e0 cA o1 hX
            go_wp2_with fail
            go_at_call 12
            refine cB.out.mono ?_
            rintro e w2 ⟨rfl, hb3⟩
            have hb4 := below_then hb3 hb2
            have HX4 := Lib.hid (HO.out.rd.on hb3)
            have HBE := Lib.hid (fun (j : Nat) (q : Int) (hj : j < k + 1) (hq : l[j]? = some q) (hvq : vp q = true) => HN.out.best hj hq hvq)
            clear cB hb3 hb2 HO
            go_wp2_with fail
            go_loopw [11] (fun i wx => ∃ j : Nat, j ≤ k + 1 ∧ i = .int .i64 j ∧ wx = w2) (fun i _ => k + 1 - (intOf i).toNat)
            case atStart => exact ⟨0, by omega, rfl, rfl⟩
            case round =>
              obtain ⟨j, hj, rfl, rfl⟩ := hrel
              by_cases hjk : j ≤ k
              · obtain ⟨b', off', q, hA', hbl2, hq, f0⟩ := ri_at (k := j) (HR.out.below hb4) (by omega)
                cases hA'
                have i1 : (j : Int) ≤ (k : Int) := by omega
                have i2 : (j : Int) < (l.length : Int) := by omega
                have i0 : (0 : Int) ≤ (j : Int) := by omega
                have hbest := HBE.out j q (by omega) hq
                rcases (show (q < 1) ∨ (1 ≤ q ∧ 10000 < q) ∨ (1 ≤ q ∧ q ≤ 10000) by omega) with g | ⟨g, g2⟩ | ⟨g, g2⟩
                · clear hbest hq
                  go_wp2
                  go_roundw
                  case rel => exact ⟨j + 1, by omega, by go_num, by trivial⟩
                  case measure => simp [intOf]; omega
                · clear hbest hq
                  go_wp2
                  go_roundw
                  case rel => exact ⟨j + 1, by omega, by go_num, by trivial⟩
                  case measure => simp [intOf]; omega
                · have hbb := hbest (vp_y ⟨g, g2⟩)
                  have hcmp : q ≤ x.price ∨ x.price ≤ q := by omega
                  simp at hbb
                  clear hbest hq hcmp
                  go_wp2
                  go_roundw
                  case rel => exact ⟨j + 1, by omega, by go_num, by trivial⟩
                  case measure => simp [intOf]; omega
              · obtain rfl : j = k + 1 := by omega
                have i1 : (k : Int) < (k : Int) + 1 := by omega
                go_wp2
                go_roundw
                case rel => exact ⟨k + 1, x :: X', A1, d1, by omega, by omega, by go_num, rfl, Lib.hid ⟨HN.out, HX4.out, HCAP.out⟩, hb4⟩
                case measure => simp [intOf]; omega
        · have cC := Lib.hid (cCh.out X AX cX wr hi.out.2.1 (by unfold maxLen; omega))
          rw [sideE_iff.2 hin.ok, show errV 0 = .nilIface from rfl] at cC
          clear hin
          rcases (show k = l.length ∨ (k < l.length ∧ k = 50) by omega) with rfl | ⟨hk1, rfl⟩
          · go_wp2_with fail
            go_at_call 10
            refine cC.out.mono ?_
            rintro e w1 ⟨rfl, hb1⟩
            have hb2 := below_then hb1 hb
            go_wp2
            go_ret
            exact ⟨rfl, hb2⟩
          · have hk2 : (50 : Int) < (l.length : Int) := by omega
            go_wp2_with fail
            go_at_call 10
            refine cC.out.mono ?_
            rintro e w1 ⟨rfl, hb1⟩
            have hb2 := below_then hb1 hb
            go_wp2
            go_ret
            exact ⟨rfl, hb2⟩
theorem sideSorts_law {H : Type} {enc : TypeId × Value → H} {v0 v1 : Value} {d0 d1 : DataW H} {p0 p1 : List MemPlace} {base : Nat} {W : World}
    (h0 : Arg enc W base 3 v0 d0 p0) (h1 : Arg enc W base 43 v1 d1 p1) (hl : Laid W) :
    Calls Tryd.prog 5 #[v0, v1] W fun e w' => e = .returned (.bool true) ∧ Below W.heap.size W w' := by
  obtain ⟨s, rfl, _⟩ := h0.int
  obtain ⟨A, l, c, rfl, hll, hr⟩ := h1.ints
  exact sideSorts_any s l A c W hr hll (Lib.hid hl)
end Go.Proofs.YtbnjkcgkdpildaaDoor
