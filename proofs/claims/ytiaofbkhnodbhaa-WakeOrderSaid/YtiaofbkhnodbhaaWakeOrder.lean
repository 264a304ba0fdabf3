/- WakeOrder holds: for all arguments the law's function returns true. No condition. -/
import Derived.Test.YtiaofbkhnodbhaaWoPlain
import Derived.Test.YtiaofbkhnodbhaaGrpK
namespace Go.Proofs.Ytiaofbkhnodbhaa
set_option linter.all false
open Go Go.RowKit Go.ChangeShapes Go.WideShapes
set_option maxRecDepth 100000 in
set_option maxHeartbeats 8000000 in
theorem wakeOrder_any (xs : List Int) (A : Option Addr) (c : Nat) (w : World) (hr : RdI w w.heap.size A xs) (hm : xs.length ≤ maxLen) :
    Calls Try.prog 5 #[.slice A xs.length c] w fun e w' => e = .returned (.bool true) ∧ Below w.heap.size w w' := by
  have HR := Lib.hid hr
  unfold maxLen at hm
  clear hr
  go_enter Try.func5, Try.ntmps5
  go_wp2_with fail
  go_at_call 17
  refine (wnew_any _).mono ?_
  rintro e w1 ⟨rfl, hw1⟩
  have hb1 : Below w.heap.size w w1 := by rw [hw1]; exact (Below.refl _ _).alloc (Nat.le_refl _) _
  have hs1 : StM w1 w.heap.size w.heap.size none 0 [] := by rw [hw1]; exact StM.new w _
  have HS1 := Lib.hid hs1
  clear hw1 hs1
  go_wp2
  go_loopw [4, 5, 6] (fun n i _ wr => ∃ (k : Nat) (S : List Order) (AS : Option Addr) (cS : Nat), k ≤ xs.length ∧ k ≤ 20 ∧ i = .int .i64 k ∧ n = .int .i64 S.length ∧ Hid (WoS xs k S ∧ StM wr w.heap.size w.heap.size AS cS S) ∧ S.length ≤ 20 ∧ Below w.heap.size w wr) (fun _ i _ _ => xs.length - (intOf i).toNat)
  case atStart => exact ⟨0, [], none, 0, by omega, by omega, rfl, rfl, Lib.hid ⟨WoS.nil, HS1.out⟩, by simp, hb1⟩
  case round =>
    obtain ⟨k, S, AS, cS, hk, hk20, rfl, rfl, HS, hS20, hb⟩ := hrel
    clear HS1 hb1
    by_cases hlt : k < xs.length ∧ k < 20
    · obtain ⟨hlt1, hlt2⟩ := hlt
      obtain ⟨b, off, v, rfl, hbl, hv, e0⟩ := ri_at (HR.out.below hb) hlt1
      have hj0 : (0 : Int) ≤ (k : Int) := by omega
      have hj1 : (k : Int) < (xs.length : Int) := by omega
      have hj2 : (k : Int) < 20 := by omega
      have HV := Lib.hid hv
      clear hv
      by_cases hin : inW v = true
      · have hvb : 1 ≤ v ∧ v ≤ 5000 := of_decide_eq_true hin
        obtain ⟨hv1, hv2⟩ := hvb
        have HIN := Lib.hid hin
        have hwe := HS.out.1.wait hlt2 hin
        have ba := Bk.new wr 47 #[.int .i64 ((k : Int) + 1), .int .i64 1, .int .i64 1, .int .i64 2, .int .i64 0, .int .i64 1, .int .i64 0, .int .i64 v]
        have hba : Below wr.heap.size wr (wr.alloc (.cells #[.int .i64 ((k : Int) + 1), .int .i64 1, .int .i64 1, .int .i64 2, .int .i64 0, .int .i64 1, .int .i64 0, .int .i64 v] 47)) := (Below.refl _ _).alloc (Nat.le_refl _) _
        have hz := hb.size
        have cP := Lib.hid (wput_any S (woO k v) w.heap.size w.heap.size AS cS _ (HS.out.2.below hba) (by omega) (by have := hba.size; omega) (.inr (Nat.le_refl _)))
        replace hb := below_then hba hb
        have HWE := Lib.hid hwe
        clear hin hba hwe hz
        go_upto_region 8 with fail
        generalize wr.alloc (.cells #[.int .i64 ((k : Int) + 1), .int .i64 1, .int .i64 1, .int .i64 2, .int .i64 0, .int .i64 1, .int .i64 0, .int .i64 v] 47) = w2 at *
        obtain ⟨o0, o1, o2, o3, o4, o5, o6, o7⟩ := obox ba
        clear ba
        go_wp2_with fail
        go_at_call 18
        refine cP.out.mono ?_
        rintro e w3 ⟨rfl, A', c', hst, hkb, hrow⟩
        rw [HWE.out, show errV 0 = .nilIface from rfl]
        have hb3 : Below w.heap.size w2 w3 := hkb.out.to_below (by have := hb.size; omega) (fun j hj => by
          rcases List.mem_cons.1 hj with e | hj
          · cases e; exact Nat.le_refl _
          · rw [List.mem_singleton] at hj
            exact (HS.out.2.own.row_lt j hj.symm).1)
        have hbw : Below w.heap.size w w3 := hb.trans hb3
        have HN := Lib.hid (show WoS xs (k + 1) (S ++ [woO k v]) ∧ StM w3 w.heap.size w.heap.size A' c' (S ++ [woO k v]) from ⟨HS.out.1.add HV.out HIN.out, by have := hst.out; rwa [waitL, if_pos HWE.out] at this⟩)
        have hle := HN.out.1.few
        have hSl : (S ++ [woO k v]).length = S.length + 1 := by simp
        clear cP hst hkb hrow hb3 o0 o1 o2 o3 o4 o5 o6 o7 hb e0
        go_wp2
        go_roundw
        case rel => exact ⟨k + 1, S ++ [woO k v], A', c', by omega, by omega, by go_num, by rw [hSl]; go_num, HN, by omega, hbw⟩
        case measure => simp [intOf]; omega
      · have hin' : v < 1 ∨ 1 ≤ v ∧ 5000 < v := by
          have : ¬ (1 ≤ v ∧ v ≤ 5000) := fun h => hin (decide_eq_true h)
          omega
        have HN := Lib.hid (And.intro HS.out.1.skip HS.out.2)
        clear hin
        rcases hin' with h | ⟨h, h'⟩
        all_goals
          go_wp2
          go_roundw
          case rel => exact ⟨k + 1, S, AS, cS, by omega, by omega, by go_num, rfl, HN, hS20, hb⟩
          case measure => simp [intOf]; omega
    · have hend : ¬ (k : Int) < (xs.length : Int) ∨ (k : Int) < (xs.length : Int) ∧ ¬ (k : Int) < 20 := by omega
      have hX := HS.out.1.woken
      have hall := HS.out.1.all
      have hz := hb.size
      have cW := Lib.hid (wwake_any 5000 S w.heap.size w.heap.size AS cS wr HS.out.2 hS20 (by decide) hz)
      have hlen : (wakeL 5000 S).length = S.length := by rw [wakeL, List.length_map, isort_len, hall.1]
      have HX := Lib.hid hX; have HL2 := Lib.hid hall.2
      have hXl : (wakeL 5000 S).length ≤ 20 := by omega
      clear hX hall hlt
      rcases hend with h | ⟨h, h'⟩
      all_goals
        go_wp2_with fail
        go_at_call 19
        refine cW.out.mono ?_
        rintro e w3 ⟨AO, cO, A', c', rfl, ho, hst, hkb, hrow, hap⟩
        rw [HL2.out] at hst
        rw [← hlen]
        generalize wakeL 5000 S = X at *
        have hb3 : Below w.heap.size w w3 := hb.trans (hkb.out.to_below hz (fun j hj => by rw [List.mem_singleton] at hj; cases hj; exact Nat.le_refl _))
        have hXr := ho.out.rdO
        have cAll := Lib.hid (wall_any [] w.heap.size w.heap.size A' c' w3 hst.out (by simp))
        clear cW hkb hrow hap hst hb hz hlen ho HS
        try clear h
        try clear h'
        go_wp2_with fail
        go_at_call 20
        refine cAll.out.mono ?_
        rintro e w4 ⟨A4, c4, rfl, _, hb4⟩
        have hXr4 := (hXr.below hb4).more hb4.size
        have hb := below_then hb4 hb3
        have HXR := Lib.hid hXr4
        clear cAll hXr hXr4 hb4 hb3
        rw [show ([] : List Order).length = 0 from rfl]
        go_wp2
        go_loopw [9] (fun i wx => ∃ k : Nat, k ≤ X.length ∧ i = .int .i64 k ∧ Below w4.heap.size w4 wx) (fun i _ => X.length - (intOf i).toNat)
        case atStart => exact ⟨0, by omega, rfl, Below.refl _ _⟩
        case round =>
          obtain ⟨j, hj, rfl, hbx⟩ := hrel
          by_cases hjl : j < X.length
          · obtain ⟨b, off, o, rfl, hbl, ho, e0, _⟩ := ord_at (HXR.out.below hbx) hjl
            obtain ⟨m, v, hm, hid⟩ := HX.out.each j o ho
            have hml : m < xs.length := (List.getElem?_eq_some_iff.1 hm).1
            obtain ⟨b2, off2, v2, rfl, hbl2, hm2, x0⟩ := ri_at (HR.out.below (hb.trans (hbx.mono hb.size))) hml
            obtain rfl : v = v2 := Option.some.inj (hm.symm.trans hm2)
            rw [hid] at e0
            have j0 : (0 : Int) ≤ (j : Int) := by omega
            have j1 : (j : Int) < (X.length : Int) := by omega
            have m0 : (0 : Int) ≤ (m : Int) := by omega
            have m1 : (m : Int) < (xs.length : Int) := by omega
            have m2 : decide ((m : Int) + 1 > (xs.length : Int)) = false := decide_eq_false (by omega)
            have m3 : decide ((m : Int) + 1 < 1) = false := decide_eq_false (by omega)
            have y1 : IntKind.i64.wrap ((m : Int) + 1 - 1) = (m : Int) := by rw [show (m : Int) + 1 - 1 = (m : Int) by omega]; exact IntWalk.i64_in _ (by omega)
            have hbf : ∀ d, Below w4.heap.size w4 (wr.drewN d) := fun d => below_drewN hbx d
            have HBF := Lib.hid hbf
            clear hbf
            rcases (show j = 0 ∨ 0 < j by omega) with hj0 | hj0
            · have g0 : decide ((j : Int) > 0) = false := decide_eq_false (by omega)
              have g00 : ¬ (0 : Int) < (j : Int) := by omega
              have g01 : (j : Int) ≤ 0 := by omega
              clear hm2 hm hid ho hj0
              go_upto_region 19 with fail
              go_quiet (fail)
              go_wp2
              go_roundw
              case rel => exact ⟨j + 1, by omega, by go_num, HBF.out _⟩
              case measure => simp [intOf]; omega
            · obtain ⟨q, rfl⟩ : ∃ q, j = q + 1 := ⟨j - 1, by omega⟩
              obtain ⟨b', off', o', hA, hbl', ho', f0, _⟩ := ord_at (k := q) (HXR.out.below hbx) (by omega)
              cases hA
              obtain ⟨n, u, hn, hid'⟩ := HX.out.each q o' ho'
              have hnl : n < xs.length := (List.getElem?_eq_some_iff.1 hn).1
              obtain ⟨b3, off3, u2, hA2, hbl3, hn2, z0⟩ := ri_at (k := n) (HR.out.below (hb.trans (hbx.mono hb.size))) hnl
              cases hA2
              obtain rfl : u = u2 := Option.some.inj (hn.symm.trans hn2)
              rw [hid'] at f0
              have hst := HX.out.step q o' o n m u v ho' ho hid' hid hn hm
              have n0 : (0 : Int) ≤ (n : Int) := by omega
              have n1 : (n : Int) < (xs.length : Int) := by omega
              have n2 : decide ((n : Int) + 1 > (xs.length : Int)) = false := decide_eq_false (by omega)
              have n3 : decide ((n : Int) + 1 < 1) = false := decide_eq_false (by omega)
              have x1 : IntKind.i64.wrap (((q + 1 : Nat) : Int) - 1) = (q : Int) := by rw [show ((q + 1 : Nat) : Int) - 1 = (q : Int) by omega]; exact IntWalk.i64_in _ (by omega)
              have y2 : IntKind.i64.wrap ((n : Int) + 1 - 1) = (n : Int) := by rw [show (n : Int) + 1 - 1 = (n : Int) by omega]; exact IntWalk.i64_in _ (by omega)
              have q0 : (0 : Int) ≤ (q : Int) := by omega
              have q1 : (q : Int) < (X.length : Int) := by omega
              have g0 : decide (((q + 1 : Nat) : Int) > 0) = true := decide_eq_true (by omega)
              have g1 : decide (u > v) = false := decide_eq_false (by omega)
              clear hm2 hm hid ho hj0 hid' hn hn2 ho'
              rcases (show u ≠ v ∨ u = v ∧ n < m by omega) with hne | ⟨heq, hnm⟩
              · have g2 : (u == v) = false := by simpa using hne
                clear hst hne
                go_upto_region 19 with fail
                go_quiet (fail)
                go_wp2
                go_roundw
                case rel => exact ⟨q + 1 + 1, by omega, by go_num, HBF.out _⟩
                case measure => simp [intOf]; omega
              · have g2 : (u == v) = true := by simpa using heq
                have g3 : decide ((n : Int) + 1 > (m : Int) + 1) = false := decide_eq_false (by omega)
                clear hst heq
                go_upto_region 19 with fail
                go_quiet (fail)
                go_wp2
                go_roundw
                case rel => exact ⟨q + 1 + 1, by omega, by go_num, HBF.out _⟩
                case measure => simp [intOf]; omega
          · have hje : j = X.length := by omega
            subst j
            go_wp2
            go_ret
            exact ⟨rfl, hb.trans (hbx.mono hb.size)⟩
theorem wakeOrder_law {H : Type} {enc : TypeId × Value → H} {v0 : Value} {d0 : DataW H} {p0 : List MemPlace} {base : Nat} {W : World}
    (h0 : Arg enc W base 50 v0 d0 p0) :
    Calls Try.prog 5 #[v0] W fun e w' => e = .returned (.bool true) ∧ Below W.heap.size W w' := by
  obtain ⟨A, l, c, rfl, hll, hr⟩ := h0.ints
  exact wakeOrder_any l A c W hr hll
end Go.Proofs.Ytiaofbkhnodbhaa
