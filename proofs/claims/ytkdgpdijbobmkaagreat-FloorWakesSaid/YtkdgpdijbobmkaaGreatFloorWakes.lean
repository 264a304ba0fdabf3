/- The walk of FloorWakes. -/
import Derived.Test.YtkdgpdijbobmkaaGreatFwPlain
import Derived.Test.YtkdgpdijbobmkaaGreatFloorPays
import Derived.Deep.LoopGhost
namespace Go.Proofs.YtkdgpdijbobmkaaGreat
set_option linter.all false
open Go Go.RowKit
set_option maxRecDepth 100000 in
set_option maxHeartbeats 8000000 in
theorem fw_wakes {n : Nat} (h1 : 1 ≤ n) (h2 : n ≤ 18) (w : World) : Calls Tryz.prog 4 #[.int .i64 n] w fun e w' => e = .returned (.bool true) ∧ Below w.heap.size w w' := by
  have CR := Lib.hid (rich_any 0 (by decide) w)
  have CL := Lib.hid (fun (i : Nat) w => lim4_any ((i : Int) + 1) 1 2 (100 + (i : Int)) 1 w)
  have g1 : (1 : Int) ≤ (n : Int) := by omega
  have g2 : (n : Int) ≤ 18 := by omega
  go_enter Tryz.func4, Tryz.ntmps4
  go_upto_region 6 with (go_at_call 10; refine CR.out.mono ?_; rintro e w1 ⟨g, rfl, hg, H1, hb1⟩)
  clear CR
  go_wp2
  go_loopw [5] (fun i wr => ∃ k : Nat, k ≤ n + 1 ∧ i = .int .i64 k ∧ Hid (FlM wr (fun k => k = g) g (fwA k)) ∧ Below w.heap.size w wr) (fun i _ => n + 1 - (intOf i).toNat)
  case atStart => exact ⟨0, by omega, rfl, H1, hb1⟩
  case round =>
    obtain ⟨k, hk, rfl, HF, hb⟩ := hrel
    clear H1 hb1
    by_cases hlt : k ≤ n
    · have hk2 : (k : Int) ≤ (n : Int) := by omega
      have C1 := Lib.hid (fun (w' : World) (h : FlM w' (fun k => k = g) g (fwA k)) => fldo_zero (fw_one (i := k) (by omega)) (fwA_ok k) w' h)
      have CL1 := Lib.hid (CL.out k)
      go_wp2_with (first | (go_at_call 12; (with_reducible refine (CL1.out _).mono ?_); rintro e w2 ⟨rfl, hb2⟩; have H2 := Lib.hid (HF.out.below hb2)) | (go_at_call 11; (with_reducible refine (C1.out _ H2.out).mono ?_); rintro e w3 ⟨A3, c3, rfl, H3, _, g3⟩))
      go_roundw
      case rel => exact ⟨k + 1, by omega, by go_num, H3, grown_below (below_then hb2 hb) g3 hg⟩
      case measure => simp [intOf]; omega
    · obtain rfl : k = n + 1 := by omega
      have HF2 := Lib.hid (show FlM wr (fun k => k = g) g (fwB n 0) from HF.out)
      have HB := Lib.hid hb
      clear HF CL hb
      go_wp2
      go_loopw [8] (fun i wr => ∃ k : Nat, k ≤ n ∧ i = .int .i64 k ∧ Hid (FlM wr (fun k => k = g) g (fwB n k)) ∧ Below w.heap.size w wr) (fun i _ => n - (intOf i).toNat)
      case atStart => exact ⟨0, by omega, rfl, HF2, HB.out⟩
      case round =>
        obtain ⟨k, hk, rfl, HF, hb⟩ := hrel
        clear HF2 HB
        by_cases hlt : k < n
        · --<stop
          have hk2 : (k : Int) < (n : Int) := by omega
          obtain ⟨e1, ev, e2, e3⟩ := fw_two (i := k) h2 hlt
          have c1 := fun (w' : World) (h : FlM w' (fun k => k = g) g (fwB n k)) => fldo_zero e1 (fwB_ok n k) w' h
          rw [e2] at c1
          have C1 := Lib.hid c1
          have HE := Lib.hid e3
          clear e1 e2 e3 c1
          go_upto_region 16 with (go_at_call 11; (with_reducible refine (C1.out _ HF.out).mono ?_); rintro e w3 ⟨A3, c3, rfl, H3, O3, g3⟩)
          obtain ⟨gv, off, ev', rfl, _, _, hev, v0, _⟩ := ev_at (k := 0) (l := [ev]) O3.out (by simp)
          obtain rfl : ev = ev' := by simpa using hev
          rw [show off + 0 * 10 = off by omega, HE.out] at v0
          have HB3 := Lib.hid (grown_below hb g3 hg)
          clear hev O3 g3 C1 hb HF
          go_wp2
          constructor
          · repeat apply Exists.intro
            refine ⟨?rel, rfl⟩
            case rel => exact ⟨k + 1, by omega, by go_num, H3, HB3.out⟩
          · simp [intOf]; omega
          -->stop
        · --<last
          obtain rfl : k = n := by omega
          obtain ⟨e1, e2, e3, e4, e5⟩ := fw_three (n := k) h2 h1
          have C1 := Lib.hid (fun (w' : World) (h : FlM w' (fun k => k = g) g (fwB k k)) => fldo_zero e1 (fwB_ok k k) w' h)
          have HC4 := Lib.hid e2; have HC2 := Lib.hid e3; have HST := Lib.hid e4; have HLA := Lib.hid e5
          have HOK := Lib.hid ((fwB_ok k k).do fwLast)
          clear e1 e2 e3 e4 e5 hlt
          obtain ⟨f9, hf9⟩ : ∃ f, f = (fwB k k).doS fwLast := ⟨_, rfl⟩
          rw [← hf9] at C1 HST HLA HOK
          have hEl := FS.doV_len (fwB_ok k k) fwLast
          obtain ⟨E, hE⟩ : ∃ E, E = (fwB k k).doV fwLast := ⟨_, rfl⟩
          rw [← hE] at C1 HC4 HC2 hEl
          clear hf9 hE
          go_upto_region 24 with (go_at_call 11; (with_reducible refine (C1.out _ HF.out).mono ?_); rintro e w3 ⟨A3, c3, rfl, H3, O3, g3⟩)
          have HB3 := Lib.hid (grown_below hb g3 hg)
          have CS := fstops_any f9 _ g w3 H3.out (by rw [HST.out]; simp)
          unfold AllPost at CS
          rw [HST.out] at CS
          have HCS := Lib.hid (show Calls Tryz.prog 15 #[.pointer (some ⟨g, 0, none⟩)] w3 fun e w' => ∃ A c, e = .returned (.slice A 0 c) ∧ OwnS w' w3.heap.size 8 A 0 c [] ∧ Below w3.heap.size w3 w' from CS)
          have CLA := Lib.hid (fun (w' : World) (hb : Below w3.heap.size w3 w') => flast_any f9 _ g w' (H3.out.below hb))
          rw [HLA.out] at CLA
          clear CS C1 hb g3 HF HST HLA HOK
          go_wp2
          go_loopw [13, 14, 15] (fun a b i wr => ∃ j : Nat, j ≤ E.length ∧ i = .int .i64 j ∧ a = .int .i64 ((E.take j).countP (fun e => e.what == 4)) ∧ b = .int .i64 ((E.take j).countP (fun e => e.what == 2)) ∧ wr = w3) (fun _ _ i _ => E.length - (intOf i).toNat)
          case atStart => exact ⟨0, by omega, rfl, rfl, rfl, rfl⟩
          case round =>
            obtain ⟨j, hj, rfl, rfl, rfl, rfl⟩ := hrel
            by_cases hlj : j < E.length
            · --<count
              obtain ⟨gv, off, ev, hA, _, _, hev, v0, _⟩ := ev_at (k := j) O3.out hlj
              subst hA
              have j0 : (0 : Int) ≤ (j : Int) := by omega
              have j1 : (j : Int) < (E.length : Int) := by omega
              have e4 : (E.take (j + 1)).countP (fun e => e.what == 4) = (E.take j).countP (fun e => e.what == 4) + if ev.what == 4 then 1 else 0 := by rw [List.take_add_one, hev]; simp [List.countP_append, List.countP_cons]
              have e2 : (E.take (j + 1)).countP (fun e => e.what == 2) = (E.take j).countP (fun e => e.what == 2) + if ev.what == 2 then 1 else 0 := by rw [List.take_add_one, hev]; simp [List.countP_append, List.countP_cons]
              have b4 := Nat.le_trans (List.countP_le_length (l := E.take j) (p := fun e => e.what == 4)) (List.length_take_le j E)
              have b2 := Nat.le_trans (List.countP_le_length (l := E.take j) (p := fun e => e.what == 2)) (List.length_take_le j E)
              have HE4 := Lib.hid e4; have HE2 := Lib.hid e2
              clear e4 e2 hev
              generalize (E.take j).countP (fun e => e.what == 4) = x4 at *
              generalize (E.take j).countP (fun e => e.what == 2) = x2 at *
              rcases (show ev.what = 4 ∨ ev.what = 2 ∨ (ev.what ≠ 4 ∧ ev.what ≠ 2) by omega) with hw | hw | hw
              · rw [hw] at v0
                have HW := Lib.hid hw
                clear hw
                go_wp2
                constructor
                · exact ⟨j + 1, by omega, by go_num, by rw [HE4.out, HW.out]; go_num, by rw [HE2.out, HW.out]; rfl, trivial⟩
                · simp [intOf]; omega
              · rw [hw] at v0
                have HW := Lib.hid hw
                clear hw
                go_wp2
                constructor
                · exact ⟨j + 1, by omega, by go_num, by rw [HE4.out, HW.out]; rfl, by rw [HE2.out, HW.out]; go_num, trivial⟩
                · simp [intOf]; omega
              · have w4 : (ev.what == 4) = false := by simpa using hw.1
                have w2 : (ev.what == 2) = false := by simpa using hw.2
                rw [w4] at HE4
                rw [w2] at HE2
                clear hw
                go_wp2
                constructor
                · exact ⟨j + 1, by omega, by go_num, by rw [HE4.out]; rfl, by rw [HE2.out]; rfl, trivial⟩
                · simp [intOf]; omega
              -->count
            · --<end
              obtain rfl : j = E.length := by omega
              rw [List.take_length, HC4.out, HC2.out]
              clear HC4 HC2 hj hlj
              go_wp2_with (first | (go_at_call 15; (with_reducible refine HCS.out.mono ?_); rintro e w4 ⟨A4, c4, rfl, _, hb4⟩) | (go_at_call 14; (with_reducible refine (CLA.out _ hb4).mono ?_); rintro e w5 ⟨rfl, rfl⟩))
              go_ret
              exact ⟨rfl, below_then hb4 HB3.out⟩
              -->end
          -->last
theorem floorWakes_law {H : Type} {enc : TypeId × Value → H} {v0 : Value} {d0 : DataW H} {p0 : List MemPlace} {base : Nat} {W : World}
    (h0 : Arg enc W base 3 v0 d0 p0) :
    Calls Tryz.prog 4 #[v0] W fun e w' => e = .returned (.bool true) ∧ Below W.heap.size W w' := by
  obtain ⟨n, rfl, _⟩ := h0.int
  clear h0
  rcases (show n < 1 ∨ (1 ≤ n ∧ 18 < n) ∨ (1 ≤ n ∧ n ≤ 18) by omega) with h | ⟨a, h⟩ | ⟨a, h⟩
  case inr.inr =>
    obtain ⟨k, rfl⟩ : ∃ k : Nat, n = k := ⟨n.toNat, by omega⟩
    exact fw_wakes (by omega) (by omega) W
  all_goals
    have CR := Lib.hid (rich_any 0 (by decide) W)
    go_enter Tryz.func4, Tryz.ntmps4
    go_wp2_with (go_at_call 10; refine CR.out.mono ?_; rintro e w1 ⟨g, rfl, hg, H1, hb1⟩)
    go_ret
    exact ⟨rfl, hb1⟩
end Go.Proofs.YtkdgpdijbobmkaaGreat
