/- The reference's Wake. -/
import Derived.Test.YtiaofbkhnodbhaaDoorSelW
import Derived.Test.YtiaofbkhnodbhaaDoorROff
import Derived.Deep.QuietTactic
import Derived.BigQuiet
namespace Go.Proofs.YtiaofbkhnodbhaaDoor
set_option linter.all false
open Go Go.RowKit
theorem rahd_any (d a b : Int) (w : World) : Calls Tryd.prog 45 #[.int .i64 d, .int .i64 a, .int .i64 b] w fun e w' => e = .returned (.bool (decide (d = 1 ∧ a < b ∨ d = 2 ∧ b < a))) ∧ w' = w := by
  have ways : (d = 1 ∧ a < b) ∨ (d = 1 ∧ ¬ a < b) ∨ (d = 2 ∧ b < a) ∨ (d = 2 ∧ ¬ b < a) ∨ (d ≠ 1 ∧ d ≠ 2) := by omega
  rcases ways with ⟨rfl, h⟩ | ⟨rfl, h⟩ | ⟨rfl, h⟩ | ⟨rfl, h⟩ | ⟨h, h'⟩
  · have e : decide ((1 : Int) = 1 ∧ a < b ∨ (1 : Int) = 2 ∧ b < a) = true := decide_eq_true (by omega)
    rw [e]; clear e
    go_enter Tryd.func45, Tryd.ntmps45
    go_wp2
    go_ret
    exact ⟨rfl, rfl⟩
  · have e : decide ((1 : Int) = 1 ∧ a < b ∨ (1 : Int) = 2 ∧ b < a) = false := decide_eq_false (by omega)
    rw [e]; clear e
    go_enter Tryd.func45, Tryd.ntmps45
    go_wp2
    go_ret
    exact ⟨rfl, rfl⟩
  · have e : decide ((2 : Int) = 1 ∧ a < b ∨ (2 : Int) = 2 ∧ b < a) = true := decide_eq_true (by omega)
    rw [e]; clear e
    go_enter Tryd.func45, Tryd.ntmps45
    go_wp2
    go_ret
    exact ⟨rfl, rfl⟩
  · have e : decide ((2 : Int) = 1 ∧ a < b ∨ (2 : Int) = 2 ∧ b < a) = false := decide_eq_false (by omega)
    rw [e]; clear e
    go_enter Tryd.func45, Tryd.ntmps45
    go_wp2
    go_ret
    exact ⟨rfl, rfl⟩
  · have e : decide (d = 1 ∧ a < b ∨ d = 2 ∧ b < a) = false := decide_eq_false (by omega)
    have e1 : (d == 1) = false := by simpa using h
    have e2 : (d == 2) = false := by simpa using h'
    rw [e]; clear e h h'
    go_enter Tryd.func45, Tryd.ntmps45
    go_wp2
    go_ret
    exact ⟨rfl, rfl⟩
theorem Rd.rowO {w w' : World} {n s b off : Nat} {c : Nat → Nat → Value} {row : Option Nat} (h : Rd w w.heap.size (some ⟨b, off, none⟩) n s c) (hg : w.grownBy w' row) (hn : some b ≠ row) : Rd w' w'.heap.size (some ⟨b, off, none⟩) n s c := fun h0 => by
  obtain ⟨b', off', e, hb, hc⟩ := h h0
  cases e
  exact ⟨b, off, rfl, Nat.lt_of_lt_of_le hb hg.size, fun i hi j hj => (World.cell?_of_block (a := ⟨b, _, none⟩) (hg.block b hb hn)).trans (hc i hi j hj)⟩
/-- how Wake ends -/
def RWakePost (p : Int) (l : List Order) (A : Option Addr) (w : World) (e : Ending) (w' : World) : Prop :=
  ∃ AO cO AL cL, e = .returned (.tuple #[.slice AO (wakeL p l).length cO, .slice AL (leftS p l).length cL]) ∧ Hid (Rd w' w'.heap.size AO (wakeL p l).length 8 (ocell (wakeL p l)) ∧ Rd w' w'.heap.size AL (leftS p l).length 8 (ocell (leftS p l)) ∧ (leftS p l).length ≤ cL ∧ cL ≤ maxLen ∧ (0 < (wakeL p l).length → ∀ (b off : Nat), AO = some ⟨b, off, none⟩ → w.heap.size ≤ b) ∧ (0 < (leftS p l).length → AL = A ∨ ∀ (b off : Nat), AL = some ⟨b, off, none⟩ → w.heap.size ≤ b)) ∧ Below w.heap.size w w'
set_option maxRecDepth 100000 in
set_option maxHeartbeats 8000000 in
theorem rwake_any (p : Int) (l : List Order) (A : Option Addr) (c : Nat) (w : World) (hr : Rd w w.heap.size A l.length 8 (ocell l)) (hc : l.length ≤ c ∧ c ≤ maxLen) (hl : l.length ≤ 20) (hs : ∀ o ∈ l, o.side = 1 ∨ o.side = 2) :
    Calls Tryd.prog 26 #[.slice A l.length c, .int .i64 p] w (RWakePost p l A w) := by
  have HR := Lib.hid hr; have HC := Lib.hid hc; have HS := Lib.hid hs
  have cA := Lib.hid (fun d a b w => rahd_any d a b w)
  obtain ⟨i0, hi0, hz0, hz1, hz2⟩ := info_parts info_ord
  have HI := Lib.hid hi0; have H0 := Lib.hid hz0; have H1 := Lib.hid hz1; have H2 := Lib.hid hz2
  clear hr hc hs hi0 hz0 hz1 hz2
  go_enter Tryd.func26, Tryd.ntmps26
  go_wp2
  go_loopw [0, 6, 7, 8, 9, 10] (fun m0 ot _ _ _ _ wr => ∃ (m : List Order) (AM : Option Addr) (cM : Nat) (q : List Order) (AO : Option Addr) (cO : Nat), m0 = .slice AM m.length cM ∧ ot = .slice AO q.length cO ∧ m.length ≤ 20 ∧ q.length + m.length = l.length ∧
      Hid (Rd wr wr.heap.size AM m.length 8 (ocell m) ∧ (m.length ≤ cM ∧ cM ≤ maxLen) ∧ OwnS wr w.heap.size 8 AO q.length cO (ords q) ∧ wakeL p l = q ++ wakeL p m ∧ leftS p m = leftS p l ∧ (∀ o ∈ m, o.side = 1 ∨ o.side = 2) ∧ (0 < m.length → ∀ (b off : Nat), AM = some ⟨b, off, none⟩ → some b ≠ rowOf AO cO) ∧ (0 < m.length → AM = A ∨ ∀ (b off : Nat), AM = some ⟨b, off, none⟩ → w.heap.size ≤ b)) ∧ Below w.heap.size w wr) (fun m0 _ _ _ _ _ _ => (match m0 with | .slice _ n _ => n | _ => 0))
  case atStart => exact ⟨l, A, c, [], none, 0, rfl, rfl, hl, by simp, Lib.hid ⟨HR.out, HC.out, OwnS.nil _ _ _ _, rfl, rfl, HS.out, (fun _ b off _ => by simp [rowOf]), fun _ => .inl rfl⟩, Below.refl _ _⟩
  case round =>
    obtain ⟨m, AM, cM, q, AO, cO, rfl, rfl, hm, hqm, HM, hb⟩ := hrel
    obtain ⟨wo, rfl⟩ : ∃ z : World, z = wr := ⟨_, rfl⟩
    clear HR HC HS
    go_wp2
    go_loopw [7, 8, 9] (fun bt i _ wx => ∃ k : Nat, k ≤ m.length ∧ i = .int .i64 k ∧ ((bt = .int .i64 (-1) ∧ Hid (NoneW p m k)) ∨ ∃ (b : Nat) (o : Order), bt = .int .i64 b ∧ b < k ∧ Hid (Fst p m k b o)) ∧ Below wo.heap.size wo wx) (fun _ i _ _ => m.length - (intOf i).toNat)
    case atStart => exact ⟨0, by omega, rfl, .inl ⟨by go_num, Lib.hid NoneW.zero⟩, Below.refl _ _⟩
    case round =>
      obtain ⟨k, hk, rfl, hbt, hbx⟩ := hrel
      by_cases hlt : k < m.length
      · --<in
        have hRm := (HM.out.1.below hbx)
        obtain ⟨b0, off, x, rfl, hbl, hx, e0, e1, e2, e3, e4, e5, e6, e7⟩ := ord_at hRm hlt
        have hside := HM.out.2.2.2.2.2.1 x (List.mem_of_getElem? hx)
        have j0 : (0 : Int) ≤ (k : Int) := by omega
        have j1 : (k : Int) < (m.length : Int) := by omega
        have HX := Lib.hid hx
        have bx := Bk.new wr 58 #[.int .i64 x.id, .int .i64 x.who, .int .i64 x.side, .int .i64 x.kind, .int .i64 x.price, .int .i64 x.qty, .int .i64 x.show_, .int .i64 x.stop]
        have hbn : Below wo.heap.size wo (wr.alloc (.cells #[.int .i64 x.id, .int .i64 x.who, .int .i64 x.side, .int .i64 x.kind, .int .i64 x.price, .int .i64 x.qty, .int .i64 x.show_, .int .i64 x.stop] 58)) := hbx.alloc hbx.size _
        clear hx hRm
        go_upto_region 7 with fail
        generalize wr.alloc (.cells #[.int .i64 x.id, .int .i64 x.who, .int .i64 x.side, .int .i64 x.kind, .int .i64 x.price, .int .i64 x.qty, .int .i64 x.show_, .int .i64 x.stop] 58) = w2 at *
        obtain ⟨x0, x1, x2, x3, x4, x5, x6, x7⟩ := obox bx
        clear e0 e1 e2 e3 e4 e5 e6 e7 hbx bx
        rcases (show wakesB p x = true ∨ wakesB p x = false by cases wakesB p x <;> simp) with hw | hw
        · have HW := Lib.hid hw
          have ways : (x.side = 1 ∧ ¬ p < x.stop) ∨ (x.side = 2 ∧ ¬ x.stop < p) := by
            unfold wakesB ahd' at hw
            simp only [Bool.or_eq_true, decide_eq_true_eq] at hw
            rcases hside with h | h
            · left; refine ⟨h, ?_⟩; rw [if_pos h] at hw; simp at hw; omega
            · right; refine ⟨h, ?_⟩; rw [if_neg (by omega)] at hw; simp at hw; omega
          have hnosk : Hid (wakesB p x = true) := HW
          clear hw
          rcases hbt with ⟨rfl, HN⟩ | ⟨b, o, rfl, hbk, HF⟩
          · have HNX := Lib.hid (HN.out.first HX.out HW.out)
            have HBN := Lib.hid (fun d => below_drewN hbn d)
            have d0 : decide ((-1 : Int) < 0) = true := by decide
            rcases ways with ⟨h1, h2⟩ | ⟨h1, h2⟩
            · have s1 : (x.side == 1) = true := by simpa using h1
              have s2 : (x.side == 2) = false := by simp [h1]
              have s3 : decide (x.stop > p) = false := decide_eq_false (by omega)
              clear h1
              go_upto_region 8 with fail
              go_quiet (fail)
              go_wp2
              go_roundw
              case rel => exact ⟨k + 1, by omega, by go_num, .inr ⟨k, x, rfl, by omega, HNX⟩, HBN.out _⟩
              case measure => simp [intOf]; omega
            · have s1 : (x.side == 1) = false := by simp [h1]
              have s2 : (x.side == 2) = true := by simpa using h1
              have s3 : decide (x.stop < p) = false := decide_eq_false (by omega)
              clear h1
              go_upto_region 8 with fail
              go_quiet (fail)
              go_wp2
              go_roundw
              case rel => exact ⟨k + 1, by omega, by go_num, .inr ⟨k, x, rfl, by omega, HNX⟩, HBN.out _⟩
              case measure => simp [intOf]; omega
          · obtain ⟨b1, off1, o', hA, hbl1, ho, f0, f1, f2, f3, f4, f5, f6, f7⟩ := ord_at (k := b) (HM.out.1.below hbn) (by omega)
            cases hA
            obtain rfl : o = o' := Option.some.inj (HF.out.at_.symm.trans ho)
            have hso := HM.out.2.2.2.2.2.1 o (List.mem_of_getElem? ho)
            have q0 : (0 : Int) ≤ (b : Int) := by omega
            have q1 : (b : Int) < (m.length : Int) := by omega
            have d0 : decide ((b : Int) < 0) = false := decide_eq_false (by omega)
            have HBN := Lib.hid (fun d => below_drewN hbn d)
            have HLT := Lib.hid (wcf_lt x o)
            have HNX := Lib.hid (fun h => HF.out.next HX.out HW.out h)
            have HST := Lib.hid (fun h => HF.out.stays HX.out h)
            have four : (x.side < o.side) ∨ (¬ x.side < o.side ∧ x.side = o.side ∧ (x.side = 1 ∧ x.stop < o.stop ∨ x.side = 2 ∧ o.stop < x.stop)) ∨ (¬ x.side < o.side ∧ x.side = o.side ∧ ¬ (x.side = 1 ∧ x.stop < o.stop ∨ x.side = 2 ∧ o.stop < x.stop)) ∨ (¬ x.side < o.side ∧ x.side ≠ o.side) := by omega
            clear ho f0 f1 f3 f4 f5 f6
            rcases four with h | ⟨h, h', h''⟩ | ⟨h, h', h''⟩ | ⟨h, h'⟩
            · have HL := Lib.hid (show ltOf wcf x o = true by rw [HLT.out]; exact decide_eq_true (.inl h))
              have g1 : decide (x.side < o.side) = true := decide_eq_true h
              ((rcases ways with ⟨k1, k2⟩ | ⟨k1, k2⟩); (have s1 : (x.side == 1) = true := by simpa using k1); (have s2 : (x.side == 2) = false := by simp [k1]); (have s3 : decide (x.stop > p) = false := decide_eq_false (by omega)); clear k1; go_upto_region 8 with fail; go_quiet ((go_at_call 45; exact Calls.quiet_of_same (cX _))); go_wp2; go_roundw; (case rel => exact ⟨k + 1, by omega, by go_num, .inr ⟨k, x, rfl, by omega, Lib.hid (HNX.out HL.out)⟩, HBN.out _⟩); (case measure => simp [intOf]; omega); (exfalso; omega))
            · have HL := Lib.hid (show ltOf wcf x o = true by rw [HLT.out]; exact decide_eq_true (by omega))
              have g1 : decide (x.side < o.side) = false := decide_eq_false h
              have g2 : (x.side == o.side) = true := by simpa using h'
              have cX := cA.out x.side x.stop o.stop
              rw [decide_eq_true h''] at cX
              clear h h' h''
              ((rcases ways with ⟨k1, k2⟩ | ⟨k1, k2⟩); (have s1 : (x.side == 1) = true := by simpa using k1); (have s2 : (x.side == 2) = false := by simp [k1]); (have s3 : decide (x.stop > p) = false := decide_eq_false (by omega)); clear k1; go_upto_region 8 with fail; go_quiet ((go_at_call 45; exact Calls.quiet_of_same (cX _))); go_wp2; go_roundw; (case rel => exact ⟨k + 1, by omega, by go_num, .inr ⟨k, x, rfl, by omega, Lib.hid (HNX.out HL.out)⟩, HBN.out _⟩); (case measure => simp [intOf]; omega); (have s1 : (x.side == 1) = false := by simp [k1]); (have s2 : (x.side == 2) = true := by simpa using k1); (have s3 : decide (x.stop < p) = false := decide_eq_false (by omega)); clear k1; go_upto_region 8 with fail; go_quiet ((go_at_call 45; exact Calls.quiet_of_same (cX _))); go_wp2; go_roundw; (case rel => exact ⟨k + 1, by omega, by go_num, .inr ⟨k, x, rfl, by omega, Lib.hid (HNX.out HL.out)⟩, HBN.out _⟩); (case measure => simp [intOf]; omega))
            · have HL := Lib.hid (show ltOf wcf x o = false by rw [HLT.out]; exact decide_eq_false (by omega))
              have g1 : decide (x.side < o.side) = false := decide_eq_false h
              have g2 : (x.side == o.side) = true := by simpa using h'
              have cX := cA.out x.side x.stop o.stop
              rw [decide_eq_false h''] at cX
              clear h h' h''
              ((rcases ways with ⟨k1, k2⟩ | ⟨k1, k2⟩); (have s1 : (x.side == 1) = true := by simpa using k1); (have s2 : (x.side == 2) = false := by simp [k1]); (have s3 : decide (x.stop > p) = false := decide_eq_false (by omega)); clear k1; go_upto_region 8 with fail; go_quiet ((go_at_call 45; exact Calls.quiet_of_same (cX _))); go_wp2; go_roundw; (case rel => exact ⟨k + 1, by omega, by go_num, .inr ⟨b, o, rfl, by omega, Lib.hid (HST.out HL.out)⟩, HBN.out _⟩); (case measure => simp [intOf]; omega); (have s1 : (x.side == 1) = false := by simp [k1]); (have s2 : (x.side == 2) = true := by simpa using k1); (have s3 : decide (x.stop < p) = false := decide_eq_false (by omega)); clear k1; go_upto_region 8 with fail; go_quiet ((go_at_call 45; exact Calls.quiet_of_same (cX _))); go_wp2; go_roundw; (case rel => exact ⟨k + 1, by omega, by go_num, .inr ⟨b, o, rfl, by omega, Lib.hid (HST.out HL.out)⟩, HBN.out _⟩); (case measure => simp [intOf]; omega))
            · have HL := Lib.hid (show ltOf wcf x o = false by rw [HLT.out]; exact decide_eq_false (by omega))
              have g1 : decide (x.side < o.side) = false := decide_eq_false h
              have g2 : (x.side == o.side) = false := by simpa using h'
              clear h h'
              ((rcases ways with ⟨k1, k2⟩ | ⟨k1, k2⟩); (have s1 : (x.side == 1) = true := by simpa using k1); (have s2 : (x.side == 2) = false := by simp [k1]); (have s3 : decide (x.stop > p) = false := decide_eq_false (by omega)); clear k1; go_upto_region 8 with fail; go_quiet ((go_at_call 45; exact Calls.quiet_of_same (cX _))); go_wp2; go_roundw; (case rel => exact ⟨k + 1, by omega, by go_num, .inr ⟨b, o, rfl, by omega, Lib.hid (HST.out HL.out)⟩, HBN.out _⟩); (case measure => simp [intOf]; omega); (have s1 : (x.side == 1) = false := by simp [k1]); (have s2 : (x.side == 2) = true := by simpa using k1); (have s3 : decide (x.stop < p) = false := decide_eq_false (by omega)); clear k1; go_upto_region 8 with fail; go_quiet ((go_at_call 45; exact Calls.quiet_of_same (cX _))); go_wp2; go_roundw; (case rel => exact ⟨k + 1, by omega, by go_num, .inr ⟨b, o, rfl, by omega, Lib.hid (HST.out HL.out)⟩, HBN.out _⟩); (case measure => simp [intOf]; omega))
        · have HW := Lib.hid hw
          have ways : (x.side = 1 ∧ p < x.stop) ∨ (x.side = 2 ∧ x.stop < p) := by
            unfold wakesB ahd' at hw
            simp only [Bool.or_eq_false_iff, decide_eq_false_iff_not] at hw
            rcases hside with h | h
            · left; refine ⟨h, ?_⟩; rw [if_pos h] at hw; simp at hw; omega
            · right; refine ⟨h, ?_⟩; rw [if_neg (by omega)] at hw; simp at hw; omega
          have HNX : Hid ((∀ v : Value, (v = .int .i64 (-1) ∧ Hid (NoneW p m k)) ∨ (∃ (b : Nat) (o : Order), v = .int .i64 b ∧ b < k ∧ Hid (Fst p m k b o)) → (v = .int .i64 (-1) ∧ Hid (NoneW p m (k + 1))) ∨ ∃ (b : Nat) (o : Order), v = .int .i64 b ∧ b < k + 1 ∧ Hid (Fst p m (k + 1) b o))) := Lib.hid (fun v h => by
            rcases h with ⟨rfl, h⟩ | ⟨b, o, rfl, h1, h2⟩
            · exact .inl ⟨rfl, Lib.hid (h.out.next HX.out HW.out)⟩
            · exact .inr ⟨b, o, rfl, by omega, Lib.hid (h2.out.skip HX.out HW.out)⟩)
          have HBT := Lib.hid (HNX.out _ hbt)
          clear hw hbt
          rcases ways with ⟨h1, h2⟩ | ⟨h1, h2⟩
          · have s1 : (x.side == 1) = true := by simpa using h1
            clear h1
            go_wp2
            go_roundw
            case rel => exact ⟨k + 1, by omega, by go_num, HBT.out, hbn⟩
            case measure => simp [intOf]; omega
          · have s1 : (x.side == 1) = false := by simp [h1]
            have s2 : (x.side == 2) = true := by simpa using h1
            clear h1
            go_wp2
            go_roundw
            case rel => exact ⟨k + 1, by omega, by go_num, HBT.out, hbn⟩
            case measure => simp [intOf]; omega
        -->in
      · have hke : k = m.length := by omega
        subst k
        rcases hbt with ⟨rfl, HN⟩ | ⟨b, o, rfl, hbk, HF⟩
        · have hd := HN.out.done
          have hw : wakeL p l = q := by rw [HM.out.2.2.2.1, hd.1, List.append_nil]
          have hf : leftS p l = m := by rw [← HM.out.2.2.2.2.1, hd.2]
          have HEND := Lib.hid (show RWakePost p l A w (.returned (.tuple #[.slice AO q.length cO, .slice AM m.length cM])) wr from ⟨AO, cO, AM, cM, by rw [hw, hf], Lib.hid (by rw [hw, hf]; exact ⟨((HM.out.2.2.1.below hbx).rdO), (HM.out.1.below hbx).more hbx.size, HM.out.2.1.1, HM.out.2.1.2, (fun h0 b off e => by obtain ⟨g', o', e2, hg', _⟩ := HM.out.2.2.1.cell h0; rw [e] at e2; cases e2; exact hg'), HM.out.2.2.2.2.2.2.2⟩), below_then hbx hb⟩)
          clear hd hw hf
          go_wp2
          go_ret2
          exact HEND.out
        · have hd := HF.out.done
          have hbl2 : b < m.length := hbk
          obtain ⟨b1, off1, o', rfl, hbl1, ho, e0, e1, e2, e3, e4, e5, e6, e7⟩ := ord_at (HM.out.1.below hbx) hbl2
          obtain rfl : o = o' := Option.some.inj (HF.out.at_.symm.trans ho)
          have q0 : (0 : Int) ≤ (b : Int) := by omega
          have q1 : (b : Int) < (m.length : Int) := by omega
          have q2 : ¬ (b : Int) < 0 := by omega
          have HRR := Lib.hid (show ∃ r, m.length = b + 1 + r from ⟨m.length - (b + 1), by omega⟩)
          have bo := Bk.new wr 58 #[.int .i64 o.id, .int .i64 o.who, .int .i64 o.side, .int .i64 o.kind, .int .i64 o.price, .int .i64 o.qty, .int .i64 o.show_, .int .i64 0]
          have hbn : Below wo.heap.size wo (wr.alloc (.cells #[.int .i64 o.id, .int .i64 o.who, .int .i64 o.side, .int .i64 o.kind, .int .i64 o.price, .int .i64 o.qty, .int .i64 o.show_, .int .i64 0] 58)) := hbx.alloc hbx.size _
          have hqo := (HM.out.2.2.1.below hbn)
          have hRm := (HM.out.1.below hbn).more hbn.size
          have hbw := below_then hbn hb
          have HD := Lib.hid hd; have HQO := Lib.hid hqo; have HRM := Lib.hid hRm
          clear hd ho hqo hRm hbx hbn
          go_upto_region 14 with fail
          generalize wr.alloc (.cells #[.int .i64 o.id, .int .i64 o.who, .int .i64 o.side, .int .i64 o.kind, .int .i64 o.price, .int .i64 o.qty, .int .i64 o.show_, .int .i64 0] 58) = w2 at *
          clear e0 e1 e2 e3 e4 e5 e6 e7
          obtain ⟨x0, x1, x2, x3, x4, x5, x6, x7⟩ := obox bo
          have hz := hbw.size
          go_wp2_with (at_builtin; go_loud (refine wpList_append_S (base := w.heap.size) (s := 8) (n := q.length) (cap := cO) rfl _ _ _ _ rfl 58 i0 _ 64 Tryd.underlying52 HI.out H0.out H1.out H2.out rfl rfl (HQO.out.alloc _) (by simp; omega) _ rfl 1 (stop0 o).vals (src_block (m := 1) (Bk.new w2 58 #[.int .i64 o.id, .int .i64 o.who, .int .i64 o.side, .int .i64 o.kind, .int .i64 o.price, .int .i64 o.qty, .int .i64 o.show_, .int .i64 0]) Tryd.underlying52 rfl (stop0 o).vals_one 1) (by unfold maxLen; omega) (by omega) ?_); intro AO' cO' w3 gr)
          have hb3 : Below w2.heap.size w2 (w2.alloc (.cells #[.int .i64 o.id, .int .i64 o.who, .int .i64 o.side, .int .i64 o.kind, .int .i64 o.price, .int .i64 o.qty, .int .i64 o.show_, .int .i64 0] 58)) := (Below.refl _ _).alloc (Nat.le_refl _) _
          have hap := HM.out.2.2.2.2.2.2.1 (by omega) b1 off1 rfl
          have hR3 : Rd w3 w3.heap.size (some ⟨b1, off1, none⟩) m.length 8 (ocell m) := Rd.rowO ((HRM.out.below hb3).more hb3.size) gr.grown hap
          have hbw3 : Below w.heap.size w w3 := (below_then hb3 hbw).grown gr.grown (by simp; omega) (fun k hk => (HQO.out.row_lt k hk).1)
          have HBZ := Lib.hid hbw3.size
          obtain ⟨r, hr⟩ := HRR.out
          have cOff := Lib.hid (roff_any m (some ⟨b1, off1, none⟩) cM b r w3 hR3 hr (by omega) HM.out.2.1.1 HM.out.2.1.2)
          have HQ3 := Lib.hid (show OwnS w3 w.heap.size 8 AO' (q ++ [stop0 o]).length cO' (ords (q ++ [stop0 o])) by rw [List.length_append, ords_app, show ords [stop0 o] = (stop0 o).vals by simp [ords]]; exact gr.own)
          have hle : (m.eraseIdx b).length = m.length - 1 := List.length_eraseIdx_of_lt hbl2
          have hql : (q ++ [stop0 o]).length = q.length + 1 := by simp
          clear hap hR3 hb3 gr hr x0 x1 x2 x3 x4 x5 x6 x7 bo hbw hz
          go_at_call 23
          refine cOff.out.mono ?_
          rintro e w4 ⟨A4, c4, rfl, ho4, hb4⟩
          have hb5 := below_then hb4 hbw3
          have HN := Lib.hid (show Rd w4 w4.heap.size A4 (m.eraseIdx b).length 8 (ocell (m.eraseIdx b)) ∧ ((m.eraseIdx b).length ≤ c4 ∧ c4 ≤ maxLen) ∧ OwnS w4 w.heap.size 8 AO' (q ++ [stop0 o]).length cO' (ords (q ++ [stop0 o])) ∧ wakeL p l = (q ++ [stop0 o]) ++ wakeL p (m.eraseIdx b) ∧ leftS p (m.eraseIdx b) = leftS p l ∧ (∀ o ∈ m.eraseIdx b, o.side = 1 ∨ o.side = 2) ∧ (0 < (m.eraseIdx b).length → ∀ (b off : Nat), A4 = some ⟨b, off, none⟩ → some b ≠ rowOf AO' cO') ∧ (0 < (m.eraseIdx b).length → A4 = A ∨ ∀ (b off : Nat), A4 = some ⟨b, off, none⟩ → w.heap.size ≤ b) from by
            refine ⟨ho4.rdO, ⟨ho4.le, ho4.max⟩, HQ3.out.below hb4, ?_, by rw [HD.out.2]; exact HM.out.2.2.2.2.1, fun z hz => HM.out.2.2.2.2.2.1 z (List.mem_of_mem_eraseIdx hz), (fun h0 bb oo e e2 => ?_), fun h0 => .inr fun bb oo e => ?_⟩
            · rw [HM.out.2.2.2.1, HD.out.1]; simp
            · have h1 := (HQ3.out.row_lt bb e2.symm).2
              obtain ⟨g', o', e', hg', _⟩ := ho4.cell h0
              rw [e] at e'; cases e'; omega
            · obtain ⟨g', o', e', hg', _⟩ := ho4.cell h0
              rw [e] at e'; cases e'; exact Nat.le_trans HBZ.out hg')
          clear ho4 hb4 hbw3 cOff
          go_wp2
          go_roundw
          case rel => exact ⟨m.eraseIdx b, A4, c4, q ++ [stop0 o], AO', cO', by rw [hle], by rw [hql], by omega, by omega, HN, hb5⟩
          case measure => simp; omega
end Go.Proofs.YtiaofbkhnodbhaaDoor
