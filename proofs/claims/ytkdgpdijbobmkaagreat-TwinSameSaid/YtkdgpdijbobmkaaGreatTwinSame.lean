/- The walk of TwinSame. -/
import Derived.Test.YtkdgpdijbobmkaaGreatTsPlain
import Derived.Test.YtkdgpdijbobmkaaGreatGrpAA
import Derived.Test.YtkdgpdijbobmkaaGreatGrpAH
import Derived.Test.YtkdgpdijbobmkaaGreatGrpK
import Derived.Test.YtkdgpdijbobmkaaGreatGrpS
namespace Go.Proofs.YtkdgpdijbobmkaaGreat
set_option linter.all false
open Go Go.RowKit
set_option maxRecDepth 100000 in
set_option maxHeartbeats 16000000 in
theorem ts_walk (mode : Int) (l : List Cmd) (os : List Int) (A1 A2 : Option Addr) (c1 c2 : Nat) (w : World) (hr1 : Rd w w.heap.size A1 l.length 11 (ccell l)) (hr2 : RdI w w.heap.size A2 os) (n1 : l.length ≤ maxLen) (n2 : os.length ≤ maxLen) :
    Calls Tryz.prog 9 #[.int .i64 mode, .slice A1 l.length c1, .slice A2 os.length c2] w fun e w' => e = .returned (.bool true) ∧ Below w.heap.size w w' := by
  have R1 := Lib.hid hr1; have R2 := Lib.hid hr2
  unfold maxLen at n1 n2
  have CN := tnew_any 0 (by decide) w
  unfold TNewPost at CN
  have CN := Lib.hid CN
  clear hr1 hr2
  go_enter Tryz.func9, Tryz.ntmps9
  go_upto_region 4 with (go_at_call 28; refine CN.out.mono ?_; rintro e w1 ⟨g, rfl, H1, hb1⟩)
  have cA := hear_any (TwS.new 0) 2 tsC7 _ _ g w1 H1.out (TwOk.new 0) (fun k h => Nat.le_trans hb1.size h)
  unfold HearPost at cA
  rw [ts_a.1, ts_a.2, show ((TwS.new 0).hear 2 tsC7).2.2 = tsA from rfl, show errV 0 = Value.nilIface from rfl] at cA
  dsimp only [tsC7] at cA
  have CA := Lib.hid cA
  clear CN cA
  go_upto_region 5 with (go_at_call 29; (with_reducible refine CA.out.mono ?_); rintro e w2 ⟨rfl, H2, hk2⟩)
  have hb2 := hb1.trans (hk2.below_to hb1.size (fun k h => h))
  have cB := hear_any tsA 1 tsC5 _ _ g w2 H2.out ((TwOk.new 0).hear 2 tsC7) (fun k h => Nat.le_trans hb2.size h)
  unfold HearPost at cB
  rw [ts_b.1, ts_b.2, show (tsA.hear 1 tsC5).2.2 = tsB from rfl, show errV 0 = Value.nilIface from rfl] at cB
  dsimp only [tsC5] at cB
  have CB := Lib.hid cB
  clear cB CA hk2 hb1 H1
  go_upto_region 6 with (go_at_call 29; (with_reducible refine CB.out.mono ?_); rintro e w3 ⟨rfl, H3, hk3⟩)
  have hb3 := hb2.trans (hk3.below_to hb2.size (fun k h => h))
  obtain ⟨P, hP⟩ : ∃ P, P = tsB.f.S 1 := ⟨_, rfl⟩
  have hget : getP tsB.f.S 1 = (0, P) := by unfold getP; rw [if_pos (by decide), hP]; rfl
  have hc := ts_c.1
  rw [← hP] at hc
  have HP := Lib.hid hget; have HC := Lib.hid hc
  have CFL := Lib.hid (tfloor_any H3.out)
  have HNX := Lib.hid (show ∀ w', Below w3.heap.size w3 w' → Calls Tryz.prog 32 #[.pointer (some ⟨g, 0, none⟩)] w' fun e w2 => e = .returned (.int .i64 3) ∧ w' = w2 from fun w' hb => by have := tnext_any (H3.out.below hb); rw [ts_c.2] at this; exact this)
  have HB3 := Lib.hid hb3
  clear hk3 hb2 hb3 H2 hP hget hc CB H3
  go_upto_region 7 with (first | (go_at_call 31; (with_reducible refine CFL.out.mono ?_); rintro e w9 ⟨⟨X9, g9, rfl, H9⟩, rfl⟩; have c9 := fpurse_any tsB.f X9 g9 1 _ H9.out; rw [HP.out] at c9; dsimp only at c9; rw [show errV 0 = Value.nilIface from rfl, HC.out] at c9; have C9 := Lib.hid c9; clear c9) | (go_at_call 13; (with_reducible refine C9.out.mono ?_); rintro e w10 ⟨rfl, hb10⟩))
  have q1 : (w10.alloc (.cells #[.int .i64 P.who, .int .i64 12, .int .i64 P.held, .int .i64 P.stock, .int .i64 P.hstock] 36)).cell? ⟨w10.heap.size, 1, none⟩ = some (.int .i64 12) := (Bk.new w10 36 #[.int .i64 P.who, .int .i64 12, .int .i64 P.held, .int .i64 P.stock, .int .i64 P.hstock]).cell 1
  have hba := below_then_alloc (o := .cells #[.int .i64 P.who, .int .i64 12, .int .i64 P.held, .int .i64 P.stock, .int .i64 P.hstock] 36) hb10
  have CNX := Lib.hid (HNX.out _ hba)
  have HB11 := Lib.hid (below_then hba HB3.out)
  clear hba hb10 C9 CFL HNX HB3 HP HC
  generalize w10.alloc (.cells #[.int .i64 P.who, .int .i64 12, .int .i64 P.held, .int .i64 P.stock, .int .i64 P.hstock] 36) = w11 at *
  go_upto_region 10 with (go_at_call 32; (with_reducible refine CNX.out.mono ?_); rintro e w12 ⟨rfl, rfl⟩)
  clear CNX q1
  --<right
  go_upto_block 0 with fail
  go_cut [15] (fun v wx => ∃ (R : List Cmd) (A : Option Addr) (c : Nat), v = .slice A R.length c ∧ Hid (OwnS wx w.heap.size 11 A R.length c (cmds R)) ∧ Hid (R.length ≤ 40 ∧ ∀ c ∈ R, c.err = 0) ∧ Hid (Below w.heap.size w wx))
  case first =>
    --<rightloop
    obtain ⟨i0, hi, hz0, hz1, hz2⟩ := info_parts info_cmd
    have HI := Lib.hid hi; have H0 := Lib.hid hz0; have H1 := Lib.hid hz1; have H2 := Lib.hid hz2
    clear hi hz0 hz1 hz2
    go_wp2
    go_loopw [15, 16] (fun v vi wr => ∃ (i : Nat) (A : Option Addr) (c : Nat), i ≤ l.length ∧ i ≤ 40 ∧ vi = .int .i64 i ∧ v = .slice A (goodC l i).length c ∧ Hid (OwnS wr w.heap.size 11 A (goodC l i).length c (cmds (goodC l i))) ∧ Hid (Below w.heap.size w wr)) (fun _ i _ => l.length - (intOf i).toNat)
    case atStart => exact ⟨0, none, 0, by omega, by omega, rfl, by simp [goodC], Lib.hid (by show OwnS _ _ 11 none 0 0 []; exact OwnS.nil _ _ _ _), HB11⟩
    case round =>
      obtain ⟨i, A, cA, hi1, hi2, rfl, rfl, HO, HB⟩ := hrel
      have HGL := Lib.hid (goodC_len l i)
      by_cases hgo : i < l.length ∧ i < 40
      · obtain ⟨hg1, hg2⟩ := hgo
        have j0 : (0 : Int) ≤ (i : Int) := by omega
        have j1 : (i : Int) < (l.length : Int) := by omega
        have j2 : (i : Int) < 40 := by omega
        obtain ⟨b, off, c, hA, hbl, ht, e0, e1, e2, e3, e4, e5, e6, e7, e8, e9, e10⟩ := cmd_at (R1.out.below HB.out) hg1
        subst hA
        have HST := Lib.hid (goodC_step ht)
        have cC := wcheck_any c wr
        by_cases hce : c.err = 0
        · rw [hce, show errV 0 = Value.nilIface from rfl] at cC
          have CC := Lib.hid cC
          have HS2 := Lib.hid (show goodC l (i + 1) = goodC l i ++ [c] by rw [HST.out, if_pos hce])
          clear cC hce HST
          go_upto_region 14 with (go_at_call 33; (with_reducible refine CC.out.mono ?_); rintro e w2 ⟨rfl, hb2⟩)
          have HB2 := Lib.hid (below_then hb2 HB.out)
          have HO2 := Lib.hid (HO.out.below hb2)
          have hz2 := HB2.out.size
          have hgl := HGL.out
          obtain ⟨b', off', c', hA', hbl', ht', e0', e1', e2', e3', e4', e5', e6', e7', e8', e9', e10'⟩ := cmd_at (R1.out.below HB2.out) hg1
          cases hA'
          obtain rfl : c = c' := Option.some.inj (ht.symm.trans ht')
          clear ht ht' hb2 CC e0 e1 e2 e3 e4 e5 e6 e7 e8 e9 e10 HO HB
          go_wp2_with (at_builtin; go_loud (refine wpList_append_S (base := w.heap.size) (s := 11) rfl _ _ _ _ rfl 34 i0 _ 88 Tryz.underlying48 HI.out H0.out H1.out H2.out rfl rfl (HO2.out.alloc _) (by simp; omega) _ rfl 1 c.vals (src_block (m := 1) (Bk.at_ rfl 34 c.cells) Tryz.underlying48 rfl c.vals_one 1) (by unfold maxLen; omega) (by omega) ?_); intro A3 c3 w4 gr3)
          have hB4 := (below_then_alloc (o := .cells c.cells 34) HB2.out).grown gr3.grown (by simp; omega) (fun k e => (HO2.out.row_lt k e).1)
          go_roundw
          case rel => exact ⟨i + 1, A3, c3, by omega, by omega, by go_num, by rw [HS2.out]; simp, Lib.hid (by rw [HS2.out, List.length_append, cmds_app]; have := gr3.own; simpa [cmds] using this), Lib.hid hB4⟩
          case measure => simp [intOf]; omega
        · rw [errV, if_neg hce] at cC
          have CC := Lib.hid cC
          have HS2 := Lib.hid (show goodC l (i + 1) = goodC l i by rw [HST.out, if_neg hce])
          clear cC hce HST ht
          go_wp2_with (go_at_call 33; (with_reducible refine CC.out.mono ?_); rintro e w2 ⟨rfl, hb2⟩)
          go_roundw
          case rel => exact ⟨i + 1, A, cA, by omega, by omega, by go_num, by rw [HS2.out], Lib.hid (by rw [HS2.out]; exact HO.out.below hb2), Lib.hid (below_then hb2 HB.out)⟩
          case measure => simp [intOf]; omega
      · have hend : ¬ (i : Int) < (l.length : Int) ∨ ((i : Int) < (l.length : Int) ∧ ¬ (i : Int) < 40) := by omega
        have HG := Lib.hid (show (goodC l i).length ≤ 40 ∧ ∀ c ∈ goodC l i, c.err = 0 from ⟨by have := HGL.out; omega, goodC_err⟩)
        clear hgo
        rcases hend with h9 | ⟨h9, h8⟩
        all_goals
          go_wp2
          go_meet
          case rel => exact ⟨goodC l i, A, cA, rfl, HO, HG, HB⟩
    -->rightloop
  obtain ⟨R, AR, cR, rfl, HO, HG, HB⟩ := hcut
  obtain ⟨w13, rfl⟩ : ∃ x : World, x = wc := ⟨_, rfl⟩
  clear R1 HB11
  have hmode : inb mode 0 3 = true ∨ inb mode 0 3 = false := by cases inb mode 0 3 <;> simp
  rcases hmode with hm | hm
  case inr =>
    --<bad
    have CB := Lib.hid (tnew_bad mode hm w13)
    have hmm : mode < 0 ∨ (0 ≤ mode ∧ 3 < mode) := by
      have : ¬ (0 ≤ mode ∧ mode ≤ 3) := fun h => by simp [inb, h.1, h.2] at hm
      omega
    clear hm
    rcases hmm with hmm | ⟨hm0, hmm⟩
    all_goals
      go_wp2_with (go_at_call 28; (with_reducible refine CB.out.mono ?_); rintro e w14 ⟨rfl, hb14⟩)
      go_ret
      exact ⟨rfl, below_then hb14 HB.out⟩
    -->bad
  have HMO := Lib.hid hm
  have CN := tnew_any mode hm w13
  unfold TNewPost at CN
  have CN := Lib.hid CN
  clear hm
  go_upto_region 18 with (go_at_call 28; (with_reducible refine CN.out.mono ?_); rintro e w14 ⟨g2, rfl, HT, hb14⟩)
  have HO14 := Lib.hid (HO.out.below hb14)
  have HB14 := Lib.hid (below_then hb14 HB.out)
  have hz13 : w13.heap.size ≤ w14.heap.size := hb14.size
  have HLO := Lib.hid (show ∀ k, rowOf AR cR = some k → k < w13.heap.size from fun k e => (HO.out.row_lt k e).2)
  have HZ := Lib.hid (show w.heap.size ≤ w13.heap.size from HB.out.size)
  have HTS := Lib.hid (TsAt.new mode R)
  clear CN hb14 HO HB
  have hR := HG.out.1
  --<any
  go_upto_block 2 with fail
  go_cut [] (fun wx => ∃ s, Hid (TwM wx (fun k => w13.heap.size ≤ k) (fun k => k < w13.heap.size) g2 s) ∧ Hid (TsAt mode R 1 s) ∧ Hid (OwnS wx w.heap.size 11 AR R.length cR (cmds R)) ∧ Hid (Below w.heap.size w wx) ∧ w13.heap.size ≤ wx.heap.size)
  case first =>
    --<anyloop
    go_wp2
    go_loopw [19] (fun vi wr => ∃ (i : Nat) (s : TwS), i ≤ os.length ∧ i ≤ 80 ∧ vi = .int .i64 i ∧ Hid (TwM wr (fun k => w13.heap.size ≤ k) (fun k => k < w13.heap.size) g2 s) ∧ Hid (TsAt mode R 1 s) ∧ Hid (OwnS wr w.heap.size 11 AR R.length cR (cmds R)) ∧ Hid (Below w.heap.size w wr) ∧ w13.heap.size ≤ wr.heap.size) (fun i _ => os.length - (intOf i).toNat)
    case atStart => exact ⟨0, _, by omega, by omega, rfl, HT, HTS, HO14, HB14, hz13⟩
    case round =>
      obtain ⟨i, s, hi1, hi2, rfl, HM, HS, HO, HB, hz⟩ := hrel
      clear HT HTS HO14 HB14 hz13
      by_cases hgo : i < os.length ∧ i < 80
      · obtain ⟨hg1, hg2⟩ := hgo
        have j0 : (0 : Int) ≤ (i : Int) := by omega
        have j1 : (i : Int) < (os.length : Int) := by omega
        have j2 : (i : Int) < 80 := by omega
        obtain ⟨b, off, p, hA, hbl, hp, e0⟩ := ri_at (R2.out.below HB.out) hg1
        subst hA
        clear hp
        rcases (show p < 0 ∨ (0 ≤ p ∧ (R.length : Int) ≤ p) ∨ (0 ≤ p ∧ p < (R.length : Int)) by omega) with h9 | ⟨h9, h8⟩ | ⟨h9, h8⟩
        · go_wp2
          go_roundw
          case rel => exact ⟨i + 1, s, by omega, by omega, by go_num, HM, HS, HO, HB, hz⟩
          case measure => simp [intOf]; omega
        · go_wp2
          go_roundw
          case rel => exact ⟨i + 1, s, by omega, by omega, by go_num, HM, HS, HO, HB, hz⟩
          case measure => simp [intOf]; omega
        · obtain ⟨k, rfl⟩ := Int.eq_ofNat_of_zero_le h9
          have hk : k < R.length := by omega
          obtain ⟨b', off', c, hA', hbl', ht, e1, e2, e3, e4, e5, e6, e7, e8, e9, e10, e11⟩ := cmd_at (HO.out.rdC) hk
          subst hA'
          have hce := HG.out.2 c (List.mem_of_getElem? ht)
          have hts := hear_ts HS.out hR ht hce
          have cH := hear_any s ((k : Int) + 1) c _ _ g2 wr HM.out HS.out.ok (fun j hj => Nat.le_trans hz hj)
          unfold HearPost at cH
          rw [hts.1, show errV 0 = Value.nilIface from rfl] at cH
          have CH := Lib.hid cH
          have HS2 := Lib.hid hts.2.1
          clear cH hts hce ht
          generalize (s.hear ((k : Int) + 1) c).2.2 = s2 at *
          generalize (s.hear ((k : Int) + 1) c).2.1 = m2 at *
          go_wp2_with (go_at_call 29; (with_reducible refine CH.out.mono ?_); rintro e w15 ⟨rfl, HM2, hk15⟩)
          have hks := fun j (e : rowOf (some (⟨b', off', none⟩ : Addr)) cR = some j) => HLO.out j e
          go_roundw
          case rel => exact ⟨i + 1, s2, by omega, by omega, by go_num, HM2, HS2, Lib.hid (HO.out.ks hk15 (fun j e hq => by have := hks j e; omega)), Lib.hid (HB.out.trans (hk15.below_to HB.out.size (fun j hj => Nat.le_trans HZ.out hj))), Nat.le_trans hz hk15.size⟩
          case measure => simp [intOf]; omega
      · have hend : ¬ (i : Int) < (os.length : Int) ∨ ((i : Int) < (os.length : Int) ∧ ¬ (i : Int) < 80) := by omega
        clear hgo
        rcases hend with h9 | ⟨h9, h8⟩
        all_goals
          go_wp2
          go_meet
          case rel => exact ⟨s, HM, HS, HO, HB, hz⟩
    -->anyloop
  obtain ⟨s0, HT, HTS, HO14, HB14, hz13⟩ := hcut
  obtain ⟨w14, rfl⟩ : ∃ x : World, x = wc := ⟨_, rfl⟩
  --<all
  clear R2
  go_wp2
  go_loopw [23] (fun vi wr => ∃ (k : Nat) (s : TwS), k ≤ R.length ∧ vi = .int .i64 k ∧ (k : Int) + 1 ≤ s.next ∧ Hid (TwM wr (fun k => w13.heap.size ≤ k) (fun k => k < w13.heap.size) g2 s) ∧ Hid (TsAt mode R 1 s) ∧ Hid (OwnS wr w.heap.size 11 AR R.length cR (cmds R)) ∧ Hid (Below w.heap.size w wr) ∧ w13.heap.size ≤ wr.heap.size) (fun i _ => R.length - (intOf i).toNat)
  case atStart => exact ⟨0, s0, by omega, rfl, by have := HTS.out.ok.next0; omega, HT, HTS, HO14, HB14, hz13⟩
  case round =>
    obtain ⟨k, s, hk1, rfl, hkn, HM, HS, HO, HB, hz⟩ := hrel
    clear HT HTS HO14 HB14 hz13
    by_cases hk : k < R.length
    · --<hear
      have j0 : (0 : Int) ≤ (k : Int) := by omega
      have j1 : (k : Int) < (R.length : Int) := by omega
      obtain ⟨b', off', c, hA', hbl', ht, e1, e2, e3, e4, e5, e6, e7, e8, e9, e10, e11⟩ := cmd_at (HO.out.rdC) hk
      subst hA'
      have hce := HG.out.2 c (List.mem_of_getElem? ht)
      have hts := hear_ts HS.out hR ht hce
      have cH := hear_any s ((k : Int) + 1) c _ _ g2 wr HM.out HS.out.ok (fun j hj => Nat.le_trans hz hj)
      unfold HearPost at cH
      rw [hts.1, show errV 0 = Value.nilIface from rfl] at cH
      have CH := Lib.hid cH
      have HS2 := Lib.hid hts.2.1
      have hn2 : (k : Int) + 2 ≤ (s.hear ((k : Int) + 1) c).2.2.next := by
        have a := hts.2.2.1
        by_cases e : s.next = (k : Int) + 1
        · exact hts.2.2.2 e
        · omega
      have HN2 := Lib.hid hn2
      clear cH hts hce ht hkn hn2
      generalize (s.hear ((k : Int) + 1) c).2.2 = s2 at *
      generalize (s.hear ((k : Int) + 1) c).2.1 = m2 at *
      go_wp2_with (go_at_call 29; (with_reducible refine CH.out.mono ?_); rintro e w15 ⟨rfl, HM2, hk15⟩)
      have hks := fun j (e : rowOf (some (⟨b', off', none⟩ : Addr)) cR = some j) => HLO.out j e
      go_roundw
      case rel => exact ⟨k + 1, s2, by omega, by go_num, by have := HN2.out; omega, HM2, HS2, Lib.hid (HO.out.ks hk15 (fun j e hq => by have := hks j e; omega)), Lib.hid (HB.out.trans (hk15.below_to HB.out.size (fun j hj => Nat.le_trans HZ.out hj))), Nat.le_trans hz hk15.size⟩
      case measure => simp [intOf]; omega
      -->hear
    · --<last
      obtain rfl : k = R.length := by omega
      obtain ⟨hf, hn, hW⟩ := ts_all HS.out hkn
      have cR := replayed_any mode HMO.out R AR cR wr HO.out.rdC (by omega)
      unfold ReplPost at cR
      have CR := Lib.hid cR
      have HF := Lib.hid hf
      have CFL := Lib.hid (fun w' (hb : Below wr.heap.size wr w') => tfloor_any (HM.out.below hb))
      have CNX := Lib.hid (show ∀ w', Below wr.heap.size wr w' → Calls Tryz.prog 32 #[.pointer (some ⟨g2, 0, none⟩)] w' fun e w2 => e = .returned (.int .i64 ((R.length : Int) + 1)) ∧ w' = w2 from fun w' hb => by have := tnext_any (HM.out.below hb); rw [hn] at this; exact this)
      have CWT := Lib.hid (show ∀ w', Below wr.heap.size wr w' → Calls Tryz.prog 30 #[.pointer (some ⟨g2, 0, none⟩)] w' fun e w2 => (∃ A c, e = .returned (.slice A 0 c)) ∧ Below w'.heap.size w' w2 from fun w' hb => by
        have h := twaits_any (HM.out.below hb) HS.out.ok
        rw [hW] at h
        refine h.mono ?_
        rintro e w2 ⟨A, c, rfl, _, hb2⟩
        exact ⟨⟨A, c, rfl⟩, hb2⟩)
      have hee : (((R.length : Int) + 1) == ((R.length : Int) + 1)) = true := by simp
      clear cR hf hn hW hkn
      go_upto_region 33 with (go_at_call 34; (with_reducible refine CR.out.mono ?_); rintro e w16 ⟨gr, rfl, _, HF6, hb16⟩)
      have CFL2 := Lib.hid (CFL.out w16 hb16)
      go_upto_region 34 with (first | (go_at_call 31; (with_reducible refine CFL2.out.mono ?_); rintro e w17 ⟨⟨X7, g7, rfl, H7⟩, rfl⟩; have h7 := H7.out; rw [HF.out] at h7; have CAL := Lib.hid (alike_any (runAll (FS.new mode) R) _ _ g7 gr w16 h7 HF6.out (runAll_ok _ _ (FSOk.new _)))) | (go_at_call 35; (with_reducible refine CAL.out.mono ?_); rintro e w18 ⟨rfl, hb18⟩))
      have hb8 := below_then hb18 hb16
      have CNX2 := Lib.hid (CNX.out _ hb8)
      have CWT2 := Lib.hid (CWT.out _ hb8)
      have HBF := Lib.hid (below_then hb8 HB.out)
      clear CR CFL CFL2 CAL CNX CWT hb8 hb16 hb18 H7 h7 HF6 HB
      go_wp2_with (first | (go_at_call 32; (with_reducible refine CNX2.out.mono ?_); rintro e w19 ⟨rfl, rfl⟩) | (go_at_call 30; (with_reducible refine CWT2.out.mono ?_); rintro e w20 ⟨⟨A20, c20, rfl⟩, hb20⟩))
      go_ret
      exact ⟨by simp, below_then hb20 HBF.out⟩
      -->last
  -->all
  -->any
  -->right
theorem twinSame_law {H : Type} {enc : TypeId × Value → H} {v0 v1 v2 : Value} {d0 d1 d2 : DataW H} {p0 p1 p2 : List MemPlace} {base : Nat} {W : World}
    (h0 : Arg enc W base 3 v0 d0 p0) (h1 : Arg enc W base 48 v1 d1 p1) (h2 : Arg enc W base 84 v2 d2 p2) :
    Calls Tryz.prog 9 #[v0, v1, v2] W fun e w' => e = .returned (.bool true) ∧ Below W.heap.size W w' := by
  obtain ⟨n, rfl, _⟩ := h0.int
  obtain ⟨A1, l, c1, rfl, n1, nx, _, r1⟩ := h1.cmds
  obtain ⟨A2, os, c2, rfl, n2, r2⟩ := h2.ints
  exact ts_walk n l os A1 A2 c1 c2 W r1 r2 (Nat.le_trans n1 nx) n2
end Go.Proofs.YtkdgpdijbobmkaaGreat
