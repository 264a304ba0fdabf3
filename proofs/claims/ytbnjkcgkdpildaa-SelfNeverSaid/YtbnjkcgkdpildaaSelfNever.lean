/- SelfNever holds: for all arguments the law's function returns true. No condition. -/
import Derived.Test.YtbnjkcgkdpildaaSelfLaw
import Derived.Test.YtbnjkcgkdpildaaFlat
import Derived.Test.YtbnjkcgkdpildaaSameLv
import Derived.Test.YtbnjkcgkdpildaaSameTr
import Derived.Test.YtbnjkcgkdpildaaBkOwn
import Derived.Test.YtbnjkcgkdpildaaBookArg
import Derived.Test.YtbnjkcgkdpildaaStructArg
namespace Go.Proofs.Ytbnjkcgkdpildaa
set_option linter.all false
open Go Go.RowKit Go.ChangeShapes Go.WideShapes
def snL : List Lv := [⟨100, [⟨1, 2, 5, 0, 0⟩]⟩]
def snO : Order := ⟨2, 2, 1, 3, 101, 7, 0, 0⟩
def snB : Bool := readyE [] snL snO == 0 && (match met [] snL snO 2 with
  | none => false
  | some s => s.left == 7 && s.T.length == 0 && s.W == [1] && s.L.length == 0 && kOut snO snL s == 1)
theorem sn_all : snB = true := by kernel_rfl
theorem sn_out : readyE [] snL snO = 0 ∧ ∃ s, met [] snL snO 2 = some s ∧ s.left = 7 ∧ s.T = [] ∧ s.W = [1] ∧ s.L = [] ∧ kOut snO snL s = 1 := by
  have hb := sn_all
  unfold snB at hb
  rw [Bool.and_eq_true] at hb
  refine ⟨by simpa using hb.1, ?_⟩
  have hb := hb.2
  cases h : met [] snL snO 2 with
  | none => rw [h] at hb; cases hb
  | some s =>
    rw [h] at hb
    simp only [Bool.and_eq_true, beq_iff_eq] at hb
    obtain ⟨⟨⟨⟨h1, h2⟩, h3⟩, h4⟩, h5⟩ := hb
    exact ⟨s, rfl, h1, List.length_eq_zero_iff.1 h2, h3, List.length_eq_zero_iff.1 h4, h5⟩
def SnPost (w : World) (e : Ending) (w' : World) : Prop :=
  ∃ A1 n1 c1 A2 c2 AT cT b off cW, e = .returned (.tuple #[.agg #[.slice A1 n1 c1, .slice A2 0 c2], .slice AT 0 cT, .int .i64 7, .slice (some ⟨b, off, none⟩) 1 cW, .nilIface]) ∧ Hid (w'.cell? ⟨b, off, none⟩ = some (.int .i64 1)) ∧ Below w.heap.size w w'
theorem sn_do (A : Option Addr) (c : Nat) (w : World) (hr : RdLv w w.heap.size A snL) (hA : A ≠ none) :
    Calls Try.prog 29 #[.agg #[.slice none 0 0, .slice A 1 c], .agg #[.int .i64 2, .int .i64 2, .int .i64 1, .int .i64 3, .int .i64 101, .int .i64 7, .int .i64 0, .int .i64 0], .int .i64 2] w (SnPost w) := by
  obtain ⟨hrd, s, hs, e1, e2, e3, e4, e5⟩ := sn_out
  refine (sdo_any [] snL snO 2 none A 0 c w RdLv.nil hr (by decide) (by decide) (fun _ => rfl) (fun e => absurd e hA) true rfl 0 hrd.symm (some s) hs.symm (kOut snO snL) rfl _ rfl (fun ⟨s', h1, h2⟩ => by cases h1; rw [e5] at h2; exact absurd h2 (by decide))).mono ?_
  rintro e w' ⟨B1, n1, d1, B2, n2, d2, AT, nT, cT, gone, AW, nW, cW, ev, rfl, hR, hb⟩
  rcases hR.out with ⟨h0, _⟩ | ⟨_, h0, _⟩ | ⟨_, _, hK⟩
  · cases h0
  · exact absurd rfl h0
  rcases hK with ⟨_, h0, _⟩ | ⟨s', h1, hok, h0 | h0 | ⟨rfl, v1, v2, L', M', hw, rfl, rfl, rfl, rfl, rfl, _, _, _, ow⟩⟩
  · cases h0
  · cases h1
    rw [e5] at h0
    rcases h0.1 with h | h <;> exact absurd h (by decide)
  · cases h1
    rw [e5] at h0
    exact absurd h0.1 (by decide)
  · cases h1
    rw [e5] at hw
    rcases hw with ⟨_, rfl, rfl⟩ | ⟨h, _⟩
    · have hM : (kM snO.side snL s).length = 0 := by
        show s.L.length = 0
        rw [e4]; rfl
      rw [e3] at ow
      obtain ⟨b, off, rfl, _, _, hc, _⟩ := ow.cell (by decide)
      have hc0 := hc 0 (by decide)
      rw [hM, e2, e3, e5, if_pos rfl, e1]
      exact ⟨_, _, _, _, _, _, _, b, off, _, rfl, Lib.hid hc0, hb⟩
    · exact absurd h (by decide)
/-- is one of them a trader's own? -/
def anyOwn (o : Order) (l : List Rest) : Bool := l.any fun r => r.who == o.who
theorem anyOwn_take {o : Order} {l : List Rest} {k : Nat} {r : Rest} (h : l[k]? = some r) : anyOwn o (l.take (k + 1)) = (anyOwn o (l.take k) || (r.who == o.who)) := by
  rw [anyOwn, List.take_add_one, h]; simp [anyOwn]
theorem noOwn_of {o : Order} {K : List Lv} (h : anyOwn o (flatL K) = false) : NoOwn o K := by
  intro x hx r hr e
  have : anyOwn o (flatL K) = true := List.any_eq_true.2 ⟨r, List.mem_flatMap.2 ⟨x, hx, hr⟩, by simpa using e⟩
  rw [this] at h; cases h
theorem KWay.ok {L M L' M' : List Lv} {o : Order} {mode : Int} {s : MSt} (hr : readyE L M o = 0) (h : met L M o mode = some s) (hw : KWay L M o s L' M') : BookOk L' M' := by
  have h98 : kOut o (pick o.side L M) s ≠ 9 ∧ kOut o (pick o.side L M) s ≠ 8 := by
    rcases hw with h | h
    · have := h.1; omega
    · have := h.1; omega
  obtain ⟨_, hk⟩ := kok hr h h98.1 h98.2 hw
  exact hk.ok
set_option maxRecDepth 100000 in
set_option maxHeartbeats 8000000 in
theorem selfNever_any (L M : List Lv) (o : Order) (mode : Int) (A1 A2 : Option Addr) (c1 c2 : Nat) (w : World) (h1 : RdLv w w.heap.size A1 L) (h2 : RdLv w w.heap.size A2 M) (hl1 : L.length ≤ maxLen) (hl2 : M.length ≤ maxLen) (hA1 : A1 = none → c1 = 0) (hA2 : A2 = none → c2 = 0) :
    Calls Try.prog 9 #[.agg #[.slice A1 L.length c1, .slice A2 M.length c2], .agg #[.int .i64 o.id, .int .i64 o.who, .int .i64 o.side, .int .i64 o.kind, .int .i64 o.price, .int .i64 o.qty, .int .i64 o.show_, .int .i64 o.stop], .int .i64 mode] w fun e w' => e = .returned (.bool true) ∧ Below w.heap.size w w' := by
  have HL := Lib.hid h1; have HM := Lib.hid h2; have HA1 := Lib.hid hA1; have HA2 := Lib.hid hA2
  have cF := Lib.hid (fun A c w h h' => sn_do A c w h h')
  have cP := Lib.hid (fun w' h h' => sdo_law L M o mode A1 A2 c1 c2 w' h h' hl1 hl2 hA1 hA2)
  have hb : Below w.heap.size w ((w.alloc (.cells #[.slice A1 L.length c1, .slice A2 M.length c2] 24)).alloc (.cells #[.int .i64 o.id, .int .i64 o.who, .int .i64 o.side, .int .i64 o.kind, .int .i64 o.price, .int .i64 o.qty, .int .i64 o.show_, .int .i64 o.stop] 36)) := below_then_alloc ((Below.refl _ _).alloc (Nat.le_refl _) _)
  have bb := (Bk.new w 24 #[.slice A1 L.length c1, .slice A2 M.length c2]).alloc (.cells #[.int .i64 o.id, .int .i64 o.who, .int .i64 o.side, .int .i64 o.kind, .int .i64 o.price, .int .i64 o.qty, .int .i64 o.show_, .int .i64 o.stop] 36)
  have bo := Bk.at_ (w := w.alloc (.cells #[.slice A1 L.length c1, .slice A2 M.length c2] 24)) (g' := w.heap.size + 1) (by simp) 36 #[.int .i64 o.id, .int .i64 o.who, .int .i64 o.side, .int .i64 o.kind, .int .i64 o.price, .int .i64 o.qty, .int .i64 o.show_, .int .i64 o.stop]
  clear h1 h2 hA1 hA2
  go_enter Try.func9, Try.ntmps9
  go_upto_region 1 with fail
  generalize (w.alloc (.cells #[.slice A1 L.length c1, .slice A2 M.length c2] 24)).alloc (.cells #[.int .i64 o.id, .int .i64 o.who, .int .i64 o.side, .int .i64 o.kind, .int .i64 o.price, .int .i64 o.qty, .int .i64 o.show_, .int .i64 o.stop] 36) = w0 at *
  go_upto_region 2 with fail
  have hb0 : Below w0.heap.size w0 (((w0.alloc (.cells #[.int .i64 1, .int .i64 2, .int .i64 5, .int .i64 0, .int .i64 0] 26)).alloc (.cells #[.int .i64 100, .slice (some ⟨w0.heap.size, 0, none⟩) 1 1] 29)).alloc (.cells #[.slice none 0 0, .slice (some ⟨w0.heap.size + 1, 0, none⟩) 1 1] 24)) := below_then_alloc (below_then_alloc ((Below.refl _ _).alloc (Nat.le_refl _) _))
  have b1 := ((Bk.new w0 26 #[.int .i64 1, .int .i64 2, .int .i64 5, .int .i64 0, .int .i64 0]).alloc (.cells #[.int .i64 100, .slice (some ⟨w0.heap.size, 0, none⟩) 1 1] 29)).alloc (.cells #[.slice none 0 0, .slice (some ⟨w0.heap.size + 1, 0, none⟩) 1 1] 24)
  have b2 := (Bk.at_ (w := w0.alloc (.cells #[.int .i64 1, .int .i64 2, .int .i64 5, .int .i64 0, .int .i64 0] 26)) (g' := w0.heap.size + 1) (by simp) 29 #[.int .i64 100, .slice (some ⟨w0.heap.size, 0, none⟩) 1 1]).alloc (.cells #[.slice none 0 0, .slice (some ⟨w0.heap.size + 1, 0, none⟩) 1 1] 24)
  have b3 := Bk.at_ (w := (w0.alloc (.cells #[.int .i64 1, .int .i64 2, .int .i64 5, .int .i64 0, .int .i64 0] 26)).alloc (.cells #[.int .i64 100, .slice (some ⟨w0.heap.size, 0, none⟩) 1 1] 29)) (g' := w0.heap.size + 2) (by simp) 24 #[.slice none 0 0, .slice (some ⟨w0.heap.size + 1, 0, none⟩) 1 1]
  replace bb := bb.keep hb0; replace bo := bo.keep hb0; replace hb := below_then hb0 hb
  clear hb0
  generalize ((w0.alloc (.cells #[.int .i64 1, .int .i64 2, .int .i64 5, .int .i64 0, .int .i64 0] 26)).alloc (.cells #[.int .i64 100, .slice (some ⟨w0.heap.size, 0, none⟩) 1 1] 29)).alloc (.cells #[.slice none 0 0, .slice (some ⟨w0.heap.size + 1, 0, none⟩) 1 1] 24) = w1 at *
  obtain ⟨q0, q1⟩ := box2 b3
  have hr : RdLv w1 w1.heap.size (some ⟨w0.heap.size + 1, 0, none⟩) snL := by
    intro _
    refine ⟨w0.heap.size + 1, 0, rfl, b2.lt, fun i x hx => ?_⟩
    have hi : i = 0 := by have := (List.getElem?_eq_some_iff.1 hx).1; simp [snL] at this; omega
    subst hi
    cases hx
    have c0 := b2.cell 0; have c1 := b2.cell 1
    refine ⟨by simpa using c0, some ⟨w0.heap.size, 0, none⟩, 1, by simpa using c1, by decide, by decide, ?_⟩
    have oo : OwnS w1 0 5 (some ⟨w0.heap.size, 0, none⟩) 1 1 (rows [⟨1, 2, 5, 0, 0⟩]) := b1.own (base := 0) (s := 5) (n := 1) (Nat.zero_le _) rfl (by decide)
    exact oo.rd (fun i j hi hj => rows_get hi hj)
  have KD := Lib.hid (cF.out (some ⟨w0.heap.size + 1, 0, none⟩) 1 w1 hr (by simp))
  clear b1 b2 b3 hr cF
  go_wp2_with fail
  go_at_call 29
  refine KD.out.mono ?_
  rintro e w2 ⟨D1, n1, d1, D2, d2, AT, cT, b, off, cW, rfl, hrt, hb2⟩
  replace bb := bb.keep hb2; replace bo := bo.keep hb2; replace hb := below_then hb2 hb
  clear q0 q1 KD hb2
  go_upto_region 3 with fail
  have bf := Bk.new w2 24 #[.slice D1 n1 d1, .slice D2 0 d2]
  have hba : Below w2.heap.size w2 (w2.alloc (.cells #[.slice D1 n1 d1, .slice D2 0 d2] 24)) := (Below.refl _ _).alloc (Nat.le_refl _) _
  replace bb := bb.keep hba; replace bo := bo.keep hba; replace hb := below_then hba hb
  have e0 := keepC hba hrt.out
  clear hba hrt
  generalize w2.alloc (.cells #[.slice D1 n1 d1, .slice D2 0 d2] 24) = w3 at *
  obtain ⟨f0, f1⟩ := box2 bf
  obtain ⟨q0, q1⟩ := box2 bb
  have k8 := box8o bo
  have cP2 := Lib.hid (cP.out w3 (HL.out.on hb) (HM.out.on hb))
  clear cP
  go_wp2_with fail
  go_at_call 29
  refine cP2.out.mono ?_
  rintro e w4 ⟨X1, m1, e1', X2, m2, e2', AT', nT, cT', gone, AW, nW, cW', ev, rfl, hK, hb4⟩
  replace bb := bb.keep hb4; replace bo := bo.keep hb4; replace hb := below_then hb4 hb
  clear cP2 q0 q1 k8 e0 f0 f1 bf
  rcases hK.out with ⟨z, hz, rfl⟩ | ⟨rfl, hmi, hr, s, L', M', hs, hok, hw, rfl, rfl, rfl, rfl, rfl, ot⟩
  · have HN := Lib.hid hz
    clear hz hb4 hK
    go_wp2
    go_ret
    exact ⟨rfl, below_then_alloc hb⟩
  go_upto_region 6 with fail
  have hba : Below w4.heap.size w4 (w4.alloc (.cells #[.slice X1 L'.length e1', .slice X2 M'.length e2'] 24)) := (Below.refl _ _).alloc (Nat.le_refl _) _
  replace bb := bb.keep hba; replace bo := bo.keep hba; replace hb := below_then hba hb
  have HT := Lib.hid (((ot.rd (fun i j hi hj => trows_get hi hj)).below hba).more hba.size)
  have hbk := (readyE_iff.1 hr).1
  have ho := (readyE_iff.1 hr).2.1
  have HQ := Lib.hid (Order.err_ok ho)
  have HMI := (met_out hbk ho hs).2.1
  have HTA := Lib.hid (show ∀ t ∈ s.T, mode ≠ 0 → t.frm ≠ t.to from fun t ht => (HMI.trades t ht).apart)
  have HWE := Lib.hid (show mode = 0 → s.W = [] from HMI.went)
  have hTn : s.T.length ≤ 400 := hok.trades
  have hok2 := KWay.ok hr hs hw
  have S1 := Lib.hid hok2.sizes
  have HSI := Lib.hid (pick_side (Order.err_ok ho).2.2.1 hbk)
  have HWAY := Lib.hid hw; have HR := Lib.hid hr; have HS := Lib.hid hs; have HM3 := Lib.hid hmi
  have HSAME := Lib.hid (fun hn => met_same (mode := mode) hbk ho hn)
  have HRS : Hid (∀ w', Below w.heap.size w w' → RdLv w' w.heap.size (pick o.side A1 A2) (pick o.side L M)) := Lib.hid (fun w' hb => by
    rcases HQ.out.2.2.1 with h | h
    · rw [h]; exact HM.out.below hb
    · rw [h]; exact HL.out.below hb)
  have cOf := Lib.hid (show ∀ w, Calls Try.prog 31 #[.agg #[.slice A1 L.length c1, .slice A2 M.length c2], .int .i64 (3 - o.side)] w fun e w' => e = .returned (.slice (pick o.side A1 A2) (pick o.side L M).length (pick o.side c1 c2)) ∧ Below w.heap.size w w' from fun w => by
    have h0 := rof_any .nilIface .nilIface (3 - o.side) A1 A2 L.length M.length c1 c2 w
    rcases HQ.out.2.2.1 with h | h
    · rw [h] at h0 ⊢; exact h0
    · rw [h] at h0 ⊢; exact h0)
  have hside := HQ.out.2.2.1
  have xs : IntKind.i64.wrap (3 - o.side) = 3 - o.side := IntWalk.i64_in _ (by omega)
  have hwn : s.W.length ≤ 60 := by have := hok.went; omega
  clear hba ot hK hb4 hr hs hok hw hbk ho HMI hok2 hmi hside
  generalize w4.alloc (.cells #[.slice X1 L'.length e1', .slice X2 M'.length e2'] 24) = w5 at *
  go_upto_block 0 with fail
  go_cut [18] (fun iv wx => Below w5.heap.size w5 wx)
  case first =>
    go_wp2_with fail
    by_cases hm0 : mode = 0
    · have m0 : (mode == 0) = true := by simpa using hm0
      have m1 : (mode != 0) = false := by simp [bne, m0]
      clear hm0
      go_loopw [18] (fun i wr => i = .int .i64 0 ∧ wr = w5) (fun i _ => 0)
      case atStart => exact ⟨rfl, rfl⟩
      case round =>
        obtain ⟨rfl, rfl⟩ := hrel
        rcases Nat.eq_zero_or_pos s.T.length with h0 | h0
        · have h1 : ¬ (0 : Int) < (s.T.length : Int) := by omega
          have h2 : decide ((0 : Int) < (s.T.length : Int)) = false := decide_eq_false h1
          have h3 : decide (0 < s.T.length) = false := decide_eq_false (by omega)
          clear h0
          go_wp2
          go_meet
          case rel => exact Below.refl _ _
        · have h1 : (0 : Int) < (s.T.length : Int) := by omega
          go_wp2
          go_meet
          case rel => exact Below.refl _ _
    · have m0 : (mode == 0) = false := by simpa using hm0
      have m1 : (mode != 0) = true := by simp [bne, m0]
      have HTB := Lib.hid (show ∀ t ∈ s.T, t.frm ≠ t.to from fun t ht => HTA.out t ht hm0)
      clear hm0
      generalize hTT : s.T = TT at *
      clear hTT
      go_loopw [18] (fun i wr => ∃ k : Nat, k ≤ TT.length ∧ i = .int .i64 k ∧ Below w5.heap.size w5 wr) (fun i _ => TT.length - (intOf i).toNat)
      case atStart => exact ⟨0, by omega, rfl, Below.refl _ _⟩
      case round =>
        obtain ⟨k, hk, rfl, hbl⟩ := hrel
        by_cases hlt : k < TT.length
        · obtain ⟨b, off, t, rfl, hbt, ht, e0, e1, e2, e3, e4, e5⟩ := tr_at (HT.out.below hbl) hlt
          have hj1 : (k : Int) < (TT.length : Int) := by omega
          have hj0 : (0 : Int) ≤ (k : Int) := by omega
          have hne := HTB.out t (List.mem_of_getElem? ht)
          have hn1 : (t.frm == t.to) = false := by simpa using hne
          clear ht hne
          go_wp2_with fail
          go_quiet (fail)
          go_wp2
          go_roundw
          case rel => exact ⟨k + 1, by omega, by go_num, below_drewN hbl _⟩
          case measure => simp [intOf]; omega
        · obtain rfl : k = TT.length := by omega
          go_wp2
          go_meet
          case rel => exact hbl
  case rest =>
    have hbc := hcut
    replace bb := bb.keep hbc; replace bo := bo.keep hbc; replace hb := below_then hbc hb
    obtain ⟨q0, q1⟩ := box2 bb
    have k2 := bo.cell 2
    simp at k2
    go_wp2_with fail
    go_at_call 31
    refine (cOf.out _).mono ?_
    rintro e w6 ⟨rfl, hb6⟩
    replace bb := bb.keep hb6; replace bo := bo.keep hb6; replace hb := below_then hb6 hb
    clear hb6 hbc hcut q0 q1 k2 cOf
    have hKl : (pick o.side L M).length ≤ 60 := Nat.le_trans (full_len HSI.out.full) HSI.out.few
    have cFl := Lib.hid (rflat_any (pick o.side L M) (pick o.side A1 A2) (pick o.side c1 c2) w6 ((HRS.out w6 hb).more hb.size) (by unfold maxLen; omega) (by have := HSI.out.few; omega))
    go_wp2_with fail
    go_at_call 30
    refine cFl.out.mono ?_
    rintro e w7 ⟨Af, cf, rfl, of_, hb7⟩
    replace bb := bb.keep hb7; replace bo := bo.keep hb7; replace hb := below_then hb7 hb
    have HFL := Lib.hid (of_.rd (fun i j hi hj => rows_get hi hj))
    have HNO := Lib.hid (show anyOwn o (flatL (pick o.side L M)) = false → NoOwn o (pick o.side L M) from noOwn_of)
    have hfl : (flatL (pick o.side L M)).length ≤ 60 := by rw [flatL_len]; exact HSI.out.few
    clear hb7 cFl of_ hKl
    generalize flatL (pick o.side L M) = F at *
    go_wp2_with fail
    go_loopw [19, 21] (fun b i wr => ∃ k : Nat, k ≤ F.length ∧ i = .int .i64 k ∧ b = .bool (anyOwn o (F.take k)) ∧ Below w7.heap.size w7 wr) (fun _ i _ => F.length - (intOf i).toNat)
    case atStart => exact ⟨0, by omega, rfl, rfl, Below.refl _ _⟩
    case round =>
      obtain ⟨k, hk, rfl, rfl, hbl⟩ := hrel
      by_cases hlt : k < F.length
      · obtain ⟨b, off, r, rfl, hbt, hrr, e0, e1, e2, e3, e4⟩ := rest_at (HFL.out.below hbl) hlt
        have hj1 : (k : Int) < (F.length : Int) := by omega
        have hj0 : (0 : Int) ≤ (k : Int) := by omega
        have HA := Lib.hid (anyOwn_take (o := o) hrr)
        have k1 := (bo.keep hbl).cell 1
        simp at k1
        clear hrr
        cases ha : anyOwn o (F.take k)
        · rw [ha] at HA
          cases he : (r.who == o.who)
          · rw [he] at HA
            clear ha
            go_wp2_with fail
            go_quiet (fail)
            go_wp2
            go_roundw
            case rel => exact ⟨k + 1, by omega, by go_num, by rw [HA.out]; rfl, below_drewN hbl _⟩
            case measure => simp [intOf]; omega
          · rw [he] at HA
            clear ha
            go_wp2_with fail
            go_quiet (fail)
            go_wp2
            go_roundw
            case rel => exact ⟨k + 1, by omega, by go_num, by rw [HA.out]; rfl, below_drewN hbl _⟩
            case measure => simp [intOf]; omega
        · rw [ha] at HA
          clear ha
          go_wp2_with fail
          go_quiet (fail)
          go_wp2
          go_roundw
          case rel => exact ⟨k + 1, by omega, by go_num, by rw [HA.out]; rfl, below_drewN hbl _⟩
          case measure => simp [intOf]; omega
      · obtain rfl : k = F.length := by omega
        rw [List.take_length]
        replace bb := bb.keep hbl; replace bo := bo.keep hbl; replace hb := below_then hbl hb
        clear hlt hbl HFL
        cases hao : anyOwn o F
        · have hs0 : met L M o 0 = some s := (HSAME.out (HNO.out hao)).symm.trans HS.out
          have hbk := (readyE_iff.1 HR.out).1
          have ho := (readyE_iff.1 HR.out).2.1
          have hW := (met_out hbk ho hs0).2.1.went rfl
          have cK := Lib.hid (fun w' h h' => kdo_way (w := w') h h' hl1 hl2 HA1.out HA2.out HR.out hs0 HWAY.out)
          have cS := Lib.hid (fun w' h h' => sdo_way (w := w') h h' hl1 hl2 HA1.out HA2.out HM3.out HR.out HS.out HWAY.out)
          have hwl : s.W.length = 0 := by rw [hW]; rfl
          have HWL := Lib.hid hwl
          clear hs0 hbk ho hW hao hwl HWE HTA
          generalize kGone L M o s = G at *
          obtain ⟨q0, q1⟩ := box2 bb
          have k8 := box8o bo
          have cK1 := Lib.hid (cK.out wr (HL.out.on hb) (HM.out.on hb))
          clear cK
          go_wp2_with fail
          go_at_call 28
          refine cK1.out.mono ?_
          rintro e wk ⟨Y1, y1, u1, Y2, y2, u2, YT, yt, rfl, hoy, hbk⟩
          obtain ⟨oy1, oy2, oyt⟩ := hoy.out
          replace bb := bb.keep hbk; replace bo := bo.keep hbk; replace hb := below_then hbk hb
          clear hbk cK1 q0 q1 k8 hoy
          go_upto_region 22 with fail
          have bY := Bk.new wk 24 #[.slice Y1 L'.length y1, .slice Y2 M'.length y2]
          have hba : Below wk.heap.size wk (wk.alloc (.cells #[.slice Y1 L'.length y1, .slice Y2 M'.length y2] 24)) := (Below.refl _ _).alloc (Nat.le_refl _) _
          replace bb := bb.keep hba; replace bo := bo.keep hba; replace hb := below_then hba hb
          have HY1 := Lib.hid (oy1.rd.on hba); have HY2 := Lib.hid (oy2.rd.on hba)
          have HYT := Lib.hid (((oyt.rd (fun i j hi hj => trows_get hi hj)).below hba).more hba.size)
          clear hba oy1 oy2 oyt
          generalize wk.alloc (.cells #[.slice Y1 L'.length y1, .slice Y2 M'.length y2] 24) = wl at *
          obtain ⟨q0, q1⟩ := box2 bb
          have k8 := box8o bo
          have cS1 := Lib.hid (cS.out wl (HL.out.on hb) (HM.out.on hb))
          clear cS
          go_wp2_with fail
          go_at_call 29
          refine cS1.out.mono ?_
          rintro e wm ⟨Z1, z1, v1, Z2, z2, v2, ZT, zt, ZW, zw, rfl, hoz, hbm⟩
          obtain ⟨oz1, oz2, ozt⟩ := hoz.out
          replace bY := bY.keep hbm; replace hb := below_then hbm hb
          have HY1' := Lib.hid (HY1.out.on hbm); have HY2' := Lib.hid (HY2.out.on hbm)
          have HYT' := Lib.hid ((HYT.out.below hbm).more hbm.size)
          clear hbm cS1 q0 q1 k8 hoz bb bo HY1 HY2 HYT
          go_upto_region 23 with fail
          have bZ := Bk.new wm 24 #[.slice Z1 L'.length z1, .slice Z2 M'.length z2]
          have hba : Below wm.heap.size wm (wm.alloc (.cells #[.slice Z1 L'.length z1, .slice Z2 M'.length z2] 24)) := (Below.refl _ _).alloc (Nat.le_refl _) _
          replace bY := bY.keep hba; replace hb := below_then hba hb
          have HY1 := Lib.hid (HY1'.out.on hba); have HY2 := Lib.hid (HY2'.out.on hba)
          have HYT := Lib.hid ((HYT'.out.below hba).more hba.size)
          have HZ1 := Lib.hid (oz1.rd.on hba); have HZ2 := Lib.hid (oz2.rd.on hba)
          have HZT := Lib.hid (((ozt.rd (fun i j hi hj => trows_get hi hj)).below hba).more hba.size)
          clear hba oz1 oz2 ozt HY1' HY2' HYT'
          generalize wm.alloc (.cells #[.slice Z1 L'.length z1, .slice Z2 M'.length z2] 24) = wn at *
          have cB := Lib.hid (samebook_any L' M' L' M' Y1 Y2 Z1 Z2 y1 y2 z1 z2 wn HY1.out HY2.out HZ1.out HZ2.out S1.out.1 S1.out.2 S1.out.1 S1.out.2)
          have cT := Lib.hid (fun w' h h' => trades_same s.T s.T YT ZT yt zt w' h h' (by omega) (by omega))
          obtain ⟨q0, q1⟩ := box2 bY
          obtain ⟨r0, r1⟩ := box2 bZ
          go_wp2_with fail
          go_at_call 25
          refine cB.out.mono ?_
          rintro e wo ⟨rfl, hbo⟩
          rw [show decide (L' = L' ∧ M' = M') = true from decide_eq_true ⟨rfl, rfl⟩]
          have cT1 := Lib.hid (cT.out wo ((HYT.out.below hbo).more hbo.size) ((HZT.out.below hbo).more hbo.size))
          replace hb := below_then hbo hb
          clear hbo cB cT q0 q1 r0 r1 bY bZ HY1 HY2 HZ1 HZ2 HYT HZT
          go_wp2_with fail
          go_at_call 32
          refine cT1.out.mono ?_
          rintro e wp ⟨rfl, hbp⟩
          (try rw [show decide (s.T = s.T) = true from decide_eq_true rfl])
          (try rw [show decide True = true from rfl])
          replace hb := below_then hbp hb
          have w0' : ((s.W.length : Int) == 0) = true := by have := HWL.out; simp [this]
          clear hbp cT1
          go_wp2
          go_ret
          exact ⟨rfl, hb⟩
        · clear hao
          by_cases hm0 : mode = 0
          · have m0 : (mode == 0) = true := by simpa using hm0
            have m1 : (mode != 0) = false := by simp [bne, m0]
            have hW0 : s.W.length = 0 := by rw [HWE.out hm0]; rfl
            have w0' : ((s.W.length : Int) == 0) = true := by simp [hW0]
            clear hm0 hW0
            go_wp2
            go_ret
            exact ⟨rfl, hb⟩
          · have m0 : (mode == 0) = false := by simpa using hm0
            have m1 : (mode != 0) = true := by simp [bne, m0]
            clear hm0
            go_wp2
            go_ret
            exact ⟨rfl, hb⟩
theorem selfNever_law {H : Type} {enc : TypeId × Value → H} {v0 v1 v2 : Value} {d0 d1 d2 : DataW H} {p0 p1 p2 : List MemPlace} {base : Nat} {W : World}
    (h0 : Arg enc W base 24 v0 d0 p0) (h1 : Arg enc W base 36 v1 d1 p1) (h2 : Arg enc W base 3 v2 d2 p2) :
    Calls Try.prog 9 #[v0, v1, v2] W fun e w' => e = .returned (.bool true) ∧ Below W.heap.size W w' := by
  obtain ⟨A1, L, c1, A2, M, c2, rfl, hl1, hl2, hA1, hA2, hr1, hr2⟩ := h0.book
  obtain ⟨o, rfl⟩ := h1.order
  obtain ⟨m, rfl, _⟩ := h2.int
  exact selfNever_any L M o m A1 A2 c1 c2 W hr1 hr2 hl1 hl2 hA1 hA2
end Go.Proofs.Ytbnjkcgkdpildaa
