/- MeetFair holds: for all arguments the law's function returns true. No condition. -/
import Derived.Test.YtbnjkcgkdpildaaFairLaw
import Derived.Test.YtbnjkcgkdpildaaMeetDo
import Derived.Test.YtbnjkcgkdpildaaBkOwn
import Derived.Test.YtbnjkcgkdpildaaKDoLaw
import Derived.Test.YtbnjkcgkdpildaaBookArg
import Derived.Test.YtbnjkcgkdpildaaStructArg
namespace Go.Proofs.Ytbnjkcgkdpildaa
set_option linter.all false
open Go Go.RowKit Go.ChangeShapes Go.WideShapes
/-- what meet.Do gave, as laws want it -/
def MGave (L M : List Lv) (o : Order) (base : Nat) (w' : World) (A1 : Option Addr) (n1 c1 : Nat) (A2 : Option Addr) (n2 c2 : Nat) (AT : Option Addr) (nT cT : Nat) (left : Int) (ev : Value) : Prop :=
  (∃ z, z ≠ 0 ∧ ev = er z) ∨ (ev = .nilIface ∧ readyE L M o = 0 ∧ ∃ s v1 v2, met L M o 0 = some s ∧ MOk s ∧ n1 = (kL o.side L s).length ∧ n2 = (kM o.side M s).length ∧ nT = s.T.length ∧ left = s.left ∧ OwnLv w' base A1 c1 (kL o.side L s) v1 ∧ OwnLv w' base A2 c2 (kM o.side M s) v2 ∧ OwnS w' base 6 AT s.T.length cT (trows s.T))
def MDoLaw (L M : List Lv) (o : Order) (w : World) (e : Ending) (w' : World) : Prop :=
  ∃ A1 n1 c1 A2 n2 c2 AT nT cT left ev, e = .returned (.tuple #[.agg #[.slice A1 n1 c1, .slice A2 n2 c2], .slice AT nT cT, .int .i64 left, ev]) ∧ Hid (MGave L M o w.heap.size w' A1 n1 c1 A2 n2 c2 AT nT cT left ev) ∧ Below w.heap.size w w'
theorem mdo_law (L M : List Lv) (o : Order) (A1 A2 : Option Addr) (c1 c2 : Nat) (w : World) (h1 : RdLv w w.heap.size A1 L) (h2 : RdLv w w.heap.size A2 M) (hl1 : L.length ≤ maxLen) (hl2 : M.length ≤ maxLen) (hA1 : A1 = none → c1 = 0) (hA2 : A2 = none → c2 = 0) :
    Calls Try.prog 11 #[.agg #[.slice A1 L.length c1, .slice A2 M.length c2], .agg #[.int .i64 o.id, .int .i64 o.who, .int .i64 o.side, .int .i64 o.kind, .int .i64 o.price, .int .i64 o.qty, .int .i64 o.show_, .int .i64 o.stop]] w (MDoLaw L M o w) := by
  obtain ⟨R, hR⟩ : ∃ R, R = met L M o 0 := ⟨_, rfl⟩
  refine (mdo_any L M o A1 A2 c1 c2 w h1 h2 hl1 hl2 hA1 hA2 _ rfl R hR).mono ?_
  rintro e w' (⟨hz, rfl, hb⟩ | ⟨hz, _, rfl, hb⟩ | ⟨hz, s, B1, d1, v1, B2, d2, v2, AT, cT, hs, hok, rfl, o1, o2, ot, hb⟩)
  · exact ⟨_, _, _, _, _, _, _, _, _, _, _, rfl, Lib.hid (.inl ⟨_, hz, rfl⟩), hb⟩
  · exact ⟨_, _, _, _, _, _, _, _, _, _, _, rfl, Lib.hid (.inl ⟨4, by decide, rfl⟩), hb⟩
  · rw [hR] at hs
    exact ⟨_, _, _, _, _, _, _, _, _, _, _, rfl, Lib.hid (.inr ⟨rfl, hz, s, v1, v2, hs, hok, rfl, rfl, rfl, rfl, o1, o2, ot⟩), hb⟩
def mfL : List Lv := [⟨100, [⟨1, 1, 5, 0, 0⟩]⟩]
def mfO : Order := ⟨2, 2, 1, 1, 101, 7, 0, 0⟩
def mfT : List Trade := [⟨1, 2, 1, 2, 100, 5⟩]
def mfB : Bool := readyE [] mfL mfO == 0 && (match met [] mfL mfO 0 with
  | none => false
  | some s => s.left == 2 && s.T.length == 1 && (match s.T with | [t] => t.price == 100 && t.qty == 5 && t.to == 2 | _ => false))
theorem mf_all : mfB = true := by kernel_rfl
theorem mf_out {s : MSt} (h : met [] mfL mfO 0 = some s) : s.left = 2 ∧ ∃ t, s.T = [t] ∧ t.price = 100 ∧ t.qty = 5 ∧ t.to = 2 := by
  have hb := mf_all
  unfold mfB at hb
  rw [h] at hb
  simp only [Bool.and_eq_true, beq_iff_eq] at hb
  obtain ⟨_, ⟨h1, h2⟩, h3⟩ := hb
  refine ⟨h1, ?_⟩
  cases hT : s.T with
  | nil => rw [hT] at h3; simp at h3
  | cons t r =>
    cases r with
    | nil => rw [hT] at h3; simp at h3; exact ⟨t, rfl, h3.1.1, h3.1.2, h3.2⟩
    | cons t2 r2 => rw [hT] at h3; simp at h3
theorem mf_ready : readyE [] mfL mfO = 0 := by
  have hb := mf_all
  unfold mfB at hb
  rw [Bool.and_eq_true] at hb
  simpa using hb.1
theorem cell_drewN {w : World} {p : Addr} {v : Value} (h : w.cell? p = some v) (n : Nat) : (w.drewN n).cell? p = some v := h
def MfPost (w : World) (e : Ending) (w' : World) : Prop :=
  ∃ A1 n1 c1 A2 n2 c2 AT cT t, e = .returned (.tuple #[.agg #[.slice A1 n1 c1, .slice A2 n2 c2], .slice AT 1 cT, .int .i64 2, .nilIface]) ∧ Hid (Rd w' w'.heap.size AT 1 6 (tcell [t]) ∧ t.price = 100 ∧ t.qty = 5 ∧ t.to = 2) ∧ Below w.heap.size w w'
theorem mf_do (A : Option Addr) (c : Nat) (w : World) (hr : RdLv w w.heap.size A mfL) (hA : A ≠ none) :
    Calls Try.prog 11 #[.agg #[.slice none 0 0, .slice A 1 c], .agg #[.int .i64 2, .int .i64 2, .int .i64 1, .int .i64 1, .int .i64 101, .int .i64 7, .int .i64 0, .int .i64 0]] w (MfPost w) := by
  have hs : ∃ s, met [] mfL mfO 0 = some s := by
    cases h : met [] mfL mfO 0 with
    | none =>
      have hb := mf_all
      unfold mfB at hb
      rw [h] at hb
      simp at hb
    | some s => exact ⟨s, rfl⟩
  obtain ⟨s, hs⟩ := hs
  obtain ⟨e1, t, e2, e3, e4, e5⟩ := mf_out hs
  refine (mdo_any [] mfL mfO none A 0 c w RdLv.nil hr (by decide) (by decide) (fun _ => rfl) (fun e => absurd e hA) 0 mf_ready.symm (some s) hs.symm).mono ?_
  rintro e w' (⟨hz, _⟩ | ⟨_, h, _⟩ | ⟨_, s', B1, d1, v1, B2, d2, v2, AT, cT, hs', hok, rfl, o1, o2, ot, hb⟩)
  · exact absurd rfl hz
  · cases h
  · cases hs'
    rw [e1, e2] at *
    exact ⟨_, _, _, _, _, _, _, _, t, rfl, Lib.hid ⟨ot.rd (fun i j hi hj => trows_get hi hj), e3, e4, e5⟩, hb⟩
set_option maxRecDepth 100000 in
set_option maxHeartbeats 8000000 in
theorem meetFair_any (L M : List Lv) (o : Order) (A1 A2 : Option Addr) (c1 c2 : Nat) (w : World) (h1 : RdLv w w.heap.size A1 L) (h2 : RdLv w w.heap.size A2 M) (hl1 : L.length ≤ maxLen) (hl2 : M.length ≤ maxLen) (hA1 : A1 = none → c1 = 0) (hA2 : A2 = none → c2 = 0) :
    Calls Try.prog 5 #[.agg #[.slice A1 L.length c1, .slice A2 M.length c2], .agg #[.int .i64 o.id, .int .i64 o.who, .int .i64 o.side, .int .i64 o.kind, .int .i64 o.price, .int .i64 o.qty, .int .i64 o.show_, .int .i64 o.stop]] w fun e w' => e = .returned (.bool true) ∧ Below w.heap.size w w' := by
  have HL := Lib.hid h1; have HM := Lib.hid h2
  have cF := Lib.hid (fun A c w h h' => mf_do A c w h h')
  have cP := Lib.hid (fun w' h h' => mdo_law L M o A1 A2 c1 c2 w' h h' hl1 hl2 hA1 hA2)
  have hb : Below w.heap.size w ((w.alloc (.cells #[.slice A1 L.length c1, .slice A2 M.length c2] 24)).alloc (.cells #[.int .i64 o.id, .int .i64 o.who, .int .i64 o.side, .int .i64 o.kind, .int .i64 o.price, .int .i64 o.qty, .int .i64 o.show_, .int .i64 o.stop] 36)) := below_then_alloc ((Below.refl _ _).alloc (Nat.le_refl _) _)
  have bb := (Bk.new w 24 #[.slice A1 L.length c1, .slice A2 M.length c2]).alloc (.cells #[.int .i64 o.id, .int .i64 o.who, .int .i64 o.side, .int .i64 o.kind, .int .i64 o.price, .int .i64 o.qty, .int .i64 o.show_, .int .i64 o.stop] 36)
  have bo := Bk.at_ (w := w.alloc (.cells #[.slice A1 L.length c1, .slice A2 M.length c2] 24)) (g' := w.heap.size + 1) (by simp) 36 #[.int .i64 o.id, .int .i64 o.who, .int .i64 o.side, .int .i64 o.kind, .int .i64 o.price, .int .i64 o.qty, .int .i64 o.show_, .int .i64 o.stop]
  clear h1 h2 hA1 hA2
  go_enter Try.func5, Try.ntmps5
  go_upto_region 1 with fail
  generalize (w.alloc (.cells #[.slice A1 L.length c1, .slice A2 M.length c2] 24)).alloc (.cells #[.int .i64 o.id, .int .i64 o.who, .int .i64 o.side, .int .i64 o.kind, .int .i64 o.price, .int .i64 o.qty, .int .i64 o.show_, .int .i64 o.stop] 36) = w0 at *
  go_upto_region 2 with fail
  have hb0 : Below w0.heap.size w0 (((w0.alloc (.cells #[.int .i64 1, .int .i64 1, .int .i64 5, .int .i64 0, .int .i64 0] 26)).alloc (.cells #[.int .i64 100, .slice (some ⟨w0.heap.size, 0, none⟩) 1 1] 29)).alloc (.cells #[.slice none 0 0, .slice (some ⟨w0.heap.size + 1, 0, none⟩) 1 1] 24)) := below_then_alloc (below_then_alloc ((Below.refl _ _).alloc (Nat.le_refl _) _))
  have b1 := ((Bk.new w0 26 #[.int .i64 1, .int .i64 1, .int .i64 5, .int .i64 0, .int .i64 0]).alloc (.cells #[.int .i64 100, .slice (some ⟨w0.heap.size, 0, none⟩) 1 1] 29)).alloc (.cells #[.slice none 0 0, .slice (some ⟨w0.heap.size + 1, 0, none⟩) 1 1] 24)
  have b2 := (Bk.at_ (w := w0.alloc (.cells #[.int .i64 1, .int .i64 1, .int .i64 5, .int .i64 0, .int .i64 0] 26)) (g' := w0.heap.size + 1) (by simp) 29 #[.int .i64 100, .slice (some ⟨w0.heap.size, 0, none⟩) 1 1]).alloc (.cells #[.slice none 0 0, .slice (some ⟨w0.heap.size + 1, 0, none⟩) 1 1] 24)
  have b3 := Bk.at_ (w := (w0.alloc (.cells #[.int .i64 1, .int .i64 1, .int .i64 5, .int .i64 0, .int .i64 0] 26)).alloc (.cells #[.int .i64 100, .slice (some ⟨w0.heap.size, 0, none⟩) 1 1] 29)) (g' := w0.heap.size + 2) (by simp) 24 #[.slice none 0 0, .slice (some ⟨w0.heap.size + 1, 0, none⟩) 1 1]
  replace bb := bb.keep hb0; replace bo := bo.keep hb0; replace hb := below_then hb0 hb
  clear hb0
  generalize ((w0.alloc (.cells #[.int .i64 1, .int .i64 1, .int .i64 5, .int .i64 0, .int .i64 0] 26)).alloc (.cells #[.int .i64 100, .slice (some ⟨w0.heap.size, 0, none⟩) 1 1] 29)).alloc (.cells #[.slice none 0 0, .slice (some ⟨w0.heap.size + 1, 0, none⟩) 1 1] 24) = w1 at *
  obtain ⟨q0, q1⟩ := box2 b3
  have hr : RdLv w1 w1.heap.size (some ⟨w0.heap.size + 1, 0, none⟩) mfL := by
    intro _
    refine ⟨w0.heap.size + 1, 0, rfl, b2.lt, fun i x hx => ?_⟩
    have hi : i = 0 := by have := (List.getElem?_eq_some_iff.1 hx).1; simp [mfL] at this; omega
    subst hi
    cases hx
    have c0 := b2.cell 0; have c1 := b2.cell 1
    refine ⟨by simpa using c0, some ⟨w0.heap.size, 0, none⟩, 1, by simpa using c1, by decide, by decide, ?_⟩
    have oo : OwnS w1 0 5 (some ⟨w0.heap.size, 0, none⟩) 1 1 (rows [⟨1, 1, 5, 0, 0⟩]) := b1.own (base := 0) (s := 5) (n := 1) (Nat.zero_le _) rfl (by decide)
    exact oo.rd (fun i j hi hj => rows_get hi hj)
  have KD := Lib.hid (cF.out (some ⟨w0.heap.size + 1, 0, none⟩) 1 w1 hr (by simp))
  clear b1 b2 b3 hr cF
  go_wp2_with fail
  go_at_call 11
  refine KD.out.mono ?_
  rintro e w2 ⟨D1, n1, d1, D2, n2, d2, AT, cT, t, rfl, hrt, hb2⟩
  replace bb := bb.keep hb2; replace bo := bo.keep hb2; replace hb := below_then hb2 hb
  clear q0 q1 KD hb2
  go_upto_region 3 with fail
  have hba : Below w2.heap.size w2 (w2.alloc (.cells #[.slice D1 n1 d1, .slice D2 n2 d2] 24)) := (Below.refl _ _).alloc (Nat.le_refl _) _
  replace bb := bb.keep hba; replace bo := bo.keep hba; replace hb := below_then hba hb
  have hrt2 := (hrt.out.1.below hba).more hba.size
  obtain ⟨b, off, t', rfl, hbt, ht, e0, e1, e2, e3, e4, e5⟩ := tr_at (l := [t]) hrt2 (k := 0) (by simp)
  cases ht
  simp only [Nat.zero_mul, Nat.add_zero] at e0 e1 e2 e3 e4 e5
  rw [hrt.out.2.1] at e4
  rw [hrt.out.2.2.1] at e5
  rw [hrt.out.2.2.2] at e3
  clear hba hrt2 hrt
  generalize w2.alloc (.cells #[.slice D1 n1 d1, .slice D2 n2 d2] 24) = w3 at *
  obtain ⟨q0, q1⟩ := box2 bb
  have k8 := box8o bo
  have cP2 := Lib.hid (cP.out w3 (HL.out.on hb) (HM.out.on hb))
  clear cP
  go_wp2_with fail
  go_at_call 11
  refine cP2.out.mono ?_
  rintro e w4 ⟨X1, m1, e1', X2, m2, e2', AT', nT, cT', left, ev, rfl, hK, hb4⟩
  replace bb := bb.keep hb4; replace bo := bo.keep hb4; replace hb := below_then hb4 hb
  clear cP2 q0 q1 k8 e0 e1 e2 e3 e4 e5 hbt
  rcases hK.out with ⟨z, hz, rfl⟩ | ⟨rfl, hr, s, v1, v2, hs, hok, rfl, rfl, rfl, rfl, o1, o2, ot⟩
  · have HN := Lib.hid hz
    clear hz hb4 hK
    go_wp2
    go_ret
    exact ⟨rfl, below_then_alloc hb⟩
  go_upto_region 6 with fail
  have by_ := Bk.new w4 24 #[.slice X1 (kL o.side L s).length e1', .slice X2 (kM o.side M s).length e2']
  have hba : Below w4.heap.size w4 (w4.alloc (.cells #[.slice X1 (kL o.side L s).length e1', .slice X2 (kM o.side M s).length e2'] 24)) := (Below.refl _ _).alloc (Nat.le_refl _) _
  replace bb := bb.keep hba; replace bo := bo.keep hba; replace hb := below_then hba hb
  have HX := Lib.hid (o1.rd.on hba); have HY := Lib.hid (o2.rd.on hba)
  have HT := Lib.hid (((ot.rd (fun i j hi hj => trows_get hi hj)).below hba).more hba.size)
  have hf := fair hr hs
  have ho := (readyE_iff.1 hr).2.1
  have HBK := Lib.hid (readyE_iff.1 hr).1
  have HR := Lib.hid hr
  have HQ := Lib.hid (Order.err_ok ho)
  have hq := HQ.out.2.2.2.2.2.1
  have hT1 : ∀ t ∈ s.T, 1 ≤ t.qty := fun t ht => (hf.tr t ht).q1
  have HT2 := Lib.hid hf.tr
  have HTK := Lib.hid (sumT_take_le hT1)
  have hsum := hf.sum
  have hTn : s.T.length ≤ 400 := hok.trades
  have hl0 := hok.left0
  have HSO := Lib.hid hf.sort
  have HFA := Lib.hid hf
  have S1 := Lib.hid hf.ok.sizes
  have cMe := Lib.hid (fun p hp w => meets_ok o p ho hp w)
  have cCo := Lib.hid (fun w' h h' => could_any L M o A1 A2 c1 c2 w' h h' hl1 hl2 0 hr.symm _ rfl)
  clear hba o1 o2 ot hK hb4 hr hs hok hf ho hT1
  generalize hTT : s.T = TT at *
  generalize hLE : s.left = LE at *
  have HTT := Lib.hid hTT; have HLE := Lib.hid hLE
  clear hTT hLE
  generalize w4.alloc (.cells #[.slice X1 (kL o.side L s).length e1', .slice X2 (kM o.side M s).length e2'] 24) = w5 at *
  go_wp2_with fail
  go_loopw [14, 15] (fun n i wr => ∃ k : Nat, k ≤ TT.length ∧ i = .int .i64 k ∧ n = .int .i64 (sumT (TT.take k)) ∧ Below w5.heap.size w5 wr) (fun _ i _ => TT.length - (intOf i).toNat)
  case atStart => exact ⟨0, by omega, rfl, rfl, Below.refl _ _⟩
  case round =>
    obtain ⟨k, hk, rfl, rfl, hbl⟩ := hrel
    by_cases hlt : k < TT.length
    · obtain ⟨b, off, t, rfl, hbt, ht, e0, e1, e2, e3, e4, e5⟩ := tr_at (HT.out.below hbl) hlt
      have hj1 : (k : Int) < (TT.length : Int) := by omega
      have hj0 : (0 : Int) ≤ (k : Int) := by omega
      have htk := HT2.out t (List.mem_of_getElem? ht)
      have HTO := Lib.hid htk
      have HTT2 := Lib.hid ht
      have cM1 := Lib.hid (cMe.out t.price htk.price wr.drew)
      rw [htk.may] at cM1
      have bor := bo.keep hbl
      have hbw := hbl.size
      obtain ⟨y0, y1, y2, y3, y4, y5, y6, y7⟩ := box8o bor
      go_upto_region 12 with fail
      go_region_held3 (fun w' => w'.cell? ⟨w.heap.size + 1, 0, none⟩ = some (.int .i64 o.id) ∧ w'.cell? ⟨w.heap.size + 1, 1, none⟩ = some (.int .i64 o.who) ∧ w'.cell? ⟨w.heap.size + 1, 2, none⟩ = some (.int .i64 o.side) ∧ w'.cell? ⟨w.heap.size + 1, 3, none⟩ = some (.int .i64 o.kind) ∧ w'.cell? ⟨w.heap.size + 1, 4, none⟩ = some (.int .i64 o.price) ∧ w'.cell? ⟨w.heap.size + 1, 5, none⟩ = some (.int .i64 o.qty) ∧ w'.cell? ⟨w.heap.size + 1, 6, none⟩ = some (.int .i64 o.show_) ∧ w'.cell? ⟨w.heap.size + 1, 7, none⟩ = some (.int .i64 o.stop) ∧ w'.cell? ⟨b, off + k * 6 + 4, none⟩ = some (.int .i64 t.price))
        ((repeat' apply And.intro) <;> (first | (with_reducible assumption) | (with_reducible exact cell_drew (by assumption))))
        ((go_at_call 17; (with_reducible refine cM1.out.mono ?_); rintro e w6 ⟨rfl, hb6⟩; have bo6 := bor.drew.keep hb6; obtain ⟨y0, y1, y2, y3, y4, y5, y6, y7⟩ := box8o bo6; have e4' : w6.cell? ⟨b, off + k * 6 + 4, none⟩ = some (.int .i64 t.price) := (hb6.cell (p := ⟨b, off + k * 6 + 4, none⟩) (by show b < wr.drew.heap.size; exact Nat.lt_of_lt_of_le hbt hbw)).trans e4))
      have hbl6 := below_then hb6 hbl.drew
      clear cM1 e0 e1 e2 e3 e4 e5 e4' y0 y1 y2 y3 y4 y5 y6 y7 hb6 hbl bor bo6 ht htk hbt hbw
      obtain ⟨b', off', t', hA', hbt, ht, e0, e1, e2, e3, e4, e5⟩ := tr_at (HT.out.below hbl6) hlt
      cases hA'
      obtain rfl : t = t' := Option.some.inj (HTT2.out.symm.trans ht)
      rw [HTO.out.taker] at e1
      obtain ⟨y0, y1, y2, y3, y4, y5, y6, y7⟩ := box8o (bo.keep hbl6)
      have hq1 := HTO.out.q1; have hq2 := HTO.out.q2
      have l3 : decide (t.qty < 1) = false := decide_eq_false (by omega)
      have l4 : decide (o.qty < t.qty) = false := decide_eq_false (by omega)
      have hS := HTK.out k; have hS2 := HTK.out (k + 1)
      rw [sumT_take ht] at hS2
      have HS := Lib.hid (sumT_take ht)
      have x3 : IntKind.i64.wrap (sumT (TT.take k) + t.qty) = sumT (TT.take k) + t.qty := IntWalk.i64_in _ (by omega)
      clear hS hS2 ht
      generalize sumT (TT.take k) = S at *
      rcases (show k = 0 ∨ ∃ j, k = j + 1 from by cases k with | zero => exact .inl rfl | succ j => exact .inr ⟨j, rfl⟩) with rfl | ⟨j, hkj⟩
      · simp only [Nat.zero_mul, Nat.add_zero, Int.natCast_zero] at e0 e1 e2 e3 e4 e5 hj1 hj0 ⊢
        clear hq1 hq2
        go_wp2_with fail
        go_quiet (fail)
        go_wp2
        go_roundw
        case rel => exact ⟨0 + 1, by omega, by go_num, by rw [HS.out], below_drewN hbl6 _⟩
        case measure => simp [intOf]; omega
      · obtain ⟨b'', off'', t'', hA'', hbt2, ht2, f0, f1, f2, f3, f4, f5⟩ := tr_at (k := j) (HT.out.below hbl6) (by omega)
        cases hA''
        obtain ⟨hok1, hok2⟩ := HSO.out j t'' t ht2 (by rw [← hkj]; exact HTT2.out)
        have cBe := Lib.hid (fun w => better_ok o.side t.price t''.price w hok1)
        rw [hok2] at cBe
        have xj : IntKind.i64.wrap ((k : Int) - 1) = (j : Int) := by rw [show (k : Int) - 1 = (j : Int) by omega]; exact IntWalk.i64_in _ (by omega)
        have hj2 : (0 : Int) < (k : Int) := by omega
        have hj3 : (0 : Int) ≤ (j : Int) := by omega
        have hj4 : (j : Int) < (TT.length : Int) := by omega
        have hkn := Lib.hid hkj
        clear hq1 hq2 hok1 hok2 ht2 hkj hbt2 f0 f1 f2 f3 f5
        go_wp2_with fail
        go_quiet (fail)
        go_upto_region 16 with fail
        go_region_held3 (fun w' => w'.cell? ⟨w.heap.size + 1, 2, none⟩ = some (.int .i64 o.side) ∧ w'.cell? ⟨b, off + k * 6 + 4, none⟩ = some (.int .i64 t.price) ∧ w'.cell? ⟨b, off + j * 6 + 4, none⟩ = some (.int .i64 t''.price))
          ((repeat' apply And.intro) <;> (first | (with_reducible assumption) | (with_reducible exact cell_drew (by assumption)) | (with_reducible exact cell_drewN (by assumption) _) | (with_reducible exact cell_drew (cell_drewN (by assumption) _))))
          ((go_at_call 18; (with_reducible refine (cBe.out _).mono ?_); rintro e w7 ⟨rfl, hw7⟩; subst hw7))
        go_wp2
        go_roundw
        case rel => exact ⟨k + 1, by omega, by go_num, by rw [HS.out], below_drewN hbl6 _⟩
        case measure => simp [intOf]; omega
    · obtain rfl : k = TT.length := by omega
      rw [List.take_length]
      replace bo := bo.keep hbl; replace bb := bb.keep hbl; replace by_ := by_.keep hbl; replace hb := below_then hbl hb
      have HX5 := Lib.hid (HX.out.on hbl); have HY5 := Lib.hid (HY.out.on hbl)
      have hSb := HTK.out 0
      rw [show sumT (TT.take 0) = 0 from rfl] at hSb
      clear hlt hbl HX HY HT HTK HT2 HSO cMe hTn
      have hcd := HFA.out.could; have hlo := HFA.out.lost; have hmo := HFA.out.more
      rw [HTT.out] at hcd hlo
      rw [HLE.out] at hmo
      have HCD := Lib.hid hcd
      have hbE : bookE (kL o.side L s) (kM o.side M s) = 0 := bookE_iff.2 HFA.out.ok
      have cC := Lib.hid (fun w' h h' => bcheck_any (kL o.side L s) (kM o.side M s) X1 X2 e1' e2' w' h h' S1.out.1.1 S1.out.2.1)
      rw [hbE, show errV 0 = .nilIface from rfl] at cC
      have cW1 := Lib.hid (fun w' h h' => wholeq_any L M A1 A2 c1 c2 w' h h' HBK.out.buys HBK.out.sells)
      have cW2 := Lib.hid (fun w' h h' => wholeq_any (kL o.side L s) (kM o.side M s) X1 X2 e1' e2' w' h h' HFA.out.ok.buys HFA.out.ok.sells)
      have cCo2 := Lib.hid (fun w' h h' => could_any (kL o.side L s) (kM o.side M s) o X1 X2 e1' e2' w' h h' S1.out.1.1 S1.out.2.1 0 HFA.out.ready.symm _ rfl)
      rw [← hcd] at cCo
      have q1b := lvQ_nonneg (L := L) (fun x hx => HBK.out.buys.sound x hx)
      have q2b := lvQ_nonneg (L := M) (fun x hx => HBK.out.sells.sound x hx)
      have q3b := lvQ_nonneg (L := kL o.side L s) (fun x hx => HFA.out.ok.buys.sound x hx)
      have q4b := lvQ_nonneg (L := kM o.side M s) (fun x hx => HFA.out.ok.sells.sound x hx)
      have z1 := HBK.out.few; have z2 := HFA.out.ok.few
      have HMO := Lib.hid hmo
      clear hcd hbE hmo HCD
      generalize kL o.side L s = L' at *
      generalize kM o.side M s = M' at *
      generalize sumT TT = S at *
      generalize lvQ L + lvQ M = W1 at *
      generalize lvQ L' + lvQ M' = W2 at *
      generalize hMI : min (mayQ o (pick o.side L' M')) o.qty = MI2 at *
      obtain ⟨y0, y1, y2, y3, y4, y5, y6, y7⟩ := box8o bo
      obtain ⟨q0, q1⟩ := box2 bb
      obtain ⟨x0, x1⟩ := box2 by_
      have cCo3 := Lib.hid (cCo.out wr (HL.out.on hb) (HM.out.on hb))
      have s1 : IntKind.i64.wrap (S + LE) = S + LE := IntWalk.i64_in _ (by omega)
      have s2 : IntKind.i64.wrap (W1 - W2) = S := by rw [hlo]; exact IntWalk.i64_in _ (by omega)
      have p1 : (S + LE == o.qty) = true := by simp; omega
      have p1' : (S + LE != o.qty) = false := by simp [bne, p1]
      clear cCo
      go_wp2_with fail
      go_at_call 19
      refine cCo3.out.mono ?_
      rintro e w6 ⟨a6, ev6, rfl, h6, hb6⟩
      rcases h6.out with ⟨h, _⟩ | ⟨_, rfl, rfl⟩
      · exact absurd rfl h
      replace bo := bo.keep hb6; replace bb := bb.keep hb6; replace by_ := by_.keep hb6; replace hb := below_then hb6 hb
      have HX6 := Lib.hid (HX5.out.on hb6); have HY6 := Lib.hid (HY5.out.on hb6)
      clear h6 hb6 cCo3 HX5 HY5 y0 y1 y2 y3 y4 y5 y6 y7 q0 q1 x0 x1
      obtain ⟨y0, y1, y2, y3, y4, y5, y6, y7⟩ := box8o bo
      obtain ⟨x0, x1⟩ := box2 by_
      have cC2 := Lib.hid (cC.out w6 HX6.out HY6.out)
      go_wp2_with fail
      go_at_call 20
      refine cC2.out.mono ?_
      rintro e w7 ⟨rfl, hb7⟩
      replace bo := bo.keep hb7; replace bb := bb.keep hb7; replace by_ := by_.keep hb7; replace hb := below_then hb7 hb
      have HX7 := Lib.hid (HX6.out.on hb7); have HY7 := Lib.hid (HY6.out.on hb7)
      clear hb7 cC2 cC HX6 HY6 y0 y1 y2 y3 y4 y5 y6 y7 x0 x1
      obtain ⟨q0, q1⟩ := box2 bb
      have cW3 := Lib.hid (cW1.out w7 (HL.out.on hb) (HM.out.on hb))
      go_wp2_with fail
      go_at_call 21
      refine cW3.out.mono ?_
      rintro e w8 ⟨rfl, hb8⟩
      replace bo := bo.keep hb8; replace by_ := by_.keep hb8; replace hb := below_then hb8 hb
      have HX8 := Lib.hid (HX7.out.on hb8); have HY8 := Lib.hid (HY7.out.on hb8)
      clear hb8 cW3 cW1 HX7 HY7 q0 q1 bb
      obtain ⟨x0, x1⟩ := box2 by_
      have cW4 := Lib.hid (cW2.out w8 HX8.out HY8.out)
      go_wp2_with fail
      go_at_call 21
      refine cW4.out.mono ?_
      rintro e w9 ⟨rfl, hb9⟩
      replace bo := bo.keep hb9; replace by_ := by_.keep hb9; replace hb := below_then hb9 hb
      have HX9 := Lib.hid (HX8.out.on hb9); have HY9 := Lib.hid (HY8.out.on hb9)
      clear hb9 cW4 cW2 HX8 HY8 x0 x1
      by_cases hLE : LE = 0
      · have e0 : (LE == 0) = true := by simpa using hLE
        clear hLE
        go_wp2
        go_ret
        exact ⟨rfl, hb⟩
      · have e0 : (LE == 0) = false := by simpa using hLE
        have hm0 := HMO.out hLE
        have cCo4 := Lib.hid (cCo2.out w9 HX9.out HY9.out)
        rw [hm0] at cCo4
        obtain ⟨x0, x1⟩ := box2 by_
        obtain ⟨y0, y1, y2, y3, y4, y5, y6, y7⟩ := box8o bo
        clear hLE hm0 HMO cCo2 hMI
        go_wp2_with fail
        go_at_call 19
        refine cCo4.out.mono ?_
        rintro e wa ⟨aa, eva, rfl, ha, hba⟩
        rcases ha.out with ⟨h, _⟩ | ⟨_, rfl, rfl⟩
        · exact absurd rfl h
        have hbf := below_then hba hb
        clear ha hba cCo4 x0 x1 y0 y1 y2 y3 y4 y5 y6 y7
        go_wp2
        go_ret
        exact ⟨rfl, hbf⟩
theorem meetFair_law {H : Type} {enc : TypeId × Value → H} {v0 v1 : Value} {d0 d1 : DataW H} {p0 p1 : List MemPlace} {base : Nat} {W : World}
    (h0 : Arg enc W base 24 v0 d0 p0) (h1 : Arg enc W base 36 v1 d1 p1) :
    Calls Try.prog 5 #[v0, v1] W fun e w' => e = .returned (.bool true) ∧ Below W.heap.size W w' := by
  obtain ⟨A1, L, c1, A2, M, c2, rfl, hl1, hl2, hA1, hA2, hr1, hr2⟩ := h0.book
  obtain ⟨o, rfl⟩ := h1.order
  exact meetFair_any L M o A1 A2 c1 c2 W hr1 hr2 hl1 hl2 hA1 hA2
end Go.Proofs.Ytbnjkcgkdpildaa
