/- SelfGoes holds: for all arguments the law's function returns true. No condition. -/
import Derived.Test.YtbnjkcgkdpildaaSelfDo
import Derived.Test.YtbnjkcgkdpildaaSgPlain
import Derived.Test.YtbnjkcgkdpildaaMeetSweeps
namespace Go.Proofs.Ytbnjkcgkdpildaa
set_option linter.all false
open Go Go.RowKit Go.ChangeShapes Go.WideShapes
/-- what Do gives there -/
def SgPost (m q : Int) (w : World) (e : Ending) (w' : World) : Prop :=
  ∃ A1 n1 c1 A2 n2 c2 AT cT AW cW T gone nW, e = .returned (.tuple #[.agg #[.slice A1 n1 c1, .slice A2 n2 c2], .slice AT (T : List Trade).length cT, .int .i64 gone, .slice AW nW cW, .nilIface]) ∧ Hid (SgOut m q T gone nW) ∧ Hid (Rd w' w'.heap.size AT T.length 6 (tcell T)) ∧ Below w.heap.size w w'
theorem sg_do {m q : Int} (h1 : 0 ≤ m) (h2 : m ≤ 3) (h3 : 1 ≤ q) (h4 : q ≤ 30) (A : Option Addr) (c : Nat) (w : World) (hr : RdLv w w.heap.size A sgL) (hA : A ≠ none) :
    Calls Try.prog 29 #[.agg #[.slice none 0 0, .slice A 1 c], .agg #[.int .i64 9, .int .i64 5, .int .i64 1, .int .i64 3, .int .i64 100, .int .i64 q, .int .i64 0, .int .i64 0], .int .i64 m] w (SgPost m q w) := by
  obtain ⟨hrd, s, hmet, k2, k9, k8, hout⟩ := sg_out h1 h2 h3 h4
  have hc := sdo_any [] sgL (sgO q) m none A 0 c w RdLv.nil hr (by unfold maxLen; simp) (by unfold maxLen; decide) (fun _ => rfl) (fun e => absurd e hA) true (inb_y ⟨h1, h2⟩).symm 0 hrd.symm (some s) hmet.symm (kOut (sgO q) sgL) rfl _ rfl (fun ⟨s', e1, e2⟩ => by cases e1; exact absurd e2 k2)
  refine hc.mono ?_
  rintro e w' ⟨A1, n1, c1, A2, n2, c2, AT, nT, cT, gone, AW, nW, cW, ev, rfl, hR, hb⟩
  rcases hR.out with ⟨h0, _⟩ | ⟨_, h0, _⟩ | ⟨_, _, hK⟩
  · cases h0
  · exact absurd rfl h0
  rcases hK with ⟨_, h0, _⟩ | ⟨s', e1, hok, h0 | h0 | ⟨rfl, v1, v2, L', M', _, rfl, rfl, rfl, rfl, rfl, _, _, ot, _⟩⟩
  · cases h0
  · cases e1
    rcases h0.1 with h | h
    · exact absurd h k9
    · exact absurd h k8
  · cases e1; exact absurd h0.1 k2
  · cases e1
    exact ⟨A1, _, c1, A2, _, c2, AT, cT, AW, cW, s.T, _, _, rfl, Lib.hid hout, Lib.hid (ot.rd (fun i j hi hj => trows_get hi hj)), hb⟩
set_option maxRecDepth 100000 in
set_option maxHeartbeats 4000000 in
theorem selfGoes_in (m q : Int) (h1 : 0 ≤ m) (h2 : m ≤ 3) (h3 : 1 ≤ q) (h4 : q ≤ 30) (w : World) :
    Calls Try.prog 8 #[.int .i64 m, .int .i64 q] w fun e w' => e = .returned (.bool true) ∧ Below w.heap.size w w' := by
  have hb0 : Below w.heap.size w (((w.alloc (.cells #[.int .i64 1, .int .i64 1, .int .i64 10, .int .i64 0, .int .i64 0, .int .i64 2, .int .i64 5, .int .i64 10, .int .i64 0, .int .i64 0, .int .i64 3, .int .i64 3, .int .i64 10, .int .i64 0, .int .i64 0] 26)).alloc (.cells #[.int .i64 100, .slice (some ⟨w.heap.size, 0, none⟩) 3 3] 29)).alloc (.cells #[.slice none 0 0, .slice (some ⟨w.heap.size + 1, 0, none⟩) 1 1] 24)) := below_then_alloc (below_then_alloc ((Below.refl _ _).alloc (Nat.le_refl _) _))
  have b1 := ((Bk.new w 26 #[.int .i64 1, .int .i64 1, .int .i64 10, .int .i64 0, .int .i64 0, .int .i64 2, .int .i64 5, .int .i64 10, .int .i64 0, .int .i64 0, .int .i64 3, .int .i64 3, .int .i64 10, .int .i64 0, .int .i64 0]).alloc (.cells #[.int .i64 100, .slice (some ⟨w.heap.size, 0, none⟩) 3 3] 29)).alloc (.cells #[.slice none 0 0, .slice (some ⟨w.heap.size + 1, 0, none⟩) 1 1] 24)
  have b2 := (Bk.at_ (w := w.alloc (.cells #[.int .i64 1, .int .i64 1, .int .i64 10, .int .i64 0, .int .i64 0, .int .i64 2, .int .i64 5, .int .i64 10, .int .i64 0, .int .i64 0, .int .i64 3, .int .i64 3, .int .i64 10, .int .i64 0, .int .i64 0] 26)) (g' := w.heap.size + 1) (by simp) 29 #[.int .i64 100, .slice (some ⟨w.heap.size, 0, none⟩) 3 3]).alloc (.cells #[.slice none 0 0, .slice (some ⟨w.heap.size + 1, 0, none⟩) 1 1] 24)
  have b3 := Bk.at_ (w := (w.alloc (.cells #[.int .i64 1, .int .i64 1, .int .i64 10, .int .i64 0, .int .i64 0, .int .i64 2, .int .i64 5, .int .i64 10, .int .i64 0, .int .i64 0, .int .i64 3, .int .i64 3, .int .i64 10, .int .i64 0, .int .i64 0] 26)).alloc (.cells #[.int .i64 100, .slice (some ⟨w.heap.size, 0, none⟩) 3 3] 29)) (g' := w.heap.size + 2) (by simp) 24 #[.slice none 0 0, .slice (some ⟨w.heap.size + 1, 0, none⟩) 1 1]
  have cD := Lib.hid (fun A c w' h h' => sg_do h1 h2 h3 h4 A c w' h h')
  go_enter Try.func8, Try.ntmps8
  go_upto_region 4 with fail
  generalize ((w.alloc (.cells #[.int .i64 1, .int .i64 1, .int .i64 10, .int .i64 0, .int .i64 0, .int .i64 2, .int .i64 5, .int .i64 10, .int .i64 0, .int .i64 0, .int .i64 3, .int .i64 3, .int .i64 10, .int .i64 0, .int .i64 0] 26)).alloc (.cells #[.int .i64 100, .slice (some ⟨w.heap.size, 0, none⟩) 3 3] 29)).alloc (.cells #[.slice none 0 0, .slice (some ⟨w.heap.size + 1, 0, none⟩) 1 1] 24) = w0 at *
  obtain ⟨q0, q1⟩ := box2 b3
  have hr : RdLv w0 w0.heap.size (some ⟨w.heap.size + 1, 0, none⟩) sgL := by
    intro _
    refine ⟨w.heap.size + 1, 0, rfl, b2.lt, fun i x hx => ?_⟩
    have hi : i = 0 := by have := (List.getElem?_eq_some_iff.1 hx).1; simp [sgL] at this; omega
    subst hi
    cases hx
    have c0 := b2.cell 0; have c1 := b2.cell 1
    refine ⟨by simpa using c0, some ⟨w.heap.size, 0, none⟩, 3, by simpa using c1, by decide, by decide, ?_⟩
    have oo : OwnS w0 0 5 (some ⟨w.heap.size, 0, none⟩) 3 3 (rows [⟨1, 1, 10, 0, 0⟩, ⟨2, 5, 10, 0, 0⟩, ⟨3, 3, 10, 0, 0⟩]) := b1.own (base := 0) (s := 5) (n := 3) (Nat.zero_le _) rfl (by decide)
    exact oo.rd (fun i j hi hj => rows_get hi hj)
  have KD := Lib.hid (cD.out (some ⟨w.heap.size + 1, 0, none⟩) 1 w0 hr (by simp))
  clear b1 b2 b3 hr cD
  go_wp2_with fail
  go_at_call 29
  refine KD.out.mono ?_
  rintro e w3 ⟨A1, n1, c1, A2, n2, c2, AT, cT, AW, cW, T, gone, nW, rfl, ho, hrd, hb3⟩
  have hbw := below_then hb3 hb0
  clear hb3 hb0 KD q0 q1
  have hTl : T.length ≤ 3 := ho.out.few
  have hba := below_then_alloc (o := .cells #[.slice A1 n1 c1, .slice A2 n2 c2] 24) hbw
  have hrd2 := Lib.hid (hrd.out.below ((Below.refl w3.heap.size w3).alloc (Nat.le_refl _) (.cells #[.slice A1 n1 c1, .slice A2 n2 c2] 24)))
  go_upto_region 7 with fail
  generalize w3.alloc (.cells #[.slice A1 n1 c1, .slice A2 n2 c2] 24) = w4 at *
  go_wp2_with fail
  go_loop [11, 12] (fun n i => ∃ k : Nat, k ≤ T.length ∧ i = .int .i64 k ∧ n = .int .i64 (sumT (T.take k))) (fun _ i => T.length - (intOf i).toNat)
  case atStart => exact ⟨0, by omega, rfl, rfl⟩
  case round =>
    obtain ⟨k, hk, rfl, rfl⟩ := hrel
    by_cases hlt2 : k < T.length
    · obtain ⟨b, off, t, rfl, hbl, ht, e0, e1, e2, e3, e4, e5⟩ := tr_at hrd2.out hlt2
      have hlt3 : (k : Int) < (T.length : Int) := by omega
      have hS := sumT_bounds (l := T.take k) (b := 30) (by omega) (fun x hx => ho.out.each x (List.mem_of_mem_take hx))
      have hkl : (T.take k).length ≤ 3 := by rw [List.length_take]; omega
      have ht2 := ho.out.each t (List.mem_of_getElem? ht)
      have HT := Lib.hid (sumT_take ht)
      obtain ⟨hS1, hS2⟩ := hS
      have hS3 : sumT (T.take k) ≤ 90 := by omega
      obtain ⟨ht3, ht4⟩ := ht2
      clear ht hS2 hkl
      generalize sumT (T.take k) = S at *
      go_wp2
      go_round
      case rel => exact ⟨k + 1, by omega, by go_num, by rw [HT.out]⟩
      case measure => simp [intOf]; omega
    · obtain rfl : k = T.length := by omega
      rw [List.take_length]
      clear hlt2 hrd2 hrd
      by_cases hq : q ≤ 10
      · obtain ⟨s1, s2, s3⟩ := ho.out.small hq
        rw [s1, s2, s3]
        clear s1 s2 s3 ho
        rcases (show m = 0 ∨ m = 1 ∨ m = 2 ∨ m = 3 by omega) with rfl | rfl | rfl | rfl
        all_goals
          go_wp2
          go_ret
          exact ⟨rfl, hba⟩
      · obtain ⟨s1, s2, s3⟩ := ho.out.big (by omega)
        rw [s1, s2, s3]
        have hq' : 10 < q := by omega
        clear s1 s2 s3 ho hq
        rcases (show m = 0 ∨ m = 1 ∨ m = 2 ∨ m = 3 by omega) with rfl | rfl | rfl | rfl
        · rw [show min q (sgMost 0) = q by simp [sgMost]; omega, show sgWent 0 = 0 from rfl]
          rcases (show q < 30 ∨ q = 30 by omega) with hm | rfl
          all_goals
            go_wp2
            go_ret
            exact ⟨ret_bool (by simp), hba⟩
        · rw [show min q (sgMost 1) = 10 by simp [sgMost]; omega, show sgWent 1 = 0 from rfl]
          go_wp2
          go_ret
          exact ⟨ret_bool (by simp), hba⟩
        · rw [show sgWent 2 = 1 from rfl]
          rcases (show q < 20 ∨ 20 ≤ q by omega) with hm | hm
          · rw [show min q (sgMost 2) = q by simp [sgMost]; omega]
            go_wp2
            go_ret
            exact ⟨ret_bool (by simp), hba⟩
          · rw [show min q (sgMost 2) = 20 by simp [sgMost]; omega]
            go_wp2
            go_ret
            exact ⟨ret_bool (by simp), hba⟩
        · rw [show min q (sgMost 3) = 10 by simp [sgMost]; omega, show sgWent 3 = 1 from rfl]
          go_wp2
          go_ret
          exact ⟨ret_bool (by simp), hba⟩
theorem selfGoes_law {H : Type} {enc : TypeId × Value → H} {v0 v1 : Value} {d0 d1 : DataW H} {p0 p1 : List MemPlace} {base : Nat} {W : World}
    (h0 : Arg enc W base 3 v0 d0 p0) (h1 : Arg enc W base 3 v1 d1 p1) :
    Calls Try.prog 8 #[v0, v1] W fun e w' => e = .returned (.bool true) ∧ Below W.heap.size W w' := by
  obtain ⟨m, rfl, _⟩ := h0.int
  obtain ⟨q, rfl, _⟩ := h1.int
  clear h0 h1
  rcases (show m < 0 ∨ (0 ≤ m ∧ 3 < m) ∨ (0 ≤ m ∧ m ≤ 3 ∧ q < 1) ∨ (0 ≤ m ∧ m ≤ 3 ∧ 1 ≤ q ∧ 30 < q) ∨ (0 ≤ m ∧ m ≤ 3 ∧ 1 ≤ q ∧ q ≤ 30) by omega) with h | ⟨a, h⟩ | ⟨a, b, h⟩ | ⟨a, b, c, h⟩ | ⟨a, b, c, h⟩
  case inr.inr.inr.inr => exact selfGoes_in m q a b c h W
  all_goals
    go_enter Try.func8, Try.ntmps8
    go_wp2
    go_ret
    exact ⟨rfl, Below.refl _ _⟩
end Go.Proofs.Ytbnjkcgkdpildaa
