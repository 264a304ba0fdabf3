/- KindsWhole holds: for all arguments the law's function returns true, where the variable that it lists reads as its text lays it. -/
import Derived.Test.YtbnjkcgkdpildaaDoorKDo
import Derived.Test.YtbnjkcgkdpildaaDoorKwPlain
import Derived.Test.YtbnjkcgkdpildaaDoorSame
import Derived.Test.YtbnjkcgkdpildaaDoorLaid
namespace Go.Proofs.YtbnjkcgkdpildaaDoor
set_option linter.all false
open Go Go.RowKit Go.ChangeShapes Go.WideShapes
theorem kw_own {w : World} {g base s n : Nat} {t : TypeId} {cs : Array Value} (h : Bk w g t cs) (hb : base ≤ g) (hn : cs.size = n * s) (hm : n ≤ maxLen) : OwnS w base s (some ⟨g, 0, none⟩) n n cs.toList := by
  refine ⟨by simpa using hn, Nat.le_refl _, hm, fun h0 => ⟨g, 0, rfl, hb, h.lt, fun j hj => ?_, fun j hj => ⟨?_, h.free _⟩⟩⟩
  · rw [Nat.zero_add, h.cell, Array.getElem?_toList]
  · rw [Nat.zero_add, h.cell, Array.getElem?_eq_getElem (by omega)]; rfl
/-- one trade of so much reads there -/
def OneQ (w : World) (A : Option Addr) (n : Nat) (q : Int) : Prop := n = 1 ∧ ∃ b off, A = some ⟨b, off, none⟩ ∧ b < w.heap.size ∧ w.cell? ⟨b, off + 5, none⟩ = some (.int .i64 q)
theorem OneQ.below {w w' : World} {A : Option Addr} {n : Nat} {q : Int} (h : OneQ w A n q) (hb : Below w.heap.size w w') : OneQ w' A n q := by
  obtain ⟨h1, b, off, e, hl, hc⟩ := h
  exact ⟨h1, b, off, e, Nat.lt_of_lt_of_le hl hb.size, (hb.cell (p := ⟨b, off + 5, none⟩) hl).trans hc⟩
/-- how Do ends there -/
def KwP (kind has want : Int) (w : World) (e : Ending) (w' : World) : Prop :=
  ∃ A1 n1 c1 A2 n2 c2 AT nT cT gone ev, e = .returned (.tuple #[.agg #[.slice A1 n1 c1, .slice A2 n2 c2], .slice AT nT cT, .int .i64 gone, ev]) ∧
    Hid ((kind = 4 → has < want → ev = er 9) ∧ (kind = 4 → want ≤ has → ev = .nilIface ∧ gone = 0 ∧ OneQ w' AT nT want) ∧ (kind = 3 → ev = .nilIface ∧ gone = want - min has want ∧ OneQ w' AT nT (min has want)) ∧ (kind = 5 → ev = er 8)) ∧ Below w.heap.size w w'
theorem kw_do {kind has want : Int} (hk : kind = 3 ∨ kind = 4 ∨ kind = 5) (h1 : 1 ≤ has) (h2 : has ≤ 10000) (h3 : 1 ≤ want) (h4 : want ≤ 10000) (A : Option Addr) (c : Nat) (w : World) (hr : RdLv w w.heap.size A (kwL has)) (hA : A ≠ none) :
    Calls Tryd.prog 7 #[.agg #[.slice none 0 0, .slice A 1 c], .agg #[.int .i64 2, .int .i64 2, .int .i64 1, .int .i64 kind, .int .i64 100, .int .i64 want, .int .i64 0, .int .i64 0]] w (KwP kind has want w) := by
  obtain ⟨s, hmet, hs⟩ := kw_met (kind := kind) hk h1 h3
  obtain ⟨o4, o3, o5⟩ := kw_out (kind := kind) hs h1 h3
  have n2 : kOut (kwO kind want) (kwL has) s ≠ 2 := by
    rcases hk with e | e | e
    · rw [o3 e]; split <;> decide
    · rw [o4 e]; split <;> decide
    · rw [o5 e]; decide
  have hc := kdo_any [] (kwL has) (kwO kind want) none A 0 c w RdLv.nil hr (by unfold maxLen; simp) (by unfold maxLen; simp [kwL]) (fun _ => rfl) (fun e => absurd e hA) 0 (kw_ready hk h1 h2 h3 h4).symm (some s) hmet.symm (kOut (kwO kind want) (kwL has)) rfl _ rfl (fun ⟨s', e1, e2⟩ => by cases e1; exact absurd e2 n2)
  refine hc.mono ?_
  generalize hko : kOut (kwO kind want) (kwL has) = ko at *
  rintro e w' ⟨A1, m1, c1, A2, m2, c2, AT, nT, cT, gone, ev, rfl, hR, hb⟩
  refine ⟨A1, m1, c1, A2, m2, c2, AT, nT, cT, gone, ev, rfl, Lib.hid ?_, hb⟩
  rcases hR.out with ⟨h0, _⟩ | ⟨_, AW, nW, cW, hK⟩
  · exact absurd rfl h0
  rcases hK with ⟨_, h0, _⟩ | ⟨s', e1, hok, ⟨h0, hev, _⟩ | h0 | ⟨rfl, v1, v2, L', M', hk1, rfl, rfl, rfl, rfl, rfl, _, _, ot, _⟩⟩
  · cases h0
  · cases e1
    refine ⟨fun e hw => ?_, fun e hw => ?_, fun e => ?_, fun e => ?_⟩
    · rw [o4 e, if_pos hw] at hev; exact hev
    · rw [o4 e, if_neg (by omega)] at h0; omega
    · rw [o3 e] at h0; split at h0 <;> omega
    · rw [o5 e] at hev; exact hev
  · cases e1; exact absurd h0.1 n2
  · cases e1
    have hone : OneQ w' AT s.T.length (min has want) := by
      obtain ⟨t, ht, hq⟩ := hs.one
      have hrd : Rd w' w'.heap.size AT s.T.length 6 (tcell s.T) := ot.rd (fun i j hi hj => trows_get hi hj)
      have hl : s.T.length = 1 := by rw [ht]; rfl
      obtain ⟨b, off, t', e, hlt, ht', _, _, _, _, _, e5⟩ := tr_at hrd (k := 0) (by omega)
      rw [ht] at ht'
      cases ht'
      rw [hq, Nat.zero_mul, Nat.add_zero] at e5
      exact ⟨hl, b, off, e, hlt, e5⟩
    have hkle : ko s ≤ 1 := by rcases hk1 with h | h; exact h.1; exact absurd h.1 n2
    refine ⟨fun e hw => ?_, fun e hw => ?_, fun e => ?_, fun e => ?_⟩
    · rw [o4 e, if_pos hw] at hkle; omega
    · refine ⟨rfl, ?_, by have hm := Int.min_eq_right hw; rw [hm] at hone; exact hone⟩
      rw [o4 e, if_neg (show ¬ has < want by omega)]; rfl
    · refine ⟨rfl, ?_, hone⟩
      have hl := hs.left
      rw [o3 e]
      by_cases hw : has < want
      · rw [if_pos hw, if_pos rfl, hl]
      · rw [if_neg hw, if_neg (by decide)]; omega
    · rw [o5 e] at hkle; omega
set_option maxRecDepth 100000 in
set_option maxHeartbeats 4000000 in
theorem kindsWhole_in (has want : Int) (h1 : 1 ≤ has) (h2 : has ≤ 10000) (h3 : 1 ≤ want) (h4 : want ≤ 10000) (w : World) (hl : Laid w) :
    Calls Tryd.prog 3 #[.int .i64 has, .int .i64 want] w fun e w' => e = .returned (.bool true) ∧ Below w.heap.size w w' := by
  have HL := Lib.hid hl
  have hb0 : Below w.heap.size w (((w.alloc (.cells #[.int .i64 1, .int .i64 1, .int .i64 has, .int .i64 0, .int .i64 0] 23)).alloc (.cells #[.int .i64 100, .slice (some ⟨w.heap.size, 0, none⟩) 1 1] 26)).alloc (.cells #[.slice none 0 0, .slice (some ⟨w.heap.size + 1, 0, none⟩) 1 1] 29)) := below_then_alloc (below_then_alloc ((Below.refl _ _).alloc (Nat.le_refl _) _))
  have b1 := ((Bk.new w 23 #[.int .i64 1, .int .i64 1, .int .i64 has, .int .i64 0, .int .i64 0]).alloc (.cells #[.int .i64 100, .slice (some ⟨w.heap.size, 0, none⟩) 1 1] 26)).alloc (.cells #[.slice none 0 0, .slice (some ⟨w.heap.size + 1, 0, none⟩) 1 1] 29)
  have b2 := (Bk.at_ (w := w.alloc (.cells #[.int .i64 1, .int .i64 1, .int .i64 has, .int .i64 0, .int .i64 0] 23)) (g' := w.heap.size + 1) (by simp) 26 #[.int .i64 100, .slice (some ⟨w.heap.size, 0, none⟩) 1 1]).alloc (.cells #[.slice none 0 0, .slice (some ⟨w.heap.size + 1, 0, none⟩) 1 1] 29)
  have b3 := Bk.at_ (w := (w.alloc (.cells #[.int .i64 1, .int .i64 1, .int .i64 has, .int .i64 0, .int .i64 0] 23)).alloc (.cells #[.int .i64 100, .slice (some ⟨w.heap.size, 0, none⟩) 1 1] 26)) (g' := w.heap.size + 2) (by simp) 29 #[.slice none 0 0, .slice (some ⟨w.heap.size + 1, 0, none⟩) 1 1]
  have cD := Lib.hid (fun kind hk A c w' h h' => kw_do (kind := kind) (has := has) (want := want) hk h1 h2 h3 h4 A c w' h h')
  clear hl
  go_enter Tryd.func3, Tryd.ntmps3
  go_upto_region 4 with fail
  generalize ((w.alloc (.cells #[.int .i64 1, .int .i64 1, .int .i64 has, .int .i64 0, .int .i64 0] 23)).alloc (.cells #[.int .i64 100, .slice (some ⟨w.heap.size, 0, none⟩) 1 1] 26)).alloc (.cells #[.slice none 0 0, .slice (some ⟨w.heap.size + 1, 0, none⟩) 1 1] 29) = w0 at *
  obtain ⟨q0, q1⟩ := box2 b3
  have hr : RdLv w0 w0.heap.size (some ⟨w.heap.size + 1, 0, none⟩) (kwL has) := by
    intro _
    refine ⟨w.heap.size + 1, 0, rfl, b2.lt, fun i x hx => ?_⟩
    have hi : i = 0 := by have := (List.getElem?_eq_some_iff.1 hx).1; simp [kwL] at this; omega
    subst hi
    cases hx
    have c0 := b2.cell 0; have c1 := b2.cell 1
    refine ⟨by simpa using c0, some ⟨w.heap.size, 0, none⟩, 1, by simpa using c1, Nat.le_refl 1, by decide, ?_⟩
    have oo : OwnS w0 0 5 (some ⟨w.heap.size, 0, none⟩) 1 1 (rows [⟨1, 1, has, 0, 0⟩]) := kw_own b1 (base := 0) (s := 5) (n := 1) (Nat.zero_le _) rfl (by decide)
    exact oo.rd (fun i j hi hj => rows_get hi hj)
  have HR := Lib.hid hr
  clear b1 b2 hr
  go_wp2_with fail
  go_at_call 7
  refine (cD.out 4 (.inr (.inl rfl)) (some ⟨w.heap.size + 1, 0, none⟩) 1 w0 HR.out (by simp)).mono ?_
  rintro e w1 ⟨A1, n1, c1, A2, n2, c2, AT, nT, cT, gone, ev, rfl, hP, hb1⟩
  have hba := below_then_alloc (o := .cells #[.slice A1 n1 c1, .slice A2 n2 c2] 29) hb1
  have hP4 := hP.out.1 rfl
  have hP4' := hP.out.2.1 rfl
  have HP4 := Lib.hid hP4
  have HP5 := Lib.hid (fun h => (hP4' h).1); have HP6 := Lib.hid (fun h => (hP4' h).2.1)
  have HP7 := Lib.hid (fun h => (hP4' h).2.2.below (show Below w1.heap.size w1 (w1.alloc (.cells #[.slice A1 n1 c1, .slice A2 n2 c2] 29)) from (Below.refl _ _).alloc (Nat.le_refl _) _))
  clear hP hP4 hP4' hb1 q0 q1
  go_upto_region 5 with fail
  generalize w1.alloc (.cells #[.slice A1 n1 c1, .slice A2 n2 c2] 29) = w2 at *
  obtain ⟨q0, q1⟩ := box2 (b3.keep hba)
  go_wp2_with fail
  go_at_call 7
  refine (cD.out 3 (.inl rfl) (some ⟨w.heap.size + 1, 0, none⟩) 1 w2 (HR.out.on hba) (by simp)).mono ?_
  rintro e w3 ⟨B1, m1, e1, B2, m2, e2, BT, mT, eT, lost, fv, rfl, hQ, hb3⟩
  have hbc := below_then_alloc (o := .cells #[.slice B1 m1 e1, .slice B2 m2 e2] 29) (below_then hb3 hba)
  have hab : Below w3.heap.size w3 (w3.alloc (.cells #[.slice B1 m1 e1, .slice B2 m2 e2] 29)) := (Below.refl _ _).alloc (Nat.le_refl _) _
  have HP8 := Lib.hid (fun h => (HP7.out h).below (below_then hab hb3))
  obtain ⟨rfl, hlost, hone⟩ := hQ.out.2.2.1 rfl
  have HQ := Lib.hid (hone.below hab)
  clear hQ hb3 hone hab HP7 q0 q1
  go_upto_region 6 with fail
  generalize w3.alloc (.cells #[.slice B1 m1 e1, .slice B2 m2 e2] 29) = w4 at *
  obtain ⟨q0, q1⟩ := box2 (b3.keep hbc)
  go_wp2_with fail
  go_at_call 7
  refine (cD.out 5 (.inr (.inr rfl)) (some ⟨w.heap.size + 1, 0, none⟩) 1 w4 (HR.out.on hbc) (by simp)).mono ?_
  rintro e w5 ⟨D1, k1, f1, D2, k2, f2, DT, kT, fT, gon5, gv, rfl, hS, hb5⟩
  have hbd := below_then_alloc (o := .cells #[.slice D1 k1 f1, .slice D2 k2 f2] 29) (below_then hb5 hbc)
  have hab : Below w5.heap.size w5 (w5.alloc (.cells #[.slice D1 k1 f1, .slice D2 k2 f2] 29)) := (Below.refl _ _).alloc (Nat.le_refl _) _
  have HP9 := Lib.hid (fun h => (HP8.out h).below (below_then hab hb5))
  have HQ9 := Lib.hid (HQ.out.below (below_then hab hb5))
  obtain rfl := hS.out.2.2.2 rfl
  clear hS hb5 hab HP8 HQ q0 q1
  go_upto_region 7 with fail
  generalize w5.alloc (.cells #[.slice D1 k1 f1, .slice D2 k2 f2] 29) = w6 at *
  have hbw := below_then hbd hb0
  have HLD := Lib.hid (Laid.below HL.out hbw)
  go_wp2_with fail
  go_at_call 8
  refine (same_er 8 8 _ HLD.out).mono ?_
  rintro e w7 ⟨rfl, hb7⟩
  have hbw7 := below_then hb7 hbw
  have HLD7 := Lib.hid (Laid.below HL.out hbw7)
  have hq := HQ9.out.below hb7
  have HP10 := Lib.hid (fun h => (HP9.out h).below hb7)
  obtain ⟨rfl, bq, oq, rfl, hbq, cq⟩ := hq
  clear HP9 HQ9 HLD hbd hbc hba hb0 b3 hbw
  by_cases hw : has < want
  · have e9 := HP4.out hw
    subst e9
    have hm : min has want = has := by omega
    rw [hm] at cq hlost
    subst hlost
    have i1 : (0 : Int) < ((1 : Nat) : Int) := by decide
    have hx : IntKind.i64.wrap (want - has) = want - has := IntWalk.i64_in _ (by omega)
    clear HP4 HP5 HP6 HP10
    go_wp2_with fail
    go_at_call 8
    refine (same_er 9 9 _ HLD7.out).mono ?_
    rintro e w8 ⟨rfl, hb8⟩
    have cq8 := keepC hb8 cq
    go_wp2
    go_ret
    exact ⟨ret_bool (by simp), below_then hb8 hbw7⟩
  · have hw' : want ≤ has := by omega
    have e9 := HP5.out hw'
    have g9 := HP6.out hw'
    obtain ⟨rfl, bp, op, rfl, hbp, cp⟩ := HP10.out hw'
    subst e9 g9
    have hm : min has want = want := by omega
    rw [hm] at cq hlost
    have hl0 : lost = 0 := by omega
    subst hl0
    clear HP4 HP5 HP6 HP10 hlost hw hm
    go_wp2
    go_ret
    exact ⟨ret_bool (by simp), hbw7⟩
theorem kindsWhole_law {H : Type} {enc : TypeId × Value → H} {v0 v1 : Value} {d0 d1 : DataW H} {p0 p1 : List MemPlace} {base : Nat} {W : World}
    (h0 : Arg enc W base 3 v0 d0 p0) (h1 : Arg enc W base 3 v1 d1 p1) (hl : Laid W) :
    Calls Tryd.prog 3 #[v0, v1] W fun e w' => e = .returned (.bool true) ∧ Below W.heap.size W w' := by
  obtain ⟨m, rfl, _⟩ := h0.int
  obtain ⟨q, rfl, _⟩ := h1.int
  clear h0 h1
  rcases (show m < 1 ∨ (1 ≤ m ∧ 10000 < m) ∨ (1 ≤ m ∧ m ≤ 10000 ∧ q < 1) ∨ (1 ≤ m ∧ m ≤ 10000 ∧ 1 ≤ q ∧ 10000 < q) ∨ (1 ≤ m ∧ m ≤ 10000 ∧ 1 ≤ q ∧ q ≤ 10000) by omega) with h | ⟨a, h⟩ | ⟨a, b, h⟩ | ⟨a, b, c, h⟩ | ⟨a, b, c, h⟩
  case inr.inr.inr.inr => exact kindsWhole_in m q a b c h W hl
  all_goals
    clear hl
    go_enter Tryd.func3, Tryd.ntmps3
    go_wp2
    go_ret
    exact ⟨rfl, Below.refl _ _⟩
end Go.Proofs.YtbnjkcgkdpildaaDoor
