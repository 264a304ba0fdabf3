/- BookApart holds: for all arguments the law's function returns true, where the variable that it lists reads as its text lays it. -/
import Derived.Test.YtbnjkcgkdpildaaDoorBookPut
import Derived.Test.YtbnjkcgkdpildaaDoorBaPlain
import Derived.Test.YtbnjkcgkdpildaaDoorSame
import Derived.Test.YtbnjkcgkdpildaaDoorLaid
namespace Go.Proofs.YtbnjkcgkdpildaaDoor
set_option linter.all false
open Go Go.RowKit Go.ChangeShapes Go.WideShapes
set_option maxRecDepth 100000 in
set_option maxHeartbeats 4000000 in
theorem bookApart_any (p q : Int) (w : World) (hl : Laid w) :
    Calls Tryd.prog 4 #[.int .i64 p, .int .i64 q] w fun e w' => e = .returned (.bool true) ∧ Below w.heap.size w w' := by
  have HL := Lib.hid hl
  have c1 := Lib.hid (put_any [] [] 2 p (baR 1) none none 0 0 w RdLv.nil RdLv.nil (by decide) (by decide) (fun _ => rfl) (fun _ => rfl) _ (ba_one p).symm)
  have P1 := Lib.hid (show (putL 2 p (baR 1) []) = [] ∧ putM 2 p (baR 1) [] = baM p from ⟨rfl, rfl⟩)
  rw [P1.out.1, P1.out.2] at c1
  clear hl
  go_enter Tryd.func4, Tryd.ntmps4
  go_wp2_with fail
  go_at_call 9
  refine c1.out.mono ?_
  rintro e w1 h
  rcases h with ⟨hz, rfl, hb1⟩ | ⟨hz, A1, d1, v1, A2, d2, v2, rfl, o1, o2, hb1⟩
  · have hv : vp p = false := by
      cases hv : vp p
      · rfl
      · rw [hv] at hz; exact absurd rfl hz
    have hp : p < 1 ∨ 1 ≤ p ∧ 10000 < p := by have := (decide_eq_false_iff_not.1 hv); omega
    rw [if_pos hv]
    have hb := below_then_alloc (o := .cells #[.slice none 0 0, .slice none 0 0] 29) hb1
    clear hv hz hb1 c1 P1 HL
    rcases hp with hp | ⟨hp, hp2⟩
    · go_wp2
      go_ret
      exact ⟨ret_bool (by simp), hb⟩
    · go_wp2
      go_ret
      exact ⟨ret_bool (by simp), hb⟩
  · have hv : vp p = true := by
      cases hv : vp p
      · rw [hv] at hz; simp at hz
      · rfl
    have hvp : 1 ≤ p ∧ p ≤ 10000 := of_decide_eq_true hv
    have hba := below_then_alloc (o := .cells #[.slice A1 0 d1, .slice A2 (baM p).length d2] 29) hb1
    have bb := Bk.new w1 29 #[.slice A1 0 d1, .slice A2 (baM p).length d2]
    have hbn : Below w1.heap.size w1 (w1.alloc (.cells #[.slice A1 0 d1, .slice A2 (baM p).length d2] 29)) := (Below.refl _ _).alloc (Nat.le_refl _) _
    have c2 := Lib.hid (put_any [] (baM p) 1 q (baR 2) A1 A2 d1 d2 _ (o1.below hbn).rd (o2.below hbn).rd (by decide) (by show 1 ≤ maxLen; decide) (fun e => (o1.own.none_cap e).2) (fun e => (o2.own.none_cap e).2) _ (ba_two hv q).symm)
    clear hz c1 P1 hb1 o1 o2 hbn
    go_upto_region 4 with fail
    generalize w1.alloc (.cells #[.slice A1 0 d1, .slice A2 (baM p).length d2] 29) = w2 at *
    obtain ⟨q0, q1⟩ := box2 bb
    clear bb
    rcases (show (q < 1 ∨ 1 ≤ q ∧ 10000 < q) ∨ (1 ≤ q ∧ q ≤ 10000 ∧ p ≤ q) ∨ (1 ≤ q ∧ q ≤ 10000 ∧ q < p) by omega) with hq | ⟨hq1, hq2, hq⟩ | ⟨hq1, hq2, hq⟩
    · have hvq : vp q = false := decide_eq_false (by omega)
      rw [if_pos hvq] at c2
      clear hvq hv hvp
      go_wp2_with fail
      go_at_call 9
      refine c2.out.mono ?_
      rintro e w3 (⟨_, rfl, hb3⟩ | ⟨h0, _⟩)
      case inr => exact absurd h0 (by decide)
      have hb := below_then_alloc (o := .cells #[.slice none 0 0, .slice none 0 0] 29) (below_then hb3 hba)
      have HLD := Lib.hid (Laid.below HL.out hb)
      clear hb3 c2 q0 q1
      go_upto_region 6 with fail
      all_goals
        generalize w3.alloc (.cells #[.slice none 0 0, .slice none 0 0] 29) = w4 at *
        go_wp2_with fail
        go_at_call 8
        refine (same_er 1 1 _ HLD.out).mono ?_
        rintro e w5 ⟨rfl, hb5⟩
        have hbf := below_then hb5 hb
        clear hb5 hb
        go_wp2
        go_ret
        exact ⟨ret_bool (by simp), hbf⟩
    · have hvq : vp q = true := decide_eq_true (by omega)
      rw [if_neg (show ¬ vp q = false by rw [hvq]; decide), if_pos hq] at c2
      have i1 : decide (q < p) = false := decide_eq_false (by omega)
      have i2 : decide (p ≤ q) = true := decide_eq_true hq
      have i3 : ¬ (q < p) := by omega
      clear hvq hv hvp
      go_wp2_with fail
      go_at_call 9
      refine c2.out.mono ?_
      rintro e w3 (⟨_, rfl, hb3⟩ | ⟨h0, _⟩)
      case inr => exact absurd h0 (by decide)
      have hb := below_then_alloc (o := .cells #[.slice none 0 0, .slice none 0 0] 29) (below_then hb3 hba)
      have HLD := Lib.hid (Laid.below HL.out hb)
      clear hb3 c2 q0 q1
      go_upto_region 7 with fail
      generalize w3.alloc (.cells #[.slice none 0 0, .slice none 0 0] 29) = w4 at *
      go_wp2_with fail
      go_at_call 8
      refine (same_er 8 8 _ HLD.out).mono ?_
      rintro e w5 ⟨rfl, hb5⟩
      have hbf := below_then hb5 hb
      clear hb5 hb
      go_wp2
      go_ret
      exact ⟨ret_bool (by simp [i1, i2, i3, hq]), hbf⟩
    · have hvq : vp q = true := decide_eq_true (by omega)
      rw [if_neg (show ¬ vp q = false by rw [hvq]; decide), if_neg (show ¬ p ≤ q by omega)] at c2
      have i1 : decide (q < p) = true := decide_eq_true hq
      have i2 : decide (p ≤ q) = false := decide_eq_false (by omega)
      have i3 : ¬ (p ≤ q) := by omega
      clear hvq hv hvp
      go_wp2_with fail
      go_at_call 9
      refine c2.out.mono ?_
      rintro e w3 (⟨h0, _⟩ | ⟨_, B1, f1, u1, B2, f2, u2, rfl, _, _, hb3⟩)
      case inl => exact absurd rfl h0
      have hb := below_then_alloc (o := .cells #[.slice B1 (putL 1 q (baR 2) []).length f1, .slice B2 (putM 1 q (baR 2) (baM p)).length f2] 29) (below_then hb3 hba)
      clear hb3 c2 q0 q1
      go_upto_region 7 with fail
      generalize w3.alloc (.cells #[.slice B1 (putL 1 q (baR 2) []).length f1, .slice B2 (putM 1 q (baR 2) (baM p)).length f2] 29) = w4 at *
      go_wp2_with fail
      go_at_call 8
      refine (same_nil 8 _).mono ?_
      rintro e w5 ⟨rfl, rfl⟩
      go_wp2
      go_ret
      exact ⟨ret_bool (by simp [i1, i2, i3, hq]), hb⟩
theorem bookApart_law {H : Type} {enc : TypeId × Value → H} {v0 v1 : Value} {d0 d1 : DataW H} {p0 p1 : List MemPlace} {base : Nat} {W : World}
    (h0 : Arg enc W base 3 v0 d0 p0) (h1 : Arg enc W base 3 v1 d1 p1) (hl : Laid W) :
    Calls Tryd.prog 4 #[v0, v1] W fun e w' => e = .returned (.bool true) ∧ Below W.heap.size W w' := by
  obtain ⟨m, rfl, _⟩ := h0.int
  obtain ⟨q, rfl, _⟩ := h1.int
  exact bookApart_any m q W hl
end Go.Proofs.YtbnjkcgkdpildaaDoor
