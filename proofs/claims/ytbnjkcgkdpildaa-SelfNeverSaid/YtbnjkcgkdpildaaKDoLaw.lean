/- The contract of kinds.Do, as laws want it. -/
import Derived.Test.YtbnjkcgkdpildaaKindLaw
import Derived.Test.YtbnjkcgkdpildaaKDo
import Derived.Test.YtbnjkcgkdpildaaBookPut
namespace Go.Proofs.Ytbnjkcgkdpildaa
set_option linter.all false
open Go Go.RowKit
/-- what kinds.Do gave, as laws want it -/
def KGave (L M : List Lv) (o : Order) (base : Nat) (w' : World) (A1 : Option Addr) (n1 c1 : Nat) (A2 : Option Addr) (n2 c2 : Nat) (AT : Option Addr) (nT cT : Nat) (gone : Int) (ev : Value) : Prop :=
  (∃ z, z ≠ 0 ∧ ev = er z) ∨ (ev = .nilIface ∧ readyE L M o = 0 ∧ ∃ T rests L' M' v1 v2, KOk L M o 0 T gone rests L' M' ∧ n1 = L'.length ∧ n2 = M'.length ∧ nT = T.length ∧ OwnLv w' base A1 c1 L' v1 ∧ OwnLv w' base A2 c2 M' v2 ∧ OwnS w' base 6 AT T.length cT (trows T))
def KDoLaw (L M : List Lv) (o : Order) (w : World) (e : Ending) (w' : World) : Prop :=
  ∃ A1 n1 c1 A2 n2 c2 AT nT cT gone ev, e = .returned (.tuple #[.agg #[.slice A1 n1 c1, .slice A2 n2 c2], .slice AT nT cT, .int .i64 gone, ev]) ∧ Hid (KGave L M o w.heap.size w' A1 n1 c1 A2 n2 c2 AT nT cT gone ev) ∧ Below w.heap.size w w'
theorem kdo_law (L M : List Lv) (o : Order) (A1 A2 : Option Addr) (c1 c2 : Nat) (w : World) (h1 : RdLv w w.heap.size A1 L) (h2 : RdLv w w.heap.size A2 M) (hl1 : L.length ≤ maxLen) (hl2 : M.length ≤ maxLen) (hA1 : A1 = none → c1 = 0) (hA2 : A2 = none → c2 = 0) :
    Calls Try.prog 28 #[.agg #[.slice A1 L.length c1, .slice A2 M.length c2], .agg #[.int .i64 o.id, .int .i64 o.who, .int .i64 o.side, .int .i64 o.kind, .int .i64 o.price, .int .i64 o.qty, .int .i64 o.show_, .int .i64 o.stop]] w (KDoLaw L M o w) := by
  obtain ⟨R, hR⟩ : ∃ R, R = met L M o 0 := ⟨_, rfl⟩
  refine (kdo_any L M o A1 A2 c1 c2 w h1 h2 hl1 hl2 hA1 hA2 _ rfl R hR _ rfl _ rfl (fun _ => putCon)).mono ?_
  rintro e w' ⟨B1, n1, d1, B2, n2, d2, AT, nT, cT, gone, ev, rfl, hK, hb⟩
  refine ⟨_, _, _, _, _, _, _, _, _, _, _, rfl, Lib.hid ?_, hb⟩
  rcases hK.out with ⟨hy, rfl, _⟩ | ⟨hy, AW, nW, cW, hK⟩
  · exact .inl ⟨_, hy, rfl⟩
  rcases hK with ⟨rfl, _⟩ | ⟨s, hs, hok, ⟨h0, rfl, _⟩ | ⟨_, h0, rfl, _⟩ | ⟨rfl, v1, v2, L', M', hw, rfl, rfl, rfl, rfl, rfl, o1, o2, ot, _⟩⟩
  · exact .inl ⟨4, by decide, rfl⟩
  · refine .inl ⟨_, ?_, rfl⟩
    rcases h0 with h | h <;> rw [h] <;> decide
  · exact .inl ⟨_, h0, rfl⟩
  · rw [hR] at hs
    have h98 : kOut o (pick o.side L M) s ≠ 9 ∧ kOut o (pick o.side L M) s ≠ 8 := by
      rcases hw with h | h
      · have := h.1; omega
      · have := h.1; omega
    obtain ⟨rests, hk⟩ := kok hy hs h98.1 h98.2 hw
    exact .inr ⟨rfl, hy, s.T, rests, L', M', v1, v2, hk, rfl, rfl, rfl, o1, o2, ot⟩
theorem sumT_take_le {T : List Trade} (h : ∀ t ∈ T, 1 ≤ t.qty) : ∀ k, sumT (T.take k) ≤ sumT T ∧ 0 ≤ sumT (T.take k) := by
  induction T with
  | nil => intro k; simp [sumT]
  | cons t T ih =>
    intro k
    have h1 := h t (by simp)
    have h0 := ih (fun x hx => h x (by simp [hx])) 0
    cases k with
    | zero => simp [sumT] at *; omega
    | succ k =>
      have h2 := ih (fun x hx => h x (by simp [hx])) k
      simp only [List.take_succ_cons, sumT, List.map_cons, List.sum_cons] at *
      omega
theorem sumT_len {T : List Trade} (h : ∀ t ∈ T, 1 ≤ t.qty) : (T.length : Int) ≤ sumT T := by
  induction T with
  | nil => simp [sumT]
  | cons t T ih =>
    have h1 := h t (by simp)
    have h2 := ih (fun x hx => h x (by simp [hx]))
    simp only [sumT, List.map_cons, List.sum_cons, List.length_cons] at *
    omega
end Go.Proofs.Ytbnjkcgkdpildaa
