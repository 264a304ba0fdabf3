/- What kinds.Run gives, in one form. -/
import Derived.Test.YtbnjkcgkdpildaaKRun
namespace Go.Proofs.Ytbnjkcgkdpildaa
set_option linter.all false
open Go Go.RowKit
/-- what kinds.Run gave, in one form -/
def KR (R : Option MSt) (k : MSt → Nat) (z : MSt → Int) (o : Order) (L M : List Lv) (base : Nat) (w' : World) (A1 : Option Addr) (n1 c1 : Nat) (A2 : Option Addr) (n2 c2 : Nat) (AT : Option Addr) (nT cT : Nat) (gone : Int) (AW : Option Addr) (nW cW : Nat) (ev : Value) : Prop :=
  (ev = er 4 ∧ R = none ∧ nT = 0 ∧ nW = 0 ∧ gone = 0 ∧ n1 = 0 ∧ n2 = 0) ∨
  ∃ s, R = some s ∧ MOk s ∧ (((k s = 9 ∨ k s = 8) ∧ ev = er (k s) ∧ nT = 0 ∧ nW = 0 ∧ gone = 0 ∧ n1 = 0 ∧ n2 = 0) ∨ (k s = 2 ∧ z s ≠ 0 ∧ ev = er (z s) ∧ nT = 0 ∧ nW = 0 ∧ gone = 0 ∧ n1 = 0 ∧ n2 = 0) ∨
    (ev = .nilIface ∧ ∃ v1 v2 L' M', (k s ≤ 1 ∧ L' = kL o.side L s ∧ M' = kM o.side M s ∨ k s = 2 ∧ z s = 0 ∧ L' = putL o.side o.price (restOf o s.left) (kL o.side L s) ∧ M' = putM o.side o.price (restOf o s.left) (kM o.side M s)) ∧
      n1 = L'.length ∧ n2 = M'.length ∧ nT = s.T.length ∧ nW = s.W.length ∧ gone = (if k s = 1 then s.left else 0) ∧
      OwnLv w' base A1 c1 L' v1 ∧ OwnLv w' base A2 c2 M' v2 ∧ OwnS w' base 6 AT s.T.length cT (trows s.T) ∧ OwnS w' base 1 AW s.W.length cW (irows s.W)))
theorem KRunQ.flat {R : Option MSt} {k : MSt → Nat} {z : MSt → Int} {o : Order} {L M : List Lv} {w w' : World} {e : Ending} (h : KRunQ R k z o L M w e w') :
    ∃ A1 n1 c1 A2 n2 c2 AT nT cT left gone AW nW cW ends ev, e = .returned (.tuple #[.agg #[.slice A1 n1 c1, .slice A2 n2 c2, .slice AT nT cT, .int .i64 left, .slice AW nW cW, .bool ends], .int .i64 gone, ev]) ∧ Hid (KR R k z o L M w.heap.size w' A1 n1 c1 A2 n2 c2 AT nT cT gone AW nW cW ev) ∧ Below w.heap.size w w' := by
  rcases h with ⟨h0, rfl, hb⟩ | ⟨s, hs, hok, ⟨h0, rfl, hb⟩ | ⟨h0, h1, rfl, hb⟩ | ⟨A1, c1, v1, A2, c2, v2, AT, cT, AW, cW, L', M', h0, rfl, o1, o2, o3, o4, hb⟩⟩
  · exact ⟨_, _, _, _, _, _, _, _, _, _, _, _, _, _, _, _, rfl, Lib.hid (.inl ⟨rfl, h0, rfl, rfl, rfl, rfl, rfl⟩), hb⟩
  · exact ⟨_, _, _, _, _, _, _, _, _, _, _, _, _, _, _, _, rfl, Lib.hid (.inr ⟨s, hs, hok, .inl ⟨h0, rfl, rfl, rfl, rfl, rfl, rfl⟩⟩), hb⟩
  · exact ⟨_, _, _, _, _, _, _, _, _, _, _, _, _, _, _, _, rfl, Lib.hid (.inr ⟨s, hs, hok, .inr (.inl ⟨h0, h1, rfl, rfl, rfl, rfl, rfl, rfl⟩)⟩), hb⟩
  · exact ⟨_, _, _, _, _, _, _, _, _, _, _, _, _, _, _, _, rfl, Lib.hid (.inr ⟨s, hs, hok, .inr (.inr ⟨rfl, v1, v2, L', M', h0, rfl, rfl, rfl, rfl, rfl, o1, o2, o3, o4⟩)⟩), hb⟩
theorem KR.move {R : Option MSt} {k : MSt → Nat} {z : MSt → Int} {o : Order} {L M : List Lv} {base b : Nat} {w w' : World} {A1 A2 AT AW : Option Addr} {n1 c1 n2 c2 nT cT nW cW : Nat} {gone : Int} {ev : Value}
    (h : KR R k z o L M base w A1 n1 c1 A2 n2 c2 AT nT cT gone AW nW cW ev) (f : ∀ (A : Option Addr) (c : Nat) (L : List Lv) (v : List (Option Addr × Nat)), OwnLv w base A c L v → OwnLv w' b A c L v) (g : ∀ (s : Nat) (A : Option Addr) (n c : Nat) (xs : List Value), OwnS w base s A n c xs → OwnS w' b s A n c xs) :
    KR R k z o L M b w' A1 n1 c1 A2 n2 c2 AT nT cT gone AW nW cW ev := by
  rcases h with h | ⟨s, hs, hok, h | h | ⟨e, v1, v2, L', M', h0, e1, e2, e3, e4, e5, o1, o2, o3, o4⟩⟩
  · exact .inl h
  · exact .inr ⟨s, hs, hok, .inl h⟩
  · exact .inr ⟨s, hs, hok, .inr (.inl h)⟩
  · exact .inr ⟨s, hs, hok, .inr (.inr ⟨e, v1, v2, L', M', h0, e1, e2, e3, e4, e5, f _ _ _ _ o1, f _ _ _ _ o2, g _ _ _ _ _ o3, g _ _ _ _ _ o4⟩)⟩
end Go.Proofs.Ytbnjkcgkdpildaa
