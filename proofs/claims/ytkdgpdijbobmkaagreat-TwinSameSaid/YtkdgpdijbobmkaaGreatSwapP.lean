/- What becomes of a rest that is given another price and quantity: plain; and the memory of a rest that is set. -/
import Derived.Test.YtkdgpdijbobmkaaGreatBookFind
import Derived.Test.YtkdgpdijbobmkaaGreatGrpI
namespace Go.Proofs.YtkdgpdijbobmkaaGreat
set_option linter.all false
open Go Go.RowKit
/-- what is wrong with a swap -/
def swE (L M : List Lv) (id p q : Int) : Int := if bookE L M ≠ 0 then bookE L M else if (whereB L M id).1 = 0 then 5 else if vp p = true ∧ inb q 1 10000 = true then 0 else 1
/-- how much less -/
def lessOf (r : Rest) (q : Int) : Int := r.qty + r.hidden - q
def keepB (x : Lv) (r : Rest) (p q : Int) : Bool := decide (p = x.price ∧ 0 ≤ lessOf r q)
/-- the rest that keeps its place -/
def keptR (r : Rest) (q : Int) : Rest := ⟨r.id, r.who, q - max 0 (r.hidden - lessOf r q), max 0 (r.hidden - lessOf r q), r.show_⟩
/-- a side whose k-th rest of level i is another one -/
def setR (L : List Lv) (i k : Nat) (r : Rest) : List Lv := match L[i]? with
  | none => L
  | some x => L.set i ⟨x.price, x.rs.set k r⟩
def setRL (s : Int) (i k : Nat) (r : Rest) (L : List Lv) : List Lv := if s = 1 then setR L i k r else L
def setRM (s : Int) (i k : Nat) (r : Rest) (M : List Lv) : List Lv := if s = 1 then M else setR M i k r
/-- who comes anew -/
def anewO (id : Int) (r : Rest) (s p q : Int) : Order := ⟨id, r.who, s, 1, p, q, min r.show_ q, 0⟩
/-- what comes of a swap: the fault; side, price, rest, does it keep; the book; who comes anew; how much less -/
def SW (L M : List Lv) (id p q : Int) (E sd pr : Int) (r : Rest) (kp : Bool) (K1 K2 : List Lv) (an : Order) (ls : Int) : Prop :=
  (swE L M id p q ≠ 0 ∧ E = swE L M id p q ∧ sd = 0 ∧ pr = 0 ∧ r = rest0 ∧ kp = false ∧ K1 = [] ∧ K2 = [] ∧ an = ord0 ∧ ls = 0) ∨
  (swE L M id p q = 0 ∧ E = 0 ∧ ∃ i k x, BAt L M id sd i k x r ∧ pr = x.price ∧ ls = lessOf r q ∧ kp = keepB x r p q ∧
    (kp = true ∧ K1 = setRL sd i k (keptR r q) L ∧ K2 = setRM sd i k (keptR r q) M ∧ an = ord0 ∨ kp = false ∧ K1 = cutL sd i k L ∧ K2 = cutM sd i k M ∧ an = anewO id r sd p q))
theorem swE_at {L M : List Lv} {id p q : Int} (h : swE L M id p q = 0) : BookOk L M ∧ vp p = true ∧ inb q 1 10000 = true ∧ ∃ s i k x r, BAt L M id s i k x r := by
  unfold swE at h
  by_cases h1 : bookE L M = 0
  · rw [if_neg (by simpa using h1)] at h
    by_cases h2 : (whereB L M id).1 = 0
    · rw [if_pos h2] at h; omega
    · rw [if_neg h2] at h
      by_cases h3 : vp p = true ∧ inb q 1 10000 = true
      · exact ⟨bookE_iff.1 h1, h3.1, h3.2, whereB_at h2⟩
      · rw [if_neg h3] at h; omega
  · rw [if_pos h1] at h; exact absurd h h1
theorem sw_ex (L M : List Lv) (id p q : Int) : ∃ E sd pr r kp K1 K2 an ls, SW L M id p q E sd pr r kp K1 K2 an ls := by
  by_cases h : swE L M id p q = 0
  · obtain ⟨_, _, _, s, i, k, x, r, ha⟩ := swE_at h
    cases hk : keepB x r p q
    · exact ⟨_, _, _, _, _, _, _, _, _, .inr ⟨h, rfl, i, k, x, ha, rfl, rfl, hk.symm, .inr ⟨rfl, rfl, rfl, rfl⟩⟩⟩
    · exact ⟨_, _, _, _, _, _, _, _, _, .inr ⟨h, rfl, i, k, x, ha, rfl, rfl, hk.symm, .inl ⟨rfl, rfl, rfl, rfl⟩⟩⟩
  · exact ⟨_, _, _, _, _, _, _, _, _, .inl ⟨h, rfl, rfl, rfl, rfl, rfl, rfl, rfl, rfl, rfl⟩⟩
theorem SW.bad {L M K1 K2 : List Lv} {id p q E sd pr ls e0 : Int} {r : Rest} {kp : Bool} {an : Order} (h : SW L M id p q E sd pr r kp K1 K2 an ls) (he : swE L M id p q = e0) (h0 : e0 ≠ 0) : E = e0 ∧ sd = 0 ∧ pr = 0 ∧ r = ⟨0, 0, 0, 0, 0⟩ ∧ kp = false ∧ K1 = [] ∧ K2 = [] ∧ an = ⟨0, 0, 0, 0, 0, 0, 0, 0⟩ ∧ ls = 0 := by
  rcases h with ⟨_, h1, h2, h3, h4, h5, h6, h7, h8, h9⟩ | ⟨h, _⟩
  · exact ⟨h1.trans he, h2, h3, h4, h5, h6, h7, h8, h9⟩
  · exact absurd (he.symm.trans h) h0
theorem BAt.uniq {L M : List Lv} {id s s' : Int} {i k i' k' : Nat} {x x' : Lv} {r r' : Rest} (h : BAt L M id s i k x r) (h' : BAt L M id s' i' k' x' r') : s = s' ∧ i = i' ∧ k = k' ∧ x = x' ∧ r = r' := by
  have e := h.where_.symm.trans h'.where_
  simp only [Prod.mk.injEq, Int.natCast_inj] at e
  obtain ⟨rfl, rfl, rfl⟩ := e
  have e1 := Option.some.inj (h.at_.lv.symm.trans h'.at_.lv)
  subst e1
  exact ⟨rfl, rfl, rfl, rfl, Option.some.inj (h.at_.rest.symm.trans h'.at_.rest)⟩
theorem SW.good {L M K1 K2 : List Lv} {id p q E sd pr ls : Int} {r : Rest} {kp : Bool} {an : Order} (h : SW L M id p q E sd pr r kp K1 K2 an ls) (he : swE L M id p q = 0) {s : Int} {i k : Nat} {x : Lv} {r' : Rest} (ha : BAt L M id s i k x r') :
    E = 0 ∧ sd = s ∧ pr = x.price ∧ r = r' ∧ ls = lessOf r' q ∧ kp = keepB x r' p q ∧ (keepB x r' p q = true → K1 = setRL s i k (keptR r' q) L ∧ K2 = setRM s i k (keptR r' q) M ∧ an = ord0) ∧ (keepB x r' p q = false → K1 = cutL s i k L ∧ K2 = cutM s i k M ∧ an = anewO id r' s p q) := by
  rcases h with ⟨h, _⟩ | ⟨_, h1, i', k', x', ha', h2, h3, h4, h5⟩
  · exact absurd he h
  · obtain ⟨rfl, rfl, rfl, rfl, rfl⟩ := ha'.uniq ha
    refine ⟨h1, rfl, h2, rfl, h3, h4, fun hk => ?_, fun hk => ?_⟩
    · rcases h5 with ⟨_, a, b, c⟩ | ⟨a, _⟩
      · exact ⟨a, b, c⟩
      · rw [h4, hk] at a; cases a
    · rcases h5 with ⟨a, _⟩ | ⟨_, a, b, c⟩
      · rw [h4, hk] at a; cases a
      · exact ⟨a, b, c⟩
theorem setR_at {L : List Lv} {i k : Nat} {x : Lv} (h : L[i]? = some x) (r : Rest) : setR L i k r = L.set i ⟨x.price, x.rs.set k r⟩ := by rw [setR, h]
end Go.Proofs.YtkdgpdijbobmkaaGreat
