/- A map of the call's own whose elements are bools: the look-up; ids that have been seen. -/
import Derived.Test.YtbnjkcgkdpildaaDoorBase
import Derived.Maps.OwnOps
import Derived.Maps.Views
namespace Go.Proofs.YtbnjkcgkdpildaaDoor
set_option linter.all false
open Go Go.Maps
theorem plainElem_bool_inv {H : Type} {P : Program} {e : TypeId} (he : P.underlying e = some .bool) {v : Value} {z : DataW H × List MemPlace} (h : plainElem P e v = some z) : ∃ a, v = .bool a ∧ z = (.lit (.bool a), []) := by
  unfold plainElem at h
  rw [he] at h
  cases v <;> simp at h
  exact ⟨_, rfl, h.symm⟩
theorem wpList_lookup_own_bool {H : Type} {P : Program} (w : World) {ops : Array Oper} {rest : List Oper} {o : Oper} {a : Act} {Q : Exit → Act → World → Prop}
    (hg : o.guard = none) (m x : Operand) (t : TypeId) (hop : o.op = Op.lookup t m x false)
    (k e : TypeId) (K : Keyed P k) (ht : P.underlying t = some (.map k e)) (he : P.underlying e = some .bool) (hz : (zeroValue e).run P w = .ok (.bool false) w) (b n : Nat) (D : DataW H)
    (hm : a.eval m = .map (some b)) (hown : w.ownsMap P k (plainElem P e) b n D) (key : Value) (kl : Lit) (hx : a.eval x = key) (hkey : keyOf P k key = some kl)
    (c : Bool) (hc : D.atKey kl (.lit (.bool false)) = .lit (.bool c))
    (hK : wpList P ops Q rest (a.put o.dst (.bool c)) w) :
    wpList P ops Q (o :: rest) a w := by
  refine wpList_plain hg fun K' hK' => ?_
  obtain ⟨v, ps, hrun, hv⟩ := hown.lookup K ht hz (plainElem_bool he false) hkey
  obtain ⟨c', rfl, hc'⟩ := plainElem_bool_inv he hv
  simp only [Prod.mk.injEq] at hc'
  have hcc := hc'.1.symm.trans hc
  simp only [DataW.lit.injEq, Lit.bool.injEq] at hcc
  subst hcc
  unfold Oper.wp
  simp [execOp, hop, hm, hx, hrun, Result.andThen]
  exact hK' _ _ hK
/-- a set of ids, each put to true -/
def SeenD (l : List Int) : DataW Unit := l.foldl (fun D x => D.put (.int .i64 x) (.lit (.bool true))) (.map [])
theorem SeenD_snoc (l : List Int) (x : Int) : SeenD (l ++ [x]) = (SeenD l).put (.int .i64 x) (.lit (.bool true)) := by simp [SeenD]
theorem SeenD_map (l : List Int) : IsMap (SeenD l) := by
  suffices H : ∀ (l : List Int) (D : DataW Unit), IsMap D → IsMap (l.foldl (fun D x => D.put (.int .i64 x) (.lit (.bool true))) D) from H l _ isMap_empty
  intro l
  induction l with
  | nil => intro D h; exact h
  | cons x l ih => intro D h; exact ih _ (h.put _ _)
theorem SeenD_at (l : List Int) (x : Int) : (SeenD l).atKey (.int .i64 x) (.lit (.bool false)) = .lit (.bool (l.contains x)) := by
  suffices H : ∀ (r : List Int), (SeenD r.reverse).atKey (.int .i64 x) (.lit (.bool false)) = .lit (.bool (r.contains x)) by
    have := H l.reverse
    rw [List.reverse_reverse] at this
    rw [this]
    congr 2
    simp [Bool.eq_iff_iff]
  intro r
  induction r with
  | nil => rfl
  | cons y r ih =>
    rw [List.reverse_cons, SeenD_snoc]
    by_cases h : x = y
    · subst h
      rw [atKey_put_same (SeenD_map _) (by trivial)]
      simp
    · rw [atKey_put_other (by intro e; exact h (by cases e; rfl)), ih]
      simp [h]
end Go.Proofs.YtbnjkcgkdpildaaDoor
