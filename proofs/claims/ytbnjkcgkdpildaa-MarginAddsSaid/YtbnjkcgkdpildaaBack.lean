/- The contracts of Back: margin's and the reference's. -/
import Derived.Test.YtbnjkcgkdpildaaMargin2
import Derived.Test.YtbnjkcgkdpildaaTrade
import Derived.Test.YtbnjkcgkdpildaaGrpA
namespace Go.Proofs.Ytbnjkcgkdpildaa
set_option linter.all false
open Go Go.RowKit
/-- what is wrong with a trade behind an order -/
def bErr (o : Order) (t : Trade) : Int := if t.okB = false then 1 else if t.taker = o.id ∧ may o t.price = true then 0 else 3
/-- so much comes back, with a trade more -/
def bAdd (o : Order) (c : Int) (t : Trade) : Int := if o.side = 1 then wrap64 (c + (o.lim - t.price) * t.qty) else c
/-- the fault, or what comes back -/
def backL (o : Order) : List Trade → Int → Int × Int
  | [], c => (0, c)
  | t :: l, c => if bErr o t ≠ 0 then (bErr o t, 0) else backL o l (bAdd o c t)
theorem backL_bad {o : Order} {l : List Trade} {k : Nat} {t : Trade} {c : Int} (ht : l[k]? = some t) (h : bErr o t ≠ 0) : backL o (l.drop k) c = (bErr o t, 0) := by
  have hk := (List.getElem?_eq_some_iff.1 ht).1
  rw [List.drop_eq_getElem_cons hk, (List.getElem?_eq_some_iff.1 ht).2, backL, if_pos h]
theorem backL_next {o : Order} {l : List Trade} {k : Nat} {t : Trade} {c : Int} (ht : l[k]? = some t) (h : bErr o t = 0) : backL o (l.drop k) c = backL o (l.drop (k + 1)) (bAdd o c t) := by
  have hk := (List.getElem?_eq_some_iff.1 ht).1
  rw [List.drop_eq_getElem_cons hk, (List.getElem?_eq_some_iff.1 ht).2, backL, if_neg (by simpa using h)]
theorem backL_end {o : Order} {l : List Trade} {k : Nat} {c : Int} (hk : l.length ≤ k) : backL o (l.drop k) c = (0, c) := by
  rw [List.drop_eq_nil_of_le hk, backL]
def backR (o : Order) (l : List Trade) (gone : Int) : Int × Int × Int :=
  if gone < 0 ∨ o.qty < gone then (1, 0, 0) else if (backL o l (mcash o.side o.lim gone)).1 ≠ 0 then ((backL o l (mcash o.side o.lim gone)).1, 0, 0) else (0, (backL o l (mcash o.side o.lim gone)).2, mstock o.side gone)
theorem lim_bd {o : Order} (h : o.err = 0) : 0 ≤ o.lim ∧ o.lim ≤ 10000 := by
  have := Order.err_ok h
  unfold Order.lim; split <;> omega
theorem prod_bd {a b : Int} (h1 : 0 ≤ a) (h2 : a ≤ 10000) (h3 : 0 ≤ b) (h4 : b ≤ 10000) : 0 ≤ a * b ∧ a * b ≤ 100000000 := by
  have := Int.mul_le_mul h2 h4 h3 (by omega)
  exact ⟨Int.mul_nonneg h1 h3, by omega⟩
theorem prod_bd2 {a b : Int} (h1 : -10000 ≤ a) (h2 : a ≤ 10000) (h3 : 0 ≤ b) (h4 : b ≤ 10000) : -100000000 ≤ a * b ∧ a * b ≤ 100000000 := by
  have h5 := Int.mul_le_mul_of_nonneg_right h2 h3
  have h6 := Int.mul_le_mul_of_nonneg_right h1 h3
  omega
theorem keepc {w w' : World} {p : Addr} {v : Value} (hb : Below w.heap.size w w') (h : w.cell? p = some v) : w'.cell? p = some v := (hb.cell (World.block_lt_of_cell? w _ h)).trans h
theorem box8 {w' : World} {v0 v1 v2 v3 v4 v5 v6 v7 : Value} {g : Nat} {t : TypeId} (h : Bk w' g t #[v0, v1, v2, v3, v4, v5, v6, v7]) : w'.cell? ⟨g, 0, none⟩ = some v0 ∧ w'.cell? ⟨g, 1, none⟩ = some v1 ∧ w'.cell? ⟨g, 2, none⟩ = some v2 ∧ w'.cell? ⟨g, 3, none⟩ = some v3 ∧ w'.cell? ⟨g, 4, none⟩ = some v4 ∧ w'.cell? ⟨g, 5, none⟩ = some v5 ∧ w'.cell? ⟨g, 6, none⟩ = some v6 ∧ w'.cell? ⟨g, 7, none⟩ = some v7 :=
  ⟨h.cell 0, h.cell 1, h.cell 2, h.cell 3, h.cell 4, h.cell 5, h.cell 6, h.cell 7⟩
/-- how the reference's ends -/
def SBackPost (r : Int × Int × Int) (w : World) (e : Ending) (w' : World) : Prop := e = .returned (.tuple #[.int .i64 r.2.1, .int .i64 r.2.2, .int .i64 r.1]) ∧ Below w.heap.size w w'
end Go.Proofs.Ytbnjkcgkdpildaa
