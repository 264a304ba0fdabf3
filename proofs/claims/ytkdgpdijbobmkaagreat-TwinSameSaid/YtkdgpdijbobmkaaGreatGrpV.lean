/- The contracts of package margin. Contracts: margin.For, margin.Left, and the reference's For and LeftFor. The contracts of Back: margin's and the reference's. The walk of the reference's Back. The walk of margin.Back. -/
import Derived.Test.YtkdgpdijbobmkaaGreatGrpA
import Derived.Deep.RegionHeld3
import Derived.Test.YtkdgpdijbobmkaaGreatGrpB
import Derived.Test.YtkdgpdijbobmkaaGreatTrade
import Derived.IntWalk
import Derived.Deep.DeepCutAuto
import Derived.Deep.CutBlock
namespace Go.Proofs.YtkdgpdijbobmkaaGreat
set_option linter.all false
open Go.RowKit
def mcash (s p q : Int) : Int := if s = 1 then p * q else 0
def mstock (s q : Int) : Int := if s = 1 then 0 else q
theorem mof_any (s p q : Int) (w : World) (h1 : 0 ≤ p) (h2 : p ≤ 10000) (h3 : 0 ≤ q) (h4 : q ≤ 20000) :
    Calls Tryz.prog 52 #[.int .i64 s, .int .i64 p, .int .i64 q] w fun e w' => e = .returned (.tuple #[.int .i64 (mcash s p q), .int .i64 (mstock s q)]) ∧ w = w' := by
  have hb : p * q ≤ 200000000 := by
    have := Int.mul_le_mul h2 h4 h3 (by omega); omega
  have hb0 : 0 ≤ p * q := Int.mul_nonneg h1 h3
  by_cases h : s = 1
  · subst h
    go_enter Tryz.func52, Tryz.ntmps52
    go_wp2
    go_ret2
    exact ⟨rfl, rfl⟩
  · have e : (s == 1) = false := by simpa using h
    have g1 : mcash s p q = 0 := by simp [mcash, h]
    have g2 : mstock s q = q := by simp [mstock, h]
    rw [g1, g2]
    clear g1 g2 h
    go_enter Tryz.func52, Tryz.ntmps52
    go_wp2
    go_ret2
    exact ⟨rfl, rfl⟩
/-- the worst price of an order -/
def Order.lim (o : Order) : Int := if o.kind = 2 then 10000 else o.price
theorem limit_any (o : Order) (w : World) :
    Calls Tryz.prog 54 #[.agg #[.int .i64 o.id, .int .i64 o.who, .int .i64 o.side, .int .i64 o.kind, .int .i64 o.price, .int .i64 o.qty, .int .i64 o.show_, .int .i64 o.stop]] w fun e w' => e = .returned (.int .i64 o.lim) ∧ w' = w.alloc (.cells #[.int .i64 o.id, .int .i64 o.who, .int .i64 o.side, .int .i64 o.kind, .int .i64 o.price, .int .i64 o.qty, .int .i64 o.show_, .int .i64 o.stop] 31) := by
  obtain ⟨id, who, side, kind, price, qty, show_, stop⟩ := o
  go_enter Tryz.func54, Tryz.ntmps54
  go_wp2
  all_goals
    go_ret
    constructor
    · refine congrArg Ending.returned ?_
      simp_all [Order.lim]
    · simp_all
theorem for_ok (o : Order) (h : o.err = 0) (w : World) :
    Calls Tryz.prog 21 #[.agg #[.int .i64 o.id, .int .i64 o.who, .int .i64 o.side, .int .i64 o.kind, .int .i64 o.price, .int .i64 o.qty, .int .i64 o.show_, .int .i64 o.stop]] w fun e w' => e = .returned (.tuple #[.int .i64 (mcash o.side o.lim o.qty), .int .i64 (mstock o.side o.qty), .nilIface]) ∧ Below w.heap.size w w' := by
  rcases check_ex o with ⟨_, cC⟩ | ⟨h2, _⟩
  case inr => exact absurd h h2
  have hh := Order.err_ok h
  have cL := limit_any o
  have hl : 0 ≤ o.lim ∧ o.lim ≤ 10000 := by unfold Order.lim; split <;> omega
  have cO := fun w => mof_any o.side o.lim o.qty w hl.1 hl.2 (by omega) (by omega)
  clear h hh hl
  obtain ⟨id, who, side, kind, price, qty, show_, stop⟩ := o
  generalize Order.lim ⟨id, who, side, kind, price, qty, show_, stop⟩ = l at *
  go_enter Tryz.func21, Tryz.ntmps21
  go_wp2_with (first | (go_at_call 53; ((with_reducible refine (cC _).mono ?_); rintro e w' ⟨rfl, rfl⟩)))
  obtain ⟨W1, hW1⟩ : ∃ W1, W1 = (w.alloc (.cells #[.int .i64 id, .int .i64 who, .int .i64 side, .int .i64 kind, .int .i64 price, .int .i64 qty, .int .i64 show_, .int .i64 stop] 31)).alloc (.cells #[.int .i64 id, .int .i64 who, .int .i64 side, .int .i64 kind, .int .i64 price, .int .i64 qty, .int .i64 show_, .int .i64 stop] 31) := ⟨_, rfl⟩
  rw [← hW1]
  obtain ⟨b1, b2, b3⟩ : w.heap.size < W1.heap.size ∧ (∀ i, W1.cell? ⟨w.heap.size, i, none⟩ = (#[.int .i64 id, .int .i64 who, .int .i64 side, .int .i64 kind, .int .i64 price, .int .i64 qty, .int .i64 show_, .int .i64 stop] : Array Value)[i]?) ∧ Below w.heap.size w W1 := by
    rw [hW1]; exact held_new ((Below.refl _ _).alloc (by simp) _)
  have e0 := b2 0; have e1 := b2 1; have e2 := b2 2; have e3 := b2 3; have e4 := b2 4; have e5 := b2 5; have e6 := b2 6; have e7 := b2 7
  clear hW1 b2
  go_region_held3 (fun w' => w'.cell? ⟨w.heap.size, 0, none⟩ = some (.int .i64 id) ∧ w'.cell? ⟨w.heap.size, 1, none⟩ = some (.int .i64 who) ∧ w'.cell? ⟨w.heap.size, 2, none⟩ = some (.int .i64 side) ∧ w'.cell? ⟨w.heap.size, 3, none⟩ = some (.int .i64 kind) ∧ w'.cell? ⟨w.heap.size, 4, none⟩ = some (.int .i64 price) ∧ w'.cell? ⟨w.heap.size, 5, none⟩ = some (.int .i64 qty) ∧ w'.cell? ⟨w.heap.size, 6, none⟩ = some (.int .i64 show_) ∧ w'.cell? ⟨w.heap.size, 7, none⟩ = some (.int .i64 stop) ∧ Below w.heap.size w w')
    ((repeat' apply And.intro) <;> first | assumption | (exact cell_alloc_drew (by assumption) _) | (exact cell_alloc (by assumption) _) | (exact cell_drew (by assumption)) | (exact below_alloc_drew (by assumption) (Nat.le_refl _) _) | (exact below_alloc (by assumption) (Nat.le_refl _) _) | (exact Below.drew (by assumption)))
    (first | (go_at_call 54; ((with_reducible refine (cL _).mono ?_); rintro e w' ⟨rfl, rfl⟩)) | (go_at_call 52; ((with_reducible refine (cO _).mono ?_); rintro e w' ⟨rfl, rfl⟩)))
  go_wp2
  go_ret3
  refine ⟨rfl, ?_⟩
  ((repeat' apply And.intro) <;> first | assumption | (exact cell_alloc_drew (by assumption) _) | (exact cell_alloc (by assumption) _) | (exact cell_drew (by assumption)) | (exact below_alloc_drew (by assumption) (Nat.le_refl _) _) | (exact below_alloc (by assumption) (Nat.le_refl _) _) | (exact Below.drew (by assumption)))
end Go.Proofs.YtkdgpdijbobmkaaGreat
namespace Go.Proofs.YtkdgpdijbobmkaaGreat
set_option linter.all false
open Go.RowKit
theorem Rest.err_eq2 (r : Rest) : r.err = if r.id < 1 ∨ 9999 < r.id ∨ r.who < 1 ∨ 9 < r.who ∨ r.qty < 1 ∨ 10000 < r.qty then 1
    else if r.hidden < 0 ∨ 10000 < r.hidden ∨ r.show_ < 0 ∨ 10000 < r.show_ then 1
    else if (r.show_ = 0 ∧ r.hidden ≠ 0) ∨ (r.show_ ≠ 0 ∧ r.show_ < r.qty) then 3 else 0 := by
  have hi : ∀ n l h : Int, inb n l h = decide (¬ (n < l ∨ h < n)) := fun n l h => by unfold inb; congr 1; rw [eq_iff_iff]; omega
  unfold Rest.err
  simp only [hi]
  simp only [Bool.or_eq_true, Bool.and_eq_true, Bool.not_eq_true', decide_eq_false_iff_not, decide_eq_true_eq, beq_iff_eq, beq_eq_false_iff_ne, Bool.not_false, Bool.not_true, Bool.or_false, Bool.or_true, Bool.and_true, Bool.and_false, Decidable.not_not, or_assoc, reduceCtorEq, or_false, false_or, or_true, true_or, and_false, and_true, ne_eq, if_true, and_assoc, if_false, Bool.false_eq_true]
theorem for_ex (o : Order) :
    (o.err = 0 ∧ ∀ w, Calls Tryz.prog 21 #[.agg #[.int .i64 o.id, .int .i64 o.who, .int .i64 o.side, .int .i64 o.kind, .int .i64 o.price, .int .i64 o.qty, .int .i64 o.show_, .int .i64 o.stop]] w fun e w' => e = .returned (.tuple #[.int .i64 (mcash o.side o.lim o.qty), .int .i64 (mstock o.side o.qty), .nilIface]) ∧ Below w.heap.size w w') ∨
    (o.err ≠ 0 ∧ ∀ w, Calls Tryz.prog 21 #[.agg #[.int .i64 o.id, .int .i64 o.who, .int .i64 o.side, .int .i64 o.kind, .int .i64 o.price, .int .i64 o.qty, .int .i64 o.show_, .int .i64 o.stop]] w fun e w' => e = .returned (.tuple #[.int .i64 0, .int .i64 0, er o.err]) ∧ Below w.heap.size w w') := by
  by_cases h : o.err = 0
  · exact .inl ⟨h, fun w => for_ok o h w⟩
  · refine .inr ⟨h, fun w => ?_⟩
    rcases check_ex o with ⟨h2, _⟩ | ⟨_, cC⟩
    · exact absurd h2 h
    clear h
    obtain ⟨id, who, side, kind, price, qty, show_, stop⟩ := o
    generalize Order.err ⟨id, who, side, kind, price, qty, show_, stop⟩ = E at *
    go_enter Tryz.func21, Tryz.ntmps21
    go_wp2_with (first | (go_at_call 53; ((with_reducible refine (cC _).mono ?_); rintro e w' ⟨rfl, rfl⟩)))
    go_ret3
    refine ⟨rfl, ?_⟩
    exact ((Below.refl _ _).alloc (Nat.le_refl _) _).alloc (by simp) _
/-- what is wrong with a rest at a price of a side -/
def leftE (r : Rest) (s p : Int) : Int := if r.err ≠ 0 then r.err else if vs s && vp p then 0 else 1
theorem left_ok (r : Rest) (s p : Int) (w : World) (h : leftE r s p = 0) :
    Calls Tryz.prog 20 #[.agg #[.int .i64 r.id, .int .i64 r.who, .int .i64 r.qty, .int .i64 r.hidden, .int .i64 r.show_], .int .i64 s, .int .i64 p] w fun e w' => e = .returned (.tuple #[.int .i64 (mcash s p (r.qty + r.hidden)), .int .i64 (mstock s (r.qty + r.hidden)), .nilIface]) ∧ Below w.heap.size w w' := by
  have hr : r.err = 0 := by
    by_cases h0 : r.err = 0
    · exact h0
    · rw [leftE, if_pos h0] at h; exact h
  rw [leftE, if_neg (by simpa using hr)] at h
  have hsp : vs s = true ∧ vp p = true := by
    cases hs : vs s <;> cases hp : vp p <;> simp [hs, hp] at h ⊢
  obtain ⟨hs, hp⟩ := hsp
  have cO := fun w => one_any r w
  rw [hr, show errV 0 = .nilIface from rfl] at cO
  have CO := Lib.hid cO
  rw [Rest.err_eq2] at hr
  have h1 : 1 ≤ r.qty ∧ r.qty ≤ 10000 ∧ 0 ≤ r.hidden ∧ r.hidden ≤ 10000 := by
    split at hr
    · omega
    split at hr
    · omega
    omega
  have hp2 := vp_t hp
  obtain ⟨a1, a2, a3, a4⟩ := h1
  have cF := fun w => mof_any s p (r.qty + r.hidden) w (by omega) (by omega) (by omega) (by omega)
  clear hr h cO hp2
  obtain ⟨id, who, qty, hidden, show_⟩ := r
  dsimp only at *
  go_enter Tryz.func20, Tryz.ntmps20
  go_wp2_with (first | (go_at_call 49; refine (CO.out _).mono ?_; rintro e w' ⟨rfl, rfl⟩) | (go_at_call 50; refine (side_any _ _).mono ?_; rintro e w' ⟨rfl, rfl⟩) | (go_at_call 51; refine (valid_any _ _).mono ?_; rintro e w' ⟨rfl, rfl⟩) | (go_at_call 52; ((with_reducible refine (cF _).mono ?_); rintro e w' ⟨rfl, rfl⟩)))
  go_ret3
  exact ⟨rfl, by (repeat (first | exact Below.refl _ _ | assumption | (refine below_then (by assumption) ?_) | (refine below_then_alloc ?_) | (refine Below.drew ?_)))⟩
theorem left_bad (r : Rest) (s p : Int) (w : World) (h : leftE r s p ≠ 0) :
    Calls Tryz.prog 20 #[.agg #[.int .i64 r.id, .int .i64 r.who, .int .i64 r.qty, .int .i64 r.hidden, .int .i64 r.show_], .int .i64 s, .int .i64 p] w fun e w' => e = .returned (.tuple #[.int .i64 0, .int .i64 0, er (leftE r s p)]) ∧ Below w.heap.size w w' := by
  have cO := fun w => one_any r w
  by_cases hr : r.err = 0
  · rw [hr, show errV 0 = .nilIface from rfl] at cO
    have CO := Lib.hid cO; clear cO
    have hsp : vs s = false ∨ (vs s = true ∧ vp p = false) := by
      rw [leftE, if_neg (by simpa using hr)] at h
      cases hs : vs s <;> cases hp : vp p <;> simp [hs, hp] at h ⊢
    rw [show leftE r s p = 1 by rw [leftE, if_neg (by simpa using hr)]; rcases hsp with hs | ⟨hs, hp⟩ <;> simp [*]]
    clear h hr
    obtain ⟨id, who, qty, hidden, show_⟩ := r
    dsimp only at *
    rcases hsp with hs | ⟨hs, hp⟩
    all_goals
      go_enter Tryz.func20, Tryz.ntmps20
      go_wp2_with (first | (go_at_call 49; refine (CO.out _).mono ?_; rintro e w' ⟨rfl, rfl⟩) | (go_at_call 50; refine (side_any _ _).mono ?_; rintro e w' ⟨rfl, rfl⟩) | (go_at_call 51; refine (valid_any _ _).mono ?_; rintro e w' ⟨rfl, rfl⟩))
      go_ret3
      exact ⟨rfl, by (repeat (first | exact Below.refl _ _ | assumption | (refine below_then (by assumption) ?_) | (refine below_then_alloc ?_) | (refine Below.drew ?_)))⟩
  · rw [show leftE r s p = r.err by rw [leftE, if_pos hr]]
    rw [show errV r.err = er r.err by simp [errV, hr]] at cO
    have CO := Lib.hid cO; clear cO h hr
    generalize r.err = E at *
    obtain ⟨id, who, qty, hidden, show_⟩ := r
    dsimp only at *
    go_enter Tryz.func20, Tryz.ntmps20
    go_wp2_with (first | (go_at_call 49; refine (CO.out _).mono ?_; rintro e w' ⟨rfl, rfl⟩))
    go_ret3
    exact ⟨rfl, by (repeat (first | exact Below.refl _ _ | assumption | (refine below_then (by assumption) ?_) | (refine below_then_alloc ?_) | (refine Below.drew ?_)))⟩
end Go.Proofs.YtkdgpdijbobmkaaGreat
namespace Go.Proofs.YtkdgpdijbobmkaaGreat
set_option linter.all false
open Go Go.RowKit
/-- what is wrong with a trade behind an order -/
def bErr (o : Order) (t : Trade) : Int := if t.okB = false then 1 else if t.taker = o.id ∧ may o t.price = true then 0 else 3
/-- so much comes back, with a trade more -/
def bAdd (o : Order) (c : Int) (t : Trade) : Int := if o.side = 1 then wrap64 (c + (o.lim - t.price) * t.qty) else c
/-- the fault, or what comes back -/
def backL (o : Order) : List Trade → Int → Int × Int
  | [], c => (0, c)
  | t :: l, c => if bErr o t ≠ 0 then (bErr o t, 0) else backL o l (bAdd o c t)
theorem backL_bad {o : Order} {l : List Trade} {k : Nat} {t : Trade} {c : Int} (ht : l[k]? = some t) (h : bErr o t ≠ 0) : backL o (l.drop k) c = (bErr o t, 0) := by
  have hk := (List.getElem?_eq_some_iff.1 ht).1
  rw [List.drop_eq_getElem_cons hk, (List.getElem?_eq_some_iff.1 ht).2, backL, if_pos h]
theorem backL_next {o : Order} {l : List Trade} {k : Nat} {t : Trade} {c : Int} (ht : l[k]? = some t) (h : bErr o t = 0) : backL o (l.drop k) c = backL o (l.drop (k + 1)) (bAdd o c t) := by
  have hk := (List.getElem?_eq_some_iff.1 ht).1
  rw [List.drop_eq_getElem_cons hk, (List.getElem?_eq_some_iff.1 ht).2, backL, if_neg (by simpa using h)]
theorem backL_end {o : Order} {l : List Trade} {k : Nat} {c : Int} (hk : l.length ≤ k) : backL o (l.drop k) c = (0, c) := by
  rw [List.drop_eq_nil_of_le hk, backL]
def backR (o : Order) (l : List Trade) (gone : Int) : Int × Int × Int :=
  if gone < 0 ∨ o.qty < gone then (1, 0, 0) else if (backL o l (mcash o.side o.lim gone)).1 ≠ 0 then ((backL o l (mcash o.side o.lim gone)).1, 0, 0) else (0, (backL o l (mcash o.side o.lim gone)).2, mstock o.side gone)
theorem lim_bd {o : Order} (h : o.err = 0) : 0 ≤ o.lim ∧ o.lim ≤ 10000 := by
  have := Order.err_ok h
  unfold Order.lim; split <;> omega
theorem prod_bd {a b : Int} (h1 : 0 ≤ a) (h2 : a ≤ 10000) (h3 : 0 ≤ b) (h4 : b ≤ 10000) : 0 ≤ a * b ∧ a * b ≤ 100000000 := by
  have := Int.mul_le_mul h2 h4 h3 (by omega)
  exact ⟨Int.mul_nonneg h1 h3, by omega⟩
theorem prod_bd2 {a b : Int} (h1 : -10000 ≤ a) (h2 : a ≤ 10000) (h3 : 0 ≤ b) (h4 : b ≤ 10000) : -100000000 ≤ a * b ∧ a * b ≤ 100000000 := by
  have h5 := Int.mul_le_mul_of_nonneg_right h2 h3
  have h6 := Int.mul_le_mul_of_nonneg_right h1 h3
  omega
theorem keepc {w w' : World} {p : Addr} {v : Value} (hb : Below w.heap.size w w') (h : w.cell? p = some v) : w'.cell? p = some v := (hb.cell (World.block_lt_of_cell? w _ h)).trans h
theorem box8 {w' : World} {v0 v1 v2 v3 v4 v5 v6 v7 : Value} {g : Nat} {t : TypeId} (h : Bk w' g t #[v0, v1, v2, v3, v4, v5, v6, v7]) : w'.cell? ⟨g, 0, none⟩ = some v0 ∧ w'.cell? ⟨g, 1, none⟩ = some v1 ∧ w'.cell? ⟨g, 2, none⟩ = some v2 ∧ w'.cell? ⟨g, 3, none⟩ = some v3 ∧ w'.cell? ⟨g, 4, none⟩ = some v4 ∧ w'.cell? ⟨g, 5, none⟩ = some v5 ∧ w'.cell? ⟨g, 6, none⟩ = some v6 ∧ w'.cell? ⟨g, 7, none⟩ = some v7 :=
  ⟨h.cell 0, h.cell 1, h.cell 2, h.cell 3, h.cell 4, h.cell 5, h.cell 6, h.cell 7⟩
/-- how the reference's ends -/
def SBackPost (r : Int × Int × Int) (w : World) (e : Ending) (w' : World) : Prop := e = .returned (.tuple #[.int .i64 r.2.1, .int .i64 r.2.2, .int .i64 r.1]) ∧ Below w.heap.size w w'
end Go.Proofs.YtkdgpdijbobmkaaGreat
namespace Go.Proofs.YtkdgpdijbobmkaaGreat
set_option linter.all false
open Go Go.RowKit
theorem backR_bad {o : Order} {l : List Trade} {g e : Int} (HB : backR o l g = if (backL o l (mcash o.side o.lim g)).1 ≠ 0 then ((backL o l (mcash o.side o.lim g)).1, 0, 0) else (0, (backL o l (mcash o.side o.lim g)).2, mstock o.side g))
    (h : backL o l (mcash o.side o.lim g) = (e, 0)) (he : e ≠ 0) : backR o l g = (e, 0, 0) := by
  rw [HB, h, if_pos he]
theorem backR_ok {o : Order} {l : List Trade} {g c : Int} (HB : backR o l g = if (backL o l (mcash o.side o.lim g)).1 ≠ 0 then ((backL o l (mcash o.side o.lim g)).1, 0, 0) else (0, (backL o l (mcash o.side o.lim g)).2, mstock o.side g))
    (h : backL o l (mcash o.side o.lim g) = (0, c)) : backR o l g = (0, c, mstock o.side g) := by
  rw [HB, h]; rfl
theorem bErr_1 {o : Order} {t : Trade} (h : t.okB = false) : bErr o t = 1 := if_pos h
theorem bErr_3 {o : Order} {t : Trade} (h : t.okB = true) (h2 : t.taker ≠ o.id ∨ may o t.price = false) : bErr o t = 3 := by
  rw [bErr, if_neg (by simp [h]), if_neg]
  rintro ⟨a, b⟩
  rcases h2 with h2 | h2
  · exact h2 a
  · rw [h2] at b; cases b
theorem bErr_0 {o : Order} {t : Trade} (h : t.okB = true) (h1 : t.taker = o.id) (h2 : may o t.price = true) : bErr o t = 0 := by
  rw [bErr, if_neg (by simp [h]), if_pos ⟨h1, h2⟩]
theorem sret {r : Int × Int × Int} {a b c : Int} (h : r = (c, a, b)) : Ending.returned (.tuple #[.int .i64 a, .int .i64 b, .int .i64 c]) = .returned (.tuple #[.int .i64 r.2.1, .int .i64 r.2.2, .int .i64 r.1]) := by rw [h]
end Go.Proofs.YtkdgpdijbobmkaaGreat
namespace Go.Proofs.YtkdgpdijbobmkaaGreat
set_option linter.all false
open Go Go.RowKit
/-- how margin's ends -/
def MBackPost (r : Int × Int × Int) (w : World) (e : Ending) (w' : World) : Prop := e = .returned (.tuple #[.int .i64 r.2.1, .int .i64 r.2.2, errV r.1]) ∧ Below w.heap.size w w'
theorem mret {r : Int × Int × Int} {k : Int} (h : r = (k, 0, 0)) (hk : k ≠ 0) : Ending.returned (.tuple #[.int .i64 0, .int .i64 0, er k]) = .returned (.tuple #[.int .i64 r.2.1, .int .i64 r.2.2, errV r.1]) := by rw [h, errV, if_neg hk]
theorem mret0 {r : Int × Int × Int} {a b : Int} (h : r = (0, a, b)) : Ending.returned (.tuple #[.int .i64 a, .int .i64 b, .nilIface]) = .returned (.tuple #[.int .i64 r.2.1, .int .i64 r.2.2, errV r.1]) := by rw [h]; rfl
theorem mback_err (o : Order) (l : List Trade) (A : Option Addr) (c : Nat) (gone : Int) (w : World) (h : o.err ≠ 0) :
    Calls Tryz.prog 134 #[.agg #[.int .i64 o.id, .int .i64 o.who, .int .i64 o.side, .int .i64 o.kind, .int .i64 o.price, .int .i64 o.qty, .int .i64 o.show_, .int .i64 o.stop], .slice A l.length c, .int .i64 gone] w (MBackPost (o.err, 0, 0) w) := by
  rcases check_ex o with ⟨h2, _⟩ | ⟨h2, cC⟩
  · exact absurd h2 h
  have H := Lib.hid h
  clear h h2
  generalize o.err = E at *
  go_enter Tryz.func134, Tryz.ntmps134
  go_wp2_with (first | (go_at_call 53; ((with_reducible refine (cC _).mono ?_); rintro e w' ⟨rfl, rfl⟩)))
  go_ret3
  exact ⟨mret rfl H.out, by (repeat (first | exact Below.refl _ _ | assumption | (refine below_then (by assumption) ?_) | (refine below_then_alloc ?_) | (refine Below.drew ?_)))⟩
theorem mback_range (o : Order) (l : List Trade) (A : Option Addr) (c : Nat) (gone : Int) (w : World) (h : o.err = 0) (hg : gone < 0 ∨ o.qty < gone) :
    Calls Tryz.prog 134 #[.agg #[.int .i64 o.id, .int .i64 o.who, .int .i64 o.side, .int .i64 o.kind, .int .i64 o.price, .int .i64 o.qty, .int .i64 o.show_, .int .i64 o.stop], .slice A l.length c, .int .i64 gone] w (MBackPost (1, 0, 0) w) := by
  rcases check_ex o with ⟨_, cC⟩ | ⟨h2, _⟩
  case inr => exact absurd h h2
  clear h
  rcases (show gone < 0 ∨ (0 ≤ gone ∧ o.qty < gone) by omega) with hg | ⟨hg0, hg⟩
  all_goals
    go_enter Tryz.func134, Tryz.ntmps134
    go_wp2_with (first | (go_at_call 53; ((with_reducible refine (cC _).mono ?_); rintro e w' ⟨rfl, rfl⟩)))
    go_ret3
    exact ⟨mret rfl (by decide), by (repeat (first | exact Below.refl _ _ | assumption | (refine below_then (by assumption) ?_) | (refine below_then_alloc ?_) | (refine Below.drew ?_)))⟩
set_option maxRecDepth 100000 in
set_option maxHeartbeats 8000000 in
theorem mback_in (o : Order) (l : List Trade) (A : Option Addr) (c : Nat) (gone L C S : Int) (w : World) (hr : Rd w w.heap.size A l.length 6 (tcell l)) (h : o.err = 0) (h1 : 0 ≤ gone) (h2 : gone ≤ o.qty) (hl : l.length ≤ maxLen)
    (hL : Hid (L = o.lim)) (hC : Hid (C = mcash o.side o.lim gone)) (hS : Hid (S = mstock o.side gone)) :
    Calls Tryz.prog 134 #[.agg #[.int .i64 o.id, .int .i64 o.who, .int .i64 o.side, .int .i64 o.kind, .int .i64 o.price, .int .i64 o.qty, .int .i64 o.show_, .int .i64 o.stop], .slice A l.length c, .int .i64 gone] w (MBackPost (backR o l gone) w) := by
  rcases check_ex o with ⟨_, cC⟩ | ⟨h2, _⟩
  case inr => exact absurd h h2
  have hlb := lim_bd h
  rw [← hL.out] at hlb
  obtain ⟨_, _, hs, _, hp, hq, _⟩ := Order.err_ok h
  have HB := Lib.hid (show backR o l gone = if (backL o l (mcash o.side o.lim gone)).1 ≠ 0 then ((backL o l (mcash o.side o.lim gone)).1, 0, 0) else (0, (backL o l (mcash o.side o.lim gone)).2, mstock o.side gone) by rw [backR, if_neg (by omega)])
  have hs1 : 1 ≤ o.side ∧ o.side ≤ 2 := by omega
  have CM := Lib.hid (fun p w => may_any o p w)
  have cL := fun w => limit_any o w
  have cO := fun w => mof_any o.side o.lim gone w (by rw [← hL.out]; omega) (by rw [← hL.out]; omega) h1 (by omega)
  rw [← hL.out] at cL cO
  rw [show mcash o.side L gone = C by rw [hC.out, hL.out], ← hS.out] at cO
  have CL := Lib.hid cL; have CO := Lib.hid cO
  have HR := Lib.hid hr
  have CC := Lib.hid cC
  obtain ⟨hs2, hs3⟩ := hs1
  obtain ⟨hl0, hl1⟩ := hlb
  unfold maxLen at hl
  clear h hr hp hq hs cL cO cC
  go_enter Tryz.func134, Tryz.ntmps134
  go_upto_region 6 with (first | (go_at_call 53; refine (CC.out _).mono ?_; rintro e w' ⟨rfl, rfl⟩))
  obtain ⟨W1, hW1⟩ : ∃ W1, W1 = (w.alloc (.cells #[.int .i64 o.id, .int .i64 o.who, .int .i64 o.side, .int .i64 o.kind, .int .i64 o.price, .int .i64 o.qty, .int .i64 o.show_, .int .i64 o.stop] 31)).alloc (.cells #[.int .i64 o.id, .int .i64 o.who, .int .i64 o.side, .int .i64 o.kind, .int .i64 o.price, .int .i64 o.qty, .int .i64 o.show_, .int .i64 o.stop] 31) := ⟨_, rfl⟩
  rw [← hW1]
  have bx : Bk W1 w.heap.size 31 #[.int .i64 o.id, .int .i64 o.who, .int .i64 o.side, .int .i64 o.kind, .int .i64 o.price, .int .i64 o.qty, .int .i64 o.show_, .int .i64 o.stop] := by rw [hW1]; exact (Bk.new w _ _).alloc _
  have hb0 : Below w.heap.size w W1 := by rw [hW1]; exact ((Below.refl _ _).alloc (Nat.le_refl _) _).alloc (by simp) _
  clear hW1
  obtain ⟨c0, c1, c2, c3, c4, c5, c6, c7⟩ := box8 bx
  have k0 := cell_regrown c0; have k1 := cell_regrown c1; have k2 := cell_regrown c2; have k3 := cell_regrown c3; have k4 := cell_regrown c4; have k5 := cell_regrown c5; have k6 := cell_regrown c6; have k7 := cell_regrown c7
  have cG := fun d os => Calls.regrown_of (w := W1) (d := d) (os := os) ((CL.out _).mono fun e w' ⟨h1, h2⟩ => ⟨h1, by rw [h2]; exact (Below.refl _ _).alloc (Nat.le_refl _) _⟩)
  have cH := fun d os => Calls.regrown_of (w := W1) (d := d) (os := os) ((CO.out _).mono fun e w' ⟨h1, h2⟩ => ⟨h1, by rw [h2]; exact Below.refl _ _⟩)
  refine wp_region_quiet_below (by kernel_rfl) (by kernel_rfl) ?_
  repeat (quiet_step (first | exact cG _ _ | exact cH _ _))
  refine wpQuiet_nil ?_
  intro w3 hw3
  have hb3 : Below W1.heap.size W1 w3 := by obtain ⟨p, rfl⟩ := hw3; exact below_regrown _ _ _
  have hbx3 := bx.keep hb3
  have hbw := hb0.trans (hb3.mono hb0.size)
  clear hw3 cG cH k0 k1 k2 k3 k4 k5 k6 k7 c0 c1 c2 c3 c4 c5 c6 c7 hb3 hb0 bx
  have HX0 := Lib.hid hbx3; clear hbx3
  go_wp2_with fail
  go_loopw [10, 39] (fun cs i wr => ∃ (k : Nat) (x : Int), k ≤ l.length ∧ i = .int .i64 k ∧ cs = .int .i64 x ∧ Bk wr w.heap.size 31 #[.int .i64 o.id, .int .i64 o.who, .int .i64 o.side, .int .i64 o.kind, .int .i64 o.price, .int .i64 o.qty, .int .i64 o.show_, .int .i64 o.stop] ∧ Below w.heap.size w wr ∧ Hid (backL o l (mcash o.side o.lim gone) = backL o (l.drop k) x)) (fun _ i _ => l.length - (intOf i).toNat)
  case atStart => exact ⟨0, C, by omega, rfl, rfl, HX0.out, hbw, Lib.hid (by rw [← hC.out]; rfl)⟩
  case round =>
    obtain ⟨k, x, hk, rfl, rfl, hbx, hb, hbl⟩ := hrel
    clear hbw HX0
    by_cases hlt : k < l.length
    case neg =>
      obtain rfl : k = l.length := by omega
      go_wp2
      go_ret3
      exact ⟨mret0 (by rw [backR_ok HB.out (hbl.out.trans (backL_end (Nat.le_refl _))), ← hS.out]), hb⟩
    case pos =>
      obtain ⟨b, off, t, rfl, hbb, ht, e0, e1, e2, e3, e4, e5⟩ := tr_at (HR.out.below hb) hlt
      have HT := Lib.hid ht
      clear ht
      have i0 : (0 : Int) ≤ (k : Int) := by omega
      have i1 : (k : Int) < (l.length : Int) := by omega
      have hb1 := hb.alloc hb.size (.cells #[.int .i64 t.maker, .int .i64 t.taker, .int .i64 t.frm, .int .i64 t.to, .int .i64 t.price, .int .i64 t.qty] 40)
      cases hvp : vp t.price
      · have H1 := Lib.hid (bErr_1 (o := o) (t := t) (by simp [Trade.okB, hvp]))
        go_wp2_with (first | (go_at_call 51; refine (valid_any _ _).mono ?_; rintro e w' ⟨rfl, rfl⟩) | (go_at_call 63; refine (qty_any _ _).mono ?_; rintro e w' ⟨rfl, rfl⟩))
        go_ret3
        exact ⟨mret (by rw [backR_bad HB.out (hbl.out.trans (backL_bad HT.out (by rw [H1.out]; decide))) (by rw [H1.out]; decide), H1.out]) (by decide), hb1⟩
      obtain ⟨p1, p2⟩ := vp_t hvp
      cases hiq : inb t.qty 1 10000
      · have H1 := Lib.hid (bErr_1 (o := o) (t := t) (by simp [Trade.okB, hiq]))
        go_wp2_with (first | (go_at_call 51; refine (valid_any _ _).mono ?_; rintro e w' ⟨rfl, rfl⟩) | (go_at_call 63; refine (qty_any _ _).mono ?_; rintro e w' ⟨rfl, rfl⟩))
        go_ret3
        exact ⟨mret (by rw [backR_bad HB.out (hbl.out.trans (backL_bad HT.out (by rw [H1.out]; decide))) (by rw [H1.out]; decide), H1.out]) (by decide), hb1⟩
      obtain ⟨q1, q2⟩ := inb_t hiq
      have hok : Hid (t.okB = true) := Lib.hid (by simp [Trade.okB, hvp, hiq])
      obtain ⟨c0, c1, c2, c3, c4, c5, c6, c7⟩ := box8 (hbx.alloc (.cells #[.int .i64 t.maker, .int .i64 t.taker, .int .i64 t.frm, .int .i64 t.to, .int .i64 t.price, .int .i64 t.qty] 40))
      have z0 : w.heap.size < wr.heap.size := hbx.lt
      have z1 : w.heap.size < wr.heap.size + 1 := by omega
      have HX := Lib.hid (hbx.alloc (.cells #[.int .i64 t.maker, .int .i64 t.taker, .int .i64 t.frm, .int .i64 t.to, .int .i64 t.price, .int .i64 t.qty] 40))
      clear hbx
      by_cases htk : t.taker = o.id
      case neg =>
        have H1 := Lib.hid (bErr_3 hok.out (.inl htk))
        have htk2 : (t.taker != o.id) = true := bne_iff_ne.2 htk
        have htk3 : (t.taker == o.id) = false := by simpa using htk
        clear htk
        go_wp2_with (first | (go_at_call 51; refine (valid_any _ _).mono ?_; rintro e w' ⟨rfl, rfl⟩) | (go_at_call 63; refine (qty_any _ _).mono ?_; rintro e w' ⟨rfl, rfl⟩))
        go_ret3
        exact ⟨mret (by rw [backR_bad HB.out (hbl.out.trans (backL_bad HT.out (by rw [H1.out]; decide))) (by rw [H1.out]; decide), H1.out]) (by decide), hb1⟩
      case pos =>
        have htk2 : (t.taker != o.id) = false := by rw [htk]; simp
        have cMt := CM.out t.price
        cases hm : may o t.price
        · have H1 := Lib.hid (bErr_3 hok.out (.inr hm))
          rw [hm] at cMt
          have CMt := Lib.hid cMt
          clear htk cMt hm
          go_wp2_with (first | (first | (go_at_call 51; refine (valid_any _ _).mono ?_; rintro e w' ⟨rfl, rfl⟩) | (go_at_call 63; refine (qty_any _ _).mono ?_; rintro e w' ⟨rfl, rfl⟩)) | (go_at_call 116; refine (CMt.out _).mono ?_; rintro e w' ⟨rfl, rfl⟩))
          go_ret3
          exact ⟨mret (by rw [backR_bad HB.out (hbl.out.trans (backL_bad HT.out (by rw [H1.out]; decide))) (by rw [H1.out]; decide), H1.out]) (by decide), hb1.alloc hb1.size _⟩
        · have H0 := Lib.hid (bErr_0 hok.out htk hm)
          rw [hm] at cMt
          have CMt := Lib.hid cMt
          clear htk cMt hm
          rcases (show o.side = 1 ∨ o.side = 2 by omega) with hs | hs
          · have hs' : (o.side == 1) = true := by rw [hs]; rfl
            have HAD := Lib.hid (show bAdd o x t = wrap64 (x + (L - t.price) * t.qty) by rw [bAdd, if_pos hs, hL.out])
            clear hs
            go_upto_region 15 with (first | (first | (go_at_call 51; refine (valid_any _ _).mono ?_; rintro e w' ⟨rfl, rfl⟩) | (go_at_call 63; refine (qty_any _ _).mono ?_; rintro e w' ⟨rfl, rfl⟩)) | (go_at_call 116; refine (CMt.out _).mono ?_; rintro e w' ⟨rfl, rfl⟩))
            obtain ⟨m1, m2⟩ := prod_bd2 (a := L - t.price) (b := t.qty) (by omega) (by omega) (by omega) q2
            have x1 : IntKind.i64.wrap (L - t.price) = L - t.price := IntWalk.i64_in _ (by omega)
            have x2 : IntKind.i64.wrap ((L - t.price) * t.qty) = (L - t.price) * t.qty := IntWalk.i64_in _ (by omega)
            obtain ⟨W4, hW4⟩ : ∃ W4, W4 = (wr.alloc (.cells #[.int .i64 t.maker, .int .i64 t.taker, .int .i64 t.frm, .int .i64 t.to, .int .i64 t.price, .int .i64 t.qty] 40)).alloc (.cells #[.int .i64 o.id, .int .i64 o.who, .int .i64 o.side, .int .i64 o.kind, .int .i64 o.price, .int .i64 o.qty, .int .i64 o.show_, .int .i64 o.stop] 31) := ⟨_, rfl⟩
            rw [← hW4]
            have bx : Bk W4 w.heap.size 31 #[.int .i64 o.id, .int .i64 o.who, .int .i64 o.side, .int .i64 o.kind, .int .i64 o.price, .int .i64 o.qty, .int .i64 o.show_, .int .i64 o.stop] := by rw [hW4]; exact HX.out.alloc _
            have by4 : Bk W4 wr.heap.size 40 #[.int .i64 t.maker, .int .i64 t.taker, .int .i64 t.frm, .int .i64 t.to, .int .i64 t.price, .int .i64 t.qty] := by rw [hW4]; exact (Bk.new _ _ _).alloc _
            have hb4 : Below w.heap.size w W4 := by rw [hW4]; exact hb1.alloc hb1.size _
            have HX4 := Lib.hid bx
            clear hW4 c0 c1 c2 c3 c4 c5 c6 c7 hb1 hb
            obtain ⟨c0, c1, c2, c3, c4, c5, c6, c7⟩ := box8 bx
            have d4 := by4.cell 4
            have d5 := by4.cell 5
            simp only [List.getElem?_toArray, List.getElem?_cons_zero, List.getElem?_cons_succ] at d4 d5
            have k0 := cell_regrown c0; have k1 := cell_regrown c1; have k2 := cell_regrown c2; have k3 := cell_regrown c3; have k4 := cell_regrown c4; have k5 := cell_regrown c5; have k6 := cell_regrown c6; have k7 := cell_regrown c7
            have kp := cell_regrown d4
            have kq := cell_regrown d5
            have cG := fun d os => Calls.regrown_of (w := W4) (d := d) (os := os) ((CL.out _).mono fun e w' ⟨h1, h2⟩ => ⟨h1, by rw [h2]; exact (Below.refl _ _).alloc (Nat.le_refl _) _⟩)
            clear bx by4
            refine wp_region_quiet_below (by kernel_rfl) (by kernel_rfl) ?_
            repeat (quiet_step (exact cG _ _))
            refine wpQuiet_nil ?_
            intro w3 hw3
            have hb3 : Below W4.heap.size W4 w3 := by obtain ⟨p, rfl⟩ := hw3; exact below_regrown _ _ _
            have hbx3 := Lib.hid (HX4.out.keep hb3)
            have hbw := hb4.trans (hb3.mono hb4.size)
            clear hw3 cG k0 k1 k2 k3 k4 k5 k6 k7 kp kq c0 c1 c2 c3 c4 c5 c6 c7 d4 d5 hb3 hb4 x1 x2
            go_wp2
            go_roundw
            case rel => exact ⟨k + 1, bAdd o x t, by omega, by go_num, by rw [HAD.out, IntWalk.i64_left], hbx3.out, hbw, Lib.hid (hbl.out.trans (backL_next HT.out H0.out))⟩
            case measure => simp [intOf]; omega
          · have hs' : (o.side == 1) = false := by rw [hs]; rfl
            have HAD := Lib.hid (show bAdd o x t = x by rw [bAdd, if_neg (by omega)])
            clear hs
            go_wp2_with (first | (first | (go_at_call 51; refine (valid_any _ _).mono ?_; rintro e w' ⟨rfl, rfl⟩) | (go_at_call 63; refine (qty_any _ _).mono ?_; rintro e w' ⟨rfl, rfl⟩)) | (go_at_call 116; refine (CMt.out _).mono ?_; rintro e w' ⟨rfl, rfl⟩))
            go_roundw
            case rel => exact ⟨k + 1, bAdd o x t, by omega, by go_num, by rw [HAD.out], HX.out.alloc _, hb1.alloc hb1.size _, Lib.hid (hbl.out.trans (backL_next HT.out H0.out))⟩
            case measure => simp [intOf]; omega
theorem mback_any (o : Order) (l : List Trade) (A : Option Addr) (c : Nat) (gone : Int) (w : World) (hr : Rd w w.heap.size A l.length 6 (tcell l)) (hl : l.length ≤ maxLen) :
    Calls Tryz.prog 134 #[.agg #[.int .i64 o.id, .int .i64 o.who, .int .i64 o.side, .int .i64 o.kind, .int .i64 o.price, .int .i64 o.qty, .int .i64 o.show_, .int .i64 o.stop], .slice A l.length c, .int .i64 gone] w (MBackPost (if o.err ≠ 0 then (o.err, 0, 0) else backR o l gone) w) := by
  by_cases h : o.err = 0
  · rw [if_neg (by simpa using h)]
    by_cases hg : gone < 0 ∨ o.qty < gone
    · have := mback_range o l A c gone w h hg
      rwa [show backR o l gone = (1, 0, 0) from if_pos hg]
    · exact mback_in o l A c gone _ _ _ w hr h (by omega) (by omega) hl (Lib.hid rfl) (Lib.hid rfl) (Lib.hid rfl)
  · rw [if_pos h]
    exact mback_err o l A c gone w h
end Go.Proofs.YtkdgpdijbobmkaaGreat
