/- What all texts of this seat share: how an argument comes in; small lemmas. Memory in words: a slice that reads as so many elements of so many cells. The contracts of package tick. The contracts of package order. An order that is right. A region that draws its order: all operations but the last few read, or call what writes nothing that is there; the last few wait for all of these, and come in one order. A block that is known whole. -/
import Derived.Test.YtkdgpdijbobmkaaGreatChecked
import Derived.WalkKit
import Derived.Below
import Derived.WalkLawsBesides
import Derived.WalkSpells
import Derived.Lib.Hide
import Derived.Outline
import Derived.ProofKit
import Derived.OpenShut
import Derived.Deep.Draws
import Derived.Deep.AppendLies
import Derived.Laws.OwnMore
import Derived.Laws.Rows
import Derived.Deep.RegionHeld3
import Derived.StillTail
import Derived.Deep.QuietTactic
import Derived.Lib.QuietBelow
import Derived.BigQuiet
namespace Go.Proofs.YtkdgpdijbobmkaaGreat
set_option linter.all false
open Go.RowKit Go.ChangeShapes Go.WideShapes

theorem ret_bool {a b : Bool} (h : a = b) : Ending.returned (.bool a) = .returned (.bool b) := by rw [h]
theorem ret2_bool {a b : Bool} {v : Value} (h : a = b) : Ending.returned (.tuple #[.bool a, v]) = .returned (.tuple #[.bool b, v]) := by rw [h]
/-- an error of a number above 0 -/
abbrev er (k : Int) : Value := .iface 100 (.int .i64 k)

/-- an argument as it comes in: of its type, and it reads as data -/
structure Arg {H : Type} (enc : TypeId × Value → H) (W : World) (base : Nat) (t : TypeId) (v : Value) (d : DataW H) (p : List MemPlace) : Prop where
  ok : Value.okWide Tryz.prog W .any base t v
  rd : DataW.Trod enc Tryz.prog W 0 (fun _ => true) true t v d p

set_option maxRecDepth 100000 in
theorem Arg.int {H : Type} {enc : TypeId × Value → H} {W : World} {base : Nat} {v : Value} {d : DataW H} {p : List MemPlace} (h : Arg enc W base 3 v d p) :
    ∃ a : Int, v = .int .i64 a ∧ (Lit.int .i64 a).wf = true := by
  obtain ⟨a, h1, _, _, h4⟩ := open_int Tryz.underlying3 h.ok h.rd
  exact ⟨a, h1, h4⟩
end Go.Proofs.YtkdgpdijbobmkaaGreat
namespace Go.Proofs.YtkdgpdijbobmkaaGreat
set_option linter.all false
open Go.RowKit

/-- the slice at A has n elements of s cells, all below block B: cell j of element i is c i j -/
def Rd (w : World) (B : Nat) (A : Option Addr) (n s : Nat) (c : Nat → Nat → Value) : Prop :=
  0 < n → ∃ b off, A = some ⟨b, off, none⟩ ∧ b < B ∧ ∀ i, i < n → ∀ j, j < s → w.cell? ⟨b, off + (i * s + j), none⟩ = some (c i j)

section
variable {w w' : World} {B B' n s : Nat} {A : Option Addr} {c : Nat → Nat → Value}
theorem Rd.nil : Rd w B A 0 s c := fun h => absurd h (by omega)
theorem Rd.keep (h : Rd w B A n s c) (hk : ∀ p : Addr, p.block < B → w'.cell? p = w.cell? p) : Rd w' B A n s c := fun hn => by
  obtain ⟨b, off, e, hb, hc⟩ := h hn
  exact ⟨b, off, e, hb, fun i hi j hj => (hk _ hb).trans (hc i hi j hj)⟩
theorem Rd.more (h : Rd w B A n s c) (hB : B ≤ B') : Rd w B' A n s c := fun hn => by
  obtain ⟨b, off, e, hb, hc⟩ := h hn
  exact ⟨b, off, e, by omega, hc⟩
theorem Rd.below (h : Rd w B A n s c) (hb : Below B w w') : Rd w' B A n s c := h.keep fun _ hp => hb.cell hp
end

/-- block g of world w' is there and has just these cells; below the size of w nothing has turned -/
theorem held_new {w w1 : World} {t : TypeId} {cs : Array Value} (hb : Below (w.heap.size + 1) (w.alloc (.cells cs t)) w1) :
    w.heap.size < w1.heap.size ∧ (∀ i, w1.cell? ⟨w.heap.size, i, none⟩ = cs[i]?) ∧ Below w.heap.size w w1 := by
  refine ⟨?_, fun i => ?_, ?_⟩
  · have := hb.size; simp at this; omega
  · rw [hb.cell (p := ⟨w.heap.size, i, none⟩) (by simp)]
    exact cell_of_row _ _ i cs t (0, 0) (heap_alloc_new w _)
  · exact ((Below.refl _ _).alloc (Nat.le_refl _) _).trans (hb.mono (by simp))
theorem held_next {w w1 w2 : World} {g : Nat} {cs : Array Value} (h1 : g < w1.heap.size) (h2 : ∀ i, w1.cell? ⟨g, i, none⟩ = cs[i]?) (h3 : Below w.heap.size w w1) (hz : w.heap.size ≤ w1.heap.size) (hb : Below w1.heap.size w1 w2) :
    g < w2.heap.size ∧ (∀ i, w2.cell? ⟨g, i, none⟩ = cs[i]?) ∧ Below w.heap.size w w2 :=
  ⟨Nat.lt_of_lt_of_le h1 hb.size, fun i => (hb.cell (p := ⟨g, i, none⟩) h1).trans (h2 i), h3.trans (hb.mono hz)⟩
theorem cell_alloc {w : World} {p : Addr} {v : Value} (h : w.cell? p = some v) (o : Obj) : (w.alloc o).cell? p = some v := (World.cell?_alloc_lt _ _ _ (World.block_lt_of_cell? w p h)).trans h
theorem cell_alloc_drew {w : World} {p : Addr} {v : Value} (h : w.cell? p = some v) (o : Obj) : (w.alloc o).drew.cell? p = some v := (World.cell?_alloc_lt _ _ _ (World.block_lt_of_cell? w p h)).trans h
theorem cell_drew {w : World} {p : Addr} {v : Value} (h : w.cell? p = some v) : w.drew.cell? p = some v := h
theorem below_alloc {B : Nat} {w w1 : World} (h : Below B w w1) (hB : B ≤ w.heap.size) (o : Obj) : Below B w (w1.alloc o) := h.alloc (Nat.le_trans hB h.size) o
theorem below_alloc_drew {B : Nat} {w w1 : World} (h : Below B w w1) (hB : B ≤ w.heap.size) (o : Obj) : Below B w (w1.alloc o).drew := (h.alloc (Nat.le_trans hB h.size) o).drew
theorem below_then {w w1 w2 : World} (h : Below w1.heap.size w1 w2) (h0 : Below w.heap.size w w1) : Below w.heap.size w w2 := h0.trans (h.mono h0.size)
theorem below_then_alloc {w w1 : World} {o : Obj} (h0 : Below w.heap.size w w1) : Below w.heap.size w (w1.alloc o) := h0.alloc h0.size o
section
variable {α : Type} {f : α → List Value} {s : Nat}
theorem flat_len (hs : ∀ a, (f a).length = s) (l : List α) : (l.flatMap f).length = l.length * s := by
  induction l with
  | nil => simp
  | cons x l ih => simp [List.flatMap_cons, hs, ih, Nat.succ_mul, Nat.add_comm]
theorem flat_get (hs : ∀ a, (f a).length = s) {l : List α} {i j : Nat} {a : α} (hi : l[i]? = some a) (hj : j < s) : (l.flatMap f)[i * s + j]? = (f a)[j]? := by
  induction l generalizing i with
  | nil => simp at hi
  | cons x l ih =>
    rw [List.flatMap_cons]
    cases i with
    | zero =>
      simp only [List.getElem?_cons_zero, Option.some.injEq] at hi
      subst hi
      rw [Nat.zero_mul, Nat.zero_add, List.getElem?_append_left (by rw [hs]; exact hj)]
    | succ i =>
      rw [List.getElem?_cons_succ] at hi
      rw [List.getElem?_append_right (by rw [hs, Nat.succ_mul]; omega), hs, show (i + 1) * s + j - s = i * s + j by rw [Nat.succ_mul]; omega]
      exact ih hi
theorem flat_all {p : Value → Prop} (hf : ∀ a, ∀ u ∈ f a, p u) (l : List α) : ∀ u ∈ l.flatMap f, p u := by
  intro u hu
  obtain ⟨a, _, h⟩ := List.mem_flatMap.1 hu
  exact hf a u h
/-- a row of the call's own reads -/
theorem Rd.of_own {base : Nat} {e : TypeId} {A : Option Addr} {n c : Nat} {w : World} {xs : List Value} {g : Nat → Nat → Value} (h : w.ownsRow base e s (.slice A n c) n xs) (hx : ∀ i j, i < n → j < s → xs[i * s + j]? = some (g i j)) : Rd w w.heap.size A n s g := by
  intro hn
  rcases h.2 with ⟨_, h0⟩ | ⟨b, cap, cur, hv, _, hh, _⟩
  · omega
  · have hA : A = some ⟨b, 0, none⟩ := by injection hv
    subst hA
    have hb : b < w.heap.size := by
      rcases Nat.lt_or_ge b w.heap.size with hlt | hge
      · exact hlt
      · rw [Array.getElem?_eq_none hge] at hh; cases hh
    refine ⟨b, 0, rfl, hb, fun i hi j hj => ?_⟩
    have := h.cells (g := b) rfl (i * s + j) _ (hx i j hi hj)
    rw [← this]
    unfold Addr.add
    split <;> simp_all
end
/-- behind an append to a row of the call's own: what was laid since the row was known stands still -/
theorem cell_behind {w w2 w3 : World} {base n s : Nat} {e : TypeId} {v : Value} {xs : List Value} (hown : w.ownsRow base e s v n xs) (hg : w2.grownBy w3 v.ownBlock) {p : Addr} (h1 : w.heap.size ≤ p.block) (h2 : p.block < w2.heap.size) : w3.cell? p = w2.cell? p :=
  World.cell?_of_block (hg.block p.block h2 (fun e => by have := (hown.lt _ e.symm).2; omega))
/-- behind an append to a row of the call's own: below the call's start nothing has turned -/
theorem below_grown {w0 w w2 w3 : World} {n s : Nat} {e : TypeId} {v : Value} {xs : List Value} (hown : w.ownsRow w0.heap.size e s v n xs) (hg : w2.grownBy w3 v.ownBlock) (hb : Below w0.heap.size w0 w2) : Below w0.heap.size w0 w3 :=
  hb.grown hg hb.size (fun _ hk => (hown.lt _ hk).1)
theorem own_shape {w : World} {base n s : Nat} {e : TypeId} {v : Value} {xs : List Value} (hown : w.ownsRow base e s v (n + 1) xs) : ∃ g cap, v = .slice (some ⟨g, 0, none⟩) (n + 1) cap := by
  obtain ⟨g, cap, h, _⟩ := hown.form (by omega)
  exact ⟨g, cap, h⟩
/-- a block that was just laid, as the source of an append -/
theorem news_row (w : World) (cs : List Value) (t : TypeId) (B : Nat) (hB : w.heap.size = B) : ∀ j u, cs[j]? = some u → (w.alloc (.cells cs.toArray t)).cell? ((⟨B, 0, none⟩ : Addr).add j) = some u := by
  intro j u hu
  subst hB
  have h := cell_of_row (w.alloc (.cells cs.toArray t)) w.heap.size j cs.toArray t (0, 0) (heap_alloc_new w _)
  have : (⟨w.heap.size, 0, none⟩ : Addr).add j = ⟨w.heap.size, j, none⟩ := by unfold Addr.add; split <;> simp_all
  rw [this, h]
  simpa using hu
theorem grown_of_below {w w' : World} (hb : Below w.heap.size w w') (r : Option Nat) : w.grownBy w' r := ⟨hb.os, hb.tape, hb.output, hb.size, fun i hi _ => hb.block i hi⟩
theorem own_below {w w' : World} {base n s : Nat} {e : TypeId} {v : Value} {xs : List Value} (h : w.ownsRow base e s v n xs) (hb : Below w.heap.size w w') : w'.ownsRow base e s v n xs :=
  h.kept (grown_of_below hb none) (by cases hv : v.ownBlock <;> simp)
/-- the last element of five cells stored -/
theorem own_store5 {w : World} {base g cap m : Nat} {e : TypeId} {A : List Value} {x0 x1 x2 x3 x4 : Value} (h : w.ownsRow base e 5 (.slice (some ⟨g, 0, none⟩) (m + 1) cap) (m + 1) (A ++ [x0, x1, x2, x3, x4])) (hA : A.length = m * 5) (a b c d f : Value) :
    (((((w.setCell ⟨g, m * 5, none⟩ a).setCell ⟨g, m * 5 + 1, none⟩ b).setCell ⟨g, m * 5 + 2, none⟩ c).setCell ⟨g, m * 5 + 3, none⟩ d).setCell ⟨g, m * 5 + 4, none⟩ f).ownsRow base e 5 (.slice (some ⟨g, 0, none⟩) (m + 1) cap) (m + 1) (A ++ [a, b, c, d, f]) ∧
    w.grownBy (((((w.setCell ⟨g, m * 5, none⟩ a).setCell ⟨g, m * 5 + 1, none⟩ b).setCell ⟨g, m * 5 + 2, none⟩ c).setCell ⟨g, m * 5 + 3, none⟩ d).setCell ⟨g, m * 5 + 4, none⟩ f) (some g) := by
  obtain ⟨h1, g1⟩ := h.stored (m * 5) a
  obtain ⟨h2, g2⟩ := h1.stored (m * 5 + 1) b
  obtain ⟨h3, g3⟩ := h2.stored (m * 5 + 2) c
  obtain ⟨h4, g4⟩ := h3.stored (m * 5 + 3) d
  obtain ⟨h5, g5⟩ := h4.stored (m * 5 + 4) f
  refine ⟨?_, g1.trans (g2.trans (g3.trans (g4.trans g5)))⟩
  have : (((((A ++ [x0, x1, x2, x3, x4]).set (m * 5) a).set (m * 5 + 1) b).set (m * 5 + 2) c).set (m * 5 + 3) d).set (m * 5 + 4) f = A ++ [a, b, c, d, f] := by
    rw [← hA]
    simp [List.set_append]
  rw [this] at h5
  exact h5
theorem below_drewN {B : Nat} {a w : World} (h : Below B a w) (n : Nat) : Below B a (w.drewN n) := ⟨h.os, h.tape, h.output, h.size, h.block⟩
end Go.Proofs.YtkdgpdijbobmkaaGreat
namespace Go.Proofs.YtkdgpdijbobmkaaGreat
set_option linter.all false
open Go.RowKit

/-- a number is a price -/
def vp (p : Int) : Bool := decide (1 ≤ p ∧ p ≤ 10000)
theorem vp_t {p : Int} (h : vp p = true) : 1 ≤ p ∧ p ≤ 10000 := by simpa [vp] using h
theorem vp_f {p : Int} (h : vp p = false) : p < 1 ∨ 10000 < p := by
  simp [vp] at h; omega
theorem vp_y {p : Int} (h : 1 ≤ p ∧ p ≤ 10000) : vp p = true := by simpa [vp] using h
theorem vp_n {p : Int} (h : p < 1 ∨ 10000 < p) : vp p = false := by simp [vp]; omega
/-- a number is a side -/
def vs (s : Int) : Bool := decide (s = 1 ∨ s = 2)
theorem vs_t {s : Int} (h : vs s = true) : 1 ≤ s ∧ s ≤ 2 := by simp [vs] at h; omega
theorem vs_f {s : Int} (h : vs s = false) : s < 1 ∨ 2 < s := by simp [vs] at h; omega
theorem vs_y {s : Int} (h : 1 ≤ s ∧ s ≤ 2) : vs s = true := by simp [vs]; omega
theorem vs_n {s : Int} (h : s < 1 ∨ 2 < s) : vs s = false := by simp [vs]; omega

theorem valid_any (p : Int) (w : World) :
    Calls Tryz.prog 51 #[.int .i64 p] w fun e w' => e = .returned (.bool (vp p)) ∧ w = w' := by
  have hc : p < 1 ∨ (1 ≤ p ∧ 10000 < p) ∨ (1 ≤ p ∧ p ≤ 10000) := by omega
  rcases hc with h | ⟨h, h2⟩ | ⟨h, h2⟩
  all_goals
    go_enter Tryz.func51, Tryz.ntmps51
    go_wp2
    go_ret
    refine ⟨ret_bool ?_, rfl⟩
    simp [vp]
    try omega
theorem side_any (p : Int) (w : World) :
    Calls Tryz.prog 50 #[.int .i64 p] w fun e w' => e = .returned (.bool (vs p)) ∧ w = w' := by
  go_enter Tryz.func50, Tryz.ntmps50
  go_wp2
  all_goals
    go_ret
    refine ⟨ret_bool ?_, rfl⟩
    rw [Bool.eq_iff_iff]
    simp [vs]
    try omega
end Go.Proofs.YtkdgpdijbobmkaaGreat
namespace Go.Proofs.YtkdgpdijbobmkaaGreat
set_option linter.all false
open Go.RowKit

/-- a number is within bounds -/
def inb (n l h : Int) : Bool := decide (l ≤ n ∧ n ≤ h)
theorem inb_t {n l h : Int} (e : inb n l h = true) : l ≤ n ∧ n ≤ h := by simpa [inb] using e
theorem inb_f {n l h : Int} (e : inb n l h = false) : n < l ∨ h < n := by simp [inb] at e; omega
theorem inb_y {n l h : Int} (e : l ≤ n ∧ n ≤ h) : inb n l h = true := by simpa [inb] using e
theorem inb_n {n l h : Int} (e : n < l ∨ h < n) : inb n l h = false := by simp [inb]; omega
theorem within_any (n l h : Int) (w : World) :
    Calls Tryz.prog 84 #[.int .i64 n, .int .i64 l, .int .i64 h] w fun e w' => e = .returned (.bool (inb n l h)) ∧ w = w' := by
  have hc : n < l ∨ (l ≤ n ∧ h < n) ∨ (l ≤ n ∧ n ≤ h) := by omega
  rcases hc with h | ⟨h, h2⟩ | ⟨h, h2⟩
  all_goals
    go_enter Tryz.func84, Tryz.ntmps84
    go_wp2
    go_ret
    refine ⟨ret_bool ?_, rfl⟩
    simp [inb]
    try omega
theorem id_any (n : Int) (w : World) : Calls Tryz.prog 62 #[.int .i64 n] w fun e w' => e = .returned (.bool (inb n 1 9999)) ∧ w = w' := by
  go_enter Tryz.func62, Tryz.ntmps62
  go_wp2_with (go_at_call 84; refine (within_any _ _ _ _).mono ?_; rintro e w' ⟨rfl, rfl⟩)
  go_ret
  exact ⟨rfl, rfl⟩
theorem who_any (n : Int) (w : World) : Calls Tryz.prog 64 #[.int .i64 n] w fun e w' => e = .returned (.bool (inb n 1 9)) ∧ w = w' := by
  go_enter Tryz.func64, Tryz.ntmps64
  go_wp2_with (go_at_call 84; refine (within_any _ _ _ _).mono ?_; rintro e w' ⟨rfl, rfl⟩)
  go_ret
  exact ⟨rfl, rfl⟩
theorem qty_any (n : Int) (w : World) : Calls Tryz.prog 63 #[.int .i64 n] w fun e w' => e = .returned (.bool (inb n 1 10000)) ∧ w = w' := by
  go_enter Tryz.func63, Tryz.ntmps63
  go_wp2_with (go_at_call 84; refine (within_any _ _ _ _).mono ?_; rintro e w' ⟨rfl, rfl⟩)
  go_ret
  exact ⟨rfl, rfl⟩
structure Order where
  id : Int
  who : Int
  side : Int
  kind : Int
  price : Int
  qty : Int
  show_ : Int
  stop : Int
def ord0 : Order := ⟨0, 0, 0, 0, 0, 0, 0, 0⟩
abbrev Order.val (o : Order) : Value := .agg #[.int .i64 o.id, .int .i64 o.who, .int .i64 o.side, .int .i64 o.kind, .int .i64 o.price, .int .i64 o.qty, .int .i64 o.show_, .int .i64 o.stop]
/-- what is wrong with an order: 0 nothing -/
def Order.err (o : Order) : Int :=
  if !inb o.id 1 9999 || !inb o.who 1 9 || !vs o.side || !inb o.kind 1 5 then 1
  else if o.kind == 2 && !(o.price == 0) || !(o.kind == 2) && !vp o.price then 1
  else if !inb o.qty 1 10000 || !inb o.show_ 0 o.qty then 1
  else if !(o.show_ == 0) && !(o.kind == 1) && !(o.kind == 5) then 3
  else if !(o.stop == 0) && !vp o.stop then 1
  else 0
/-- the error of a number -/
def errV (k : Int) : Value := if k = 0 then .nilIface else er k
set_option maxHeartbeats 1000000 in
theorem check_any (o : Order) (w : World) :
    Calls Tryz.prog 53 #[o.val] w fun e w' => e = .returned (errV o.err) ∧ w' = w.alloc (.cells #[.int .i64 o.id, .int .i64 o.who, .int .i64 o.side, .int .i64 o.kind, .int .i64 o.price, .int .i64 o.qty, .int .i64 o.show_, .int .i64 o.stop] 31) := by
  obtain ⟨id, who, side, kind, price, qty, show_, stop⟩ := o
  show Calls Tryz.prog 53 #[.agg #[.int .i64 id, .int .i64 who, .int .i64 side, .int .i64 kind, .int .i64 price, .int .i64 qty, .int .i64 show_, .int .i64 stop]] w _
  go_enter Tryz.func53, Tryz.ntmps53
  go_wp2_with (first | (go_at_call 84; refine (within_any _ _ _ _).mono ?_; rintro e w' ⟨rfl, rfl⟩) | (go_at_call 51; refine (valid_any _ _).mono ?_; rintro e w' ⟨rfl, rfl⟩) | (go_at_call 50; refine (side_any _ _).mono ?_; rintro e w' ⟨rfl, rfl⟩) | (go_at_call 62; refine (id_any _ _).mono ?_; rintro e w' ⟨rfl, rfl⟩) | (go_at_call 64; refine (who_any _ _).mono ?_; rintro e w' ⟨rfl, rfl⟩) | (go_at_call 63; refine (qty_any _ _).mono ?_; rintro e w' ⟨rfl, rfl⟩))
  all_goals
    go_ret
    constructor
    · refine congrArg Ending.returned ?_
      simp_all [Order.err, errV]
    · simp_all
abbrev Order.cells (o : Order) : Array Value := #[.int .i64 o.id, .int .i64 o.who, .int .i64 o.side, .int .i64 o.kind, .int .i64 o.price, .int .i64 o.qty, .int .i64 o.show_, .int .i64 o.stop]
/-- both ways of Check, ahead of a walk -/
theorem check_ex (o : Order) :
    (o.err = 0 ∧ ∀ w, Calls Tryz.prog 53 #[.agg #[.int .i64 o.id, .int .i64 o.who, .int .i64 o.side, .int .i64 o.kind, .int .i64 o.price, .int .i64 o.qty, .int .i64 o.show_, .int .i64 o.stop]] w fun e w' => e = .returned .nilIface ∧ w' = w.alloc (.cells #[.int .i64 o.id, .int .i64 o.who, .int .i64 o.side, .int .i64 o.kind, .int .i64 o.price, .int .i64 o.qty, .int .i64 o.show_, .int .i64 o.stop] 31)) ∨
    (o.err ≠ 0 ∧ ∀ w, Calls Tryz.prog 53 #[.agg #[.int .i64 o.id, .int .i64 o.who, .int .i64 o.side, .int .i64 o.kind, .int .i64 o.price, .int .i64 o.qty, .int .i64 o.show_, .int .i64 o.stop]] w fun e w' => e = .returned (er o.err) ∧ w' = w.alloc (.cells #[.int .i64 o.id, .int .i64 o.who, .int .i64 o.side, .int .i64 o.kind, .int .i64 o.price, .int .i64 o.qty, .int .i64 o.show_, .int .i64 o.stop] 31)) := by
  by_cases h : o.err = 0
  · exact .inl ⟨h, fun w => (check_any o w).mono fun e w' ⟨h1, h2⟩ => ⟨by rw [h1, errV, if_pos h], h2⟩⟩
  · exact .inr ⟨h, fun w => (check_any o w).mono fun e w' ⟨h1, h2⟩ => ⟨by rw [h1, errV, if_neg h], h2⟩⟩
end Go.Proofs.YtkdgpdijbobmkaaGreat
namespace Go.Proofs.YtkdgpdijbobmkaaGreat
set_option linter.all false
open Go.RowKit
/-- an order that is right: what its numbers are -/
theorem Order.err_ok {o : Order} (h : o.err = 0) : (1 ≤ o.id ∧ o.id ≤ 9999) ∧ (1 ≤ o.who ∧ o.who ≤ 9) ∧ (o.side = 1 ∨ o.side = 2) ∧ (1 ≤ o.kind ∧ o.kind ≤ 5) ∧ (o.kind = 2 ∧ o.price = 0 ∨ o.kind ≠ 2 ∧ 1 ≤ o.price ∧ o.price ≤ 10000) ∧ (1 ≤ o.qty ∧ o.qty ≤ 10000) ∧ (0 ≤ o.show_ ∧ o.show_ ≤ o.qty) ∧ (o.show_ = 0 ∨ o.kind = 1 ∨ o.kind = 5) ∧ (o.stop = 0 ∨ 1 ≤ o.stop ∧ o.stop ≤ 10000) := by
  unfold Order.err at h
  split at h
  · omega
  split at h
  · omega
  split at h
  · omega
  split at h
  · omega
  split at h
  · omega
  simp_all [inb, vs, vp]
  omega
end Go.Proofs.YtkdgpdijbobmkaaGreat
namespace Go.Proofs.YtkdgpdijbobmkaaGreat
set_option linter.all false
open Go Go.RowKit
section
variable {P : Program} {ops : Array Oper} {md : Region.Mode} {C : World → Prop}

/-- the first n operations in whatever order, each quiet in the class; then L -/
def QT (P : Program) (md : Region.Mode) (ops : Array Oper) (C : World → Prop) (n : Nat) (L : Array Bool → Act → Prop) : Nat → Array Bool → Act → Prop
  | 0, listed, a => L listed a
  | f + 1, listed, a => Region.ready md ops listed ≠ [] ∧ ∀ i ∈ Region.ready md ops listed, i < n ∧ qOp P ops C i (QT P md ops C n L f (listed.setIfInBounds i true)) a

theorem wpAny_of_QT {n g : Nat} {L : Array Bool → Act → Prop} {Q' : Exit → Act → World → Prop} (hL : ∀ listed a w, C w → L listed a → wpAny P md ops Q' g listed a w) :
    ∀ (f : Nat) (listed : Array Bool) (a : Act) (w : World), C w → QT P md ops C n L f listed a → wpAny P md ops Q' (f + g) listed a w
  | 0, listed, a, w, hw, h => by rw [Nat.zero_add]; exact hL _ _ _ hw h
  | f + 1, listed, a, w, hw, h => by
    rw [show f + 1 + g = (f + g) + 1 by omega]
    exact ⟨fun h0 => absurd h0 h.1, fun i hi => wpOp_of_qOp hw (fun a' w' hw' h' => wpAny_of_QT hL f _ a' w' hw' h') (h.2 i hi).2⟩

/-- every operation from n on waits for each of the first n -/
def phaseB (md : Region.Mode) (ops : Array Oper) (n : Nat) : Bool :=
  (List.range ops.size).all fun t => decide (t < n) || (List.range n).all fun i => Region.waitsFor md ops t i

theorem phase_ready {n i : Nat} {listed : Array Bool} (hp : phaseB md ops n = true) (hin : i < n) (hun : listed.getD i true = false) : ∀ j ∈ Region.ready md ops listed, j < n := by
  intro j hj
  obtain ⟨_, oj, hoj, hall⟩ := mem_ready.1 hj
  have hlt : j < ops.size := (Array.getElem?_eq_some_iff.1 hoj).1
  have h1 := List.all_eq_true.1 hp j (List.mem_range.2 hlt)
  simp only [Bool.or_eq_true, decide_eq_true_eq] at h1
  rcases h1 with h1 | h1
  · exact h1
  · obtain ⟨o', ho', e, he, hb, hon⟩ := Region.waitsFor_spec (List.all_eq_true.1 h1 i (List.mem_range.2 hin))
    have : o' = oj := Option.some.inj (ho'.symm.trans hoj)
    subst this
    have h2 := hall e he hb
    rw [hon, getD_both hun] at h2
    cases h2

theorem QT_first {n i : Nat} {oi : Oper} {v : Value} {L : Array Bool → Act → Prop} (hi : ops[i]? = some oi) (hsel : ∀ (j : Nat) (o : Oper) cs b, ops[j]? = some o → o.op ≠ .select cs b)
    (hp : phaseB md ops n = true) (hin : i < n) (hdone : ∀ listed a, L listed a → ∀ j ∈ Region.ready md ops listed, n ≤ j) :
    ∀ (f : Nat) (listed : Array Bool) (a : Act),
      (∀ j oj, ops[j]? = some oj → j ≠ i → listed.getD j true = false → (∀ e ∈ oj.after, Region.binds md e = true → e.on ≠ i) → oi.apart ops oj = true) →
      i ∈ Region.ready md ops listed → YieldsIn P ops C oi v a →
      QT P md ops C n L f (listed.setIfInBounds i true) (a.put oi.dst v) → QT P md ops C n L (f + 1) listed a := by
  intro f
  induction f with
  | zero =>
    intro listed a _ hr hy H
    refine ⟨fun h => (by rw [h] at hr; cases hr), fun j hj => ?_⟩
    have hjn : j < n := phase_ready hp hin (mem_ready.1 hr).1 j hj
    refine ⟨hjn, ?_⟩
    by_cases hji : j = i
    · subst hji; exact hy.qOp hi H
    · have := hdone _ _ H j (ready_mono hj hji)
      omega
  | succ f ih =>
    intro listed a hfree hr hy H
    have hun := (mem_ready.1 hr).1
    refine ⟨fun h => (by rw [h] at hr; cases hr), fun j hj => ?_⟩
    have hjn : j < n := phase_ready hp hin hun j hj
    refine ⟨hjn, ?_⟩
    by_cases hji : j = i
    · subst hji; exact hy.qOp hi H
    · have h1 := (H.2 j (ready_mono hj hji)).2
      obtain ⟨hjun, oj, hoj, hall⟩ := mem_ready.1 hj
      have hnot : ∀ e ∈ oj.after, Region.binds md e = true → e.on ≠ i := fun e he hb heq => by
        have h1 := hall e he hb
        rw [heq, getD_both hun] at h1
        cases h1
      have h2 := qOp_put hoj (hfree j oj hoj hji hjun hnot) (fun cs b => hsel i oi cs b hi) (fun cs b => hsel j oj cs b hoj) hy h1
      have hfree' : ∀ k ok, ops[k]? = some ok → k ≠ i → (listed.setIfInBounds j true).getD k true = false →
          (∀ e ∈ ok.after, Region.binds md e = true → e.on ≠ i) → oi.apart ops ok = true := fun k ok hk hki hun hno => by
        refine hfree k ok hk hki ?_ hno
        by_cases hjk : j = k
        · subst hjk; exact hjun
        · rw [getD_set_ne true hjk] at hun; exact hun
      refine qOp_mono (fun a' h3 => ih (listed.setIfInBounds j true) a' hfree' (ready_mono hr (Ne.symm hji)) h3.1 ?_) h2
      rw [Array.setIfInBounds_comm _ _ hji]
      exact h3.2

theorem QT_lex {n g : Nat} {Lq : Act → Prop} (hsel : Region.noSelect ops = true) (hp : phaseB md ops n = true) :
    ∀ (l : List Oper) (k : Nat) (listed : Array Bool) (a : Act), (∀ j, j < l.length → l[j]? = ops[k + j]?) → k + l.length = n →
    Region.lexHead md ops g l.length k listed = true → wpQuiet P ops C Lq l a →
    QT P md ops C n (fun listed' a' => Region.seqB md ops g n listed' = true ∧ Lq a') l.length listed a
  | [], k, listed, a, _, hk, hB, h => by
    have : k = n := by simpa using hk
    subst this
    exact ⟨by simpa [Region.lexHead] using hB, h⟩
  | o :: l, k, listed, a, hl, hk, hB, h => by
    have h0 : ops[k]? = some o := by simpa using (hl 0 (by simp)).symm
    simp only [List.length_cons, Region.lexHead, Bool.and_eq_true] at hB
    obtain ⟨⟨hr, hf⟩, hB'⟩ := hB
    have hkn : k < n := by simp only [List.length_cons] at hk; omega
    have hr' : k ∈ Region.ready md ops listed := by simpa using hr
    have hst : qOp P ops C k (wpQuiet P ops C Lq l) a := by unfold qOp; simp only [h0]; exact h
    obtain ⟨v, hy, hK⟩ := yieldsIn_of_qOp h0 hst
    exact QT_first h0 (Region.noSelect_spec hsel) hp hkn (fun listed' a' hL => seqB_ready hL.1) l.length listed a (Region.free_spec h0 hf) hr' hy
      (QT_lex hsel hp l (k + 1) _ _ (fun j hj => by have := hl (j + 1) (by simp; omega); simpa [Nat.add_assoc, Nat.add_comm 1 j] using this) (by simp only [List.length_cons] at hk; omega) hB' hK)

/-- what is asked of a region's edges -/
def headB (ops : Array Oper) (n : Nat) : Bool :=
  Region.noSelect ops && decide (n < ops.size) && phaseB .any ops n && Region.lexHead .any ops (ops.size - n) n 0 (Array.replicate ops.size false)

theorem wp_region_head {id : Nat} {Q : Exit → Act → World → Prop} {a : Act} {w : World} {l : List Oper} (n : Nat) (hm : P.follows .mixedOrders = true) (hB : headB l.toArray n = true) (hC : C { w with drawn := w.drawn + 1 })
    (h : wpQuiet P l.toArray C (fun a' => ∀ w', C w' → wpList P l.toArray Q (l.drop n) a' w') (l.take n) a) : (Code.region id l.toArray true).wp P Q a w := by
  simp only [headB, Bool.and_eq_true, decide_eq_true_eq] at hB
  obtain ⟨⟨⟨hsel, hn⟩, hp⟩, hlex⟩ := hB
  have hn' : n < l.length := by simpa using hn
  have htl : (l.take n).length = n := by simp; omega
  have hdl : (l.drop n).length = l.toArray.size - n := by simp
  have H := QT_lex (C := C) (md := .any) (g := l.toArray.size - n) hsel hp (l.take n) 0 _ a (fun j hj => by
    have hj' : j < n := by rw [htl] at hj; exact hj
    simp [hj']) (by simpa using htl) (by rw [htl]; exact hlex) h
  refine wp_region_any hm ?_
  have := wpAny_of_QT (Q' := Q) (g := l.toArray.size - n) (fun listed a' w' hw' hL => by
    have := wpAny_of_seq (md := .any) (Q' := Q) (l.drop n) n listed a' w' (fun j => by simp [List.getElem?_drop]) (by rw [hdl]; exact hL.1) (hL.2 _ hw')
    rwa [hdl] at this) _ _ _ _ hC H
  rw [htl, show n + (l.toArray.size - n) = l.toArray.size by omega] at this
  exact this

/-- the same at the class 'below what there was nothing has turned' -/
theorem wp_region_head_below {id : Nat} {Q : Exit → Act → World → Prop} {a : Act} {w : World} {l : List Oper} (n : Nat) (hm : P.follows .mixedOrders = true) (hB : headB l.toArray n = true)
    (h : wpQuiet P l.toArray (fun w' => ∃ p : Regrown, w' = Go.Sort.grow (redrawn w p.d) p.os) (fun a' => ∀ w', (∃ p : Regrown, w' = Go.Sort.grow (redrawn w p.d) p.os) → wpList P l.toArray Q (l.drop n) a' w') (l.take n) a) : (Code.region id l.toArray true).wp P Q a w :=
  wp_region_head (C := fun w' => ∃ p : Regrown, w' = Go.Sort.grow (redrawn w p.d) p.os) n hm hB ⟨⟨w.drawn + 1, #[]⟩, by rw [Go.Sort.grow_empty]; rfl⟩ h
end
end Go.Proofs.YtkdgpdijbobmkaaGreat
namespace Go.Proofs.YtkdgpdijbobmkaaGreat
set_option linter.all false
open Go.RowKit
/-- block g is just these cells, none frozen -/
def Bk (w : World) (g : Nat) (t : TypeId) (cs : Array Value) : Prop := w.heap[g]? = some (.cells cs t (0, 0))
section
variable {w w' : World} {g : Nat} {t : TypeId} {cs : Array Value}
theorem Bk.lt (h : Bk w g t cs) : g < w.heap.size := by
  rcases Nat.lt_or_ge g w.heap.size with hlt | hge
  · exact hlt
  · unfold Bk at h; rw [Array.getElem?_eq_none hge] at h; cases h
theorem Bk.cell (h : Bk w g t cs) (i : Nat) : w.cell? ⟨g, i, none⟩ = cs[i]? := cell_of_row w g i cs t (0, 0) h
theorem Bk.free (h : Bk w g t cs) (i : Nat) : w.frozen? ⟨g, i, none⟩ = false := by
  unfold Bk at h
  simp [World.frozen?, h]
theorem Bk.new (w : World) (t : TypeId) (cs : Array Value) : Bk (w.alloc (.cells cs t)) w.heap.size t cs := heap_alloc_new w _
theorem Bk.at_ {g' : Nat} (h : w.heap.size = g') (t : TypeId) (cs : Array Value) : Bk (w.alloc (.cells cs t)) g' t cs := h ▸ heap_alloc_new w _
theorem Bk.drew (h : Bk w g t cs) : Bk w.drew g t cs := h
theorem Bk.drewN (h : Bk w g t cs) (n : Nat) : Bk (w.drewN n) g t cs := h
theorem Bk.alloc (h : Bk w g t cs) (o : Obj) : Bk (w.alloc o) g t cs := (Below.heap_alloc w o g h.lt).trans h
theorem Bk.set_ (h : Bk w g t cs) (i : Nat) (u : Value) : Bk (w.setCell ⟨g, i, none⟩ u) g t (cs.setIfInBounds i u) := by
  unfold Bk at h ⊢
  simp [World.setCell, Array.getElem?_modify, h]
theorem Bk.far (h : Bk w g t cs) {p : Addr} (hp : g ≠ p.block) (u : Value) : Bk (w.setCell p u) g t cs := (Below.heap_setCell w p u g hp).trans h
theorem Bk.below {B : Nat} (h : Bk w g t cs) (hb : Below B w w') (hg : g < B) : Bk w' g t cs := (hb.block g hg).trans h
theorem Bk.keep (h : Bk w g t cs) (hb : Below w.heap.size w w') : Bk w' g t cs := h.below hb h.lt
theorem Bk.grown {row : Option Nat} (h : Bk w g t cs) (hb : w.grownBy w' row) (hg : some g ≠ row) : Bk w' g t cs := (hb.block g h.lt hg).trans h
end
/-- five stores over a block of five cells -/
theorem Bk.set5 {w : World} {g : Nat} {t : TypeId} {x0 x1 x2 x3 x4 : Value} (h : Bk w g t #[x0, x1, x2, x3, x4]) (a b c d e : Value) :
    Bk (((((w.setCell ⟨g, 0, none⟩ a).setCell ⟨g, 1, none⟩ b).setCell ⟨g, 2, none⟩ c).setCell ⟨g, 3, none⟩ d).setCell ⟨g, 4, none⟩ e) g t #[a, b, c, d, e] :=
  ((((h.set_ 0 a).set_ 1 b).set_ 2 c).set_ 3 d).set_ 4 e
end Go.Proofs.YtkdgpdijbobmkaaGreat
