/- A floor of commands: plain. A floor of commands in memory. The contracts of a floor's small parts: tell, hold, unhold, release. The contracts of a floor's small parts: traded, went. The contract of a floor's went. -/
import Derived.Test.YtkdgpdijbobmkaaGreatGrpO
import Derived.Test.YtkdgpdijbobmkaaGreatGrpU
import Derived.Test.YtkdgpdijbobmkaaGreatGrpV
import Derived.Test.YtkdgpdijbobmkaaGreatSwapP
import Derived.Test.YtkdgpdijbobmkaaGreatGrpW
import Derived.Test.YtkdgpdijbobmkaaGreatWire
import Derived.Test.YtkdgpdijbobmkaaGreatGrpJ
import Derived.Deep.CutBlock
import Derived.Deep.DeepCutAuto
import Derived.StillTailTactics
import Derived.Test.YtkdgpdijbobmkaaGreatBookFind
namespace Go.Proofs.YtkdgpdijbobmkaaGreat
set_option linter.all false
open Go Go.RowKit
/-- what a floor tells -/
structure Ev where
  what : Int
  id : Int
  qty : Int
  price : Int
  t : Trade
/-- a floor in a command: mode, both sides, who waits, purses, last price, what was told -/
structure FT where
  mode : Int
  L : List Lv
  M : List Lv
  st : List Order
  S : Nat → Pur
  last : Int
  ev : List Ev
def FT.tell (t : FT) (a b c d : Int) : FT := { t with ev := t.ev ++ [⟨a, b, c, d, tr0⟩] }
def FT.told (t : FT) (x : Trade) : FT := { t with ev := t.ev ++ [⟨2, 0, 0, 0, x⟩], last := x.price }
/-- where an id rests: side, level, place, the level, the rest -/
def findB (L M : List Lv) (id : Int) : Option (Int × Nat × Nat × Lv × Rest) :=
  if (whereB L M id).1 = 0 then none else match (sidL (whereB L M id).1 L M)[(whereB L M id).2.1.toNat]? with
  | none => none
  | some x => match x.rs[(whereB L M id).2.2.toNat]? with
    | none => none
    | some r => some ((whereB L M id).1, (whereB L M id).2.1.toNat, (whereB L M id).2.2.toNat, x, r)
theorem findB_at {L M : List Lv} {id s : Int} {i k : Nat} {x : Lv} {r : Rest} (h : BAt L M id s i k x r) (hs : s ≠ 0) : findB L M id = some (s, i, k, x, r) := by
  have hw := h.where_
  have h1 := h.at_.lv
  have h2 := h.at_.rest
  unfold findB
  rw [hw]
  dsimp only
  rw [if_neg hs, Int.toNat_natCast, Int.toNat_natCast, h1]
  dsimp only
  rw [h2]
theorem findB_none {L M : List Lv} {id : Int} (h : (whereB L M id).1 = 0) : findB L M id = none := by rw [findB, if_pos h]
/-- so much is held for an order -/
def FT.hold (t : FT) (o : Order) : Int × FT := if o.err ≠ 0 then (o.err, t) else ((holdP t.S o.who (mcash o.side o.lim o.qty) (mstock o.side o.qty)).1, { t with S := (holdP t.S o.who (mcash o.side o.lim o.qty) (mstock o.side o.qty)).2 })
def FT.unhold (t : FT) (o : Order) : Int × FT := if o.err ≠ 0 then (o.err, t) else ((freeP t.S o.who (mcash o.side o.lim o.qty) (mstock o.side o.qty)).1, { t with S := (freeP t.S o.who (mcash o.side o.lim o.qty) (mstock o.side o.qty)).2 })
def FT.release (t : FT) (r : Rest) (s p : Int) : Int × FT := if leftE r s p ≠ 0 then (leftE r s p, t) else ((freeP t.S r.who (mcash s p (r.qty + r.hidden)) (mstock s (r.qty + r.hidden))).1, { t with S := (freeP t.S r.who (mcash s p (r.qty + r.hidden)) (mstock s (r.qty + r.hidden))).2 })
/-- rests that went -/
def wentF (L M : List Lv) : List Int → FT → Int × FT
  | [], t => (0, t)
  | id :: l, t => match findB L M id with
    | none => (5, t)
    | some (s, _, _, x, r) => if (t.release r s x.price).1 ≠ 0 then ((t.release r s x.price).1, t) else wentF L M l ((t.release r s x.price).2.tell 3 id (r.qty + r.hidden) x.price)
/-- trades of an order -/
def tradesF : List Trade → FT → Int × FT
  | [], t => (0, t)
  | x :: l, t => if (tradeP t.S x.frm x.to x.price x.qty).1 ≠ 0 then ((tradeP t.S x.frm x.to x.price x.qty).1, t) else tradesF l ({ t with S := (tradeP t.S x.frm x.to x.price x.qty).2 }.told x)
/-- what comes of an order is settled -/
def FT.settle (t : FT) (o : Order) (T : List Trade) (W : List Int) (left gone : Int) (K1 K2 : List Lv) : Int × FT :=
  if (tradesF T t).1 ≠ 0 then ((tradesF T t).1, t)
  else if (wentF t.L t.M W (tradesF T t).2).1 ≠ 0 then ((wentF t.L t.M W (tradesF T t).2).1, t)
  else if (backR o T gone).1 ≠ 0 then ((backR o T gone).1, t)
  else if (freeP (wentF t.L t.M W (tradesF T t).2).2.S o.who (backR o T gone).2.1 (backR o T gone).2.2).1 ≠ 0 then ((freeP (wentF t.L t.M W (tradesF T t).2).2.S o.who (backR o T gone).2.1 (backR o T gone).2.2).1, t)
  else
    let t1 : FT := { (wentF t.L t.M W (tradesF T t).2).2 with S := (freeP (wentF t.L t.M W (tradesF T t).2).2.S o.who (backR o T gone).2.1 (backR o T gone).2.2).2 }
    let t2 := if 0 < gone then t1.tell 3 o.id gone o.price else t1
    let t3 := if 0 < left - gone then t2.tell 1 o.id (left - gone) o.price else t2
    (0, { t3 with L := K1, M := K2 })
/-- an order that met comes: did it come in? the fault -/
def FT.comeS (t : FT) (o : Order) (s : MSt) : Bool × Int × FT :=
  if kOut o (pick o.side t.L t.M) s = 9 ∨ kOut o (pick o.side t.L t.M) s = 8 then (false, (kOut o (pick o.side t.L t.M) s : Int), t)
  else if kOut o (pick o.side t.L t.M) s = 2 ∧ putE (kL o.side t.L s) (kM o.side t.M s) o.side o.price (restOf o s.left) ≠ 0 then (false, putE (kL o.side t.L s) (kM o.side t.M s) o.side o.price (restOf o s.left), t)
  else if kOut o (pick o.side t.L t.M) s = 2 then (true, (t.settle o s.T s.W s.left 0 (putL o.side o.price (restOf o s.left) (kL o.side t.L s)) (putM o.side o.price (restOf o s.left) (kM o.side t.M s))).1, (t.settle o s.T s.W s.left 0 (putL o.side o.price (restOf o s.left) (kL o.side t.L s)) (putM o.side o.price (restOf o s.left) (kM o.side t.M s))).2)
  else (true, (t.settle o s.T s.W s.left (if kOut o (pick o.side t.L t.M) s = 1 then s.left else 0) (kL o.side t.L s) (kM o.side t.M s)).1, (t.settle o s.T s.W s.left (if kOut o (pick o.side t.L t.M) s = 1 then s.left else 0) (kL o.side t.L s) (kM o.side t.M s)).2)
/-- an order comes -/
def FT.come (t : FT) (o : Order) : Bool × Int × FT :=
  match met t.L t.M o t.mode with
  | none => (false, 4, t)
  | some s => t.comeS o s
theorem FT.come_none {t : FT} {o : Order} (h : met t.L t.M o t.mode = none) : t.come o = (false, 4, t) := by unfold FT.come; rw [h]
theorem FT.come_some {t : FT} {o : Order} {s : MSt} (h : met t.L t.M o t.mode = some s) : t.come o = t.comeS o s := by unfold FT.come; rw [h]
/-- an order is placed -/
def FT.place (t : FT) (o : Order) : Int × FT :=
  if o.err ≠ 0 then (o.err, t)
  else if (whereB t.L t.M o.id).1 ≠ 0 ∨ 0 ≤ whereI t.st o.id then (7, t)
  else if (t.hold o).1 ≠ 0 then ((t.hold o).1, t)
  else if o.stop = 0 then (((t.hold o).2.come o).2.1, ((t.hold o).2.come o).2.2)
  else if waitE t.st o ≠ 0 then (waitE t.st o, t)
  else (0, { (t.hold o).2 with st := waitL t.st o }.tell 5 o.id o.qty o.stop)
/-- an id is cancelled -/
def FT.cancel (t : FT) (id : Int) : Int × FT :=
  match findB t.L t.M id with
  | none => if goneE t.st id ≠ 0 then (goneE t.st id, t) else ({ t with st := goneL t.st id }.tell 3 id (goneO t.st id).qty (goneO t.st id).price).unhold (goneO t.st id)
  | some (s, i, k, _, _) => if (wentF t.L t.M [id] t).1 ≠ 0 then ((wentF t.L t.M [id] t).1, t) else (0, { (wentF t.L t.M [id] t).2 with L := cutL s i k t.L, M := cutM s i k t.M })
/-- what rests has another price and quantity -/
def FT.swap (t : FT) (id p q : Int) : Int × FT :=
  if swE t.L t.M id p q ≠ 0 then (swE t.L t.M id p q, t) else match findB t.L t.M id with
  | none => (5, t)
  | some (s, i, k, x, r) =>
    if keepB x r p q = true then
      if 0 < lessOf r q ∧ (t.release ⟨id, r.who, lessOf r q, 0, 0⟩ s x.price).1 ≠ 0 then ((t.release ⟨id, r.who, lessOf r q, 0, 0⟩ s x.price).1, t)
      else (0, { (if 0 < lessOf r q then (t.release ⟨id, r.who, lessOf r q, 0, 0⟩ s x.price).2 else t) with L := setRL s i k (keptR r q) t.L, M := setRM s i k (keptR r q) t.M }.tell 1 id q p)
    else if (t.cancel id).1 ≠ 0 then ((t.cancel id).1, t) else (t.cancel id).2.place (anewO id r s p q)
/-- is there a trade from one on? -/
def tradedF (l : List Ev) (n : Nat) : Bool := (l.drop n).any fun e => e.what == 2
/-- those that wait wake, one behind the other -/
def wakeF : Nat → List Order → Bool → FT → Int × FT
  | 0, _, _, t => (0, t)
  | n + 1, row, tr, t =>
    if tr = true ∧ vp t.last = false then (1, t)
    else match (if tr = true then row ++ wakeL t.last t.st else row) with
      | [] => (0, if tr = true then { t with st := leftS t.last t.st } else t)
      | o :: l =>
        let t1 := (if tr = true then { t with st := leftS t.last t.st } else t).tell 4 o.id o.qty t.last
        let c := t1.come o
        if c.2.1 ≠ 0 ∧ c.1 = true then (c.2.1, t)
        else if c.2.1 ≠ 0 then
          if (t1.unhold o).1 ≠ 0 then ((t1.unhold o).1, t)
          else wakeF n l (tradedF ((t1.unhold o).2.tell 3 o.id o.qty o.price).ev t.ev.length) ((t1.unhold o).2.tell 3 o.id o.qty o.price)
        else wakeF n l (tradedF c.2.2.ev t.ev.length) c.2.2
/-- a command, but for those that wake -/
def FT.act (t : FT) (c : Cmd) : Int × FT :=
  if c.what = 4 then ((payP t.S c.who c.n).1, { t with S := (payP t.S c.who c.n).2 })
  else if c.what = 5 then ((giveP t.S c.who c.n).1, { t with S := (giveP t.S c.who c.n).2 })
  else if c.what = 1 then t.place c.o
  else if c.what = 2 then t.cancel c.o.id
  else if c.what = 3 then t.swap c.o.id c.o.price c.o.qty
  else (1, t)
/-- a floor between commands -/
structure FS where
  mode : Int
  L : List Lv
  M : List Lv
  st : List Order
  S : Nat → Pur
  last : Int
def FS.open (f : FS) : FT := ⟨f.mode, f.L, f.M, f.st, f.S, f.last, []⟩
def FT.shut (t : FT) : FS := ⟨t.mode, t.L, t.M, t.st, t.S, t.last⟩
/-- a command -/
def FS.run (f : FS) (c : Cmd) : Int × FT :=
  if (f.open.act c).1 ≠ 0 then ((f.open.act c).1, f.open) else wakeF 100 [] (tradedF (f.open.act c).2.ev 0) (f.open.act c).2
/-- the fault; what was told; the floor behind it -/
def FS.doE (f : FS) (c : Cmd) : Int := (f.run c).1
def FS.doV (f : FS) (c : Cmd) : List Ev := if (f.run c).1 ≠ 0 then [] else (f.run c).2.ev
def FS.doS (f : FS) (c : Cmd) : FS := if (f.run c).1 ≠ 0 then f else (f.run c).2.shut
def FS.new (mode : Int) : FS := ⟨mode, [], [], [], newP, 0⟩
end Go.Proofs.YtkdgpdijbobmkaaGreat
namespace Go.Proofs.YtkdgpdijbobmkaaGreat
set_option linter.all false
open Go Go.RowKit
def Ev.vals (e : Ev) : List Value := [.int .i64 e.what, .int .i64 e.id, .int .i64 e.qty, .int .i64 e.price, .int .i64 e.t.maker, .int .i64 e.t.taker, .int .i64 e.t.frm, .int .i64 e.t.to, .int .i64 e.t.price, .int .i64 e.t.qty]
theorem Ev.vals_len (e : Ev) : e.vals.length = 10 := rfl
theorem Ev.vals_one (e : Ev) : ∀ u ∈ e.vals, u.oneCell' = true := by
  intro u hu
  simp only [Ev.vals, List.mem_cons, List.not_mem_nil, or_false] at hu
  rcases hu with rfl | rfl | rfl | rfl | rfl | rfl | rfl | rfl | rfl | rfl <;> rfl
def evs (l : List Ev) : List Value := l.flatMap Ev.vals
theorem evs_len (l : List Ev) : (evs l).length = l.length * 10 := flat_len (fun r => r.vals_len) l
theorem evs_app (a b : List Ev) : evs (a ++ b) = evs a ++ evs b := List.flatMap_append
theorem evs_one (l : List Ev) : ∀ u ∈ evs l, u.oneCell' = true := flat_all (fun r u hu => r.vals_one u hu) l
theorem info_ev : (Tryz.prog.info? 42).map (fun i => (i.zero, i.size, i.bytes)) = some (some (.agg #[.int .i64 0, .int .i64 0, .int .i64 0, .int .i64 0, .int .i64 0, .int .i64 0, .int .i64 0, .int .i64 0, .int .i64 0, .int .i64 0]), 10, 80) := by kernel_rfl
/-- where the parts of a state lie -/
structure FA where
  gs : Nat
  gt : Nat
  gp : Nat
  At : Option Addr
  ct : Nat
  Ae : Option Addr
  ce : Nat
  A1 : Option Addr
  c1 : Nat
  A2 : Option Addr
  c2 : Nat
  X : Nat → Prop := fun _ => False
/-- the blocks that a state may write -/
def FA.Q (a : FA) (k : Nat) : Prop := k = a.gs ∨ k = a.gt ∨ k = a.gp ∨ rowOf a.At a.ct = some k ∨ rowOf a.Ae a.ce = some k
/-- the blocks where no level lies: those that a state may write, and those of others -/
def FA.R (a : FA) (k : Nat) : Prop := a.Q k ∨ a.X k
/-- blocks that stay but for those of a set -/
structure Ks (Q : Nat → Prop) (w w' : World) : Prop where
  os : w'.os = w.os
  tape : w'.tape = w.tape
  output : w'.output = w.output
  size : w.heap.size ≤ w'.heap.size
  block : ∀ b, b < w.heap.size → ¬ Q b → w'.heap[b]? = w.heap[b]?
section
variable {Q Q' : Nat → Prop} {w w1 w2 : World}
theorem Ks.refl (Q : Nat → Prop) (w : World) : Ks Q w w := ⟨rfl, rfl, rfl, Nat.le_refl _, fun _ _ _ => rfl⟩
theorem Ks.trans (h : Ks Q w w1) (h2 : Ks Q' w1 w2) (hq : ∀ k, Q' k → Q k ∨ w.heap.size ≤ k) : Ks Q w w2 :=
  ⟨h2.os.trans h.os, h2.tape.trans h.tape, h2.output.trans h.output, Nat.le_trans h.size h2.size, fun b hb hn => by
    rw [h2.block b (Nat.lt_of_lt_of_le hb h.size) (fun e => (hq b e).elim hn (fun h' => by omega)), h.block b hb hn]⟩
theorem Ks.grown {row : Option Nat} (hg : w.grownBy w1 row) (hr : ∀ k, row = some k → Q k ∨ w.heap.size ≤ k) : Ks Q w w1 :=
  ⟨hg.os, hg.tape, hg.output, hg.size, fun b hb hn => hg.block b hb (fun e => (hr b e.symm).elim hn (fun h' => by omega))⟩
theorem Ks.of_below (hb : Below w.heap.size w w1) : Ks Q w w1 := Ks.grown (grown_of_below hb none) (fun k h => by cases h)
theorem Ks.of_kb {rs : List (Option Nat)} (h : Kb rs w w1) (hr : ∀ k, some k ∈ rs → Q k ∨ w.heap.size ≤ k) : Ks Q w w1 :=
  ⟨h.os, h.tape, h.output, h.size, fun b hb hn => h.block b hb (fun e => (hr b e).elim hn (fun h' => by omega))⟩
theorem Ks.below_to {lo : Nat} (h : Ks Q w w1) (hlo : lo ≤ w.heap.size) (hq : ∀ k, Q k → lo ≤ k) : Below lo w w1 :=
  ⟨h.os, h.tape, h.output, h.size, fun i hi => h.block i (by omega) (fun e => by have := hq i e; omega)⟩
theorem Ks.imp (h : Ks Q w w1) (hq : ∀ k, Q k → Q' k ∨ w.heap.size ≤ k) : Ks Q' w w1 :=
  ⟨h.os, h.tape, h.output, h.size, fun b hb hn => h.block b hb (fun e => (hq b e).elim hn (fun h' => by omega))⟩
theorem Kp.of_ks (h : Ks Q w w1) (hq : ∀ k, Q' k → Q k ∨ w.heap.size ≤ k) : Kp (fun k => ¬ Q k) (fun k => ¬ Q' k) w w1 :=
  ⟨h.size, fun k hp hk => ⟨h.block k hk hp, fun e => (hq k e).elim hp (fun h' => by omega)⟩⟩
end
theorem FA.kp {a a' : FA} {w w1 : World} (h : Ks a.Q w w1) (hq : ∀ k, a'.Q k → a.Q k ∨ w.heap.size ≤ k) (hx : a'.X = a.X) : Kp (fun k => ¬ a.R k) (fun k => ¬ a'.R k) w w1 :=
  ⟨h.size, fun k hp hk => ⟨h.block k hk (fun e => hp (.inl e)), fun e => e.elim (fun e => (hq k e).elim (fun h => hp (.inl h)) (fun h' => by omega)) (fun e => hp (.inr (hx ▸ e)))⟩⟩
/-- rows apart -/
def NoRow (r : Option Nat) (k : Nat) : Prop := r ≠ some k
/-- a state in memory, all that it may write from block lo on -/
structure FSt (w : World) (lo : Nat) (a : FA) (t : FT) : Prop where
  b : Bk w a.gs 99 #[.int .i64 t.mode, .slice a.A1 t.L.length a.c1, .slice a.A2 t.M.length a.c2, .pointer (some ⟨a.gt, 0, none⟩), .pointer (some ⟨a.gp, 0, none⟩), .int .i64 t.last, .slice a.Ae t.ev.length a.ce]
  st : StM w a.gt lo a.At a.ct t.st
  ps : Pm w a.gp t.S
  ev : OwnS w lo 10 a.Ae t.ev.length a.ce (evs t.ev)
  los : lo ≤ a.gs
  lot : lo ≤ a.gt
  lop : lo ≤ a.gp
  st_ : a.gs ≠ a.gt
  sp_ : a.gs ≠ a.gp
  tp_ : a.gt ≠ a.gp
  ts : rowOf a.At a.ct ≠ some a.gs
  tp : rowOf a.At a.ct ≠ some a.gp
  es : rowOf a.Ae a.ce ≠ some a.gs
  et : rowOf a.Ae a.ce ≠ some a.gt
  ep : rowOf a.Ae a.ce ≠ some a.gp
  er_ : ∀ k, rowOf a.Ae a.ce = some k → rowOf a.At a.ct ≠ some k
  bl : ∃ xs, LP (fun k => ¬ a.R k) w a.A1 t.L xs
  bm : ∃ xs, LP (fun k => ¬ a.R k) w a.A2 t.M xs
  z1 : a.A1 = none → a.c1 = 0
  z2 : a.A2 = none → a.c2 = 0
  xl : ∀ k, a.X k → k < w.heap.size
/-- what a state changes into: the fixed blocks stay where they are, what it may write is what it might, or is new -/
structure FTo (a : FA) (w : World) (a' : FA) (w' : World) : Prop where
  gs : a'.gs = a.gs
  gt : a'.gt = a.gt
  gp : a'.gp = a.gp
  q : ∀ k, a'.Q k → a.Q k ∨ w.heap.size ≤ k
  ks : Ks a.Q w w'
  x : a'.X = a.X
section
variable {w w' w1 w2 : World} {lo : Nat} {a a' a1 a2 : FA} {t : FT}
theorem FTo.refl (a : FA) (w : World) : FTo a w a w := ⟨rfl, rfl, rfl, fun _ h => .inl h, Ks.refl _ _, rfl⟩
theorem FTo.trans (h : FTo a w a1 w1) (h2 : FTo a1 w1 a2 w2) : FTo a w a2 w2 :=
  ⟨h2.gs.trans h.gs, h2.gt.trans h.gt, h2.gp.trans h.gp, fun k hk => (h2.q k hk).elim (h.q k) (fun h' => .inr (by have := h.ks.size; omega)), h.ks.trans h2.ks h.q, h2.x.trans h.x⟩
theorem FTo.of_ks (h : Ks a.Q w w') : FTo a w a w' := ⟨rfl, rfl, rfl, fun _ h => .inl h, h, rfl⟩
theorem FTo.of_below (hb : Below w.heap.size w w') : FTo a w a w' := .of_ks (.of_below hb)
theorem FTo.below (h : FTo a w a1 w1) (hb : Below w1.heap.size w1 w2) : FTo a w a1 w2 := h.trans (.of_below hb)
theorem StM.row_lt {g base c : Nat} {A : Option Addr} {l : List Order} (h : StM w g base A c l) : ∀ k, rowOf A c = some k → base ≤ k ∧ k < w.heap.size := h.own.row_lt
theorem FSt.q_lt (h : FSt w lo a t) : ∀ k, a.Q k → lo ≤ k ∧ k < w.heap.size := by
  rintro k (rfl | rfl | rfl | e | e)
  · exact ⟨h.los, h.b.lt⟩
  · exact ⟨h.lot, h.st.b.lt⟩
  · exact ⟨h.lop, h.ps.lt⟩
  · exact h.st.own.row_lt k e
  · exact h.ev.row_lt k e
theorem FSt.r_lt (h : FSt w lo a t) : ∀ k, a.R k → k < w.heap.size := fun k e => e.elim (fun e => (h.q_lt k e).2) (h.xl k)
theorem FSt.lp1 (h : FSt w lo a t) : RdLv w w.heap.size a.A1 t.L := by obtain ⟨xs, hx⟩ := h.bl; exact hx.lv
theorem FSt.lp2 (h : FSt w lo a t) : RdLv w w.heap.size a.A2 t.M := by obtain ⟨xs, hx⟩ := h.bm; exact hx.lv
/-- a change that writes nothing of the state -/
theorem FSt.below (h : FSt w lo a t) (hb : Below w.heap.size w w') : FSt w' lo a t := by
  have hk : Kp (fun k => ¬ a.R k) (fun k => ¬ a.R k) w w' := FA.kp (.of_below hb) (fun _ h => .inl h) rfl
  exact ⟨h.b.keep hb, h.st.below hb, h.ps.below hb, h.ev.below hb, h.los, h.lot, h.lop, h.st_, h.sp_, h.tp_, h.ts, h.tp, h.es, h.et, h.ep, h.er_, h.bl.imp fun _ x => x.on hk, h.bm.imp fun _ x => x.on hk, h.z1, h.z2, fun k e => Nat.lt_of_lt_of_le (h.xl k e) hb.size⟩
/-- the purses are written -/
theorem FSt.pursed (h : FSt w lo a t) {S : Nat → Pur} (hp : Pm w' a.gp S) (hg : w.grownBy w' (some a.gp)) : FSt w' lo a { t with S := S } ∧ FTo a w a w' := by
  have hks : Ks a.Q w w' := Ks.grown hg (fun k e => by cases e; exact .inl (.inr (.inr (.inl rfl))))
  have hk : Kp (fun k => ¬ a.R k) (fun k => ¬ a.R k) w w' := FA.kp hks (fun _ h => .inl h) rfl
  refine ⟨⟨h.b.grown hg (fun e => h.sp_ (Option.some.inj e)), ⟨h.st.b.grown hg (fun e => h.tp_ (Option.some.inj e)), h.st.own.keep hg (.inr h.tp), h.st.apart, h.st.z⟩, hp, h.ev.keep hg (.inr h.ep), h.los, h.lot, h.lop, h.st_, h.sp_, h.tp_, h.ts, h.tp, h.es, h.et, h.ep, h.er_, h.bl.imp fun _ x => x.on hk, h.bm.imp fun _ x => x.on hk, h.z1, h.z2, fun k e => Nat.lt_of_lt_of_le (h.xl k e) hks.size⟩, .of_ks hks⟩
/-- the cell of the book, or of the last price, or of what was told, is written: what of it does not hang on the cells -/
theorem FSt.cells (h : FSt w lo a t) {cs : Array Value} (hb : Bk w' a.gs 99 cs) (hg : w.grownBy w' (some a.gs)) : Bk w' a.gs 99 cs ∧ StM w' a.gt lo a.At a.ct t.st ∧ Pm w' a.gp t.S ∧ OwnS w' lo 10 a.Ae t.ev.length a.ce (evs t.ev) ∧ Ks a.Q w w' :=
  ⟨hb, ⟨h.st.b.grown hg (fun e => h.st_ (Option.some.inj e).symm), h.st.own.keep hg (.inr h.ts), h.st.apart, h.st.z⟩, h.ps.keep hg (fun e => h.sp_ (Option.some.inj e).symm), h.ev.keep hg (.inr h.es), Ks.grown hg (fun k e => by cases e; exact .inl (.inl rfl))⟩
/-- an event more -/
theorem FSt.evd (h : FSt w lo a t) (hb : Below w.heap.size w w1) {e : Ev} {A' : Option Addr} {c' : Nat} (gr : Grew w1 lo 10 a.Ae a.ce (t.ev.length + 1) (evs t.ev ++ e.vals) A' c' w2) :
    FSt (w2.setCell ⟨a.gs, 6, none⟩ (.slice A' (t.ev.length + 1) c')) lo { a with Ae := A', ce := c' } { t with ev := t.ev ++ [e] } ∧ FTo a w { a with Ae := A', ce := c' } (w2.setCell ⟨a.gs, 6, none⟩ (.slice A' (t.ev.length + 1) c')) := by
  have h1 := h.below hb
  have hz := hb.size
  have hg := gr.grown
  have hs := grown_set w2 ⟨a.gs, 6, none⟩ (.slice A' (t.ev.length + 1) c')
  have hql := h1.q_lt
  have hrow : ∀ k, rowOf A' c' = some k → rowOf a.Ae a.ce = some k ∨ k = w1.heap.size := fun k e => by
    rcases gr.row with r | r
    · exact .inl (r ▸ e)
    · rw [r] at e; cases e; exact .inr rfl
  have hne : ∀ k, k < w1.heap.size → rowOf a.Ae a.ce ≠ some k → rowOf A' c' ≠ some k := fun k hk hn e => by
    rcases hrow k e with r | r
    · exact hn r
    · omega
  have hgs := h1.b.lt
  have hgt := h1.st.b.lt
  have hgp := h1.ps.lt
  have hq : ∀ k, FA.Q { a with Ae := A', ce := c' } k → a.Q k ∨ w1.heap.size ≤ k := by
    rintro k (e | e | e | e | e)
    · exact .inl (.inl e)
    · exact .inl (.inr (.inl e))
    · exact .inl (.inr (.inr (.inl e)))
    · exact .inl (.inr (.inr (.inr (.inl e))))
    · rcases hrow k e with r | r
      · exact .inl (.inr (.inr (.inr (.inr r))))
      · exact .inr (by omega)
  have k12 : Ks a.Q w1 w2 := Ks.grown hg (fun k e => .inl (.inr (.inr (.inr (.inr e)))))
  have k23 : Ks a.Q w2 (w2.setCell ⟨a.gs, 6, none⟩ (.slice A' (t.ev.length + 1) c')) := Ks.grown hs (fun k e => by cases e; exact .inl (.inl rfl))
  have k13 := k12.trans k23 (fun k h => .inl h)
  have hk := FA.kp (a' := { a with Ae := A', ce := c' }) k13 hq rfl
  have hev : evs (t.ev ++ [e]) = evs t.ev ++ e.vals := by rw [evs_app]; simp [evs]
  have hlen : (t.ev ++ [e]).length = t.ev.length + 1 := by simp
  have hno : rowOf A' c' ≠ some a.gs := hne _ hgs h.es
  have hap : rowOf a.At a.ct = none ∨ rowOf a.At a.ct ≠ rowOf a.Ae a.ce := by
    cases hr : rowOf a.At a.ct with
    | none => exact .inl rfl
    | some k => exact .inr (fun e => h.er_ k e.symm hr)
  refine ⟨⟨?_, ⟨(h1.st.b.grown hg (Ne.symm h.et)).far (p := ⟨a.gs, 6, none⟩) (Ne.symm h.st_) _, (h1.st.own.apart0 hg hap).keep hs (.inr h.ts), h.st.apart, h.st.z⟩, (h1.ps.keep hg (Ne.symm h.ep)).keep hs (fun e => h.sp_ (Option.some.inj e).symm), ?_, h.los, h.lot, h.lop, h.st_, h.sp_, h.tp_, h.ts, h.tp, hno, hne _ hgt h.et, hne _ hgp h.ep, fun k e e' => ?_, h1.bl.imp fun _ x => x.on hk, h1.bm.imp fun _ x => x.on hk, h.z1, h.z2, fun k e => Nat.lt_of_lt_of_le (h1.xl k e) k13.size⟩, rfl, rfl, rfl, fun k e => (hq k e).elim .inl (fun h' => .inr (by omega)), (Ks.of_below hb).trans k13 (fun k h => .inl h), rfl⟩
  · show Bk _ _ _ #[_, _, _, _, _, _, .slice A' (t.ev ++ [e]).length c']
    rw [hlen]
    exact (h1.b.grown hg (Ne.symm h.es)).set_ 6 _
  · show OwnS _ lo 10 A' (t.ev ++ [e]).length c' (evs (t.ev ++ [e]))
    rw [hev, hlen]
    exact gr.own.keep hs (.inr hno)
  · rcases hrow k e with r | r
    · exact h.er_ k r e'
    · have := (h1.st.own.row_lt k e').2; omega
end
end Go.Proofs.YtkdgpdijbobmkaaGreat
namespace Go.Proofs.YtkdgpdijbobmkaaGreat
set_option linter.all false
open Go Go.RowKit
/-- what a part of a floor ends with, where all goes well -/
def FEnd (lo : Nat) (a : FA) (t' : FT) (w w' : World) : Prop := ∃ a', FSt w' lo a' t' ∧ FTo a w a' w'
theorem box7 {w : World} {x0 x1 x2 x3 x4 x5 x6 : Value} {g : Nat} {t : TypeId} (h : Bk w g t #[x0, x1, x2, x3, x4, x5, x6]) : w.cell? ⟨g, 0, none⟩ = some x0 ∧ w.cell? ⟨g, 1, none⟩ = some x1 ∧ w.cell? ⟨g, 2, none⟩ = some x2 ∧ w.cell? ⟨g, 3, none⟩ = some x3 ∧ w.cell? ⟨g, 4, none⟩ = some x4 ∧ w.cell? ⟨g, 5, none⟩ = some x5 ∧ w.cell? ⟨g, 6, none⟩ = some x6 :=
  ⟨h.cell 0, h.cell 1, h.cell 2, h.cell 3, h.cell 4, h.cell 5, h.cell 6⟩
set_option maxRecDepth 100000 in
set_option maxHeartbeats 4000000 in
theorem tell_any (t : FT) (lo : Nat) (a : FA) (x id q p : Int) (w : World) (h : FSt w lo a t) (hl : t.ev.length ≤ 100000) (hlo : lo ≤ w.heap.size) :
    Calls Tryz.prog 75 #[.pointer (some ⟨a.gs, 0, none⟩), .int .i64 x, .int .i64 id, .int .i64 q, .int .i64 p] w fun e w' => e = .returned (.tuple #[]) ∧ Hid (FEnd lo a (t.tell x id q p) w w') := by
  obtain ⟨i0, hi, hz0, hz1, hz2⟩ := info_parts info_ev
  have HI := Lib.hid hi; have H0 := Lib.hid hz0; have H1 := Lib.hid hz1; have H2 := Lib.hid hz2
  have H := Lib.hid h
  obtain ⟨q0, q1, q2, q3, q4, q5, q6⟩ := box7 h.b
  have z6 := h.b.free 6
  have hgs := h.b.lt
  clear hi hz0 hz1 hz2 h q0 q1 q2 q3 q4 q5
  go_enter Tryz.func75, Tryz.ntmps75
  go_wp2_with (at_builtin; go_loud (refine wpList_append_S (base := lo) (s := 10) rfl _ _ _ _ rfl 42 i0 _ 80 Tryz.underlying25 HI.out H0.out H1.out H2.out rfl rfl (H.out.ev.alloc _) (by simp; omega) _ rfl 1 (Ev.mk x id q p tr0).vals (src_block (m := 1) (Bk.at_ rfl 42 #[.int .i64 x, .int .i64 id, .int .i64 q, .int .i64 p, .int .i64 0, .int .i64 0, .int .i64 0, .int .i64 0, .int .i64 0, .int .i64 0]) Tryz.underlying25 rfl (Ev.mk x id q p tr0).vals_one 1) (by unfold maxLen; omega) (by omega) ?_); intro A3 c3 w3 gr3; have b3 := ((H.out.b.alloc (.cells #[.int .i64 x, .int .i64 id, .int .i64 q, .int .i64 p, .int .i64 0, .int .i64 0, .int .i64 0, .int .i64 0, .int .i64 0, .int .i64 0] 42)).grown gr3.grown (Ne.symm H.out.es)).cell 6; have f3 := ((H.out.b.alloc (.cells #[.int .i64 x, .int .i64 id, .int .i64 q, .int .i64 p, .int .i64 0, .int .i64 0, .int .i64 0, .int .i64 0, .int .i64 0, .int .i64 0] 42)).grown gr3.grown (Ne.symm H.out.es)).free 6; simp at b3)
  go_end0
  exact ⟨rfl, Lib.hid ⟨_, H.out.evd (below_then_alloc (Below.refl _ _)) gr3⟩⟩
theorem for_no (o : Order) (h : o.err ≠ 0) (w : World) : Calls Tryz.prog 21 #[.agg #[.int .i64 o.id, .int .i64 o.who, .int .i64 o.side, .int .i64 o.kind, .int .i64 o.price, .int .i64 o.qty, .int .i64 o.show_, .int .i64 o.stop]] w fun e w' => e = .returned (.tuple #[.int .i64 0, .int .i64 0, er o.err]) ∧ Below w.heap.size w w' := by
  rcases for_ex o with ⟨h2, _⟩ | ⟨_, c⟩
  · exact absurd h2 h
  · exact c w
/-- how a part ends that may refuse -/
def FOut (lo : Nat) (a : FA) (r : Int × FT) (w : World) (e : Ending) (w' : World) : Prop := e = .returned (errV r.1) ∧ Hid (FEnd lo a r.2 w w')
set_option maxRecDepth 100000 in
set_option maxHeartbeats 4000000 in
theorem fhold_any (t : FT) (lo : Nat) (a : FA) (o : Order) (w : World) (h : FSt w lo a t) (hs : PSound t.S) :
    Calls Tryz.prog 95 #[.pointer (some ⟨a.gs, 0, none⟩), .agg #[.int .i64 o.id, .int .i64 o.who, .int .i64 o.side, .int .i64 o.kind, .int .i64 o.price, .int .i64 o.qty, .int .i64 o.show_, .int .i64 o.stop]] w (FOut lo a (t.hold o) w) := by
  have H := Lib.hid h
  have HS := Lib.hid hs
  have bo := Bk.new w 31 #[.int .i64 o.id, .int .i64 o.who, .int .i64 o.side, .int .i64 o.kind, .int .i64 o.price, .int .i64 o.qty, .int .i64 o.show_, .int .i64 o.stop]
  have hb : Below w.heap.size w (w.alloc (.cells #[.int .i64 o.id, .int .i64 o.who, .int .i64 o.side, .int .i64 o.kind, .int .i64 o.price, .int .i64 o.qty, .int .i64 o.show_, .int .i64 o.stop] 31)) := below_then_alloc (Below.refl _ _)
  clear h hs
  by_cases ho : o.err = 0
  case neg =>
    have HR := Lib.hid (show t.hold o = (o.err, t) from if_pos ho)
    have HO := Lib.hid ho
    have CF := Lib.hid (fun w => (for_no o ho w))
    clear ho
    generalize o.err = k at *
    go_enter Tryz.func95, Tryz.ntmps95
    go_wp2_with (go_at_call 21; refine (CF.out _).mono ?_; rintro e w1 ⟨rfl, hb1⟩)
    go_ret
    refine ⟨by rw [HR.out, errV, if_neg HO.out]; rfl, Lib.hid ?_⟩
    rw [HR.out]
    exact ⟨a, H.out.below (below_then hb1 hb), .of_below (below_then hb1 hb)⟩
  case pos =>
    have HR := Lib.hid (show t.hold o = ((holdP t.S o.who (mcash o.side o.lim o.qty) (mstock o.side o.qty)).1, { t with S := (holdP t.S o.who (mcash o.side o.lim o.qty) (mstock o.side o.qty)).2 }) from if_neg (by simpa using ho))
    have CF := Lib.hid (fun w => (for_ok o ho w))
    clear ho
    generalize mcash o.side o.lim o.qty = X at *
    generalize mstock o.side o.qty = Y at *
    go_enter Tryz.func95, Tryz.ntmps95
    go_upto_region 4 with (go_at_call 21; refine (CF.out _).mono ?_; rintro e w1 ⟨rfl, hb1⟩)
    replace bo := bo.keep hb1
    replace hb := below_then hb1 hb
    have hf := H.out.below hb
    obtain ⟨q0, q1, q2, q3, q4, q5, q6⟩ := box7 hf.b
    have r1 := bo.cell 1
    simp at r1
    have HP := Lib.hid (hold_any t.S a.gp o.who X Y w1.drew hf.ps.drew HS.out)
    clear hb1 q0 q1 q2 q3 q5 q6 bo
    have HF := Lib.hid (hf.below (Below.refl w1.heap.size w1).drew)
    have HB := Lib.hid hb.drew
    clear hf hb
    go_still_tail 8, (by kernel_rfl)
    change wpList _ _ _ _ _ w1.drew
    clear q4 r1
    go_wp2_with (go_at_call 126; refine HP.out.mono ?_; rintro e w2 ⟨rfl, hp2, hg2⟩)
    go_ret
    have hx := HF.out.pursed hp2 hg2
    refine ⟨by rw [HR.out]; rfl, Lib.hid ?_⟩
    rw [HR.out]
    exact ⟨a, hx.1, (FTo.of_below HB.out).trans hx.2⟩
set_option maxRecDepth 100000 in
set_option maxHeartbeats 4000000 in
theorem funhold_any (t : FT) (lo : Nat) (a : FA) (o : Order) (w : World) (h : FSt w lo a t) (hs : PSound t.S) :
    Calls Tryz.prog 77 #[.pointer (some ⟨a.gs, 0, none⟩), .agg #[.int .i64 o.id, .int .i64 o.who, .int .i64 o.side, .int .i64 o.kind, .int .i64 o.price, .int .i64 o.qty, .int .i64 o.show_, .int .i64 o.stop]] w (FOut lo a (t.unhold o) w) := by
  have H := Lib.hid h
  have HS := Lib.hid hs
  have bo := Bk.new w 31 #[.int .i64 o.id, .int .i64 o.who, .int .i64 o.side, .int .i64 o.kind, .int .i64 o.price, .int .i64 o.qty, .int .i64 o.show_, .int .i64 o.stop]
  have hb : Below w.heap.size w (w.alloc (.cells #[.int .i64 o.id, .int .i64 o.who, .int .i64 o.side, .int .i64 o.kind, .int .i64 o.price, .int .i64 o.qty, .int .i64 o.show_, .int .i64 o.stop] 31)) := below_then_alloc (Below.refl _ _)
  clear h hs
  by_cases ho : o.err = 0
  case neg =>
    have HR := Lib.hid (show t.unhold o = (o.err, t) from if_pos ho)
    have HO := Lib.hid ho
    have CF := Lib.hid (fun w => (for_no o ho w))
    clear ho
    generalize o.err = k at *
    go_enter Tryz.func77, Tryz.ntmps77
    go_wp2_with (go_at_call 21; refine (CF.out _).mono ?_; rintro e w1 ⟨rfl, hb1⟩)
    go_ret
    refine ⟨by rw [HR.out, errV, if_neg HO.out]; rfl, Lib.hid ?_⟩
    rw [HR.out]
    exact ⟨a, H.out.below (below_then hb1 hb), .of_below (below_then hb1 hb)⟩
  case pos =>
    have HR := Lib.hid (show t.unhold o = ((freeP t.S o.who (mcash o.side o.lim o.qty) (mstock o.side o.qty)).1, { t with S := (freeP t.S o.who (mcash o.side o.lim o.qty) (mstock o.side o.qty)).2 }) from if_neg (by simpa using ho))
    have CF := Lib.hid (fun w => (for_ok o ho w))
    clear ho
    generalize mcash o.side o.lim o.qty = X at *
    generalize mstock o.side o.qty = Y at *
    go_enter Tryz.func77, Tryz.ntmps77
    go_upto_region 4 with (go_at_call 21; refine (CF.out _).mono ?_; rintro e w1 ⟨rfl, hb1⟩)
    replace bo := bo.keep hb1
    replace hb := below_then hb1 hb
    have hf := H.out.below hb
    obtain ⟨q0, q1, q2, q3, q4, q5, q6⟩ := box7 hf.b
    have r1 := bo.cell 1
    simp at r1
    have HP := Lib.hid (free_any t.S a.gp o.who X Y w1.drew hf.ps.drew HS.out)
    clear hb1 q0 q1 q2 q3 q5 q6 bo
    have HF := Lib.hid (hf.below (Below.refl w1.heap.size w1).drew)
    have HB := Lib.hid hb.drew
    clear hf hb
    go_still_tail 8, (by kernel_rfl)
    change wpList _ _ _ _ _ w1.drew
    clear q4 r1
    go_wp2_with (go_at_call 108; refine HP.out.mono ?_; rintro e w2 ⟨rfl, hp2, hg2⟩)
    go_ret
    have hx := HF.out.pursed hp2 hg2
    refine ⟨by rw [HR.out]; rfl, Lib.hid ?_⟩
    rw [HR.out]
    exact ⟨a, hx.1, (FTo.of_below HB.out).trans hx.2⟩
set_option maxRecDepth 100000 in
set_option maxHeartbeats 4000000 in
theorem frelease_any (t : FT) (lo : Nat) (a : FA) (r : Rest) (s p : Int) (w : World) (h : FSt w lo a t) (hs : PSound t.S) :
    Calls Tryz.prog 101 #[.pointer (some ⟨a.gs, 0, none⟩), .agg #[.int .i64 r.id, .int .i64 r.who, .int .i64 r.qty, .int .i64 r.hidden, .int .i64 r.show_], .int .i64 s, .int .i64 p] w (FOut lo a (t.release r s p) w) := by
  have H := Lib.hid h
  have HS := Lib.hid hs
  have bo := Bk.new w 62 #[.int .i64 r.id, .int .i64 r.who, .int .i64 r.qty, .int .i64 r.hidden, .int .i64 r.show_]
  have hb : Below w.heap.size w (w.alloc (.cells #[.int .i64 r.id, .int .i64 r.who, .int .i64 r.qty, .int .i64 r.hidden, .int .i64 r.show_] 62)) := below_then_alloc (Below.refl _ _)
  clear h hs
  by_cases ho : leftE r s p = 0
  case neg =>
    have HR := Lib.hid (show t.release r s p = (leftE r s p, t) from if_pos ho)
    have HO := Lib.hid ho
    have CF := Lib.hid (fun w => (left_bad r s p w ho))
    clear ho
    generalize leftE r s p = k at *
    go_enter Tryz.func101, Tryz.ntmps101
    go_wp2_with (go_at_call 20; refine (CF.out _).mono ?_; rintro e w1 ⟨rfl, hb1⟩)
    go_ret
    refine ⟨by rw [HR.out, errV, if_neg HO.out]; rfl, Lib.hid ?_⟩
    rw [HR.out]
    exact ⟨a, H.out.below (below_then hb1 hb), .of_below (below_then hb1 hb)⟩
  case pos =>
    have HR := Lib.hid (show t.release r s p = ((freeP t.S r.who (mcash s p (r.qty + r.hidden)) (mstock s (r.qty + r.hidden))).1, { t with S := (freeP t.S r.who (mcash s p (r.qty + r.hidden)) (mstock s (r.qty + r.hidden))).2 }) from if_neg (by simpa using ho))
    have CF := Lib.hid (fun w => (left_ok r s p w ho))
    clear ho
    generalize mcash s p (r.qty + r.hidden) = X at *
    generalize mstock s (r.qty + r.hidden) = Y at *
    go_enter Tryz.func101, Tryz.ntmps101
    go_upto_region 4 with (go_at_call 20; refine (CF.out _).mono ?_; rintro e w1 ⟨rfl, hb1⟩)
    replace bo := bo.keep hb1
    replace hb := below_then hb1 hb
    have hf := H.out.below hb
    obtain ⟨q0, q1, q2, q3, q4, q5, q6⟩ := box7 hf.b
    have r1 := bo.cell 1
    simp at r1
    have HP := Lib.hid (free_any t.S a.gp r.who X Y w1.drew hf.ps.drew HS.out)
    clear hb1 q0 q1 q2 q3 q5 q6 bo
    have HF := Lib.hid (hf.below (Below.refl w1.heap.size w1).drew)
    have HB := Lib.hid hb.drew
    clear hf hb
    go_still_tail 8, (by kernel_rfl)
    change wpList _ _ _ _ _ w1.drew
    clear q4 r1
    go_wp2_with (go_at_call 108; refine HP.out.mono ?_; rintro e w2 ⟨rfl, hp2, hg2⟩)
    go_ret
    have hx := HF.out.pursed hp2 hg2
    refine ⟨by rw [HR.out]; rfl, Lib.hid ?_⟩
    rw [HR.out]
    exact ⟨a, hx.1, (FTo.of_below HB.out).trans hx.2⟩
end Go.Proofs.YtkdgpdijbobmkaaGreat
namespace Go.Proofs.YtkdgpdijbobmkaaGreat
set_option linter.all false
open Go Go.RowKit
/-- an event's cells -/
theorem ev_at {l : List Ev} {w : World} {base c k : Nat} {A : Option Addr} (h : OwnS w base 10 A l.length c (evs l)) (hk : k < l.length) :
    ∃ g off e, A = some ⟨g, off, none⟩ ∧ base ≤ g ∧ g < w.heap.size ∧ l[k]? = some e ∧ w.cell? ⟨g, off + k * 10, none⟩ = some (.int .i64 e.what) ∧ w.cell? ⟨g, off + k * 10 + 1, none⟩ = some (.int .i64 e.id) ∧ w.cell? ⟨g, off + k * 10 + 2, none⟩ = some (.int .i64 e.qty) ∧ w.cell? ⟨g, off + k * 10 + 3, none⟩ = some (.int .i64 e.price) ∧ w.cell? ⟨g, off + k * 10 + 4, none⟩ = some (.int .i64 e.t.maker) ∧ w.cell? ⟨g, off + k * 10 + 5, none⟩ = some (.int .i64 e.t.taker) ∧ w.cell? ⟨g, off + k * 10 + 6, none⟩ = some (.int .i64 e.t.frm) ∧ w.cell? ⟨g, off + k * 10 + 7, none⟩ = some (.int .i64 e.t.to) ∧ w.cell? ⟨g, off + k * 10 + 8, none⟩ = some (.int .i64 e.t.price) ∧ w.cell? ⟨g, off + k * 10 + 9, none⟩ = some (.int .i64 e.t.qty) := by
  obtain ⟨g, off, e, hb, hl, hc, _⟩ := h.cell (by omega)
  have hg := List.getElem?_eq_getElem hk
  have hx : ∀ j, j < 10 → w.cell? ⟨g, off + (k * 10 + j), none⟩ = (l[k]).vals[j]? := fun j hj => by
    rw [hc _ (by omega), evs, flat_get (fun r => r.vals_len) hg hj]
  have h0 := hx 0 (by omega); have h1 := hx 1 (by omega); have h2 := hx 2 (by omega); have h3 := hx 3 (by omega); have h4 := hx 4 (by omega); have h5 := hx 5 (by omega); have h6 := hx 6 (by omega); have h7 := hx 7 (by omega); have h8 := hx 8 (by omega); have h9 := hx 9 (by omega)
  exact ⟨g, off, l[k], e, hb, hl, hg, h0, h1, h2, h3, h4, h5, h6, h7, h8, h9⟩
theorem traded_yes {l : List Ev} {n k : Nat} {e : Ev} (h : l[n + k]? = some e) (he : e.what = 2) : tradedF l n = true := by
  unfold tradedF
  rw [List.any_eq_true]
  refine ⟨e, ?_, by simpa using he⟩
  have : (l.drop n)[k]? = some e := by rw [List.getElem?_drop]; exact h
  exact List.mem_of_getElem? this
theorem traded_no {l : List Ev} {n : Nat} (h : ∀ k e, l[n + k]? = some e → e.what ≠ 2) : tradedF l n = false := by
  unfold tradedF
  rw [List.any_eq_false]
  intro e he
  obtain ⟨k, hk⟩ := List.mem_iff_getElem?.1 he
  rw [List.getElem?_drop] at hk
  simpa using h k e hk
set_option maxRecDepth 100000 in
set_option maxHeartbeats 4000000 in
theorem traded_any (t : FT) (lo : Nat) (a : FA) (n : Nat) (w : World) (h : FSt w lo a t) (hn : n ≤ t.ev.length) (hl : t.ev.length ≤ 100000) :
    Calls Tryz.prog 39 #[.pointer (some ⟨a.gs, 0, none⟩), .int .i64 n] w fun e w' => e = .returned (.bool (tradedF t.ev n)) ∧ Below w.heap.size w w' := by
  obtain ⟨q0, q1, q2, q3, q4, q5, q6⟩ := box7 h.b
  have hle := h.ev.le
  have hmx := h.ev.max
  clear q0 q1 q2 q3 q4 q5
  have i1 : (0 : Int) ≤ (n : Int) := by omega
  have i2 : (n : Int) ≤ (t.ev.length : Int) := by omega
  have i3 : (n : Int) ≤ (a.ce : Int) := by omega
  unfold maxLen at hmx
  have H := Lib.hid h
  by_cases hc : a.ce = n
  · have HN := Lib.hid (show tradedF t.ev n = false from traded_no (fun k e hk => by
      have := (List.getElem?_eq_some_iff.1 hk).1; omega))
    have hd : ¬ (0 : Int) < ((t.ev.length - n : Nat) : Int) := by omega
    clear h hle
    go_enter Tryz.func39, Tryz.ntmps39
    go_wp2
    go_loopw [14] (fun i wr => i = .int .i64 0 ∧ wr = w) (fun _ _ => 0)
    case atStart => exact ⟨rfl, rfl⟩
    case round =>
      obtain ⟨rfl, rfl⟩ := hrel
      go_wp2
      go_ret
      exact ⟨by rw [HN.out]; rfl, Below.refl _ _⟩
  · have hc2 : ¬ ((a.ce : Int) ≤ (n : Int)) := by omega
    obtain ⟨g, off, hA, _, hgl, hcell, _⟩ := h.ev.lies (by omega)
    have hne : ¬ a.ce = n := hc
    rw [hA] at q6
    obtain ⟨m, hm⟩ : ∃ m, t.ev.length - n = m := ⟨_, rfl⟩
    have HM := Lib.hid hm
    have HA := Lib.hid hA
    clear h hle hcell hA
    go_enter Tryz.func39, Tryz.ntmps39
    go_wp2
    clear hm
    go_loopw [14] (fun i wr => ∃ k : Nat, k ≤ m ∧ i = .int .i64 k ∧ Below w.heap.size w wr ∧ Hid (∀ j, j < k → ∀ e, t.ev[n + j]? = some e → e.what ≠ 2)) (fun i _ => m - (intOf i).toNat)
    case atStart => exact ⟨0, by omega, rfl, Below.refl _ _, Lib.hid (fun j hj => absurd hj (by omega))⟩
    case round =>
      obtain ⟨k, hk, rfl, hb, hno⟩ := hrel
      by_cases hlt : k < m
      · have hlen := HM.out
        obtain ⟨g', off', e, hA', _, hg', he, e0, e1, e2, e3, e4, e5, e6, e7, e8, e9⟩ := ev_at (k := n + k) (H.out.ev.below hb) (by omega)
        rw [HA.out] at hA'
        cases hA'
        have hx : ∀ j, off + (n + k) * 10 + j = off + n * 10 + k * 10 + j := fun j => by omega
        rw [show off + (n + k) * 10 = off + n * 10 + k * 10 by omega] at e0 e1 e2 e3 e4 e5 e6 e7 e8 e9
        have HE := Lib.hid he
        have hmm : (m : Int) ≤ 100000 := by omega
        clear he hlen hx
        by_cases h2 : e.what = 2
        · have HT := Lib.hid (traded_yes HE.out h2)
          have h3 : (e.what == 2) = true := by simpa using h2
          clear h2
          go_wp2
          go_ret
          refine ⟨by rw [HT.out]; rfl, ?_⟩
          (repeat (first | exact Below.refl _ _ | assumption | (refine below_then (by assumption) ?_) | (refine below_then_alloc ?_) | (refine Below.drew ?_)))
        · have h3 : (e.what == 2) = false := by simpa using h2
          have HT := Lib.hid h2
          clear h2
          go_wp2
          go_roundw
          case rel =>
            refine ⟨k + 1, by omega, by go_num, ?_, Lib.hid (fun j hj e' he' => ?_)⟩
            · (repeat (first | exact Below.refl _ _ | assumption | (refine below_then (by assumption) ?_) | (refine below_then_alloc ?_) | (refine Below.drew ?_)))
            · rcases Nat.lt_or_ge j k with h | h
              · exact hno.out j h e' he'
              · obtain rfl : j = k := by omega
                rw [HE.out] at he'
                cases he'
                exact HT.out
          case measure => simp [intOf]; omega
      · obtain rfl : k = m := by omega
        have HN := Lib.hid (show tradedF t.ev n = false from traded_no (fun j e hj => by
          have h1 := (List.getElem?_eq_some_iff.1 hj).1
          exact hno.out j (by have := HM.out; omega) e hj))
        go_wp2
        go_ret
        exact ⟨by rw [HN.out]; rfl, hb⟩
end Go.Proofs.YtkdgpdijbobmkaaGreat
namespace Go.Proofs.YtkdgpdijbobmkaaGreat
set_option linter.all false
open Go Go.RowKit
theorem release_inv {t : FT} (h : PInv t.S) (r : Rest) (s p : Int) : PInv (t.release r s p).2.S := by
  unfold FT.release; split
  · exact h
  · exact (free_step h _ _ _).1
theorem hold_inv {t : FT} (h : PInv t.S) (o : Order) : PInv (t.hold o).2.S := by
  unfold FT.hold; split
  · exact h
  · exact (hold_step h _ _ _).1
theorem unhold_inv {t : FT} (h : PInv t.S) (o : Order) : PInv (t.unhold o).2.S := by
  unfold FT.unhold; split
  · exact h
  · exact (free_step h _ _ _).1
theorem release_ev (t : FT) (r : Rest) (s p : Int) : (t.release r s p).2.ev = t.ev := by unfold FT.release; split <;> rfl
theorem hold_ev (t : FT) (o : Order) : (t.hold o).2.ev = t.ev := by unfold FT.hold; split <;> rfl
theorem unhold_ev (t : FT) (o : Order) : (t.unhold o).2.ev = t.ev := by unfold FT.unhold; split <;> rfl
theorem rest_ok {L M : List Lv} {id s : Int} {i k : Nat} {x : Lv} {r : Rest} (hb : BookOk L M) (ha : BAt L M id s i k x r) : r.err = 0 := by
  have hm := ha.at_.lv
  rcases side_two ha.side with rfl | rfl
  · exact hb.buys.sound x (List.mem_of_getElem? hm) r (List.mem_of_getElem? ha.at_.rest)
  · exact hb.sells.sound x (List.mem_of_getElem? hm) r (List.mem_of_getElem? ha.at_.rest)
/-- how a part ends that may refuse: refused, what it may write is not known -/
def FOutE (lo : Nat) (a : FA) (r : Int × FT) (w : World) (e : Ending) (w' : World) : Prop := e = .returned (errV r.1) ∧ Hid (r.1 = 0 → FEnd lo a r.2 w w') ∧ Hid (Ks a.Q w w')
theorem FTo.bk {a a' : FA} {w w' : World} (h : FTo a w a' w') {g : Nat} {t : TypeId} {cs : Array Value} (hb : Bk w g t cs) (hn : ¬ a.Q g) : Bk w' g t cs := (h.ks.block g hb.lt hn).trans hb
theorem FTo.lp {a a' : FA} {w w' : World} (h : FTo a w a' w') {A : Option Addr} {L : List Lv} {xs : List Value} (hx : LP (fun k => ¬ a.R k) w A L xs) : LP (fun k => ¬ a'.R k) w' A L xs := hx.on (FA.kp h.ks h.q h.x)
theorem FTo.rp {a a' : FA} {w w' : World} (h : FTo a w a' w') {A : Option Addr} {n s : Nat} {xs : List Value} (hx : RP (fun k => ¬ a.R k) w A n s xs) : RP (fun k => ¬ a'.R k) w' A n s xs := hx.on (FA.kp h.ks h.q h.x)
set_option maxRecDepth 100000 in
set_option maxHeartbeats 8000000 in
theorem went_any (L M : List Lv) (hbk : BookOk L M) (W : List Int) (A1 A2 AW : Option Addr) (c1 c2 cW : Nat) (t : FT) (lo : Nat) (a : FA) (w : World) (h : FSt w lo a t) (hs : PInv t.S) (hlo : lo ≤ w.heap.size) (hl : t.ev.length + W.length ≤ 100000)
    (h1 : ∃ xs, LP (fun k => ¬ a.R k) w A1 L xs) (h2 : ∃ xs, LP (fun k => ¬ a.R k) w A2 M xs) (h3 : RP (fun k => ¬ a.R k) w AW W.length 1 (irows W)) :
    Calls Tryz.prog 98 #[.pointer (some ⟨a.gs, 0, none⟩), .agg #[.slice A1 L.length c1, .slice A2 M.length c2], .slice AW W.length cW] w (FOutE lo a (wentF L M W t) w) := by
  have hb : Below w.heap.size w (w.alloc (.cells #[.slice A1 L.length c1, .slice A2 M.length c2] 54)) := below_then_alloc (Below.refl _ _)
  have hkp : Kp (fun k => ¬ a.R k) (fun k => ¬ a.R k) w (w.alloc (.cells #[.slice A1 L.length c1, .slice A2 M.length c2] 54)) := FA.kp (.of_below hb) (fun _ h => .inl h) rfl
  have H := Lib.hid (h.below hb); have HS := Lib.hid hs; have HBK := Lib.hid hbk
  have H1 := Lib.hid (h1.imp fun _ x => x.on hkp); have H2 := Lib.hid (h2.imp fun _ x => x.on hkp); have H3 := Lib.hid (h3.on hkp)
  have bb := Bk.new w 54 #[.slice A1 L.length c1, .slice A2 M.length c2]
  have HN := Lib.hid (show ¬ a.Q w.heap.size from fun e => by have := (h.q_lt _ e).2; omega)
  have hz := hb.size
  clear h hs h1 h2 h3 hbk hkp
  go_enter Tryz.func98, Tryz.ntmps98
  go_upto_region 1 with fail
  generalize w.alloc (.cells #[.slice A1 L.length c1, .slice A2 M.length c2] 54) = w1 at *
  go_wp2
  go_loopw [16] (fun i wr => ∃ (k : Nat) (tk : FT) (ak : FA), k ≤ W.length ∧ i = .int .i64 k ∧ Hid (FSt wr lo ak tk) ∧ Hid (FTo a w1 ak wr) ∧ ak.gs = a.gs ∧ Hid (wentF L M W t = wentF L M (W.drop k) tk) ∧ Hid (PInv tk.S) ∧ tk.ev.length = t.ev.length + k) (fun i _ => W.length - (intOf i).toNat)
  case atStart => exact ⟨0, t, a, by omega, rfl, H, Lib.hid (FTo.refl a w1), rfl, Lib.hid rfl, HS, rfl⟩
  case round =>
    obtain ⟨k, tk, ak, hk, rfl, HF, HT, hgs, HW, HP, hev⟩ := hrel
    by_cases hlt : k < W.length
    · obtain ⟨id, hid⟩ : ∃ id, W[k]? = some id := ⟨_, List.getElem?_eq_getElem hlt⟩
      have hdrop : W.drop k = id :: W.drop (k + 1) := by rw [List.drop_eq_getElem_cons hlt, (List.getElem?_eq_some_iff.1 hid).2]
      have HW2 := Lib.hid (show wentF L M W t = wentF L M (id :: W.drop (k + 1)) tk by rw [HW.out, hdrop])
      obtain ⟨b, off, rfl, hbW⟩ : ∃ b off, AW = some ⟨b, off, none⟩ ∧ wr.cell? ⟨b, off + k, none⟩ = some (.int .i64 id) := by
        obtain ⟨b, off, e, _, _, hc⟩ := HT.out.rp H3.out (by omega)
        refine ⟨b, off, e, ?_⟩
        rw [hc k (by omega), irows, List.getElem?_map, hid]; rfl
      have bw := HT.out.bk bb (fun e => HN.out e)
      obtain ⟨q0, q1⟩ := box2 bw
      have L1 := Lib.hid (H1.out.imp fun _ x => HT.out.lp x)
      have L2 := Lib.hid (H2.out.imp fun _ x => HT.out.lp x)
      have zz := HBK.out.sizes
      have cF := Lib.hid (bfind_any L M A1 A2 c1 c2 id wr (by obtain ⟨_, x⟩ := L1.out; exact x.lv) (by obtain ⟨_, x⟩ := L2.out; exact x.lv) zz.1.1 zz.2.1 _ rfl)
      clear hid hdrop zz bw
      have hzr := HT.out.ks.size
      by_cases hw0 : (whereB L M id).1 = 0
      · have hz5 : bfE L M id = 5 := by rw [bfE, if_neg (by simpa using bookE_iff.2 HBK.out), if_pos hw0]
        have HR := Lib.hid (show wentF L M W t = (5, tk) by rw [HW2.out, wentF, findB_none hw0])
        rw [hz5] at cF
        clear hw0 hz5
        go_wp2_with fail
        go_at_call 128
        refine cF.out.mono ?_
        rintro e w2 ⟨s', p', r0, r1, r2, r3, r4, ev', rfl, HX, hb2⟩
        obtain rfl : ev' = er 5 := by
          rcases HX.out with ⟨_, h, _⟩ | ⟨h, _⟩
          · exact h
          · exact absurd h (by decide)
        clear HX q0 q1 hbW
        go_wp2
        go_ret
        refine ⟨by rw [HR.out]; rfl, Lib.hid (fun h => by rw [HR.out] at h; cases h), Lib.hid ?_⟩
        exact ((FTo.of_below hb).trans HT.out).ks.trans (Ks.of_below (Q := ak.Q) (below_then_alloc hb2)) ((FTo.of_below hb).trans HT.out).q
      · have hz0 : bfE L M id = 0 := by rw [bfE, if_neg (by simpa using bookE_iff.2 HBK.out), if_neg hw0]
        rw [hz0] at cF
        have HWN := Lib.hid hw0
        have HGS := Lib.hid hgs
        clear hw0 hz0 hgs
        go_upto_region 5 with (go_at_call 128; refine cF.out.mono ?_; rintro e w2 ⟨s', p', r0, r1, r2, r3, r4, ev', rfl, HX, hb2⟩)
        obtain ⟨rfl, i, kk, x, hat, rfl⟩ : ev' = .nilIface ∧ ∃ i kk x, BAt L M id s' i kk x ⟨r0, r1, r2, r3, r4⟩ ∧ p' = x.price := by
          rcases HX.out with ⟨h, _⟩ | ⟨_, h, s, i, kk, x, r, hat, rfl, rfl, rfl⟩
          · exact absurd rfl h
          · exact ⟨h, i, kk, x, hat, rfl⟩
        have hs0 : s' ≠ 0 := by have := HWN.out; rw [hat.where_] at this; exact this
        have HFB := Lib.hid (findB_at hat hs0)
        have hre := err0 (rest_ok HBK.out hat)
        dsimp only at hre
        obtain ⟨g1, g2, g3, g4, _⟩ := hre
        have b3 := Bk.new w2 62 #[.int .i64 r0, .int .i64 r1, .int .i64 r2, .int .i64 r3, .int .i64 r4]
        have hb3 : Below wr.heap.size wr (w2.alloc (.cells #[.int .i64 r0, .int .i64 r1, .int .i64 r2, .int .i64 r3, .int .i64 r4] 62)) := below_then_alloc hb2
        have hg3 : wr.heap.size ≤ w2.heap.size := hb2.size
        clear HX cF q0 q1 hbW hat hs0 HWN hb2
        generalize w2.alloc (.cells #[.int .i64 r0, .int .i64 r1, .int .i64 r2, .int .i64 r3, .int .i64 r4] 62) = w3 at *
        generalize w2.heap.size = g3' at *
        have F3 := Lib.hid (HF.out.below hb3)
        have T3 := Lib.hid (HT.out.below hb3)
        have HN3 := Lib.hid (show ¬ ak.Q g3' from fun e => by have := (HF.out.q_lt _ e).2; omega)
        have cR := frelease_any tk lo ak ⟨r0, r1, r2, r3, r4⟩ s' x.price w3 F3.out HP.out.1
        rw [HGS.out] at cR
        obtain ⟨c0, cc1, cc2, c3, c4⟩ := pbox5 b3
        have hlo3 := T3.out.ks.size
        by_cases hr0 : (tk.release ⟨r0, r1, r2, r3, r4⟩ s' x.price).1 = 0
        · have HR := Lib.hid (show wentF L M W t = wentF L M (W.drop (k + 1)) ((tk.release ⟨r0, r1, r2, r3, r4⟩ s' x.price).2.tell 3 id (r2 + r3) x.price) by
            rw [HW2.out, wentF, HFB.out]; dsimp only; rw [if_neg (by simpa using hr0)])
          unfold FOut at cR
          rw [hr0, show errV 0 = .nilIface from rfl] at cR
          have CR := Lib.hid cR
          have HP4 := Lib.hid (release_inv HP.out ⟨r0, r1, r2, r3, r4⟩ s' x.price)
          have hev4 := release_ev tk ⟨r0, r1, r2, r3, r4⟩ s' x.price
          clear hr0 cR
          generalize (tk.release ⟨r0, r1, r2, r3, r4⟩ s' x.price).2 = t4 at *
          go_upto_region 10 with (go_at_call 101; refine CR.out.mono ?_; rintro e w4 ⟨rfl, HE⟩)
          obtain ⟨a4, hF4, hT4⟩ := HE.out
          have b4 := hT4.bk b3 HN3.out
          have HG4 := Lib.hid (hT4.gs.trans HGS.out)
          have T4 := Lib.hid (T3.out.trans hT4)
          have hlo4 := T4.out.ks.size
          have cT := tell_any t4 lo a4 3 id (r2 + r3) x.price w4 hF4 (by rw [hev4]; omega) (by omega)
          rw [HG4.out] at cT
          have CT := Lib.hid cT
          clear c0 cc1 cc2 c3 c4 HE CR cT hF4 hT4 b3
          obtain ⟨c0, cc1, cc2, c3, c4⟩ := pbox5 b4
          have HEV := Lib.hid hev4
          clear hev4 b4
          go_wp2_with (go_at_call 75; refine CT.out.mono ?_; rintro e w5 ⟨rfl, HE5⟩)
          obtain ⟨a5, hF5, hT5⟩ := HE5.out
          go_roundw
          case rel =>
            refine ⟨k + 1, _, a5, by omega, by go_num, Lib.hid hF5, Lib.hid (T4.out.trans hT5), hT5.gs.trans HG4.out, HR, HP4, ?_⟩
            show (t4.ev ++ [_]).length = _
            rw [List.length_append, HEV.out, List.length_singleton]
            omega
          case measure => simp [intOf]; omega
        · have HR := Lib.hid (show wentF L M W t = ((tk.release ⟨r0, r1, r2, r3, r4⟩ s' x.price).1, tk) by
            rw [HW2.out, wentF, HFB.out]; dsimp only; rw [if_pos hr0])
          unfold FOut at cR
          rw [show errV (tk.release ⟨r0, r1, r2, r3, r4⟩ s' x.price).1 = er (tk.release ⟨r0, r1, r2, r3, r4⟩ s' x.price).1 by rw [errV, if_neg hr0]] at cR
          have HNZ := Lib.hid hr0
          have CR := Lib.hid cR
          clear hr0 cR
          generalize (tk.release ⟨r0, r1, r2, r3, r4⟩ s' x.price).1 = E at *
          go_wp2_with (go_at_call 101; refine CR.out.mono ?_; rintro e w4 ⟨rfl, HE⟩)
          go_ret
          obtain ⟨a4, hF4, hT4⟩ := HE.out
          refine ⟨by rw [HR.out, errV, if_neg HNZ.out]; rfl, Lib.hid (fun h => by rw [HR.out] at h; exact absurd h HNZ.out), Lib.hid ((FTo.of_below hb).trans (T3.out.trans hT4)).ks⟩
    · obtain rfl : k = W.length := by omega
      have HR := Lib.hid (show wentF L M W t = (0, tk) by rw [HW.out, List.drop_length]; rfl)
      go_wp2
      go_ret
      exact ⟨by rw [HR.out]; rfl, Lib.hid (fun _ => by rw [HR.out]; exact ⟨ak, HF.out, (FTo.of_below hb).trans HT.out⟩), Lib.hid ((FTo.of_below hb).trans HT.out).ks⟩
end Go.Proofs.YtkdgpdijbobmkaaGreat
