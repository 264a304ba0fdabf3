/- A twin in memory: its map of those that wait. -/
import Derived.Test.YtkdgpdijbobmkaaGreatTwinP
import Derived.Maps.OwnSet
import Derived.Maps.Views
import Derived.Lib.SlKeysI
namespace Go.Proofs.YtkdgpdijbobmkaaGreat
set_option linter.all false
open Go Go.RowKit Go.Maps
def cdat (c : Cmd) : DataW Unit := .agg [.lit (.int .i64 c.what), .lit (.int .i64 c.o.id), .lit (.int .i64 c.o.who), .lit (.int .i64 c.o.side), .lit (.int .i64 c.o.kind), .lit (.int .i64 c.o.price), .lit (.int .i64 c.o.qty), .lit (.int .i64 c.o.show_), .lit (.int .i64 c.o.stop), .lit (.int .i64 c.who), .lit (.int .i64 c.n)]
/-- how a command reads as an element of a map -/
def cmdElem : Value → Option (DataW Unit × List MemPlace)
  | .agg ⟨[.int .i64 a0, .int .i64 a1, .int .i64 a2, .int .i64 a3, .int .i64 a4, .int .i64 a5, .int .i64 a6, .int .i64 a7, .int .i64 a8, .int .i64 a9, .int .i64 a10]⟩ => some (cdat ⟨a0, ⟨a1, a2, a3, a4, a5, a6, a7, a8⟩, a9, a10⟩, [])
  | _ => none
theorem cmdElem_mk (c : Cmd) : cmdElem (.agg c.cells) = some (cdat c, []) := rfl
theorem cdat_inj {a b : Cmd} (h : cdat a = cdat b) : a = b := by
  obtain ⟨a0, ⟨a1, a2, a3, a4, a5, a6, a7, a8⟩, a9, a10⟩ := a
  obtain ⟨b0, ⟨b1, b2, b3, b4, b5, b6, b7, b8⟩, b9, b10⟩ := b
  simp only [cdat, DataW.agg.injEq, List.cons.injEq, DataW.lit.injEq, Lit.int.injEq, true_and, and_true] at h
  obtain ⟨rfl, rfl, rfl, rfl, rfl, rfl, rfl, rfl, rfl, rfl, rfl⟩ := h
  rfl
theorem cmdElem_ex {v : Value} {z : DataW Unit × List MemPlace} (h : cmdElem v = some z) : ∃ c : Cmd, v = .agg c.cells ∧ z = (cdat c, []) := by
  unfold cmdElem at h
  split at h
  · cases h
    exact ⟨⟨_, ⟨_, _, _, _, _, _, _, _⟩, _, _⟩, rfl, rfl⟩
  · cases h
theorem cmdElem_inv {v : Value} {c : Cmd} {ps : List MemPlace} (h : cmdElem v = some (cdat c, ps)) : v = .agg c.cells := by
  obtain ⟨c', hv, hz⟩ := cmdElem_ex h
  rw [Prod.mk.injEq] at hz
  rw [hv, cdat_inj hz.1]
/-- the datum of those that wait -/
structure WRep (D : DataW Unit) (W : List (Int × Cmd)) : Prop where
  tidy : Tidy D
  nd : (wkeys W).Nodup
  has : ∀ x : Int, has D (.int .i64 x) = true ↔ x ∈ wkeys W
  at_ : ∀ x c, (x, c) ∈ W → ∀ z, D.atKey (.int .i64 x) z = cdat c
  size : size D = W.length
theorem WRep.nil : WRep (.map []) [] := ⟨tidy_empty, by simp [wkeys], fun x => by simp [wkeys, has_eq], fun x c h => by simp at h, rfl⟩
theorem isKey_i64 (x : Int) : WideAt.IsKeyLit (.int .i64 x) := trivial
theorem lit_ne {x y : Int} (h : x ≠ y) : (Lit.int .i64 x) ≠ .int .i64 y := fun e => h (by cases e; rfl)
section
variable {D : DataW Unit} {W : List (Int × Cmd)} {x : Int} {c : Cmd}
theorem WRep.has_false (h : WRep D W) (hx : x ∉ wkeys W) : Maps.has D (.int .i64 x) = false := by
  cases e : Maps.has D (.int .i64 x)
  · rfl
  · exact absurd ((h.has x).1 e) hx
theorem WRep.put (h : WRep D W) (hx : x ∉ wkeys W) : WRep (D.put (.int .i64 x) (cdat c)) (W ++ [(x, c)]) := by
  refine ⟨h.tidy.put (isKey_i64 x) _, ?_, fun y => ?_, fun y d hy z => ?_, ?_⟩
  · unfold wkeys
    rw [List.map_append, List.nodup_append]
    refine ⟨h.nd, by simp, fun a ha b hb e => ?_⟩
    rw [List.map_cons, List.map_nil, List.mem_singleton] at hb
    subst hb
    exact hx (e ▸ ha)
  · have hk : y ∈ wkeys (W ++ [(x, c)]) ↔ y ∈ wkeys W ∨ y = x := by simp [wkeys]
    rw [hk]
    by_cases e : y = x
    · subst e
      rw [has_put_same h.tidy.isMap (isKey_i64 y)]
      simp
    · rw [has_put_other (lit_ne e), h.has y]
      simp [e]
  · rw [List.mem_append, List.mem_singleton] at hy
    rcases hy with hy | hy
    · have hne : y ≠ x := fun e => hx (by rw [← e]; exact List.mem_map.2 ⟨_, hy, rfl⟩)
      rw [atKey_put_other (lit_ne hne)]
      exact h.at_ y d hy z
    · cases hy
      exact atKey_put_same h.tidy.isMap (isKey_i64 _) _ _
  · rw [size_put h.tidy, h.has_false hx, if_neg (by simp), h.size, List.length_append]; rfl
theorem WRep.del (h : WRep D W) (hx : x ∈ wkeys W) : WRep (D.del (.int .i64 x)) (wdel W x) := by
  refine ⟨h.tidy.del _, by rw [wkeys_del]; exact h.nd.filter _, fun y => ?_, fun y d hy z => ?_, ?_⟩
  · rw [wkeys_del, List.mem_filter]
    by_cases e : y = x
    · subst e
      rw [has_del_same]
      simp
    · rw [has_del_other (lit_ne e), h.has y]
      simp [e]
  · rw [wdel_mem] at hy
    rw [atKey_del_other (lit_ne hy.2)]
    exact h.at_ y d hy.1 z
  · have h1 := size_del (k := (.int .i64 x)) h.tidy
    rw [(h.has x).2 hx, if_pos rfl, h.size] at h1
    have h2 := wdel_len h.nd hx
    omega
end
theorem own_exact {P : Program} {k : TypeId} {R : Value → Option (DataW Unit × List MemPlace)} {w : World} {b n : Nat} {D : DataW Unit} (h : w.ownsMap P k R b n D) : w.ownsMap P k R b (Maps.size D) D := by
  obtain ⟨es, clock, hb, F, _, rfl⟩ := h
  exact ⟨es, clock, hb, F, by rw [Maps.size_eq, length_sorted]; simp, rfl⟩
theorem i64_keyed : Keyed Tryz.prog 3 := int_keyed Tryz.underlying3
/-- a map of those that wait, in block b -/
def MapM (w : World) (b : Nat) (W : List (Int × Cmd)) : Prop := ∃ D, w.ownsMap Tryz.prog 3 cmdElem b W.length D ∧ WRep D W
section
variable {w w' : World} {b : Nat} {W : List (Int × Cmd)}
theorem MapM.lt (h : MapM w b W) : b < w.heap.size := by obtain ⟨D, h, _⟩ := h; exact h.lt
theorem MapM.grown {row : Option Nat} (h : MapM w b W) (hg : w.grownBy w' row) (hn : row ≠ some b) : MapM w' b W := by
  obtain ⟨D, h, hr⟩ := h
  exact ⟨D, h.kept hg (fun e => hn e.symm), hr⟩
theorem MapM.below (h : MapM w b W) (hb : Below w.heap.size w w') : MapM w' b W := h.grown (grown_of_below hb none) (fun e => by cases e)
theorem MapM.made (w : World) : MapM (w.alloc (.map #[] 0)) w.heap.size [] := ⟨_, World.ownsMap_made w _ _ _, .nil⟩
end
/-- a twin in memory: what of it is written lies in blocks q, what it holds lies apart from the blocks r of others -/
def TwM (w : World) (q r : Nat → Prop) (g : Nat) (s : TwS) : Prop :=
  ∃ X gf b, Bk w g 119 #[.pointer (some ⟨gf, 0, none⟩), .int .i64 s.next, .map (some b)] ∧ FlM w X gf s.f ∧ MapM w b s.W ∧ X g ∧ X b ∧ g ≠ gf ∧ b ≠ g ∧ b ≠ gf ∧ q g ∧ q gf ∧ q b ∧ ∀ k, r k → X k ∧ k ≠ g ∧ k ≠ b
theorem TwM.below {w w' : World} {q r : Nat → Prop} {g : Nat} {s : TwS} (h : TwM w q r g s) (hb : Below w.heap.size w w') : TwM w' q r g s := by
  obtain ⟨X, gf, b, h1, h2, h3, h4⟩ := h
  exact ⟨X, gf, b, h1.keep hb, h2.below hb, h3.below hb, h4⟩
end Go.Proofs.YtkdgpdijbobmkaaGreat
