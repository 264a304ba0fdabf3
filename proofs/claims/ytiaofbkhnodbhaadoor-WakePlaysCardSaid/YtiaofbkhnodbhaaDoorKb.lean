/- Blocks that stay but for some. -/
import Derived.Test.YtiaofbkhnodbhaaDoorOrds
namespace Go.Proofs.YtiaofbkhnodbhaaDoor
set_option linter.all false
open Go Go.RowKit
structure Kb (rs : List (Option Nat)) (w w' : World) : Prop where
  os : w'.os = w.os
  tape : w'.tape = w.tape
  output : w'.output = w.output
  size : w.heap.size ≤ w'.heap.size
  block : ∀ b, b < w.heap.size → some b ∉ rs → w'.heap[b]? = w.heap[b]?
section
variable {rs : List (Option Nat)} {w w1 w2 : World}
theorem Kb.refl (rs : List (Option Nat)) (w : World) : Kb rs w w := ⟨rfl, rfl, rfl, Nat.le_refl _, fun _ _ _ => rfl⟩
theorem Kb.grown {row : Option Nat} (h : Kb rs w w1) (hg : w1.grownBy w2 row) (hr : row ∈ rs ∨ row = none ∨ ∃ k, row = some k ∧ w.heap.size ≤ k) : Kb rs w w2 := by
  refine ⟨hg.os.trans h.os, hg.tape.trans h.tape, hg.output.trans h.output, Nat.le_trans h.size hg.size, fun b hb hn => ?_⟩
  rw [hg.block b (Nat.lt_of_lt_of_le hb h.size) (fun e => ?_), h.block b hb hn]
  rcases hr with hr | rfl | ⟨k, rfl, hk⟩
  · exact hn (e ▸ hr)
  · cases e
  · cases e; omega
theorem Kb.below (h : Kb rs w w1) (hb : Below w1.heap.size w1 w2) : Kb rs w w2 := h.grown (grown_of_below hb none) (.inr (.inl rfl))
theorem Kb.of_below (hb : Below w.heap.size w w1) : Kb rs w w1 := (Kb.refl rs w).below hb
theorem Kb.set {p : Addr} (h : Kb rs w w1) (hp : some p.block ∈ rs ∨ w.heap.size ≤ p.block) (v : Value) : Kb rs w (w1.setCell p v) :=
  h.grown (grown_set w1 p v) (by rcases hp with hp | hp; exact .inl hp; exact .inr (.inr ⟨_, rfl, hp⟩))
theorem Kb.to_below {lo : Nat} (h : Kb rs w w1) (hlo : lo ≤ w.heap.size) (hr : ∀ k, some k ∈ rs → lo ≤ k) : Below lo w w1 :=
  ⟨h.os, h.tape, h.output, h.size, fun i hi => h.block i (by omega) (fun e => by have := hr i e; omega)⟩
theorem Kb.bk {b : Nat} {t : TypeId} {cs : Array Value} (h : Kb rs w w1) (hb : Bk w b t cs) (hn : some b ∉ rs) : Bk w1 b t cs := (h.block b hb.lt hn).trans hb
theorem Kb.own {base s n cap : Nat} {A : Option Addr} {xs : List Value} (h : Kb rs w w1) (o : OwnS w base s A n cap xs) (hn : rowOf A cap = none ∨ rowOf A cap ∉ rs) : OwnS w1 base s A n cap xs := by
  refine ⟨o.len, o.le, o.max, fun hc => ?_⟩
  obtain ⟨g, off, e, hb, hl, h1, h2⟩ := o.lies hc
  have hr : rowOf A cap = some g := by rw [rowOf, if_neg (by omega), e]; rfl
  have hblk := h.block g hl (by
    rcases hn with hn | hn
    · rw [hr] at hn; cases hn
    · rw [hr] at hn; exact hn)
  refine ⟨g, off, e, hb, Nat.lt_of_lt_of_le hl h.size, fun j hj => ?_, fun j hj => ⟨?_, ?_⟩⟩
  · exact (World.cell?_of_block (a := ⟨g, off + j, none⟩) hblk).trans (h1 j hj)
  · exact (congrArg Option.isSome (World.cell?_of_block (a := ⟨g, off + j, none⟩) hblk)).trans (h2 j hj).1
  · exact (World.frozen?_of_block (a := ⟨g, off + j, none⟩) hblk).trans (h2 j hj).2
theorem Kb.trans {qs : List (Option Nat)} (h : Kb rs w w1) (h2 : Kb qs w1 w2) (hq : ∀ k, some k ∈ qs → some k ∈ rs ∨ w.heap.size ≤ k) : Kb rs w w2 := by
  refine ⟨h2.os.trans h.os, h2.tape.trans h.tape, h2.output.trans h.output, Nat.le_trans h.size h2.size, fun b hb hn => ?_⟩
  rw [h2.block b (Nat.lt_of_lt_of_le hb h.size) (fun e => ?_), h.block b hb hn]
  rcases hq b e with h3 | h3
  · exact hn h3
  · omega
end
end Go.Proofs.YtiaofbkhnodbhaaDoor
