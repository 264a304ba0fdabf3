/- A twin: New, Next, Floor; its look-ups. -/
import Derived.Test.YtkdgpdijbobmkaaGreatTwinM
namespace Go.Proofs.YtkdgpdijbobmkaaGreat
set_option linter.all false
open Go Go.RowKit Go.Maps
theorem ks_below {Q : Nat → Prop} {w w1 w2 : World} (h : Ks Q w w1) (hb : Below w1.heap.size w1 w2) : Ks Q w w2 := h.trans (Ks.of_below (Q := Q) hb) (fun _ h => .inl h)
theorem ks_grown {Q : Nat → Prop} {w w1 w2 : World} {row : Option Nat} (h : Ks Q w w1) (hg : w1.grownBy w2 row) (hr : ∀ k, row = some k → Q k) : Ks Q w w2 := h.trans (Ks.grown (Q := Q) hg (fun k e => .inl (hr k e))) (fun _ h => .inl h)
theorem flm_set {w : World} {X : Nat → Prop} {g gl j : Nat} {f : FS} (h : FlM w X g f) (hx : X gl) (hn : gl ≠ g) (v : Value) : FlM (w.setCell ⟨gl, j, none⟩ v) X g f :=
  h.grown (grown_set w ⟨gl, j, none⟩ v) (fun k e => by cases e; exact ⟨hx, hn⟩) (fun k e => .inl e) h.x (fun k e => by have := h.xlt k e; simp; exact this)
theorem bk_ks {Q : Nat → Prop} {w w' : World} {g : Nat} {t : TypeId} {cs : Array Value} (h : Ks Q w w') (hb : Bk w g t cs) (hn : ¬ Q g) : Bk w' g t cs := (h.block g hb.lt hn).trans hb
theorem tbox {w : World} {g : Nat} {t : TypeId} {x0 x1 x2 : Value} (h : Bk w g t #[x0, x1, x2]) : w.cell? ⟨g, 0, none⟩ = some x0 ∧ w.cell? ⟨g, 1, none⟩ = some x1 ∧ w.cell? ⟨g, 2, none⟩ = some x2 := ⟨h.cell 0, h.cell 1, h.cell 2⟩
def TNewPost (mode : Int) (w : World) (e : Ending) (w' : World) : Prop :=
  ∃ g, e = .returned (.tuple #[.pointer (some ⟨g, 0, none⟩), .nilIface]) ∧ Hid (TwM w' (fun k => w.heap.size ≤ k) (fun k => k < w.heap.size) g (TwS.new mode)) ∧ Below w.heap.size w w'
theorem tnew_any (mode : Int) (hm : inb mode 0 3 = true) (w : World) : Calls Tryz.prog 28 #[.int .i64 mode] w (TNewPost mode w) := by
  have hmm := @run_makeMap Tryz.prog
  have CN := Lib.hid (fnew_all mode hm w)
  clear hm
  go_enter Tryz.func28, Tryz.ntmps28
  go_wp2_with (go_at_call 16; refine CN.out.mono ?_; rintro e w1 ⟨g, rfl, hg, hM, hb⟩)
  go_ret2
  have hz := hM.out.lt
  have hz1 := hb.size
  have hb1 : Below w1.heap.size w1 (w1.alloc (.map #[] 0)) := below_then_alloc (Below.refl _ _)
  have hb2 : Below w1.heap.size w1 ((w1.alloc (.map #[] 0)).alloc (.cells #[.pointer (some ⟨g, 0, none⟩), .int .i64 1, .map (some w1.heap.size)] 119)) := below_then_alloc hb1
  have hm := MapM.made w1
  refine ⟨w1.heap.size + 1, by simp, Lib.hid ⟨fun k => (k = g ∨ k < w.heap.size) ∨ k = w1.heap.size ∨ k = w1.heap.size + 1, g, w1.heap.size, ?_, hM.out.grown (grown_of_below hb2 none) (fun k e => by cases e) (fun k e => ?_) (.inl (.inl rfl)) (fun k e => ?_), hm.grown (World.grownBy_alloc _ _ none) (fun e => by cases e), .inr (.inr rfl), .inr (.inl rfl), by omega, by omega, by omega, by show w.heap.size ≤ _; omega, hg, by show w.heap.size ≤ _; omega, fun k e => ⟨.inl (.inr e), by omega, by omega⟩⟩, below_then hb2 hb⟩
  · have h := Bk.new (w1.alloc (.map #[] 0)) 119 #[.pointer (some ⟨g, 0, none⟩), .int .i64 1, .map (some w1.heap.size)]
    rw [show (w1.alloc (.map #[] 0)).heap.size = w1.heap.size + 1 by simp] at h
    exact h
  · rcases e with e | e | e
    · exact .inl e
    · exact .inr (by omega)
    · exact .inr (by omega)
  · have : k < w1.heap.size + 2 := by
      rcases e with (e | e) | e | e <;> omega
    simpa using this
theorem tnew_bad (mode : Int) (hm : inb mode 0 3 = false) (w : World) : Calls Tryz.prog 28 #[.int .i64 mode] w fun e w' => e = .returned (.tuple #[.pointer none, er 1]) ∧ Below w.heap.size w w' := by
  have CN := Lib.hid (fnew_bad mode hm w)
  clear hm
  go_enter Tryz.func28, Tryz.ntmps28
  go_wp2_with (go_at_call 16; refine CN.out.mono ?_; rintro e w1 ⟨rfl, hb⟩)
  go_ret2
  exact ⟨rfl, hb⟩
section
variable {q r : Nat → Prop} {g : Nat} {s : TwS} {w : World}
theorem tnext_any (h : TwM w q r g s) : Calls Tryz.prog 32 #[.pointer (some ⟨g, 0, none⟩)] w fun e w' => e = .returned (.int .i64 s.next) ∧ w = w' := by
  obtain ⟨X, gf, b, hb, _⟩ := h
  obtain ⟨q0, q1, q2⟩ := tbox hb
  clear hb q0 q2
  go_enter Tryz.func32, Tryz.ntmps32
  go_wp2
  go_ret
  exact ⟨rfl, rfl⟩
theorem tfloor_any (h : TwM w q r g s) : Calls Tryz.prog 31 #[.pointer (some ⟨g, 0, none⟩)] w fun e w' => (∃ X gf, e = .returned (.pointer (some ⟨gf, 0, none⟩)) ∧ Hid (FlM w X gf s.f)) ∧ w = w' := by
  obtain ⟨X, gf, b, hb, hf, _⟩ := h
  obtain ⟨q0, q1, q2⟩ := tbox hb
  have HF := Lib.hid hf
  clear hb hf q1 q2
  go_enter Tryz.func31, Tryz.ntmps31
  go_wp2
  go_ret
  exact ⟨⟨X, gf, rfl, HF⟩, rfl⟩
end
theorem map_under : Tryz.prog.underlying 117 = some (.map 3 34) := Tryz.underlying117
theorem cmd_zeroV (w : World) : (zeroValue 34).run Tryz.prog w = .ok (.agg (Cmd.mk 0 ⟨0, 0, 0, 0, 0, 0, 0, 0⟩ 0 0).cells) w := by kernel_rfl
/-- what a look-up gives, in whatever world has the map as it is -/
theorem map_look {w : World} {b : Nat} {W : List (Int × Cmd)} (h : MapM w b W) {x : Int} (hx : -9223372036854775808 ≤ x ∧ x ≤ 9223372036854775807) :
    ∃ v : Cmd, (∀ c, wget W x = some c → v = c) ∧ ∀ w' : World, w'.heap[b]? = w.heap[b]? → (Instr.lookup 117 (.map (some b)) (.int .i64 x) true).run Tryz.prog w' = .ok (.tuple #[.agg v.cells, .bool (decide (x ∈ wkeys W))]) w' := by
  obtain ⟨D, ho, hr⟩ := h
  have hk : keyOf Tryz.prog 3 (.int .i64 x) = some (.int .i64 x) := keyOf_int_mk Tryz.underlying3 (WalkArith.wf_i64 hx)
  have hhas : Maps.has D (.int .i64 x) = decide (x ∈ wkeys W) := by rw [Bool.eq_iff_iff, hr.has x]; simp
  obtain ⟨es, clock, hb, F, hs, hD⟩ := ho
  have own : ∀ w' : World, w'.heap[b]? = w.heap[b]? → w'.ownsMap Tryz.prog 3 cmdElem b W.length D := fun w' e => ⟨es, clock, e.trans hb, F, hs, hD⟩
  obtain ⟨v, ps, hrun, hv⟩ := (own w rfl).look_ok i64_keyed map_under (cmd_zeroV w) (cmdElem_mk _) hk
  obtain ⟨c, rfl, hz⟩ := cmdElem_ex hv
  refine ⟨c, fun c' hc => ?_, fun w' e => ?_⟩
  · rw [Prod.mk.injEq, hr.at_ x c' (wget_mem hc)] at hz
    exact (cdat_inj hz.1).symm
  · obtain ⟨v', ps', hrun', hv'⟩ := (own w' e).look_ok i64_keyed map_under (cmd_zeroV w') (cmdElem_mk _) hk
    rw [hhas] at hrun'
    obtain ⟨c', rfl, hz'⟩ := cmdElem_ex hv'
    rw [Prod.mk.injEq] at hz hz'
    rw [cdat_inj (hz.1.symm.trans hz'.1)]
    exact hrun'
end Go.Proofs.YtkdgpdijbobmkaaGreat
