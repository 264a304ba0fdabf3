/- The contract of wire.Next. -/
import Derived.Test.YtodkhhanlhelnaaWireRd
import Derived.StillTailTactics
namespace Go.Proofs.Ytodkhhanlhelnaa
set_option linter.all false
open Go Go.RowKit
/-- where the first command ends -/
def nxE (b : ByteArray) : Nat := 1 + (byt b 0).toNat
open Classical in
/-- the first command of bytes, and what is left -/
noncomputable def nxC (b : ByteArray) : Option (Cmd × ByteArray) :=
  if b.size = 0 ∨ b.size < nxE b then none else match rdC (b.extract 1 (nxE b)) with
  | none => none
  | some c => some (c, b.extract (nxE b) b.size)
/-- how Next ends -/
def NxPost (b : ByteArray) (r : Option (Cmd × ByteArray)) (w : World) (e : Ending) (w' : World) : Prop :=
  (e = match r with
    | none => .returned (.tuple #[.agg cmd0.cells, .string b, .bool false])
    | some (c, t) => .returned (.tuple #[.agg c.cells, .string t, .bool true])) ∧ Below w.heap.size w w'
theorem nx_bad {b : ByteArray} {r : Option (Cmd × ByteArray)} {w w' : World} (h : r = none) (hb : Below w.heap.size w w') : NxPost b r w (.returned (.tuple #[.agg #[.int .i64 0, .int .i64 0, .int .i64 0, .int .i64 0, .int .i64 0, .int .i64 0, .int .i64 0, .int .i64 0, .int .i64 0, .int .i64 0, .int .i64 0], .string b, .bool false])) w' := by
  subst h; exact ⟨rfl, hb⟩
theorem nx_good {b t : ByteArray} {c : Cmd} {r : Option (Cmd × ByteArray)} {w w' : World} (h : r = some (c, t)) (hb : Below w.heap.size w w') : NxPost b r w (.returned (.tuple #[.agg c.cells, .string t, .bool true])) w' := by
  subst h; exact ⟨rfl, hb⟩
/-- three results: a variable that lies in memory, and two slots -/
theorem results_ctt {P : Program} {fn : Func} {tmps : Array Value} {c d d2 : Nat} {t : TypeId} {w : World} {p : Addr} {v u u2 : Value} (hf : fn.results = #[.cell c t, .tmp d, .tmp d2]) (hc : tmps.getD c undef = .pointer (some p)) (hd : tmps.getD d undef = u) (hd2 : tmps.getD d2 undef = u2) (hl : (loadVar t p).run P w = .ok v w) : (results fn tmps).run P w = .ok (.tuple #[v, u, u2]) w := by
  have hc' : tmps[c]?.getD undef = .pointer (some p) := by rw [← hc, Array.getD_eq_getD_getElem?]
  have hd' : tmps[d]?.getD undef = u := by rw [← hd, Array.getD_eq_getD_getElem?]
  have hd2' : tmps[d2]?.getD undef = u2 := by rw [← hd2, Array.getD_eq_getD_getElem?]
  unfold results
  rw [hf]
  generalize loadVar = F at hl ⊢
  simp [hc', hd', hd2', hl, asAddr, go_sem]
theorem size0 {b : ByteArray} (h : b.size = 0) : b = ⟨#[]⟩ := by
  obtain ⟨d⟩ := b
  have : d = #[] := Array.eq_empty_of_size_eq_zero h
  rw [this]
theorem toList_ne {b : ByteArray} (h : b.size ≠ 0) : b.toList ≠ [] := by
  rw [ByteArray.toList_eq]
  intro e
  have : b.data.toList.length = 0 := by rw [e]; rfl
  exact h (by simpa using this)
set_option maxRecDepth 100000 in
set_option maxHeartbeats 4000000 in
theorem next_any (b : ByteArray) (hmx : b.size ≤ maxLen) (w : World) : Calls Try.prog 24 #[.string b] w (NxPost b (nxC b) w) := by
  by_cases h0 : b.size = 0
  · have HR := Lib.hid (show nxC b = none by rw [nxC, if_pos (.inl h0)])
    obtain rfl := size0 h0
    clear h0 hmx
    go_enter Try.func24, Try.ntmps24
    go_wp2
    refine bodyPost_ret (v := .tuple #[.agg #[.int .i64 0, .int .i64 0, .int .i64 0, .int .i64 0, .int .i64 0, .int .i64 0, .int .i64 0, .int .i64 0, .int .i64 0, .int .i64 0, .int .i64 0], .string ⟨#[]⟩, .bool false]) (by simp [results, Try.results24, go_sem]) rfl (nx_bad HR.out ?_)
    (repeat (first | exact Below.refl _ _ | assumption | (refine below_then (by assumption) ?_) | (refine below_then_alloc ?_) | (refine Below.drew ?_)))
  have h1 := byt_in b 0
  have hk : (byt b 0).toNat = (b[0]'(by omega)).toNat := by rw [byt, dif_pos (by omega)]; omega
  unfold maxLen at hmx
  have e1 : b.toList ≠ [] := toList_ne h0
  have e2 : b.toList.isEmpty = false := by simpa using e1
  have e3 : (b.toList == []) = false := by simpa using e1
  have g1 : (0 : Int) < (b.size : Int) := by omega
  have hu := (b[0]'(by omega)).toNat_lt
  by_cases h2 : b.size < nxE b
  · have HR := Lib.hid (show nxC b = none by rw [nxC, if_pos (.inr h2)])
    unfold nxE at h2
    rw [hk] at h2
    have g2 : (b.size : Int) < (1 : Int) + ((b[0]'(by omega)).toNat : Int) := by omega
    clear h1 h2 hk
    go_enter Try.func24, Try.ntmps24
    go_wp2
    refine bodyPost_ret (v := .tuple #[.agg #[.int .i64 0, .int .i64 0, .int .i64 0, .int .i64 0, .int .i64 0, .int .i64 0, .int .i64 0, .int .i64 0, .int .i64 0, .int .i64 0, .int .i64 0], .string b, .bool false]) (by simp [results, Try.results24, go_sem]) rfl (nx_bad HR.out ?_)
    (repeat (first | exact Below.refl _ _ | assumption | (refine below_then (by assumption) ?_) | (refine below_then_alloc ?_) | (refine Below.drew ?_)))
  have hmp : (b.extract 1 (nxE b)).size ≤ maxLen := by rw [ByteArray.size_extract]; unfold maxLen; omega
  have cR := Lib.hid (fun w => read_any (b.extract 1 (nxE b)) hmp w)
  have g2 : ¬ (b.size : Int) < (1 : Int) + ((b[0]'(by omega)).toNat : Int) := by unfold nxE at h2; rw [hk] at h2; omega
  have g3 : (1 : Int) + ((b[0]'(by omega)).toNat : Int) ≤ (b.size : Int) := by omega
  have g4 : ((1 : Int) + ((b[0]'(by omega)).toNat : Int)).toNat = nxE b := by unfold nxE; rw [hk]; omega
  have hr : nxC b = match rdC (b.extract 1 (nxE b)) with
    | none => none
    | some c => some (c, b.extract (nxE b) b.size) := by rw [nxC, if_neg (by omega)]
  cases hc : rdC (b.extract 1 (nxE b)) with
  | none =>
    rw [hc] at hr cR
    have HR := Lib.hid hr
    clear hr hc h1 h2 hk hmp
    change Hid (∀ w, Calls _ _ _ _ fun e w' => e = .returned (.tuple #[.agg #[.int .i64 0, .int .i64 0, .int .i64 0, .int .i64 0, .int .i64 0, .int .i64 0, .int .i64 0, .int .i64 0, .int .i64 0, .int .i64 0, .int .i64 0], er 2]) ∧ Below w.heap.size w w') at cR
    have cz := cmd_zero
    go_enter Try.func24, Try.ntmps24
    go_upto_region 4 with fail
    clear e1 e2 e3
    go_wp2_with fail
    go_at_call 8
    refine (cR.out _).mono ?_
    rintro e w1 ⟨rfl, hb1⟩
    have b0 : Bk _ w.heap.size 25 #[.int .i64 0, .int .i64 0, .int .i64 0, .int .i64 0, .int .i64 0, .int .i64 0, .int .i64 0, .int .i64 0, .int .i64 0, .int .i64 0, .int .i64 0] := ((Bk.new w 25 #[.int .i64 0, .int .i64 0, .int .i64 0, .int .i64 0, .int .i64 0, .int .i64 0, .int .i64 0, .int .i64 0, .int .i64 0, .int .i64 0, .int .i64 0])).keep hb1
    have hb := below_then hb1 ((Below.refl w.heap.size w).alloc (Nat.le_refl _) (.cells #[.int .i64 0, .int .i64 0, .int .i64 0, .int .i64 0, .int .i64 0, .int .i64 0, .int .i64 0, .int .i64 0, .int .i64 0, .int .i64 0, .int .i64 0] 25))
    have HTH := Lib.hid (b0.alloc (.cells #[.int .i64 0, .int .i64 0, .int .i64 0, .int .i64 0, .int .i64 0, .int .i64 0, .int .i64 0, .int .i64 0, .int .i64 0, .int .i64 0, .int .i64 0] 25)).there
    have HRD := Lib.hid (cmd_read ((b0.alloc (.cells #[.int .i64 0, .int .i64 0, .int .i64 0, .int .i64 0, .int .i64 0, .int .i64 0, .int .i64 0, .int .i64 0, .int .i64 0, .int .i64 0, .int .i64 0] 25)).setCs (vs := (#[.int .i64 0, .int .i64 0, .int .i64 0, .int .i64 0, .int .i64 0, .int .i64 0, .int .i64 0, .int .i64 0, .int .i64 0, .int .i64 0, .int .i64 0] : Array Value).toList) rfl) rfl)
    have HF := Lib.hid (below_Cs (vs := (#[.int .i64 0, .int .i64 0, .int .i64 0, .int .i64 0, .int .i64 0, .int .i64 0, .int .i64 0, .int .i64 0, .int .i64 0, .int .i64 0, .int .i64 0] : Array Value).toList) (i := 0) (g := w.heap.size) (by omega) (below_then_alloc (o := .cells #[.int .i64 0, .int .i64 0, .int .i64 0, .int .i64 0, .int .i64 0, .int .i64 0, .int .i64 0, .int .i64 0, .int .i64 0, .int .i64 0, .int .i64 0] 25) hb))
    clear b0 hb hb1 cR g1 g2 g3 g4 hu
    go_wp2_with (refine wpList_store_mid (by rfl) 25 _ _ (by rfl) _ 0 #[.int .i64 0, .int .i64 0, .int .i64 0, .int .i64 0, .int .i64 0, .int .i64 0, .int .i64 0, .int .i64 0, .int .i64 0, .int .i64 0, .int .i64 0] (by rfl) (by rfl) HTH.out cmd_size (cmd_one cmd0) ?_)
    exact bodyPost_ret (v := .tuple #[.agg #[.int .i64 0, .int .i64 0, .int .i64 0, .int .i64 0, .int .i64 0, .int .i64 0, .int .i64 0, .int .i64 0, .int .i64 0, .int .i64 0, .int .i64 0], .string b, .bool false]) (results_ctt Try.results24 rfl rfl rfl HRD.out) rfl (nx_bad HR.out HF.out)
  | some c =>
    rw [hc] at hr cR
    have HR := Lib.hid hr
    clear hr hc h1 h2 hk hmp
    change Hid (∀ w, Calls _ _ _ _ fun e w' => e = .returned (.tuple #[.agg c.cells, .nilIface]) ∧ Below w.heap.size w w') at cR
    go_enter Try.func24, Try.ntmps24
    go_upto_region 4 with fail
    clear e1 e2 e3
    go_upto_region 7 with (go_at_call 8; refine (cR.out _).mono ?_; rintro e w1 ⟨rfl, hb1⟩)
    have b0 : Bk _ w.heap.size 25 #[.int .i64 0, .int .i64 0, .int .i64 0, .int .i64 0, .int .i64 0, .int .i64 0, .int .i64 0, .int .i64 0, .int .i64 0, .int .i64 0, .int .i64 0] := ((Bk.new w 25 #[.int .i64 0, .int .i64 0, .int .i64 0, .int .i64 0, .int .i64 0, .int .i64 0, .int .i64 0, .int .i64 0, .int .i64 0, .int .i64 0, .int .i64 0])).keep hb1
    have hb := below_then_alloc (o := .cells c.cells 25) (below_then hb1 ((Below.refl w.heap.size w).alloc (Nat.le_refl _) (.cells #[.int .i64 0, .int .i64 0, .int .i64 0, .int .i64 0, .int .i64 0, .int .i64 0, .int .i64 0, .int .i64 0, .int .i64 0, .int .i64 0, .int .i64 0] 25)))
    replace b0 := b0.alloc (.cells c.cells 25)
    have b1 := Bk.new w1 25 c.cells
    clear hb1 cR
    generalize w1.alloc (.cells c.cells 25) = w2 at *
    generalize w1.heap.size = gx at *
    obtain ⟨q0, q1, q2, q3, q4, q5, q6, q7, q8, q9, q10⟩ := box11 b1
    obtain ⟨z0, z1, z2, z3, z4, z5, z6, z7, z8, z9, z10⟩ := box11 b0
    have y0 := b0.free 0; have y1 := b0.free 1; have y2 := b0.free 2; have y3 := b0.free 3; have y4 := b0.free 4; have y5 := b0.free 5; have y6 := b0.free 6; have y7 := b0.free 7; have y8 := b0.free 8; have y9 := b0.free 9; have y10 := b0.free 10
    have HB := Lib.hid (And.intro b0 hb)
    clear b0 b1 hb
    go_region
    have HRD := Lib.hid (cmd_read (HB.out.1.set11 (.int .i64 c.what) (.int .i64 c.o.id) (.int .i64 c.o.who) (.int .i64 c.o.side) (.int .i64 c.o.kind) (.int .i64 c.o.price) (.int .i64 c.o.qty) (.int .i64 c.o.show_) (.int .i64 c.o.stop) (.int .i64 c.who) (.int .i64 c.n)).drew rfl)
    clear q0 q1 q2 q3 q4 q5 q6 q7 q8 q9 q10 z0 z1 z2 z3 z4 z5 z6 z7 z8 z9 z10 y0 y1 y2 y3 y4 y5 y6 y7 y8 y9 y10
    go_wp2
    exact bodyPost_ret (v := .tuple #[.agg c.cells, .string (b.extract (nxE b) b.size), .bool true]) (results_ctt Try.results24 rfl rfl rfl HRD.out) rfl (nx_good HR.out (below_set11 (Nat.le_refl _) HB.out.2 _ _ _ _ _ _ _ _ _ _ _).drew)
end Go.Proofs.Ytodkhhanlhelnaa
