/- A twin: the contract of Hear. -/
import Derived.Test.YtkdgpdijbobmkaaGreatTwinN
import Derived.Deep.LoopGhost
import Derived.Deep.CutBlock
import Derived.Deep.DeepCutAuto
import Derived.StillTailTactics
namespace Go.Proofs.YtkdgpdijbobmkaaGreat
set_option linter.all false
open Go Go.RowKit Go.Maps
/-- a twin in memory, its parts named -/
structure TwC (w : World) (q r X : Nat → Prop) (g gf b : Nat) (s : TwS) : Prop where
  bk : Bk w g 119 #[.pointer (some ⟨gf, 0, none⟩), .int .i64 s.next, .map (some b)]
  fl : FlM w X gf s.f
  mp : MapM w b s.W
  xg : X g
  xb : X b
  n1 : g ≠ gf
  n2 : b ≠ g
  n3 : b ≠ gf
  qg : q g
  qf : q gf
  qb : q b
  r : ∀ k, r k → X k ∧ k ≠ g ∧ k ≠ b
section
variable {w w' : World} {q r X : Nat → Prop} {g gf b : Nat} {s : TwS}
theorem TwM.parts (h : TwM w q r g s) : ∃ X gf b, TwC w q r X g gf b s := by
  obtain ⟨X, gf, b, h1, h2, h3, h4, h5, h6, h7, h8, h9, h10, h11, h12⟩ := h
  exact ⟨X, gf, b, h1, h2, h3, h4, h5, h6, h7, h8, h9, h10, h11, h12⟩
theorem TwC.whole (h : TwC w q r X g gf b s) : TwM w q r g s := ⟨X, gf, b, h.bk, h.fl, h.mp, h.xg, h.xb, h.n1, h.n2, h.n3, h.qg, h.qf, h.qb, h.r⟩
theorem TwC.below (h : TwC w q r X g gf b s) (hb : Below w.heap.size w w') : TwC w' q r X g gf b s :=
  ⟨h.bk.keep hb, h.fl.below hb, h.mp.below hb, h.xg, h.xb, h.n1, h.n2, h.n3, h.qg, h.qf, h.qb, h.r⟩
theorem TwC.turn {W' : List (Int × Cmd)} (h : TwC w q r X g gf b s) (hg : w.grownBy w' (some b)) (hm : MapM w' b W') : TwC w' q r X g gf b ⟨s.f, s.next, W'⟩ :=
  ⟨h.bk.grown hg (fun e => h.n2 (Option.some.inj e).symm), h.fl.grown hg (fun k e => by cases e; exact ⟨h.xb, h.n3⟩) (fun k e => .inl e) h.fl.x (fun k e => Nat.lt_of_lt_of_le (h.fl.xlt k e) hg.size), hm, h.xg, h.xb, h.n1, h.n2, h.n3, h.qg, h.qf, h.qb, h.r⟩
theorem TwC.nexts (h : TwC w q r X g gf b s) (n : Int) : TwC (w.setCell ⟨g, 1, none⟩ (.int .i64 n)) q r X g gf b ⟨s.f, n, s.W⟩ :=
  ⟨h.bk.set_ 1 (.int .i64 n), flm_set h.fl h.xg h.n1 _, h.mp.grown (grown_set w ⟨g, 1, none⟩ _) (fun e => h.n2 (Option.some.inj e).symm), h.xg, h.xb, h.n1, h.n2, h.n3, h.qg, h.qf, h.qb, h.r⟩
theorem TwC.does {f' : FS} (h : TwC w q r X g gf b s) (hf : FlM w' X gf f') (hg : w.grownBy w' (some gf)) : TwC w' q r X g gf b ⟨f', s.next, s.W⟩ :=
  ⟨h.bk.grown hg (fun e => h.n1 (Option.some.inj e)), hf, h.mp.grown hg (fun e => h.n3 (Option.some.inj e).symm), h.xg, h.xb, h.n1, h.n2, h.n3, h.qg, h.qf, h.qb, h.r⟩
end
theorem MapM.putD {w : World} {b : Nat} {W : List (Int × Cmd)} (h : MapM w b W) : ∃ D, w.ownsMap Tryz.prog 3 cmdElem b W.length D ∧ WRep D W := h
theorem MapM.of_put {w : World} {b : Nat} {W : List (Int × Cmd)} {D : DataW Unit} {x : Int} {c : Cmd} (h : w.ownsMap Tryz.prog 3 cmdElem b (W.length + 1) (D.put (.int .i64 x) (cdat c))) (hr : WRep D W) (hx : x ∉ wkeys W) : MapM w b (W ++ [(x, c)]) :=
  ⟨_, by rw [List.length_append]; exact h, hr.put hx⟩
theorem MapM.of_del {w : World} {b n : Nat} {W : List (Int × Cmd)} {D : DataW Unit} {x : Int} (h : w.ownsMap Tryz.prog 3 cmdElem b n (D.del (.int .i64 x))) (hr : WRep D W) (hx : x ∈ wkeys W) : MapM w b (wdel W x) :=
  ⟨_, by rw [← (hr.del hx).size]; exact own_exact h, hr.del hx⟩
/-- how Hear ends -/
def HearPost (z : Int × Int × TwS) (q r : Nat → Prop) (g : Nat) (w : World) (e : Ending) (w' : World) : Prop := e = .returned (.tuple #[.int .i64 z.2.1, errV z.1]) ∧ Hid (TwM w' q r g z.2.2) ∧ Ks q w w'
theorem hear_end {z : Int × Int × TwS} {q r : Nat → Prop} {g : Nat} {w w' : World} {E n : Int} {s' : TwS} {v : Value} (h : z = (E, n, s')) (hv : v = errV E) (hm : TwM w' q r g s') (hk : Ks q w w') : HearPost z q r g w (.returned (.tuple #[.int .i64 n, v])) w' := by
  subst h hv
  exact ⟨rfl, Lib.hid hm, hk⟩
set_option maxRecDepth 100000 in
set_option maxHeartbeats 8000000 in
theorem hear_any (s : TwS) (seq : Int) (c : Cmd) (q r : Nat → Prop) (g : Nat) (w : World) (h : TwM w q r g s) (hok : TwOk s) (hlo : ∀ k, w.heap.size ≤ k → q k) :
    Calls Tryz.prog 29 #[.pointer (some ⟨g, 0, none⟩), .int .i64 seq, .agg #[.int .i64 c.what, .int .i64 c.o.id, .int .i64 c.o.who, .int .i64 c.o.side, .int .i64 c.o.kind, .int .i64 c.o.price, .int .i64 c.o.qty, .int .i64 c.o.show_, .int .i64 c.o.stop, .int .i64 c.who, .int .i64 c.n]] w (HearPost (s.hear seq c) q r g w) := by
  obtain ⟨X, gf, b, hc⟩ := h.parts
  have hb : Below w.heap.size w (w.alloc (.cells #[.int .i64 c.what, .int .i64 c.o.id, .int .i64 c.o.who, .int .i64 c.o.side, .int .i64 c.o.kind, .int .i64 c.o.price, .int .i64 c.o.qty, .int .i64 c.o.show_, .int .i64 c.o.stop, .int .i64 c.who, .int .i64 c.n] 34)) := below_then_alloc (Below.refl _ _)
  have HC := Lib.hid (hc.below hb); have HOK := Lib.hid hok; have HB := Lib.hid (Ks.of_below (Q := q) hb)
  have HLO := Lib.hid hlo
  have bo := Bk.new w 34 #[.int .i64 c.what, .int .i64 c.o.id, .int .i64 c.o.who, .int .i64 c.o.side, .int .i64 c.o.kind, .int .i64 c.o.price, .int .i64 c.o.qty, .int .i64 c.o.show_, .int .i64 c.o.stop, .int .i64 c.who, .int .i64 c.n]
  clear h hc hok hlo hb
  go_enter Tryz.func29, Tryz.ntmps29
  go_upto_region 1 with fail
  generalize w.alloc (.cells #[.int .i64 c.what, .int .i64 c.o.id, .int .i64 c.o.who, .int .i64 c.o.side, .int .i64 c.o.kind, .int .i64 c.o.price, .int .i64 c.o.qty, .int .i64 c.o.show_, .int .i64 c.o.stop, .int .i64 c.who, .int .i64 c.n] 34) = w1 at *
  have hin : inb seq 1 100000 = true ∨ inb seq 1 100000 = false := by cases inb seq 1 100000 <;> simp
  rcases hin with hin | hin
  case inr =>
    have HR := Lib.hid (show s.hear seq c = (1, 0, s) from if_pos hin)
    have hor : seq < 1 ∨ (1 ≤ seq ∧ 100000 < seq) := by
      have : ¬ (1 ≤ seq ∧ seq ≤ 100000) := fun h => by simp [inb, h.1, h.2] at hin
      omega
    clear hin
    rcases hor with h1 | ⟨h1, h2⟩
    all_goals
      go_wp2
      go_ret2
      exact hear_end HR.out rfl HC.out.whole HB.out
  have HR := Lib.hid (show s.hear seq c = if c.err ≠ 0 then (c.err, 0, s) else if seq < s.next ∨ seq ∈ wkeys s.W then (0, 0, s) else if 60 ≤ s.W.length then (4, 0, s) else (0, drainT 61 0 ⟨s.f, s.next, s.W ++ [(seq, c)]⟩) from if_neg (by rw [hin]; simp))
  have HIN := Lib.hid hin
  have hs : 1 ≤ seq ∧ seq ≤ 100000 := by simpa [inb] using hin
  obtain ⟨hs1, hs2⟩ := hs
  clear hin
  obtain ⟨o0, o1, o2, o3, o4, o5, o6, o7, o8, o9, o10⟩ := box11 bo
  have BO := Lib.hid bo
  have cC := wcheck_any c w1
  clear bo
  by_cases hce : c.err = 0
  case neg =>
    have HR2 := Lib.hid (show s.hear seq c = (c.err, 0, s) by rw [HR.out, if_pos hce])
    rw [errV, if_neg hce] at cC
    have CC := Lib.hid cC
    have HE := Lib.hid (show er c.err = errV c.err by rw [errV, if_neg hce])
    clear hce cC HR
    generalize c.err = E at *
    go_wp2_with (go_at_call 33; (with_reducible refine CC.out.mono ?_); rintro e w2 ⟨rfl, hb2⟩)
    go_ret2
    exact hear_end HR2.out HE.out (HC.out.below hb2).whole (ks_below HB.out hb2)
  have HR2 := Lib.hid (show s.hear seq c = if seq < s.next ∨ seq ∈ wkeys s.W then (0, 0, s) else if 60 ≤ s.W.length then (4, 0, s) else (0, drainT 61 0 ⟨s.f, s.next, s.W ++ [(seq, c)]⟩) by rw [HR.out, if_neg (by simpa using hce)])
  rw [hce, show errV 0 = Value.nilIface from rfl] at cC
  have CC := Lib.hid cC
  clear hce cC HR
  go_upto_region 6 with (go_at_call 33; (with_reducible refine CC.out.mono ?_); rintro e w2 ⟨rfl, hb2⟩)
  have HC2 := Lib.hid (HC.out.below hb2)
  have HB2 := Lib.hid (ks_below HB.out hb2)
  have BO2 := Lib.hid (BO.out.keep hb2)
  obtain ⟨v, hv, hrun⟩ := map_look HC2.out.mp (x := seq) ⟨by omega, by omega⟩
  have hl := hrun w2 rfl
  obtain ⟨q0, q1, q2⟩ := tbox HC2.out.bk
  clear hv hrun CC hb2 HC HB BO o0 o1 o2 o3 o4 o5 o6 o7 o8 o9 o10 q0 q1
  have hb3 : Below w2.heap.size w2 (w2.alloc (.cells #[.int .i64 v.what, .int .i64 v.o.id, .int .i64 v.o.who, .int .i64 v.o.side, .int .i64 v.o.kind, .int .i64 v.o.price, .int .i64 v.o.qty, .int .i64 v.o.show_, .int .i64 v.o.stop, .int .i64 v.who, .int .i64 v.n] 34)) := below_then_alloc (Below.refl _ _)
  have HC3 := Lib.hid (HC2.out.below hb3)
  have HB3 := Lib.hid (ks_below HB2.out hb3)
  have BO3 := Lib.hid (BO2.out.keep hb3)
  clear hb3
  go_upto_region 7 with fail
  generalize w2.alloc (.cells #[.int .i64 v.what, .int .i64 v.o.id, .int .i64 v.o.who, .int .i64 v.o.side, .int .i64 v.o.kind, .int .i64 v.o.price, .int .i64 v.o.qty, .int .i64 v.o.show_, .int .i64 v.o.stop, .int .i64 v.who, .int .i64 v.n] 34) = w3 at *
  clear q2 hl HC2 HB2 BO2
  obtain ⟨q0, q1, q2⟩ := tbox HC3.out.bk
  have hcase : seq < s.next ∨ (¬ seq < s.next ∧ seq ∈ wkeys s.W) ∨ (¬ seq < s.next ∧ seq ∉ wkeys s.W) := by
    by_cases h1 : seq < s.next
    · exact .inl h1
    · by_cases h2 : seq ∈ wkeys s.W
      · exact .inr (.inl ⟨h1, h2⟩)
      · exact .inr (.inr ⟨h1, h2⟩)
  rcases hcase with h1 | ⟨h1, h2⟩ | ⟨h1, h2⟩
  · have HR3 := Lib.hid (show s.hear seq c = (0, 0, s) by rw [HR2.out, if_pos (.inl h1)])
    clear q0 q2
    go_wp2
    go_ret2
    exact hear_end HR3.out rfl HC3.out.whole HB3.out
  · have HR3 := Lib.hid (show s.hear seq c = (0, 0, s) by rw [HR2.out, if_pos (.inr h2)])
    have d1 : decide (seq ∈ wkeys s.W) = true := decide_eq_true h2
    clear q0 q2 h2
    go_wp2
    go_ret2
    exact hear_end HR3.out rfl HC3.out.whole HB3.out
  have HR3 := Lib.hid (show s.hear seq c = if 60 ≤ s.W.length then (4, 0, s) else (0, drainT 61 0 ⟨s.f, s.next, s.W ++ [(seq, c)]⟩) by rw [HR2.out, if_neg (by rw [not_or]; exact ⟨h1, h2⟩)])
  have d1 : decide (seq ∈ wkeys s.W) = false := decide_eq_false h2
  have HNK := Lib.hid h2
  obtain ⟨D, hD, hrep⟩ := HC3.out.mp.putD
  have HD := Lib.hid hD; have HREP := Lib.hid hrep; have HSZ := Lib.hid hrep.size
  clear h2 hD hrep HR2 q0
  by_cases hlen : 60 ≤ s.W.length
  · have HR4 := Lib.hid (show s.hear seq c = (4, 0, s) by rw [HR3.out, if_pos hlen])
    have j0 : (60 : Int) ≤ (s.W.length : Int) := by omega
    go_wp2_with (at_len; go_loud (refine wpList_len_own _ rfl _ 117 rfl 3 34 map_under cmdElem b _ D rfl HD.out ?_); rw [HSZ.out])
    go_ret2
    exact hear_end HR4.out rfl HC3.out.whole HB3.out
  have HR4 := Lib.hid (show s.hear seq c = (0, drainT 61 0 ⟨s.f, s.next, s.W ++ [(seq, c)]⟩) by rw [HR3.out, if_neg hlen])
  have j0 : ¬ (60 : Int) ≤ (s.W.length : Int) := by omega
  go_upto_region 11 with (at_len; go_loud (refine wpList_len_own _ rfl _ 117 rfl 3 34 map_under cmdElem b _ D rfl HD.out ?_); rw [HSZ.out])
  obtain ⟨o0, o1, o2, o3, o4, o5, o6, o7, o8, o9, o10⟩ := box11 BO3.out
  have HKEY := Lib.hid (show keyOf Tryz.prog 3 (.int .i64 seq) = some (.int .i64 seq) from keyOf_int_mk Tryz.underlying3 (WalkArith.wf_i64 ⟨by omega, by omega⟩))
  have hlm : s.W.length < maxLen := by unfold maxLen; omega
  clear q1 h1 d1 HR3
  go_still_tail 6, (by kernel_rfl)
  change wpList _ _ _ _ _ w3.drew
  clear o0 o1 o2 o3 o4 o5 o6 o7 o8 o9 o10 q2
  go_wp2_with (at_mapUpdate; go_loud (refine wpList_mapUpdate_own _ rfl _ _ _ 117 rfl 3 34 i64_keyed map_under cmdElem b s.W.length D rfl HD.out.drew hlm (.int .i64 seq) (.agg c.cells) (.int .i64 seq) rfl rfl HKEY.out (cdat c) [] rfl ?_); intro w4 hown4 hg4)
  have HC4 := Lib.hid ((HC3.out.below (Below.refl _ _).drew).turn hg4 (MapM.of_put hown4 HREP.out HNK.out))
  have HB4 := Lib.hid (ks_grown (ks_below HB3.out (Below.refl _ _).drew) hg4 (fun k e => by cases e; exact HC3.out.qb))
  have HOK4 := Lib.hid (HOK.out.put HIN.out HNK.out (by omega) (c := c))
  clear hown4 hg4 HD HREP HSZ HKEY hlm HC3 HB3 BO3 HNK HIN
  go_loopg [11] 61 (fun n v wr => ∃ (k : Int) (t : TwS), v = .int .i64 k ∧ 0 ≤ k ∧ k + n ≤ 61 ∧ t.W.length < n ∧ Hid (TwC wr q r X g gf b t) ∧ Hid (TwOk t) ∧ Hid (Ks q w wr) ∧ Hid (s.hear seq c = (0, drainT n k t)))
  case atStart => exact ⟨0, _, rfl, by omega, by omega, by have := HOK4.out.few; omega, HC4, HOK4, HB4, HR4⟩
  case round =>
    obtain ⟨k, t, rfl, hk0, hk1, htl, HC, HT, HK, HH⟩ := hrel
    obtain ⟨m, rfl⟩ : ∃ m, gk = m + 1 := ⟨gk - 1, by omega⟩
    clear HC4 HB4 HOK4 HR4 HOK
    obtain ⟨v, hv, hrun⟩ := map_look HC.out.mp (x := t.next) ⟨by have := HT.out.next0; omega, by have := HT.out.next1; omega⟩
    have HV := Lib.hid hv
    have HBL := Lib.hid HC.out.mp.lt
    have HL := Lib.hid (show ∀ w' : World, Below wr.heap.size wr w' → (Instr.lookup 117 (.map (some b)) (.int .i64 t.next) true).run Tryz.prog w' = .ok (.tuple #[.agg #[.int .i64 v.what, .int .i64 v.o.id, .int .i64 v.o.who, .int .i64 v.o.side, .int .i64 v.o.kind, .int .i64 v.o.price, .int .i64 v.o.qty, .int .i64 v.o.show_, .int .i64 v.o.stop, .int .i64 v.who, .int .i64 v.n], .bool (decide (t.next ∈ wkeys t.W))]) w' from fun w' hb => hrun w' (hb.block b HBL.out))
    have hl := HL.out wr (Below.refl _ _)
    have hbr := Below.refl wr.heap.size wr
    obtain ⟨q0, q1, q2⟩ := tbox HC.out.bk
    obtain ⟨ok, hok⟩ : ∃ ok, ok = decide (t.next ∈ wkeys t.W) := ⟨_, rfl⟩
    rw [← hok] at hl HL
    have HOK := Lib.hid hok
    clear hv hrun q0 hok
    --<look
    go_upto_region 13 with fail
    go_cut [12, 13] (fun vp vo wx => ∃ p, vp = .pointer (some ⟨p, 0, none⟩) ∧ vo = .bool ok ∧ wr.heap.size ≤ p ∧ Hid (Bk wx p 34 #[.int .i64 v.what, .int .i64 v.o.id, .int .i64 v.o.who, .int .i64 v.o.side, .int .i64 v.o.kind, .int .i64 v.o.price, .int .i64 v.o.qty, .int .i64 v.o.show_, .int .i64 v.o.stop, .int .i64 v.who, .int .i64 v.n]) ∧ Hid (Below wr.heap.size wr wx))
    case first =>
      go_region_held3 (fun w' => Below wr.heap.size wr w' ∧ w'.cell? ⟨g, 1, none⟩ = some (.int .i64 t.next) ∧ w'.cell? ⟨g, 2, none⟩ = some (.map (some b)) ∧ (Instr.lookup 117 (.map (some b)) (.int .i64 t.next) true).run Tryz.prog w' = .ok (.tuple #[.agg #[.int .i64 v.what, .int .i64 v.o.id, .int .i64 v.o.who, .int .i64 v.o.side, .int .i64 v.o.kind, .int .i64 v.o.price, .int .i64 v.o.qty, .int .i64 v.o.show_, .int .i64 v.o.stop, .int .i64 v.who, .int .i64 v.n], .bool ok]) w') ((repeat' apply And.intro) <;> first | (with_reducible assumption) | (with_reducible exact cell_alloc_drew (by assumption) _) | (with_reducible exact cell_alloc (by assumption) _) | (with_reducible exact cell_drew (by assumption)) | (with_reducible exact below_alloc_drew (by assumption) (Nat.le_refl _) _) | (with_reducible exact below_alloc (by assumption) (Nat.le_refl _) _) | (with_reducible exact Below.drew (by assumption)) | (exact HL.out _ (by first | (with_reducible assumption) | (with_reducible exact below_alloc_drew (by assumption) (Nat.le_refl _) _) | (with_reducible exact below_alloc (by assumption) (Nat.le_refl _) _) | (with_reducible exact Below.drew (by assumption))))) (fail)
      all_goals
        have bx := Bk.new wr 34 #[.int .i64 v.what, .int .i64 v.o.id, .int .i64 v.o.who, .int .i64 v.o.side, .int .i64 v.o.kind, .int .i64 v.o.price, .int .i64 v.o.qty, .int .i64 v.o.show_, .int .i64 v.o.stop, .int .i64 v.who, .int .i64 v.n]
        have bb : Below wr.heap.size wr (wr.alloc (.cells #[.int .i64 v.what, .int .i64 v.o.id, .int .i64 v.o.who, .int .i64 v.o.side, .int .i64 v.o.kind, .int .i64 v.o.price, .int .i64 v.o.qty, .int .i64 v.o.show_, .int .i64 v.o.stop, .int .i64 v.who, .int .i64 v.n] 34)) := below_then_alloc (Below.refl _ _)
        go_wp2
        go_meet
        case rel => exact ⟨wr.heap.size, rfl, rfl, Nat.le_refl _, Lib.hid (by first | exact bx | exact bx.drew), Lib.hid (by first | exact bb | exact bb.drew)⟩
    -->look
    obtain ⟨p, rfl, rfl, hp, hBK, hBB⟩ := hcut
    obtain ⟨w5, rfl⟩ : ∃ x : World, x = wc := ⟨_, rfl⟩
    have HC5 := Lib.hid (HC.out.below hBB.out)
    have HK5 := Lib.hid (ks_below HK.out hBB.out)
    have hgl := HC.out.bk.lt
    have hbl := HBL.out
    have hpg : p ≠ g := by omega
    have hpb : p ≠ b := by omega
    have hfl := HC.out.fl.lt
    have hpf : p ≠ gf := by omega
    have HPG := Lib.hid hpg; have HPB := Lib.hid hpb; have HPF := Lib.hid hpf
    clear hl hbr q1 q2 HL HC HK hpg hpb hpf hgl hbl hfl HBL hp
    cases hg : wget t.W t.next with
    | none =>
      have hk : ok = false := by rw [HOK.out]; exact decide_eq_false (wget_none.1 hg)
      have HR := Lib.hid (show s.hear seq c = (0, k, t) by rw [HH.out, drain_none hg])
      clear hg HOK
      subst hk
      go_wp2
      go_ret2
      exact hear_end HR.out rfl HC5.out.whole HK5.out
    | some d =>
      have hk : ok = true := by rw [HOK.out]; exact decide_eq_true (wget_key hg)
      obtain rfl : v = d := HV.out d hg
      have HG := Lib.hid hg
      have HR := Lib.hid (show s.hear seq c = (0, drainT m (k + 1) ⟨t.f.doS v, t.next + 1, wdel t.W t.next⟩) by rw [HH.out, drain_some hg])
      have HWL := Lib.hid (wdel_len HT.out.nd (wget_key hg))
      clear hg HOK HV HH
      subst hk
      obtain ⟨D, hD, hrep⟩ := HC5.out.mp.putD
      have HD := Lib.hid hD; have HREP := Lib.hid hrep
      have hn0 := HT.out.next0
      have hn1 := HT.out.next1
      have HKEY := Lib.hid (show keyOf Tryz.prog 3 (.int .i64 t.next) = some (.int .i64 t.next) from keyOf_int_mk Tryz.underlying3 (WalkArith.wf_i64 ⟨by omega, by omega⟩))
      obtain ⟨q0, q1, q2⟩ := tbox HC5.out.bk
      clear hD hrep q0
      go_upto_region 16 with fail
      go_still_tail 8, (by kernel_rfl)
      change wpList _ _ _ _ _ w5.drew
      clear q1 q2
      go_upto_region 17 with (at_delete; go_loud (refine wpList_delete_own _ rfl _ _ 117 3 rfl 34 i64_keyed map_under cmdElem b _ D rfl HD.out.drew (.int .i64 t.next) (.int .i64 t.next) rfl HKEY.out ?_); intro w6 hown6 hturn6)
      have hg6 := hturn6.grown
      have HC6 := Lib.hid ((HC5.out.below (Below.refl _ _).drew).turn hg6 (MapM.of_del hown6 HREP.out (wget_key HG.out)))
      have HK6 := Lib.hid (ks_grown (ks_below HK5.out (Below.refl _ _).drew) hg6 (fun k e => by cases e; exact HC5.out.qb))
      have BK6 := Lib.hid (hBK.out.drew.grown hg6 (fun e => HPB.out (Option.some.inj e)))
      clear hown6 hturn6 hg6 HD HREP HKEY HC5 HK5 hBK hBB
      obtain ⟨q0, q1, q2⟩ := tbox HC6.out.bk
      have z1 := HC6.out.bk.free 1
      change w6.cell? ⟨g, 1, none⟩ = some (.int .i64 t.next) at q1
      clear q0 q2
      go_upto_region 18 with fail
      have HC7 := Lib.hid (HC6.out.nexts (t.next + 1))
      have HK7 := Lib.hid (ks_grown HK6.out (grown_set w6 ⟨g, 1, none⟩ (.int .i64 (t.next + 1))) (fun k e => by cases e; exact HC6.out.qg))
      have BK7 := Lib.hid (BK6.out.grown (grown_set w6 ⟨g, 1, none⟩ (.int .i64 (t.next + 1))) (fun e => HPG.out (Option.some.inj e)))
      clear q1 z1 HC6 HK6 BK6
      generalize w6.setCell ⟨g, 1, none⟩ (.int .i64 (t.next + 1)) = w7 at *
      go_upto_region 19 with fail
      obtain ⟨q0, q1, q2⟩ := tbox HC7.out.bk
      obtain ⟨o0, o1, o2, o3, o4, o5, o6, o7, o8, o9, o10⟩ := box11 BK7.out
      have cD := fldo_any t.f X gf v w7.drew (HC7.out.fl.below (Below.refl _ _).drew) HT.out.f
      unfold DoPost at cD
      clear q1 q2
      have HT2 := Lib.hid (HT.out.step HG.out)
      have HKD := Lib.hid (show ∀ w8 : World, FlM w8 X gf (t.f.doS v) → w7.drew.grownBy w8 (some gf) → TwC w8 q r X g gf b ⟨t.f.doS v, t.next + 1, wdel t.W t.next⟩ ∧ Ks q w w8 from fun w8 hf hg => ⟨(HC7.out.below (Below.refl _ _).drew).does hf hg, ks_grown (ks_below HK7.out (Below.refl _ _).drew) hg (fun k e => by cases e; exact HC7.out.qf)⟩)
      by_cases hE : t.f.doE v = 0
      · rw [hE, show errV 0 = Value.nilIface from rfl] at cD
        have CD := Lib.hid cD
        clear cD hE
        go_cut [14, 15] (fun _ e wx => e = .nilIface ∧ Hid (FlM wx X gf (t.f.doS v)) ∧ w7.drew.grownBy wx (some gf))
        case first =>
          go_region_held3 (fun w' => w'.cell? ⟨g, 0, none⟩ = some (.pointer (some ⟨gf, 0, none⟩)) ∧ w'.cell? ⟨p, 0, none⟩ = some (.int .i64 v.what) ∧ w'.cell? ⟨p, 1, none⟩ = some (.int .i64 v.o.id) ∧ w'.cell? ⟨p, 2, none⟩ = some (.int .i64 v.o.who) ∧ w'.cell? ⟨p, 3, none⟩ = some (.int .i64 v.o.side) ∧ w'.cell? ⟨p, 4, none⟩ = some (.int .i64 v.o.kind) ∧ w'.cell? ⟨p, 5, none⟩ = some (.int .i64 v.o.price) ∧ w'.cell? ⟨p, 6, none⟩ = some (.int .i64 v.o.qty) ∧ w'.cell? ⟨p, 7, none⟩ = some (.int .i64 v.o.show_) ∧ w'.cell? ⟨p, 8, none⟩ = some (.int .i64 v.o.stop) ∧ w'.cell? ⟨p, 9, none⟩ = some (.int .i64 v.who) ∧ w'.cell? ⟨p, 10, none⟩ = some (.int .i64 v.n)) ((repeat' apply And.intro) <;> first | assumption | (exact cell_alloc_drew (by assumption) _) | (exact cell_alloc (by assumption) _) | (exact cell_drew (by assumption)) | (exact below_alloc_drew (by assumption) (Nat.le_refl _) _) | (exact below_alloc (by assumption) (Nat.le_refl _) _) | (exact Below.drew (by assumption))) ((go_at_call 11; (with_reducible refine CD.out.mono ?_); rintro e w8 ⟨A, cap, rfl, H8, _, g8⟩; obtain ⟨q0', _, _⟩ := tbox (HKD.out w8 H8.out g8).1.bk; obtain ⟨o0', o1', o2', o3', o4', o5', o6', o7', o8', o9', o10'⟩ := box11 (BK7.out.drew.grown g8 (fun e => HPF.out (Option.some.inj e)))))
          all_goals
            go_wp2
            go_meet
            case rel => exact ⟨rfl, H8, g8⟩
        obtain ⟨rfl, H8, g8⟩ := hcut
        obtain ⟨w8, rfl⟩ : ∃ x : World, x = wc := ⟨_, rfl⟩
        clear q0 o0 o1 o2 o3 o4 o5 o6 o7 o8 o9 o10
        go_wp2
        go_roundg m
        case measure => omega
        case rel => exact ⟨k + 1, _, rfl, by omega, by omega, by have := HWL.out; show (wdel t.W t.next).length < m; omega, Lib.hid (HKD.out w8 H8.out g8).1, HT2, Lib.hid (HKD.out w8 H8.out g8).2, HR⟩
      · rw [errV, if_neg hE] at cD
        have CD := Lib.hid cD
        clear cD hE
        generalize t.f.doE v = E at *
        go_cut [14, 15] (fun _ e wx => e = er E ∧ Hid (FlM wx X gf (t.f.doS v)) ∧ w7.drew.grownBy wx (some gf))
        case first =>
          go_region_held3 (fun w' => w'.cell? ⟨g, 0, none⟩ = some (.pointer (some ⟨gf, 0, none⟩)) ∧ w'.cell? ⟨p, 0, none⟩ = some (.int .i64 v.what) ∧ w'.cell? ⟨p, 1, none⟩ = some (.int .i64 v.o.id) ∧ w'.cell? ⟨p, 2, none⟩ = some (.int .i64 v.o.who) ∧ w'.cell? ⟨p, 3, none⟩ = some (.int .i64 v.o.side) ∧ w'.cell? ⟨p, 4, none⟩ = some (.int .i64 v.o.kind) ∧ w'.cell? ⟨p, 5, none⟩ = some (.int .i64 v.o.price) ∧ w'.cell? ⟨p, 6, none⟩ = some (.int .i64 v.o.qty) ∧ w'.cell? ⟨p, 7, none⟩ = some (.int .i64 v.o.show_) ∧ w'.cell? ⟨p, 8, none⟩ = some (.int .i64 v.o.stop) ∧ w'.cell? ⟨p, 9, none⟩ = some (.int .i64 v.who) ∧ w'.cell? ⟨p, 10, none⟩ = some (.int .i64 v.n)) ((repeat' apply And.intro) <;> first | assumption | (exact cell_alloc_drew (by assumption) _) | (exact cell_alloc (by assumption) _) | (exact cell_drew (by assumption)) | (exact below_alloc_drew (by assumption) (Nat.le_refl _) _) | (exact below_alloc (by assumption) (Nat.le_refl _) _) | (exact Below.drew (by assumption))) ((go_at_call 11; (with_reducible refine CD.out.mono ?_); rintro e w8 ⟨A, cap, rfl, H8, _, g8⟩; obtain ⟨q0', _, _⟩ := tbox (HKD.out w8 H8.out g8).1.bk; obtain ⟨o0', o1', o2', o3', o4', o5', o6', o7', o8', o9', o10'⟩ := box11 (BK7.out.drew.grown g8 (fun e => HPF.out (Option.some.inj e)))))
          all_goals
            go_wp2
            go_meet
            case rel => exact ⟨rfl, H8, g8⟩
        obtain ⟨rfl, H8, g8⟩ := hcut
        obtain ⟨w8, rfl⟩ : ∃ x : World, x = wc := ⟨_, rfl⟩
        clear q0 o0 o1 o2 o3 o4 o5 o6 o7 o8 o9 o10
        go_wp2
        go_roundg m
        case measure => omega
        case rel => exact ⟨k + 1, _, rfl, by omega, by omega, by have := HWL.out; show (wdel t.W t.next).length < m; omega, Lib.hid (HKD.out w8 H8.out g8).1, HT2, Lib.hid (HKD.out w8 H8.out g8).2, HR⟩
end Go.Proofs.YtkdgpdijbobmkaaGreat
