/- The eleven cells of a Command in memory. The contract of a floor's do. The contracts of a floor's copies. A floor in memory; the contract of Do. The contracts of a floor's New, Last, Purse, Stops, Book. A floor's plain steps: an order that rests, an order that takes the best one whole, one that waits. The contract of Do, for a command that goes, or is refused. -/
import Derived.Test.YtkdgpdijbobmkaaGreatGrpW
import Derived.Test.YtkdgpdijbobmkaaGreatWire
import Derived.Test.YtkdgpdijbobmkaaGreatGrpZ
import Derived.Test.YtkdgpdijbobmkaaGreatGrpA
namespace Go.Proofs.YtkdgpdijbobmkaaGreat
set_option linter.all false
open Go Go.RowKit
theorem cmd_size : (Tryz.prog.info? 34).map (·.size) = some 11 := by kernel_rfl
theorem cmd_one (c : Cmd) : c.cells.all (·.oneCell') = true := by
  refine all_oneCell_toArray (cs := [_, _, _, _, _, _, _, _, _, _, _]) (fun v hv => ?_)
  simp only [List.mem_cons, List.not_mem_nil, or_false] at hv
  rcases hv with rfl | rfl | rfl | rfl | rfl | rfl | rfl | rfl | rfl | rfl | rfl <;> rfl
theorem cmd_read {w : World} {g : Nat} {cs : Array Value} (h : Bk w g 34 cs) (hl : cs.size = 11) : (loadVar 34 ⟨g, 0, none⟩).run Tryz.prog w = .ok (.agg cs) w := by
  have := run_loadVar_mid (P := Tryz.prog) w g 0 34 cs.toList _ h.range Tryz.underlying34 rfl (by rw [cmd_size]; simp [hl])
  simpa using this
theorem box11 {w : World} {x0 x1 x2 x3 x4 x5 x6 x7 x8 x9 x10 : Value} {g : Nat} {t : TypeId} (h : Bk w g t #[x0, x1, x2, x3, x4, x5, x6, x7, x8, x9, x10]) : w.cell? ⟨g, 0, none⟩ = some x0 ∧ w.cell? ⟨g, 1, none⟩ = some x1 ∧ w.cell? ⟨g, 2, none⟩ = some x2 ∧ w.cell? ⟨g, 3, none⟩ = some x3 ∧ w.cell? ⟨g, 4, none⟩ = some x4 ∧ w.cell? ⟨g, 5, none⟩ = some x5 ∧ w.cell? ⟨g, 6, none⟩ = some x6 ∧ w.cell? ⟨g, 7, none⟩ = some x7 ∧ w.cell? ⟨g, 8, none⟩ = some x8 ∧ w.cell? ⟨g, 9, none⟩ = some x9 ∧ w.cell? ⟨g, 10, none⟩ = some x10 :=
  ⟨h.cell 0, h.cell 1, h.cell 2, h.cell 3, h.cell 4, h.cell 5, h.cell 6, h.cell 7, h.cell 8, h.cell 9, h.cell 10⟩
theorem cmd_zero (w : World) : (Instr.build 34 #[]).run Tryz.prog w = .ok (.agg #[.int .i64 0, .int .i64 0, .int .i64 0, .int .i64 0, .int .i64 0, .int .i64 0, .int .i64 0, .int .i64 0, .int .i64 0, .int .i64 0, .int .i64 0]) w := by kernel_rfl
theorem Bk.set11 {w : World} {x0 x1 x2 x3 x4 x5 x6 x7 x8 x9 x10 : Value} {g : Nat} {t : TypeId} (h : Bk w g t #[x0, x1, x2, x3, x4, x5, x6, x7, x8, x9, x10]) (a0 a1 a2 a3 a4 a5 a6 a7 a8 a9 a10 : Value) : Bk (((((((((((w.setCell ⟨g, 0, none⟩ a0).setCell ⟨g, 1, none⟩ a1).setCell ⟨g, 2, none⟩ a2).setCell ⟨g, 3, none⟩ a3).setCell ⟨g, 4, none⟩ a4).setCell ⟨g, 5, none⟩ a5).setCell ⟨g, 6, none⟩ a6).setCell ⟨g, 7, none⟩ a7).setCell ⟨g, 8, none⟩ a8).setCell ⟨g, 9, none⟩ a9).setCell ⟨g, 10, none⟩ a10) g t #[a0, a1, a2, a3, a4, a5, a6, a7, a8, a9, a10] := h.setCs (vs := [a0, a1, a2, a3, a4, a5, a6, a7, a8, a9, a10]) rfl
theorem below_set11 {w0 w : World} {lo g : Nat} (hg : lo ≤ g) (h : Below lo w0 w) (a0 a1 a2 a3 a4 a5 a6 a7 a8 a9 a10 : Value) : Below lo w0 (((((((((((w.setCell ⟨g, 0, none⟩ a0).setCell ⟨g, 1, none⟩ a1).setCell ⟨g, 2, none⟩ a2).setCell ⟨g, 3, none⟩ a3).setCell ⟨g, 4, none⟩ a4).setCell ⟨g, 5, none⟩ a5).setCell ⟨g, 6, none⟩ a6).setCell ⟨g, 7, none⟩ a7).setCell ⟨g, 8, none⟩ a8).setCell ⟨g, 9, none⟩ a9).setCell ⟨g, 10, none⟩ a10) := below_Cs hg (vs := [a0, a1, a2, a3, a4, a5, a6, a7, a8, a9, a10]) (i := 0) h
end Go.Proofs.YtkdgpdijbobmkaaGreat
namespace Go.Proofs.YtkdgpdijbobmkaaGreat
set_option linter.all false
open Go Go.RowKit
theorem FOutE.pre {lo : Nat} {a : FA} {r : Int × FT} {w w1 w' : World} {e : Ending} (hb : Below w.heap.size w w1) (h : FOutE lo a r w1 e w') : FOutE lo a r w e w' := by
  have ht : FTo a w a w1 := .of_below hb
  refine ⟨h.1, Lib.hid (fun h0 => ?_), Lib.hid (ht.ks.trans h.2.2.out (fun _ h => .inl h))⟩
  obtain ⟨a', f, g⟩ := h.2.1.out h0
  exact ⟨a', f, ht.trans g⟩
/-- the purses' answer is the floor's -/
theorem fout_pur {lo : Nat} {a : FA} {t : FT} {w w' : World} {r : Int × (Nat → Pur)} {e : Ending} (h : FSt w lo a t) (hp : PurPost r a.gp w e w') : FOutE lo a (r.1, { t with S := r.2 }) w e w' := by
  obtain ⟨h1, h2, h3⟩ := hp
  have hx := h.pursed h2 h3
  exact ⟨h1, Lib.hid (fun _ => ⟨a, hx⟩), Lib.hid hx.2.ks⟩
set_option maxRecDepth 100000 in
set_option maxHeartbeats 8000000 in
theorem fdo_any (t : FT) (lo : Nat) (a : FA) (c : Cmd) (w : World) (h : FSt w lo a t) (hok : FOk t) (hlo : lo ≤ w.heap.size) (hl : t.ev.length ≤ 80000) :
    Calls Tryz.prog 37 #[.pointer (some ⟨a.gs, 0, none⟩), .agg #[.int .i64 c.what, .int .i64 c.o.id, .int .i64 c.o.who, .int .i64 c.o.side, .int .i64 c.o.kind, .int .i64 c.o.price, .int .i64 c.o.qty, .int .i64 c.o.show_, .int .i64 c.o.stop, .int .i64 c.who, .int .i64 c.n]] w (FOutE lo a (t.act c) w) := by
  have hb : Below w.heap.size w (w.alloc (.cells #[.int .i64 c.what, .int .i64 c.o.id, .int .i64 c.o.who, .int .i64 c.o.side, .int .i64 c.o.kind, .int .i64 c.o.price, .int .i64 c.o.qty, .int .i64 c.o.show_, .int .i64 c.o.stop, .int .i64 c.who, .int .i64 c.n] 34)) := below_then_alloc (Below.refl _ _)
  have H := Lib.hid (h.below hb); have HOK := Lib.hid hok; have HB := Lib.hid hb
  have hlo1 : lo ≤ (w.alloc (.cells #[.int .i64 c.what, .int .i64 c.o.id, .int .i64 c.o.who, .int .i64 c.o.side, .int .i64 c.o.kind, .int .i64 c.o.price, .int .i64 c.o.qty, .int .i64 c.o.show_, .int .i64 c.o.stop, .int .i64 c.who, .int .i64 c.n] 34)).heap.size := Nat.le_trans hlo hb.size
  have bo := Bk.new w 34 #[.int .i64 c.what, .int .i64 c.o.id, .int .i64 c.o.who, .int .i64 c.o.side, .int .i64 c.o.kind, .int .i64 c.o.price, .int .i64 c.o.qty, .int .i64 c.o.show_, .int .i64 c.o.stop, .int .i64 c.who, .int .i64 c.n]
  clear h hok hb
  go_enter Tryz.func37, Tryz.ntmps37
  go_upto_region 1 with fail
  generalize w.alloc (.cells #[.int .i64 c.what, .int .i64 c.o.id, .int .i64 c.o.who, .int .i64 c.o.side, .int .i64 c.o.kind, .int .i64 c.o.price, .int .i64 c.o.qty, .int .i64 c.o.show_, .int .i64 c.o.stop, .int .i64 c.who, .int .i64 c.n] 34) = w1 at *
  obtain ⟨o0, o1, o2, o3, o4, o5, o6, o7, o8, o9, o10⟩ := box11 bo
  rcases (show c.what = 4 ∨ c.what = 5 ∨ c.what = 1 ∨ c.what = 2 ∨ c.what = 3 ∨ (c.what ≠ 4 ∧ c.what ≠ 5 ∧ c.what ≠ 1 ∧ c.what ≠ 2 ∧ c.what ≠ 3) by omega) with hw | hw | hw | hw | hw | hw
  · as_aux_lemma =>
    have HR := Lib.hid (show t.act c = ((payP t.S c.who c.n).1, { t with S := (payP t.S c.who c.n).2 }) by rw [FT.act, if_pos hw])
    rw [hw] at o0
    obtain ⟨q0, q1, q2, q3, q4, q5, q6⟩ := box7 H.out.b
    have Hd := Lib.hid (H.out.below (Below.refl w1.heap.size w1).drew)
    have cP := pay_any t.S a.gp c.who c.n w1.drew Hd.out.ps HOK.out.pu.1
    have HF := Lib.hid (fun e w' => fout_pur (lo := lo) (a := a) (t := t) (r := payP t.S c.who c.n) (e := e) (w' := w') Hd.out)
    have CP := Lib.hid cP
    clear hw cP o1 o2 o3 o4 o5 o6 o7 o8 q0 q1 q2 q3 q5 q6
    go_upto_region 3 with fail
    go_still_tail 8, (by kernel_rfl)
    change wpList _ _ _ _ _ w1.drew
    clear q4 o9 o10 o0
    generalize payP t.S c.who c.n = r at *
    go_wp2_with (go_at_call 69; refine CP.out.mono ?_; rintro e w2 hp; have HX := Lib.hid (HF.out e w2 hp); obtain ⟨rfl, _, _⟩ := hp)
    go_ret
    have := HX.out
    rw [HR.out]
    exact this.pre (below_then (Below.refl w1.heap.size w1).drew HB.out)
  · as_aux_lemma =>
    have HR := Lib.hid (show t.act c = ((giveP t.S c.who c.n).1, { t with S := (giveP t.S c.who c.n).2 }) by rw [FT.act, if_neg (by omega), if_pos hw])
    rw [hw] at o0
    obtain ⟨q0, q1, q2, q3, q4, q5, q6⟩ := box7 H.out.b
    have Hd := Lib.hid (H.out.below (Below.refl w1.heap.size w1).drew)
    have cP := give_any t.S a.gp c.who c.n w1.drew Hd.out.ps HOK.out.pu.1
    have HF := Lib.hid (fun e w' => fout_pur (lo := lo) (a := a) (t := t) (r := giveP t.S c.who c.n) (e := e) (w' := w') Hd.out)
    have CP := Lib.hid cP
    clear hw cP o1 o2 o3 o4 o5 o6 o7 o8 q0 q1 q2 q3 q5 q6
    go_upto_region 5 with fail
    go_still_tail 8, (by kernel_rfl)
    change wpList _ _ _ _ _ w1.drew
    clear q4 o9 o10 o0
    generalize giveP t.S c.who c.n = r at *
    go_wp2_with (go_at_call 70; refine CP.out.mono ?_; rintro e w2 hp; have HX := Lib.hid (HF.out e w2 hp); obtain ⟨rfl, _, _⟩ := hp)
    go_ret
    have := HX.out
    rw [HR.out]
    exact this.pre (below_then (Below.refl w1.heap.size w1).drew HB.out)
  · as_aux_lemma =>
    have HR := Lib.hid (show t.act c = t.place c.o by rw [FT.act, if_neg (by omega), if_neg (by omega), if_pos hw])
    rw [hw] at o0
    have CP := Lib.hid (place_any t lo a c.o w1 H.out HOK.out hlo1 (by omega))
    clear hw o9 o10
    generalize t.place c.o = r at *
    go_wp2_with (go_at_call 71; refine CP.out.mono ?_; rintro e w2 hp; have HX := Lib.hid hp; obtain ⟨rfl, _, _⟩ := hp)
    go_ret
    have := HX.out
    rw [HR.out]
    exact this.pre HB.out
  · as_aux_lemma =>
    have HR := Lib.hid (show t.act c = t.cancel c.o.id by rw [FT.act, if_neg (by omega), if_neg (by omega), if_neg (by omega), if_pos hw])
    rw [hw] at o0
    have CP := Lib.hid (cancel_any t lo a c.o.id w1 H.out HOK.out hlo1 (by omega))
    clear hw o9 o10
    generalize t.cancel c.o.id = r at *
    go_wp2_with (go_at_call 72; refine CP.out.mono ?_; rintro e w2 hp; have HX := Lib.hid hp; obtain ⟨rfl, _, _⟩ := hp)
    go_ret
    have := HX.out
    rw [HR.out]
    exact this.pre HB.out
  · as_aux_lemma =>
    have HR := Lib.hid (show t.act c = t.swap c.o.id c.o.price c.o.qty by rw [FT.act, if_neg (by omega), if_neg (by omega), if_neg (by omega), if_neg (by omega), if_pos hw])
    rw [hw] at o0
    have CP := Lib.hid (fswap_any t lo a c.o.id c.o.price c.o.qty w1 H.out HOK.out hlo1 (by omega))
    clear hw o9 o10
    generalize t.swap c.o.id c.o.price c.o.qty = r at *
    go_wp2_with (go_at_call 73; refine CP.out.mono ?_; rintro e w2 hp; have HX := Lib.hid hp; obtain ⟨rfl, _, _⟩ := hp)
    go_ret
    have := HX.out
    rw [HR.out]
    exact this.pre HB.out
  · as_aux_lemma =>
    obtain ⟨h4, h5, h1, h2, h3⟩ := hw
    have HR := Lib.hid (show t.act c = (1, t) by rw [FT.act, if_neg h4, if_neg h5, if_neg h1, if_neg h2, if_neg h3])
    have e4 : (c.what == 4) = false := by simpa using h4
    have e5 : (c.what == 5) = false := by simpa using h5
    have e1 : (c.what == 1) = false := by simpa using h1
    have e2 : (c.what == 2) = false := by simpa using h2
    have e3 : (c.what == 3) = false := by simpa using h3
    clear h4 h5 h1 h2 h3
    go_wp2
    go_ret
    exact fend_bad HR.out (by decide) (.of_below HB.out)
end Go.Proofs.YtkdgpdijbobmkaaGreat
namespace Go.Proofs.YtkdgpdijbobmkaaGreat
set_option linter.all false
open Go Go.RowKit
theorem purs_size : (Tryz.prog.info? 136).map (·.size) = some 50 := by kernel_rfl
/-- how Copy of the purses ends -/
def PCopyPost (S : Nat → Pur) (w : World) (e : Ending) (w' : World) : Prop := ∃ g, e = .returned (.pointer (some ⟨g, 0, none⟩)) ∧ Hid (Pm w' g S) ∧ w.heap.size ≤ g ∧ Below w.heap.size w w'
theorem Pur.cell_one (p : Pur) (j : Nat) (v : Value) (h : p.cell j = v) (hj : j < 5) : v.oneCell' = true := by
  subst h
  match j, hj with
  | 0, _ => rfl
  | 1, _ => rfl
  | 2, _ => rfl
  | 3, _ => rfl
  | 4, _ => rfl
theorem pcopy_any (S : Nat → Pur) (g : Nat) (w : World) (h : Pm w g S) : Calls Tryz.prog 68 #[.pointer (some ⟨g, 0, none⟩)] w (PCopyPost S w) := by
  obtain ⟨⟨l⟩, hs, hb, hc⟩ := h
  have hl : l.length = 50 := hs
  have HB := Lib.hid (show Bk w g 136 ⟨l⟩ from hb)
  have HC := Lib.hid hc
  have H1 : Hid ((⟨l⟩ : Array Value).all (·.oneCell') = true) := Lib.hid (all_oneCell_toArray (fun v hv => by
    obtain ⟨i, hi, e⟩ := List.getElem_of_mem hv
    have := hc (i / 5) (i % 5) (by omega) (by omega)
    rw [show i / 5 * 5 + i % 5 = i by omega] at this
    have e2 : l[i]? = some v := by rw [List.getElem?_eq_getElem hi, e]
    have e3 : l[i]? = some ((S (i / 5)).cell (i % 5)) := by simpa using this
    rw [e2] at e3
    exact Pur.cell_one _ _ v (Option.some.inj e3).symm (by omega)))
  have HR := Lib.hid HB.out.range
  have b0 := Bk.new w 136 (Array.replicate 50 (.int .i64 0))
  have HZ := Lib.hid b0
  have HT : Hid ((w.alloc (.cells (Array.replicate 50 (.int .i64 0)) 136)).there w.heap.size 0 (⟨l⟩ : Array Value).size) := Lib.hid (by have := b0.there; rw [Array.size_replicate] at this; rw [hs]; exact this)
  have HL := Lib.hid (show (Tryz.prog.info? 136).map (·.size) = some l.length by rw [purs_size, hl])
  have HL2 := Lib.hid (show (Tryz.prog.info? 136).map (·.size) = some (⟨l⟩ : Array Value).size by rw [purs_size, hs])
  have HE := Lib.hid hl
  clear hs hb hc b0 hl
  go_enter Tryz.func68, Tryz.ntmps68
  go_wp2_with (first | (refine wpList_load_mid (by rfl) 136 _ (by rfl) g 0 (by rfl) l _ HR.out Tryz.underlying136 rfl HL.out ?_) | (refine wpList_store_mid (by rfl) 136 _ _ (by rfl) w.heap.size 0 ⟨l⟩ (by rfl) (by rfl) HT.out HL2.out H1.out ?_))
  go_ret
  refine ⟨w.heap.size, rfl, Lib.hid ⟨⟨l⟩, HE.out, ?_, HC.out⟩, Nat.le_refl _, below_Cs (Nat.le_refl _) ((Below.refl _ _).alloc (Nat.le_refl _) _)⟩
  exact HZ.out.setCs (vs := l) (by rw [HE.out, Array.size_replicate])
theorem StM.lower {w : World} {g base b c : Nat} {A : Option Addr} {l : List Order} (h : StM w g base A c l) (hb : b ≤ base) (hr : rowOf A c ≠ some g) : StM w g b A c l := ⟨h.b, h.own.lower hb, .inr hr, h.z⟩
/-- how copy ends -/
def FCopyPost (t : FT) (a : FA) (w : World) (v : Value) (w' : World) : Prop := ∃ a2, v = .pointer (some ⟨a2.gs, 0, none⟩) ∧ Hid (FSt w' w.heap.size a2 { t with ev := [] }) ∧ a2.X = a.X ∧ Below w.heap.size w w'
/-- a state is laid out anew -/
theorem fcopied {w wx : World} {lo : Nat} {a : FA} {t : FT} (h : FSt w lo a t) {gS gP c : Nat} {A : Option Addr} (hb : Below w.heap.size w wx) (hs : StM wx gS w.heap.size A c t.st) (hp : Pm wx gP t.S) (hsl : w.heap.size ≤ gS) (hpl : w.heap.size ≤ gP) (hsp : gS ≠ gP) (r1 : rowOf A c ≠ some gP) :
    FCopyPost t a w (.pointer (some ⟨wx.heap.size, 0, none⟩)) (wx.alloc (.cells #[.int .i64 t.mode, .slice a.A1 t.L.length a.c1, .slice a.A2 t.M.length a.c2, .pointer (some ⟨gS, 0, none⟩), .pointer (some ⟨gP, 0, none⟩), .int .i64 t.last, .slice none 0 0] 99)) := by
  have hz := hb.size
  have hl := hs.b.lt
  have hpt := hp.lt
  have ha : Below wx.heap.size wx (wx.alloc (.cells #[.int .i64 t.mode, .slice a.A1 t.L.length a.c1, .slice a.A2 t.M.length a.c2, .pointer (some ⟨gS, 0, none⟩), .pointer (some ⟨gP, 0, none⟩), .int .i64 t.last, .slice none 0 0] 99)) := below_then_alloc (Below.refl _ _)
  have hb2 : Below w.heap.size w (wx.alloc (.cells #[.int .i64 t.mode, .slice a.A1 t.L.length a.c1, .slice a.A2 t.M.length a.c2, .pointer (some ⟨gS, 0, none⟩), .pointer (some ⟨gP, 0, none⟩), .int .i64 t.last, .slice none 0 0] 99)) := below_then ha hb
  obtain ⟨a2, ha2⟩ : ∃ a2 : FA, a2 = { gs := wx.heap.size, gt := gS, gp := gP, At := A, ct := c, Ae := none, ce := 0, A1 := a.A1, c1 := a.c1, A2 := a.A2, c2 := a.c2, X := a.X } := ⟨_, rfl⟩
  have hq : ∀ k, a2.Q k → w.heap.size ≤ k := by
    subst ha2
    rintro k (e | e | e | e | e)
    · subst e; exact hz
    · subst e; exact hsl
    · subst e; exact hpl
    · exact (hs.own.row_lt k e).1
    · cases e
  have hk : Kp (fun k => ¬ a.R k) (fun k => ¬ a2.R k) w (wx.alloc (.cells #[.int .i64 t.mode, .slice a.A1 t.L.length a.c1, .slice a.A2 t.M.length a.c2, .pointer (some ⟨gS, 0, none⟩), .pointer (some ⟨gP, 0, none⟩), .int .i64 t.last, .slice none 0 0] 99)) := ⟨hb2.size, fun k hp hk => ⟨hb2.block k hk, fun e => e.elim (fun e => by have := hq k e; omega) (fun e => hp (.inr (by rw [ha2] at e; exact e)))⟩⟩
  have hrow := fun k e => (hs.own.row_lt k e).2
  refine ⟨a2, by rw [ha2], Lib.hid ?_, by rw [ha2], hb2⟩
  subst ha2
  have hsb : StM (wx.alloc (.cells #[.int .i64 t.mode, .slice a.A1 t.L.length a.c1, .slice a.A2 t.M.length a.c2, .pointer (some ⟨gS, 0, none⟩), .pointer (some ⟨gP, 0, none⟩), .int .i64 t.last, .slice none 0 0] 99)) gS w.heap.size A c t.st := hs.below ha
  refine ⟨Bk.new wx _ _, hsb, hp.alloc _, OwnS.nil _ _ _ _, hz, hsl, hpl, by dsimp only; omega, by dsimp only; omega, hsp, fun e => by have := hrow _ e; dsimp only at this; omega, r1, fun e => (by cases e), fun e => (by cases e), fun e => (by cases e), fun k e => (by cases e), h.bl.imp fun _ x => x.on hk, h.bm.imp fun _ x => x.on hk, h.z1, h.z2, fun k e => Nat.lt_of_lt_of_le (h.xl k e) hb2.size⟩
set_option maxRecDepth 100000 in
set_option maxHeartbeats 8000000 in
theorem fcopy_any (t : FT) (lo : Nat) (a : FA) (w : World) (h : FSt w lo a t) (hfew : t.st.length ≤ 20) :
    Calls Tryz.prog 36 #[.pointer (some ⟨a.gs, 0, none⟩)] w fun e w' => ∃ v, e = .returned v ∧ FCopyPost t a w v w' := by
  have H := Lib.hid h
  obtain ⟨q0, q1, q2, q3, q4, q5, q6⟩ := box7 h.b
  have CS := Lib.hid (fun (w' : World) (hb : Below w.heap.size w w') => wcopy_any t.st a.gt lo a.At a.ct w' (H.out.below hb).st (by omega))
  have CP := Lib.hid (fun (w' : World) (hb : Below w.heap.size w w') => pcopy_any t.S a.gp w' (H.out.below hb).ps)
  have hB0 := Below.refl w.heap.size w
  clear h q6
  go_enter Tryz.func36, Tryz.ntmps36
  go_upto_region 1 with fail
  go_cut [2] (fun v wx => FCopyPost t a w v wx)
  case first =>
    go_region_held3 (fun w' => w'.cell? ⟨a.gs, 0, none⟩ = some (.int .i64 t.mode) ∧ w'.cell? ⟨a.gs, 1, none⟩ = some (.slice a.A1 t.L.length a.c1) ∧ w'.cell? ⟨a.gs, 2, none⟩ = some (.slice a.A2 t.M.length a.c2) ∧ w'.cell? ⟨a.gs, 3, none⟩ = some (.pointer (some ⟨a.gt, 0, none⟩)) ∧ w'.cell? ⟨a.gs, 4, none⟩ = some (.pointer (some ⟨a.gp, 0, none⟩)) ∧ w'.cell? ⟨a.gs, 5, none⟩ = some (.int .i64 t.last) ∧ Below w.heap.size w w') ((repeat' apply And.intro) <;> first | assumption | (exact cell_alloc_drew (by assumption) _) | (exact cell_alloc (by assumption) _) | (exact cell_drew (by assumption)) | (exact below_alloc_drew (by assumption) (Nat.le_refl _) _) | (exact below_alloc (by assumption) (Nat.le_refl _) _) | (exact Below.drew (by assumption))) (first | (go_at_call 67; (with_reducible refine (CS.out _ ?hh).mono ?_); (case hh => first | assumption | exact Below.drew (by assumption)); rintro e w3 ⟨A3, c3, g3, rfl, hst3, hg3, hb3, hr3⟩; have hBS : Below w.heap.size w w3 := below_then hb3 (by first | assumption | exact Below.drew (by assumption)); have F3 := FSt.below H.out hBS; obtain ⟨p0, p1, p2, p3, p4, p5, _⟩ := box7 F3.b) | (go_at_call 68; (with_reducible refine (CP.out _ ?hh).mono ?_); (case hh => first | assumption | exact Below.drew (by assumption)); rintro e w4 ⟨g4, rfl, hpm4, hg4, hb4⟩; have hBP : Below w.heap.size w w4 := below_then hb4 (by first | assumption | exact Below.drew (by assumption)); have F4 := FSt.below H.out hBP; obtain ⟨k0, k1, k2, k3, k4, k5, _⟩ := box7 F4.b))
    all_goals
      have e0 : w.drew.heap.size = w.heap.size := rfl
      have z3 := hb3.size; have z4 := hb4.size
      have l3 := hst3.out.b.lt; have l4 := hpm4.out.lt
      go_wp2
      go_meet
      case rel => first
        | exact fcopied H.out hBP ((hst3.out.below hb4).lower (by omega) hr3) hpm4.out (by omega) (by omega) (by omega) (fun e => by have := (hst3.out.own.row_lt _ e).2; omega)
        | exact fcopied H.out hBS (hst3.out.lower (by omega) hr3) (hpm4.out.below hb3) (by omega) (by omega) (by omega) (fun e => by have := (hst3.out.own.row_lt _ e).1; omega)
  go_wp2
  go_ret
  exact ⟨_, rfl, hcut⟩
end Go.Proofs.YtkdgpdijbobmkaaGreat
namespace Go.Proofs.YtkdgpdijbobmkaaGreat
set_option linter.all false
open Go Go.RowKit
theorem FSt.low {w : World} {lo : Nat} {a : FA} {t : FT} (h : FSt w lo a t) : FSt w 0 a t :=
  ⟨h.b, ⟨h.st.b, h.st.own.lower (Nat.zero_le _), .inr (h.st.apart.resolve_left (by have := h.lot; omega)), h.st.z⟩, h.ps, h.ev.lower (Nat.zero_le _), Nat.zero_le _, Nat.zero_le _, Nat.zero_le _, h.st_, h.sp_, h.tp_, h.ts, h.tp, h.es, h.et, h.ep, h.er_, h.bl, h.bm, h.z1, h.z2, h.xl⟩
/-- a floor in memory: what of it is written lies apart from the blocks X -/
def FlM (w : World) (X : Nat → Prop) (g : Nat) (f : FS) : Prop :=
  ∃ a t, t.shut = f ∧ Bk w g 93 #[.pointer (some ⟨a.gs, 0, none⟩)] ∧ FSt w 0 a t ∧ a.X = X ∧ X g ∧ ∀ k, a.Q k → ¬ X k
section
variable {w w' : World} {X X' : Nat → Prop} {g : Nat} {f : FS} {r : Option Nat}
theorem FlM.lt (h : FlM w X g f) : g < w.heap.size := by obtain ⟨a, t, _, hb, _⟩ := h; exact hb.lt
theorem FlM.xlt (h : FlM w X g f) : ∀ k, X k → k < w.heap.size := by obtain ⟨a, t, _, hb, hf, hx, _⟩ := h; intro k e; exact hf.xl k (by rw [hx]; exact e)
theorem FlM.grown (h : FlM w X g f) (hg : w.grownBy w' r) (hr : ∀ k, r = some k → X k ∧ k ≠ g) (hx : ∀ k, X' k → X k ∨ w.heap.size ≤ k) (hxg : X' g) (hl : ∀ k, X' k → k < w'.heap.size) : FlM w' X' g f := by
  obtain ⟨a, t, hsh, hb, hf, hax, hgx, hq⟩ := h
  have hlt := hf.q_lt
  refine ⟨{ a with X := X' }, t, hsh, hb.grown hg (fun e => (hr g e.symm).2 rfl), hf.rowed hg (fun k e => ⟨fun hk => hq k hk (hr k e).1, by rw [hax]; exact (hr k e).1⟩) (fun k e => (hx k e).imp (fun e => by rw [hax]; exact e) id) hl, rfl, hxg, fun k hk e => ?_⟩
  rcases hx k e with e | e
  · exact hq k hk e
  · have := (hlt k hk).2; omega
theorem FlM.below (h : FlM w X g f) (hb : Below w.heap.size w w') : FlM w' X g f :=
  h.grown (grown_of_below hb none) (fun k e => by cases e) (fun k e => .inl e) (by obtain ⟨a, t, _, _, _, _, hg, _⟩ := h; exact hg) (fun k e => Nat.lt_of_lt_of_le (h.xlt k e) hb.size)
theorem FlM.x (h : FlM w X g f) : X g := by obtain ⟨a, t, _, _, _, _, hg, _⟩ := h; exact hg
end
/-- how Do ends -/
def DoPost (f : FS) (c : Cmd) (X : Nat → Prop) (g : Nat) (w : World) (e : Ending) (w' : World) : Prop :=
  ∃ A cap, e = .returned (.tuple #[.slice A (f.doV c).length cap, errV (f.doE c)]) ∧ Hid (FlM w' X g (f.doS c)) ∧ Hid (OwnS w' w.heap.size 10 A (f.doV c).length cap (evs (f.doV c))) ∧ w.grownBy w' (some g)
theorem do_bad {f : FS} {c : Cmd} {X : Nat → Prop} {g : Nat} {w w' : World} {E : Int} {t : FT} (h : f.run c = (E, t)) (h0 : E ≠ 0) (hm : FlM w X g f) (hb : Below w.heap.size w w') : DoPost f c X g w (.returned (.tuple #[.slice none 0 0, er E])) w' := by
  have e1 : f.doE c = E := by rw [FS.doE, h]
  have e2 : f.doV c = [] := by rw [FS.doV, h, if_pos h0]
  have e3 : f.doS c = f := by rw [FS.doS, h, if_pos h0]
  refine ⟨none, 0, by rw [e1, e2, errV, if_neg h0]; rfl, Lib.hid (by rw [e3]; exact hm.below hb), Lib.hid (by rw [e2]; exact OwnS.nil _ _ _ _), grown_of_below hb _⟩
theorem OwnS.srcE {w : World} {base n c tx e : Nat} {A : Option Addr} {xs : List Value} (h : OwnS w base 10 A n c xs) (hk : Tryz.prog.underlying tx = some (.slice e)) (h1 : ∀ u ∈ xs, u.oneCell' = true) : Src Tryz.prog 10 tx (.slice A n c) n xs w := by
  have hx : ∀ i j, i < n → j < 10 → xs[i * 10 + j]? = some (xs.getD (i * 10 + j) undef) := fun i j hi hj => by
    have : i * 10 + j < xs.length := by rw [h.len]; omega
    rw [List.getElem?_eq_getElem this, List.getD_eq_getElem?_getD, List.getElem?_eq_getElem this]; rfl
  refine src_rd (B := w.heap.size) (h.rd hx) hk h.len hx h1 (fun e => ?_)
  rcases Nat.eq_zero_or_pos n with h0 | h0
  · exact h0
  · obtain ⟨g, off, e', _⟩ := h.cell h0
    rw [e] at e'; cases e'
set_option maxRecDepth 100000 in
set_option maxHeartbeats 8000000 in
theorem fldo_any (f : FS) (X : Nat → Prop) (g : Nat) (c : Cmd) (w : World) (h : FlM w X g f) (hok : FSOk f) :
    Calls Tryz.prog 11 #[.pointer (some ⟨g, 0, none⟩), .agg #[.int .i64 c.what, .int .i64 c.o.id, .int .i64 c.o.who, .int .i64 c.o.side, .int .i64 c.o.kind, .int .i64 c.o.price, .int .i64 c.o.qty, .int .i64 c.o.show_, .int .i64 c.o.stop, .int .i64 c.who, .int .i64 c.n]] w (DoPost f c X g w) := by
  obtain ⟨i0, hi, hz0, hz1, hz2⟩ := info_parts info_ev
  have HI := Lib.hid hi; have H0 := Lib.hid hz0; have H1 := Lib.hid hz1; have H2 := Lib.hid hz2
  have HM := Lib.hid h; have HOK := Lib.hid hok.open
  obtain ⟨a, t, hsh, hbg, hf, hax, hgx, hq⟩ := h
  have hb : Below w.heap.size w (w.alloc (.cells #[.int .i64 c.what, .int .i64 c.o.id, .int .i64 c.o.who, .int .i64 c.o.side, .int .i64 c.o.kind, .int .i64 c.o.price, .int .i64 c.o.qty, .int .i64 c.o.show_, .int .i64 c.o.stop, .int .i64 c.who, .int .i64 c.n] 34)) := below_then_alloc (Below.refl _ _)
  have HB := Lib.hid hb
  have F1 := Lib.hid (hf.below hb); have BG := Lib.hid (hbg.keep hb)
  have BG0 := Lib.hid hbg
  have HX := Lib.hid hax; have HGX := Lib.hid hgx; have HGL := Lib.hid hbg.lt
  have HXL := Lib.hid (show ∀ k, X k → k < w.heap.size from HM.out.xlt)
  have bo := Bk.new w 34 #[.int .i64 c.what, .int .i64 c.o.id, .int .i64 c.o.who, .int .i64 c.o.side, .int .i64 c.o.kind, .int .i64 c.o.price, .int .i64 c.o.qty, .int .i64 c.o.show_, .int .i64 c.o.stop, .int .i64 c.who, .int .i64 c.n]
  have HO := Lib.hid (show f.open = { t with ev := [] } by rw [← hsh]; rfl)
  have hfew : t.st.length ≤ 20 := by have := hok.few; rw [← hsh] at this; exact this
  clear hok hsh hbg hf hax hgx hq hb hi hz0 hz1 hz2
  go_enter Tryz.func11, Tryz.ntmps11
  go_upto_region 1 with fail
  generalize w.alloc (.cells #[.int .i64 c.what, .int .i64 c.o.id, .int .i64 c.o.who, .int .i64 c.o.side, .int .i64 c.o.kind, .int .i64 c.o.price, .int .i64 c.o.qty, .int .i64 c.o.show_, .int .i64 c.o.stop, .int .i64 c.who, .int .i64 c.n] 34) = w1 at *
  have g0 := BG.out.cell 0
  simp at g0
  have cC := fcopy_any t 0 a w1 F1.out hfew
  unfold FCopyPost at cC
  have CC := Lib.hid cC
  have BO := Lib.hid bo
  clear cC bo
  go_upto_region 2 with (go_at_call 36; refine CC.out.mono ?_; rintro e w2 ⟨v, rfl, a2, rfl, F2, hX2, hb2⟩)
  rw [← HO.out] at F2
  have BG2 := Lib.hid (BG.out.keep hb2); have BO2 := Lib.hid (BO.out.keep hb2)
  have HB2 := Lib.hid (below_then hb2 HB.out)
  have HX2 := Lib.hid (hX2.trans HX.out)
  have hlo2 := hb2.size
  have HLO : Hid (w.heap.size ≤ w1.heap.size) := Lib.hid HB.out.size
  clear g0 CC hb2 hX2 F1 BG BO
  generalize w1.heap.size = lo at *
  obtain ⟨o0, o1, o2, o3, o4, o5, o6, o7, o8, o9, o10⟩ := box11 BO2.out
  have cD := fdo_any f.open lo a2 c w2 F2.out HOK.out hlo2 (by show ([] : List Ev).length ≤ _; simp)
  unfold FOutE at cD
  by_cases h1 : (f.open.act c).1 = 0
  case neg => as_aux_lemma =>
    have HR := Lib.hid (show f.run c = ((f.open.act c).1, f.open) by rw [FS.run, if_pos h1])
    rw [show errV (f.open.act c).1 = er (f.open.act c).1 by rw [errV, if_neg h1]] at cD
    have HNZ := Lib.hid h1
    have CD := Lib.hid cD
    clear h1 cD
    generalize (f.open.act c).1 = E at *
    go_wp2_with (go_at_call 37; refine CD.out.mono ?_; rintro e w3 ⟨rfl, HE, HK⟩)
    go_ret2
    exact do_bad HR.out HNZ.out HM.out (HB2.out.trans ((HK.out.below_to hlo2 (fun k e => (F2.out.q_lt k e).1)).mono HLO.out))
  have HR := Lib.hid (show f.run c = wakeF 100 [] (tradedF (f.open.act c).2.ev 0) (f.open.act c).2 by rw [FS.run, if_neg (by simpa using h1)])
  have HMO := Lib.hid (act_ok HOK.out h1)
  have HE1 := Lib.hid h1
  rw [h1, show errV 0 = .nilIface from rfl] at cD
  have CD := Lib.hid cD
  clear cD h1
  generalize (f.open.act c).2 = t1 at *
  go_upto_region 5 with (go_at_call 37; refine CD.out.mono ?_; rintro e w3 ⟨rfl, HE, HK⟩)
  obtain ⟨a3, hF3, hT3⟩ := HE.out (by first | trivial | exact HE1.out)
  have F3 := Lib.hid hF3
  have HB3 := Lib.hid (HB2.out.trans ((hT3.ks.below_to hlo2 (fun k e => (F2.out.q_lt k e).1)).mono HLO.out))
  have HG3 := Lib.hid hT3.gs
  have HX3 := Lib.hid (hT3.x.trans HX2.out)
  have HV1 := Lib.hid (show t1.ev.length ≤ 464 by have := HMO.out.ev; have e : f.open.ev.length = 0 := rfl; omega)
  have cR := traded_any t1 lo a3 0 w3 hF3 (Nat.zero_le _) (by have := HV1.out; omega)
  rw [show ((0 : Nat) : Int) = 0 from rfl, HG3.out] at cR
  obtain ⟨tr, htr⟩ : ∃ x, x = tradedF t1.ev 0 := ⟨_, rfl⟩
  rw [← htr] at cR
  have HR2 := Lib.hid (show f.run c = wakeF 100 [] tr t1 by rw [htr]; exact HR.out)
  have CR := Lib.hid cR
  have hlo3 : lo ≤ w3.heap.size := Nat.le_trans hlo2 hT3.ks.size
  have cW := fun (w4 : World) (hb4 : Below w3.heap.size w3 w4) => wake_any t1 lo a3 tr w4 (F3.out.below hb4) HMO.out.ok (Nat.le_trans hlo3 hb4.size) (by have := HV1.out; omega)
  rw [HG3.out] at cW
  unfold FOutE at cW
  clear CD HE HK hF3 hT3 htr cR HR o0 o1 o2 o3 o4 o5 o6 o7 o8 o9 o10
  by_cases h2 : (wakeF 100 [] tr t1).1 = 0
  case neg => as_aux_lemma =>
    have HR3 := Lib.hid (show f.run c = ((wakeF 100 [] tr t1).1, (wakeF 100 [] tr t1).2) from HR2.out)
    rw [show errV (wakeF 100 [] tr t1).1 = er (wakeF 100 [] tr t1).1 by rw [errV, if_neg h2]] at cW
    have HNZ := Lib.hid h2
    have CW := Lib.hid cW
    clear h2 cW HR2
    generalize (wakeF 100 [] tr t1).1 = E at *
    go_wp2_with (first | (go_at_call 39; refine CR.out.mono ?_; rintro e w4 ⟨rfl, hb4⟩) | (go_at_call 38; refine (CW.out _ (by assumption)).mono ?_; rintro e w5 ⟨rfl, HE, HK⟩))
    go_ret2
    exact do_bad HR3.out HNZ.out HM.out ((HB3.out.trans (hb4.mono (Nat.le_trans HLO.out hlo3))).trans ((HK.out.below_to (Nat.le_trans hlo3 hb4.size) (fun k e => (F3.out.q_lt k e).1)).mono HLO.out))
  have HMO2 := Lib.hid (wakeF_ok 100 [] tr t1 HMO.out.ok (fun o ho => by cases ho) h2)
  have HE2 := Lib.hid h2
  rw [h2, show errV 0 = .nilIface from rfl] at cW
  have HR3 := Lib.hid (show f.run c = (0, (wakeF 100 [] tr t1).2) by rw [HR2.out]; exact Prod.ext h2 rfl)
  have CW := Lib.hid cW
  clear h2 cW HR2
  generalize (wakeF 100 [] tr t1).2 = t2 at *
  go_upto_region 8 with (first | (go_at_call 39; refine CR.out.mono ?_; rintro e w4 ⟨rfl, hb4⟩) | (go_at_call 38; refine (CW.out _ (by assumption)).mono ?_; rintro e w5 ⟨rfl, HE, HK⟩))
  obtain ⟨a5, hF5, hT5⟩ := HE.out (by first | trivial | exact HE2.out)
  have F5 := Lib.hid hF5
  have HB5 := Lib.hid ((HB3.out.trans (hb4.mono (Nat.le_trans HLO.out hlo3))).trans ((hT5.ks.below_to (Nat.le_trans hlo3 hb4.size) (fun k e => (F3.out.q_lt k e).1)).mono HLO.out))
  have HG5 := Lib.hid (hT5.gs.trans HG3.out)
  have HX5 := Lib.hid (hT5.x.trans HX3.out)
  have hlo5 : lo ≤ w5.heap.size := Nat.le_trans (Nat.le_trans hlo3 hb4.size) hT5.ks.size
  have BG5 := Lib.hid ((show Bk w5 g 93 #[.pointer (some ⟨a.gs, 0, none⟩)] from (HB5.out.block g HGL.out).trans BG0.out))
  have HQ5 := Lib.hid (show ∀ k, a5.Q k → ¬ X k from fun k e h => by have := (F5.out.q_lt k e).1; have := HXL.out k h; have := HLO.out; omega)
  have F6 := Lib.hid (F5.out.rowed (X' := X) (grown_set w5 ⟨g, 0, none⟩ (.pointer (some ⟨a2.gs, 0, none⟩))) (fun k e => by cases e; exact ⟨fun h => HQ5.out g h HGX.out, by rw [HX5.out]; exact HGX.out⟩) (fun k e => .inl (by rw [HX5.out]; exact e)) (fun k e => by have := HXL.out k e; have := HB5.out.size; simp; omega))
  have BG6 := Lib.hid (BG5.out.set_ 0 (.pointer (some ⟨a2.gs, 0, none⟩)))
  have g0 := BG5.out.cell 0
  have z0 := BG5.out.free 0
  simp at g0
  clear HE HK hF5 hT5 CR CW hb4
  go_upto_region 9 with fail
  clear g0 z0
  obtain ⟨w6, hw6⟩ : ∃ x, x = w5.setCell ⟨g, 0, none⟩ (.pointer (some ⟨a2.gs, 0, none⟩)) := ⟨_, rfl⟩
  have HB6 := Lib.hid (show w.grownBy w6 (some g) by rw [hw6]; exact (grown_of_below HB5.out (some g)).trans (grown_set _ _ _))
  have HZ6 := Lib.hid (show w.heap.size ≤ w6.heap.size from HB6.out.size)
  rw [← hw6] at F6 BG6
  rw [← hw6]
  clear hw6
  obtain ⟨q0, q1, q2, q3, q4, q5, q6⟩ := box7 F6.out.b
  rw [show FA.gs { a5 with X := X } = a2.gs from HG5.out] at q6
  have hm : t2.ev.length ≤ 46900 := by have := HMO2.out.ev; have := HV1.out; omega
  have HEV := Lib.hid F6.out.ev
  have HL2 : Hid (t2.ev.length ≤ 46900) := Lib.hid hm
  clear q0 q1 q2 q3 q4 q5 hm
  go_wp2_with (at_builtin; go_loud (refine wpList_append_S (base := w.heap.size) (s := 10) (n := 0) (cap := 0) (A := none) (xs := []) rfl _ _ _ _ rfl 42 i0 _ 80 Tryz.underlying25 HI.out H0.out H1.out H2.out rfl rfl (OwnS.nil _ _ _ _) HZ6.out _ rfl t2.ev.length (evs t2.ev) (HEV.out.srcE Tryz.underlying25 (evs_one _)) (by unfold maxLen; have := HL2.out; omega) (by have := HL2.out; omega) ?_); intro A7 c7 w7 gr)
  go_ret2
  have hb7 : Below w6.heap.size w6 w7 := (Below.refl w6.heap.size w6).grown gr.grown (Nat.le_refl _) (fun k e => by cases e)
  have FM : FlM w6 X g t2.shut := ⟨{ a5 with X := X }, t2, rfl, (by rw [show FA.gs { a5 with X := X } = a2.gs from HG5.out]; exact BG6.out), F6.out.low, rfl, HGX.out, HQ5.out⟩
  have e1 : f.doE c = 0 := by rw [FS.doE, HR3.out]
  have e2 : f.doV c = t2.ev := by rw [FS.doV, HR3.out]; exact if_neg (by simp)
  have e3 : f.doS c = t2.shut := by rw [FS.doS, HR3.out]; exact if_neg (by simp)
  have ho := gr.own
  rw [Nat.zero_add, List.nil_append] at ho
  refine ⟨A7, c7, by rw [e1, e2]; rfl, Lib.hid (by rw [e3]; exact FM.below hb7), Lib.hid (by rw [e2]; exact ho), HB6.out.trans (grown_of_below hb7 _)⟩
end Go.Proofs.YtkdgpdijbobmkaaGreat
namespace Go.Proofs.YtkdgpdijbobmkaaGreat
set_option linter.all false
open Go Go.RowKit
theorem fmode_any (m : Int) (w : World) : Calls Tryz.prog 42 #[.int .i64 m] w fun e w' => e = .returned (.bool (inb m 0 3)) ∧ w = w' := by
  rcases (show m < 0 ∨ (0 ≤ m ∧ 3 < m) ∨ (0 ≤ m ∧ m ≤ 3) by omega) with h | ⟨h, h2⟩ | ⟨h, h2⟩
  · have H := Lib.hid (inb_n (.inl h) : inb m 0 3 = false)
    go_enter Tryz.func42, Tryz.ntmps42
    go_wp2
    go_ret
    exact ⟨ret_bool (by rw [H.out]; first | done | exact decide_eq_false (by omega) | exact decide_eq_true (by omega)), rfl⟩
  · have H := Lib.hid (inb_n (.inr h2) : inb m 0 3 = false)
    go_enter Tryz.func42, Tryz.ntmps42
    go_wp2
    go_ret
    exact ⟨ret_bool (by rw [H.out]; first | done | exact decide_eq_false (by omega) | exact decide_eq_true (by omega)), rfl⟩
  · have H := Lib.hid (inb_y ⟨h, h2⟩ : inb m 0 3 = true)
    go_enter Tryz.func42, Tryz.ntmps42
    go_wp2
    go_ret
    exact ⟨ret_bool (by rw [H.out]; first | done | exact decide_eq_false (by omega) | exact decide_eq_true (by omega)), rfl⟩
theorem FlM.less {w : World} {X X' : Nat → Prop} {g : Nat} {f : FS} (h : FlM w X g f) (hx : ∀ k, X' k → X k) (hg : X' g) : FlM w X' g f := by
  obtain ⟨a, t, hsh, hb, hf, hax, hgx, hq⟩ := h
  exact ⟨{ a with X := X' }, t, hsh, hb, hf.others (fun k e => by rw [hax]; exact hx k e), rfl, hg, fun k e h => hq k e (hx k h)⟩
/-- how New ends, all told: what is new lies apart from all that was -/
def FNewAll (mode : Int) (w : World) (e : Ending) (w' : World) : Prop :=
  ∃ g, e = .returned (.tuple #[.pointer (some ⟨g, 0, none⟩), .nilIface]) ∧ w.heap.size ≤ g ∧ Hid (FlM w' (fun k => k = g ∨ k < w.heap.size) g (FS.new mode)) ∧ Below w.heap.size w w'
/-- how New ends -/
def FNewPost (mode : Int) (w : World) (e : Ending) (w' : World) : Prop :=
  ∃ g, e = .returned (.tuple #[.pointer (some ⟨g, 0, none⟩), .nilIface]) ∧ w.heap.size ≤ g ∧ Hid (FlM w' (fun k => k = g) g (FS.new mode)) ∧ Below w.heap.size w w'
theorem fnew_bad (mode : Int) (hm : inb mode 0 3 = false) (w : World) : Calls Tryz.prog 16 #[.int .i64 mode] w fun e w' => e = .returned (.tuple #[.pointer none, er 1]) ∧ Below w.heap.size w w' := by
  have CM := Lib.hid (fun w => fmode_any mode w)
  go_enter Tryz.func16, Tryz.ntmps16
  go_wp2_with (go_at_call 42; refine (CM.out _).mono ?_; rintro e w' ⟨rfl, rfl⟩)
  go_ret2
  exact ⟨rfl, Below.refl _ _⟩
set_option maxRecDepth 100000 in
set_option maxHeartbeats 4000000 in
theorem fnew_all (mode : Int) (hm : inb mode 0 3 = true) (w : World) : Calls Tryz.prog 16 #[.int .i64 mode] w (FNewAll mode w) := by
  have CM := Lib.hid (fun w => fmode_any mode w)
  have CW := Lib.hid (fun w => wnew_any w)
  have CP := Lib.hid (fun w => new_any w)
  go_enter Tryz.func16, Tryz.ntmps16
  go_wp2_with (first | (go_at_call 42; refine (CM.out _).mono ?_; rintro e w' ⟨rfl, rfl⟩) | (go_at_call 43; refine (CW.out _).mono ?_; rintro e w1 ⟨rfl, hw1⟩; have S1 := Lib.hid (show StM w1 w.heap.size w.heap.size none 0 [] by rw [hw1]; exact StM.new w _); have hb1 : Below w.heap.size w w1 := (by rw [hw1]; exact (Below.refl _ _).alloc (Nat.le_refl _) _); clear hw1) | (go_at_call 44; refine (CP.out _).mono ?_; rintro e w2 ⟨rfl, hp2, hb2⟩; have HP2 := Lib.hid hp2; have S2 := Lib.hid (S1.out.below hb2); have hz1 := hb1.size; have hl1 := S1.out.b.lt; have hl2 := hp2.lt; clear hp2))
  go_ret2
  have hb3 := below_then hb2 hb1
  obtain ⟨a, ha⟩ : ∃ a : FA, a = { gs := w2.heap.size, gt := w.heap.size, gp := w1.heap.size, At := none, ct := 0, Ae := none, ce := 0, A1 := none, c1 := 0, A2 := none, c2 := 0, X := fun k => k = w2.heap.size + 1 ∨ k < w.heap.size } := ⟨_, rfl⟩
  have hb4 : Below w2.heap.size w2 ((w2.alloc (.cells #[.int .i64 mode, .slice none 0 0, .slice none 0 0, .pointer (some ⟨w.heap.size, 0, none⟩), .pointer (some ⟨w1.heap.size, 0, none⟩), .int .i64 0, .slice none 0 0] 99)).alloc (.cells #[.pointer (some ⟨w2.heap.size, 0, none⟩)] 93)) := below_then_alloc (below_then_alloc (Below.refl _ _))
  have lpn : ∀ (P : Nat → Prop) (w : World), ∃ xs, LP P w none [] xs := fun P w => ⟨[], fun h => absurd h (by simp), LC.nil⟩
  have F : FSt ((w2.alloc (.cells #[.int .i64 mode, .slice none 0 0, .slice none 0 0, .pointer (some ⟨w.heap.size, 0, none⟩), .pointer (some ⟨w1.heap.size, 0, none⟩), .int .i64 0, .slice none 0 0] 99)).alloc (.cells #[.pointer (some ⟨w2.heap.size, 0, none⟩)] 93)) 0 a ⟨mode, [], [], [], newP, 0, []⟩ := by
    subst ha
    have hst := S2.out.below hb4
    refine ⟨(Bk.new w2 _ _).alloc _, ⟨hst.b, hst.own.lower (Nat.zero_le _), .inr (by simp [rowOf]), hst.z⟩, HP2.out.below hb4, OwnS.nil _ _ _ _, Nat.zero_le _, Nat.zero_le _, Nat.zero_le _, by dsimp only; omega, by dsimp only; omega, by dsimp only; omega, by simp [rowOf], by simp [rowOf], by simp [rowOf], by simp [rowOf], by simp [rowOf], fun k e => (by simp [rowOf] at e), lpn _ _, lpn _ _, fun _ => rfl, fun _ => rfl, fun k e => ?_⟩
    have hz4 := hb4.size
    rcases e with e | e
    · subst e; simp
    · omega
  refine ⟨w2.heap.size + 1, by simp, by omega, Lib.hid ⟨a, _, rfl, ?_, F, ?_, .inl rfl, fun k e h => ?_⟩, below_then hb4 hb3⟩
  · have := Bk.at_ (w := w2.alloc (.cells #[.int .i64 mode, .slice none 0 0, .slice none 0 0, .pointer (some ⟨w.heap.size, 0, none⟩), .pointer (some ⟨w1.heap.size, 0, none⟩), .int .i64 0, .slice none 0 0] 99)) (g' := w2.heap.size + 1) (by simp) 93 #[.pointer (some ⟨w2.heap.size, 0, none⟩)]
    rw [ha]
    exact this
  · rw [ha]
  · subst ha
    rcases e with e | e | e | e | e
    · dsimp only at e; rcases h with h | h <;> omega
    · dsimp only at e; rcases h with h | h <;> omega
    · dsimp only at e; rcases h with h | h <;> omega
    · cases e
    · cases e
theorem fnew_any (mode : Int) (hm : inb mode 0 3 = true) (w : World) : Calls Tryz.prog 16 #[.int .i64 mode] w (FNewPost mode w) := by
  refine (fnew_all mode hm w).mono fun e w' h => ?_
  obtain ⟨g, h1, h2, h3, h4⟩ := h
  exact ⟨g, h1, h2, Lib.hid (h3.out.less (fun k e => .inl e) rfl), h4⟩
theorem flast_any (f : FS) (X : Nat → Prop) (g : Nat) (w : World) (h : FlM w X g f) : Calls Tryz.prog 14 #[.pointer (some ⟨g, 0, none⟩)] w fun e w' => e = .returned (.int .i64 f.last) ∧ w = w' := by
  obtain ⟨a, t, hsh, hbg, hf, _⟩ := h
  have g0 := hbg.cell 0
  simp at g0
  obtain ⟨q0, q1, q2, q3, q4, q5, q6⟩ := box7 hf.b
  have HS := Lib.hid (show f.last = t.last by rw [← hsh]; rfl)
  clear hf hbg hsh
  go_enter Tryz.func14, Tryz.ntmps14
  go_wp2
  go_ret
  exact ⟨by rw [HS.out]; rfl, rfl⟩
def PurV (p : Pur) : Value := .agg #[.int .i64 p.who, .int .i64 p.cash, .int .i64 p.held, .int .i64 p.stock, .int .i64 p.hstock]
theorem fpurse_any (f : FS) (X : Nat → Prop) (g : Nat) (who : Int) (w : World) (h : FlM w X g f) : Calls Tryz.prog 13 #[.pointer (some ⟨g, 0, none⟩), .int .i64 who] w fun e w' => e = .returned (.tuple #[.agg #[.int .i64 (getP f.S who).2.who, .int .i64 (getP f.S who).2.cash, .int .i64 (getP f.S who).2.held, .int .i64 (getP f.S who).2.stock, .int .i64 (getP f.S who).2.hstock], errV (getP f.S who).1]) ∧ Below w.heap.size w w' := by
  obtain ⟨a, t, hsh, hbg, hf, _⟩ := h
  have hb : Below w.heap.size w (w.alloc (.cells #[.int .i64 0, .int .i64 0, .int .i64 0, .int .i64 0, .int .i64 0] 36)) := below_then_alloc (Below.refl _ _)
  have HF := Lib.hid (hf.below hb)
  have g0 := (hbg.keep hb).cell 0
  simp at g0
  obtain ⟨q0, q1, q2, q3, q4, q5, q6⟩ := box7 HF.out.b
  have HB := Lib.hid hb
  have HS := Lib.hid (show f.S = t.S by rw [← hsh]; rfl)
  have CG := Lib.hid (get_any t.S a.gp who _ HF.out.ps)
  have bx := Bk.new w 36 #[.int .i64 0, .int .i64 0, .int .i64 0, .int .i64 0, .int .i64 0]
  rw [HS.out]
  clear hf hb hbg hsh q0 q1 q2 q3 q5 q6
  generalize (getP t.S who).2 = p at *
  generalize (getP t.S who).1 = E at *
  go_enter Tryz.func13, Tryz.ntmps13
  go_upto_region 1 with fail
  go_wp2_with fail
  go_at_call 40
  refine CG.out.mono ?_
  rintro e w1 ⟨rfl, hb1⟩
  have b1 := bx.keep hb1
  have x0 := b1.cell 0; have x1 := b1.cell 1; have x2 := b1.cell 2; have x3 := b1.cell 3; have x4 := b1.cell 4
  have y0 := b1.free 0; have y1 := b1.free 1; have y2 := b1.free 2; have y3 := b1.free 3; have y4 := b1.free 4
  have b2 := ((((b1.set_ 0 (.int .i64 p.who)).set_ 1 (.int .i64 p.cash)).set_ 2 (.int .i64 p.held)).set_ 3 (.int .i64 p.stock)).set_ 4 (.int .i64 p.hstock)
  have kx := And.intro (b2.cell 0) (And.intro (b2.cell 1) (And.intro (b2.cell 2) (And.intro (b2.cell 3) (b2.cell 4))))
  have HB2 := Lib.hid ((((((below_then hb1 HB.out).setCell (p := ⟨w.heap.size, 0, none⟩) (Nat.le_refl _) (.int .i64 p.who)).setCell (p := ⟨w.heap.size, 1, none⟩) (Nat.le_refl _) (.int .i64 p.cash)).setCell (p := ⟨w.heap.size, 2, none⟩) (Nat.le_refl _) (.int .i64 p.held)).setCell (p := ⟨w.heap.size, 3, none⟩) (Nat.le_refl _) (.int .i64 p.stock)).setCell (p := ⟨w.heap.size, 4, none⟩) (Nat.le_refl _) (.int .i64 p.hstock))
  simp at x0 x1 x2 x3 x4
  clear b1 b2 CG g0 q4 bx hb1
  go_wp2
  exact bodyPost_ret (v := .tuple #[.agg #[.int .i64 p.who, .int .i64 p.cash, .int .i64 p.held, .int .i64 p.stock, .int .i64 p.hstock], errV E]) (by simp [results, Tryz.results13, go_sem, kx]) rfl ⟨rfl, HB2.out⟩
theorem fstops_any (f : FS) (X : Nat → Prop) (g : Nat) (w : World) (h : FlM w X g f) (hl : f.st.length ≤ 20) : Calls Tryz.prog 15 #[.pointer (some ⟨g, 0, none⟩)] w (AllPost f.st w) := by
  obtain ⟨a, t, hsh, hbg, hf, _⟩ := h
  have g0 := hbg.cell 0
  simp at g0
  obtain ⟨q0, q1, q2, q3, q4, q5, q6⟩ := box7 hf.b
  have HS := Lib.hid (show f.st = t.st by rw [← hsh]; rfl)
  have CA := Lib.hid (wall_any t.st a.gt 0 a.At a.ct w hf.st (by rw [← HS.out]; omega))
  rw [HS.out]
  clear hf hbg hsh q0 q1 q2 q4 q5 q6 hl
  go_enter Tryz.func15, Tryz.ntmps15
  go_wp2_with (go_at_call 41; refine CA.out.mono ?_; rintro e w1 ⟨A, c, rfl, ho, hb1⟩; have HO := Lib.hid ho; clear ho)
  go_ret
  exact ⟨A, c, rfl, HO.out, hb1⟩
end Go.Proofs.YtkdgpdijbobmkaaGreat
namespace Go.Proofs.YtkdgpdijbobmkaaGreat
set_option linter.all false
open Go Go.RowKit
theorem upd_self (S : Nat → Pur) (k : Nat) : upd S k (S k) = S := by
  funext i; unfold upd; split
  · rename_i e; rw [e]
  · rfl
theorem freeP_zero {S : Nat → Pur} {who : Int} (hw : inb who 1 9 = true) (h1 : 0 ≤ (S who.toNat).held) (h2 : 0 ≤ (S who.toNat).hstock) : freeP S who 0 0 = (0, S) := by
  unfold freeP
  rw [if_pos (by rw [hw]; rfl), if_neg (by omega)]
  have : ({ S who.toNat with held := (S who.toNat).held - 0, hstock := (S who.toNat).hstock - 0 } : Pur) = S who.toNat := by simp
  rw [this, upd_self]
theorem kL_none {o : Order} {L M : List Lv} {q : Int} {T : List Trade} {W : List Int} {b : Bool} : kL o.side L ⟨pick o.side L M, q, T, W, b⟩ = L ∧ kM o.side M ⟨pick o.side L M, q, T, W, b⟩ = M := by
  unfold kL kM pick
  by_cases h : o.side = 1 <;> simp [h]
theorem met_none {L M : List Lv} {o : Order} {mode : Int} (h : mayTop o (pick o.side L M) = false) : met L M o mode = some ⟨pick o.side L M, o.qty, [], [], false⟩ := by
  have e : met L M o mode = mRun o mode (10000 + 60 + 2) ⟨pick o.side L M, o.qty, [], [], false⟩ := rfl
  rw [e]
  refine mRun_stop ?_
  generalize pick o.side L M = K at *
  cases K with
  | nil => simp [mGo]
  | cons x l => have h : may o x.price = false := h; simp [mGo, h]
/-- a limit order that meets nobody rests -/
theorem FT.come_rest {t : FT} {o : Order} (hk : o.kind = 1) (hq : 0 < o.qty) (hsh : o.show_ = 0) (hm : mayTop o (pick o.side t.L t.M) = false) (hp : putE t.L t.M o.side o.price ⟨o.id, o.who, o.qty, 0, 0⟩ = 0) (hw : inb o.who 1 9 = true) (h1 : 0 ≤ (t.S o.who.toNat).held) (h2 : 0 ≤ (t.S o.who.toNat).hstock) :
    t.come o = (true, 0, { t.tell 1 o.id o.qty o.price with L := putL o.side o.price ⟨o.id, o.who, o.qty, 0, 0⟩ t.L, M := putM o.side o.price ⟨o.id, o.who, o.qty, 0, 0⟩ t.M }) := by
  rw [FT.come_some (met_none hm)]
  have hr : restOf o o.qty = ⟨o.id, o.who, o.qty, 0, 0⟩ := by unfold restOf; rw [if_neg (by omega), hsh]
  have hko : kOut o (pick o.side t.L t.M) ⟨pick o.side t.L t.M, o.qty, [], [], false⟩ = 2 := kOut_2 (fun h => by omega) (fun h => by omega) (by dsimp only; omega) (fun h => h.elim (fun h => by cases h) (fun h => by omega))
  have hb : backR o [] 0 = (0, 0, 0) := by
    unfold backR
    rw [if_neg (by omega)]
    have e : mcash o.side o.lim 0 = 0 := by unfold mcash; split <;> simp
    have e2 : mstock o.side 0 = 0 := by unfold mstock; split <;> rfl
    rw [e, e2]
    rfl
  unfold FT.comeS
  rw [hko, if_neg (by decide)]
  dsimp only
  rw [kL_none.1, kL_none.2, hr, hp, if_neg (by simp), if_pos rfl]
  have hs : t.settle o [] [] o.qty 0 (putL o.side o.price ⟨o.id, o.who, o.qty, 0, 0⟩ t.L) (putM o.side o.price ⟨o.id, o.who, o.qty, 0, 0⟩ t.M) = (0, { t.tell 1 o.id o.qty o.price with L := putL o.side o.price ⟨o.id, o.who, o.qty, 0, 0⟩ t.L, M := putM o.side o.price ⟨o.id, o.who, o.qty, 0, 0⟩ t.M }) := by
    unfold FT.settle
    have e1 : tradesF [] t = (0, t) := rfl
    have e2 : wentF t.L t.M [] t = (0, t) := rfl
    rw [e1, if_neg (by simp)]
    dsimp only
    rw [e2, if_neg (by simp), hb, if_neg (by simp)]
    dsimp only
    rw [freeP_zero hw h1 h2, if_neg (by simp)]
    have a1 : ¬ ((0 : Int) < 0) := by omega

    simp only [if_neg a1, Int.sub_zero, if_pos hq]
  rw [hs]
/-- who buys takes the best one whole -/
theorem FT.come_take {t : FT} {o : Order} {p : Int} {r : Rest} {K : List Lv} {S1 S2 : Nat → Pur} (hs : o.side = 1) (hk : o.kind = 1 ∨ o.kind = 2) (hM : t.M = ⟨p, [r]⟩ :: K) (hq : r.qty = o.qty) (hh : r.hidden = 0) (hw : ¬ (r.who = o.who ∧ t.mode ≠ 0)) (hmay : may o p = true) (hq0 : 0 < o.qty)
    (ht : (⟨r.id, o.id, r.who, o.who, p, o.qty⟩ : Trade).okB = true) (htr : tradeP t.S r.who o.who p o.qty = (0, S1)) (hwr : wrap64 ((o.lim - p) * o.qty) = (o.lim - p) * o.qty) (hfr : freeP S1 o.who ((o.lim - p) * o.qty) 0 = (0, S2)) :
    t.come o = (true, 0, { t with M := K, S := S2, last := p, ev := t.ev ++ [⟨2, 0, 0, 0, ⟨r.id, o.id, r.who, o.who, p, o.qty⟩⟩] }) := by
  have hqf : qFirst r [] o.qty = (⟨r.id, r.who, o.qty⟩, []) := by unfold qFirst; rw [if_neg (by omega), if_neg (by omega), hq]
  have e0 : met t.L t.M o t.mode = mRun o t.mode (10060 + 1 + 1) ⟨⟨p, [r]⟩ :: K, o.qty, [], [], false⟩ := by unfold met; rw [if_pos hs, hM]
  have hg : mGo o ⟨⟨p, [r]⟩ :: K, o.qty, [], [], false⟩ = true := by simp [mGo, hmay, hq0]
  have hst : mStep o t.mode ⟨⟨p, [r]⟩ :: K, o.qty, [], [], false⟩ = ⟨K, 0, [⟨r.id, o.id, r.who, o.who, p, o.qty⟩], [], false⟩ := by
    unfold mStep
    dsimp only
    rw [if_neg hw, hqf]
    simp [mCut, mTr, hs]
  have hg2 : mGo o ⟨K, 0, [⟨r.id, o.id, r.who, o.who, p, o.qty⟩], [], false⟩ = false := by simp [mGo]
  have hmet : met t.L t.M o t.mode = some ⟨K, 0, [⟨r.id, o.id, r.who, o.who, p, o.qty⟩], [], false⟩ := by
    rw [e0, mRun_go hg, hst, if_neg (by simp), mRun_stop hg2]
  rw [FT.come_some hmet]
  have hko : kOut o (pick o.side t.L t.M) ⟨K, 0, [⟨r.id, o.id, r.who, o.who, p, o.qty⟩], [], false⟩ = 0 := kOut_0 (fun h => by omega) (fun h => by omega) rfl
  have hb : backR o [⟨r.id, o.id, r.who, o.who, p, o.qty⟩] 0 = (0, (o.lim - p) * o.qty, 0) := by
    unfold backR
    rw [if_neg (by omega)]
    have e : mcash o.side o.lim 0 = 0 := by unfold mcash; split <;> simp
    have e2 : mstock o.side 0 = 0 := by unfold mstock; split <;> rfl
    have e3 : bErr o ⟨r.id, o.id, r.who, o.who, p, o.qty⟩ = 0 := by
      unfold bErr; rw [ht, if_neg (by decide), if_pos ⟨rfl, hmay⟩]
    have e4 : backL o [⟨r.id, o.id, r.who, o.who, p, o.qty⟩] 0 = (0, (o.lim - p) * o.qty) := by
      unfold backL
      rw [e3, if_neg (by simp)]
      unfold bAdd
      rw [if_pos hs, Int.zero_add, hwr]
      rfl
    rw [e, e2, e4]
    rfl
  unfold FT.comeS
  rw [hko, if_neg (by decide), if_neg (by simp), if_neg (by simp)]
  dsimp only
  rw [if_neg (by decide)]
  have hkl : kL o.side t.L ⟨K, 0, [⟨r.id, o.id, r.who, o.who, p, o.qty⟩], [], false⟩ = t.L ∧ kM o.side t.M ⟨K, 0, [⟨r.id, o.id, r.who, o.who, p, o.qty⟩], [], false⟩ = K := by unfold kL kM pick; rw [hs]; exact ⟨rfl, rfl⟩
  rw [hkl.1, hkl.2]
  have hse : t.settle o [⟨r.id, o.id, r.who, o.who, p, o.qty⟩] [] 0 0 t.L K = (0, { t with M := K, S := S2, last := p, ev := t.ev ++ [⟨2, 0, 0, 0, ⟨r.id, o.id, r.who, o.who, p, o.qty⟩⟩] }) := by
    unfold FT.settle
    have e1 : tradesF [⟨r.id, o.id, r.who, o.who, p, o.qty⟩] t = (0, { t with S := S1 }.told ⟨r.id, o.id, r.who, o.who, p, o.qty⟩) := by
      unfold tradesF
      dsimp only
      rw [htr, if_neg (by simp)]
      rfl
    have e2 : ∀ x, wentF t.L t.M [] x = (0, x) := fun _ => rfl
    rw [e1, if_neg (by simp)]
    dsimp only
    rw [e2, if_neg (by simp), hb, if_neg (by simp)]
    dsimp only
    rw [show (FT.told { t with S := S1 } ⟨r.id, o.id, r.who, o.who, p, o.qty⟩).S = S1 from rfl, hfr, if_neg (by simp)]
    have a1 : ¬ ((0 : Int) < 0) := by omega
    have a2 : ¬ ((0 : Int) < 0 - 0) := by omega
    simp only [if_neg a1, if_neg a2]
    rfl
  rw [hse]
/-- a command behind which nobody wakes -/
theorem FS.run_quiet {f : FS} {c : Cmd} {t : FT} (h1 : f.open.act c = (0, t)) (h2 : tradedF t.ev 0 = false) : f.run c = (0, t) := by
  unfold FS.run
  rw [h1, if_neg (by simp)]
  dsimp only
  rw [h2]
  exact wakeF_end (n := 99) (by simp) rfl
theorem FS.run_still {f : FS} {c : Cmd} {t : FT} (h1 : f.open.act c = (0, t)) (h2 : t.st = []) (h3 : vp t.last = true) : f.run c = (0, t) := by
  unfold FS.run
  rw [h1, if_neg (by simp)]
  dsimp only
  have e : wkT (tradedF t.ev 0) t = t := by
    unfold wkT; split
    · rw [h2]; show ({ t with st := [] } : FT) = t; rw [← h2]
    · rfl
  have h := wakeF_end (n := 99) (row := []) (tr := tradedF t.ev 0) (t := t) (by rw [h3]; simp) (by unfold wkRow; rw [h2]; split <;> rfl)
  rw [e] at h
  exact h
theorem FS.run_le {f : FS} (h : FSOk f) {c : Cmd} (h0 : (f.run c).1 = 0) : (f.run c).2.ev.length ≤ 46900 := by
  unfold FS.run at h0 ⊢
  by_cases h1 : (f.open.act c).1 = 0
  · rw [if_neg (by simpa using h1)] at h0 ⊢
    have ha := act_ok h.open h1
    have hw := wakeF_ok 100 [] _ _ ha.ok (fun o ho => by cases ho) h0
    have e : f.open.ev.length = 0 := rfl
    have := ha.ev
    have := hw.ev
    omega
  · rw [if_pos h1] at h0; exact absurd h0 h1
theorem FS.doV_len {f : FS} (h : FSOk f) (c : Cmd) : (f.doV c).length ≤ 46900 := by
  unfold FS.doV
  split
  · simp
  · rename_i h1; exact FS.run_le h (by simpa using h1)
theorem FSOk.new (mode : Int) : FSOk (FS.new mode) := by
  have hs : ∀ s, vs s = true → SideOk s [] := fun s h => ⟨h, (fun _ h => by cases h), (fun _ h => by cases h), (fun _ h => by cases h), List.Pairwise.nil, by decide, List.nodup_nil⟩
  exact ⟨⟨hs 1 (by decide), hs 2 (by decide), (fun _ h => by cases h), by show cnt [] + cnt [] ≤ 60; decide, List.nodup_nil⟩, new_inv, (fun _ h => by cases h), by show 0 ≤ 20; omega⟩
theorem FSOk.doS_of {f : FS} (h : FSOk f) {c : Cmd} {t : FT} (hr : f.run c = (0, t)) : FSOk t.shut := by
  have := h.do c
  unfold FS.doS at this
  rw [hr, if_neg (by simp)] at this
  exact this
end Go.Proofs.YtkdgpdijbobmkaaGreat
namespace Go.Proofs.YtkdgpdijbobmkaaGreat
set_option linter.all false
open Go Go.RowKit
theorem fldo_good {f : FS} {X : Nat → Prop} {g : Nat} {c : Cmd} {t : FT} (hr : f.run c = (0, t)) (hok : FSOk f) (w : World) (h : FlM w X g f) :
    Calls Tryz.prog 11 #[.pointer (some ⟨g, 0, none⟩), .agg #[.int .i64 c.what, .int .i64 c.o.id, .int .i64 c.o.who, .int .i64 c.o.side, .int .i64 c.o.kind, .int .i64 c.o.price, .int .i64 c.o.qty, .int .i64 c.o.show_, .int .i64 c.o.stop, .int .i64 c.who, .int .i64 c.n]] w fun e w' => ∃ A cap, e = .returned (.tuple #[.slice A t.ev.length cap, .nilIface]) ∧ Hid (FlM w' X g t.shut) ∧ Hid (OwnS w' w.heap.size 10 A t.ev.length cap (evs t.ev)) ∧ w.grownBy w' (some g) := by
  refine (fldo_any f X g c w h hok).mono fun e w' hp => ?_
  obtain ⟨A, cap, h1, h2, h3, h4⟩ := hp
  have e1 : f.doE c = 0 := by rw [FS.doE, hr]
  have e2 : f.doV c = t.ev := by rw [FS.doV, hr]; exact if_neg (by simp)
  have e3 : f.doS c = t.shut := by rw [FS.doS, hr]; exact if_neg (by simp)
  rw [e1, e2] at h1
  rw [e2] at h3
  rw [e3] at h2
  exact ⟨A, cap, h1, h2, h3, h4⟩
theorem fldo_bad {f : FS} {X : Nat → Prop} {g : Nat} {c : Cmd} {t : FT} {E : Int} (hr : f.run c = (E, t)) (h0 : E ≠ 0) (hok : FSOk f) (w : World) (h : FlM w X g f) :
    Calls Tryz.prog 11 #[.pointer (some ⟨g, 0, none⟩), .agg #[.int .i64 c.what, .int .i64 c.o.id, .int .i64 c.o.who, .int .i64 c.o.side, .int .i64 c.o.kind, .int .i64 c.o.price, .int .i64 c.o.qty, .int .i64 c.o.show_, .int .i64 c.o.stop, .int .i64 c.who, .int .i64 c.n]] w fun e w' => ∃ A cap, e = .returned (.tuple #[.slice A 0 cap, er E]) ∧ Hid (FlM w' X g f) ∧ w.grownBy w' (some g) := by
  refine (fldo_any f X g c w h hok).mono fun e w' hp => ?_
  obtain ⟨A, cap, h1, h2, h3, h4⟩ := hp
  have e1 : f.doE c = E := by rw [FS.doE, hr]
  have e2 : f.doV c = [] := by rw [FS.doV, hr, if_pos h0]
  have e3 : f.doS c = f := by rw [FS.doS, hr, if_pos h0]
  rw [e1, e2, errV, if_neg h0] at h1
  rw [e3] at h2
  exact ⟨A, cap, h1, h2, h4⟩
theorem fldo_zero {f : FS} {X : Nat → Prop} {g : Nat} {c : Cmd} (hE : f.doE c = 0) (hok : FSOk f) (w : World) (h : FlM w X g f) :
    Calls Tryz.prog 11 #[.pointer (some ⟨g, 0, none⟩), .agg #[.int .i64 c.what, .int .i64 c.o.id, .int .i64 c.o.who, .int .i64 c.o.side, .int .i64 c.o.kind, .int .i64 c.o.price, .int .i64 c.o.qty, .int .i64 c.o.show_, .int .i64 c.o.stop, .int .i64 c.who, .int .i64 c.n]] w fun e w' => ∃ A cap, e = .returned (.tuple #[.slice A (f.doV c).length cap, .nilIface]) ∧ Hid (FlM w' X g (f.doS c)) ∧ Hid (OwnS w' w.heap.size 10 A (f.doV c).length cap (evs (f.doV c))) ∧ w.grownBy w' (some g) := by
  refine (fldo_any f X g c w h hok).mono fun e w' hp => ?_
  obtain ⟨A, cap, h1, h2, h3, h4⟩ := hp
  rw [hE] at h1
  exact ⟨A, cap, h1, h2, h3, h4⟩
/-- the writes of a floor of the call's own are below nothing old -/
theorem grown_below {w0 w w' : World} {g : Nat} (hb : Below w0.heap.size w0 w) (hg : w.grownBy w' (some g)) (h : w0.heap.size ≤ g) : Below w0.heap.size w0 w' :=
  hb.grown hg hb.size (fun k e => by cases e; exact h)
theorem open_shut (t : FT) (h : t.ev = []) : t.shut.open = t := by show ({ t with ev := [] } : FT) = t; rw [← h]
end Go.Proofs.YtkdgpdijbobmkaaGreat
