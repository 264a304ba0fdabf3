/- Floors that are the same: Book, pitsame.Events, replayed, alike. -/
import Derived.Test.YtkdgpdijbobmkaaGreatGrpAA
import Derived.Test.YtkdgpdijbobmkaaGreatGrpAC
import Derived.Test.YtkdgpdijbobmkaaGreatSameOrd
import Derived.Test.YtkdgpdijbobmkaaGreatGrpK
import Derived.Test.YtkdgpdijbobmkaaGreatGrpN
namespace Go.Proofs.YtkdgpdijbobmkaaGreat
set_option linter.all false
open Go Go.RowKit
theorem fbook_any (f : FS) (X : Nat → Prop) (g : Nat) (w : World) (h : FlM w X g f) (hok : FSOk f) : Calls Tryz.prog 17 #[.pointer (some ⟨g, 0, none⟩)] w (BOwn2Post f.L f.M w) := by
  obtain ⟨a, t, hsh, hbg, hf, _⟩ := h
  have hb : Below w.heap.size w (w.alloc (.cells #[.slice none 0 0, .slice none 0 0] 54)) := below_then_alloc (Below.refl _ _)
  have HF := Lib.hid (hf.below hb)
  have g0 := (hbg.keep hb).cell 0
  simp at g0
  obtain ⟨q0, q1, q2, q3, q4, q5, q6⟩ := box7 HF.out.b
  have HB := Lib.hid hb
  have eL : f.L = t.L := by rw [← hsh]; rfl
  have eM : f.M = t.M := by rw [← hsh]; rfl
  have hbk := hok.bk
  rw [eL, eM] at hbk ⊢
  have OK1 := LvOk.of (sideE_iff.2 hbk.buys); have OK2 := LvOk.of (sideE_iff.2 hbk.sells)
  have CB := Lib.hid (bown2_any t.L t.M a.A1 a.A2 a.c1 a.c2 _ HF.out.lp1 HF.out.lp2 OK1 OK2 HF.out.z1 HF.out.z2)
  unfold BOwn2Post at CB
  have bx := Bk.new w 54 #[.slice none 0 0, .slice none 0 0]
  clear hf hb hbg hsh eL eM hbk OK1 OK2 q0 q3 q4 q5 q6 hok
  go_enter Tryz.func17, Tryz.ntmps17
  go_upto_region 1 with fail
  go_wp2_with fail
  go_at_call 45
  refine CB.out.mono ?_
  rintro e w1 ⟨A1, c1, v1, A2, c2, v2, rfl, o1, o2, hb1, hfar⟩
  have b1 := bx.keep hb1
  have x0 := b1.cell 0; have x1 := b1.cell 1
  have y0 := b1.free 0; have y1 := b1.free 1
  have kx := pair2 ((b1.set_ 0 (.slice A1 t.L.length c1)).set_ 1 (.slice A2 t.M.length c2))
  have hz := HB.out.size
  have O1 := Lib.hid ((o1.far2 (g := w.heap.size) (i := 0) (j := 1) (by simp) (.slice A1 t.L.length c1) (.slice A2 t.M.length c2)).lower hz)
  have O2 := Lib.hid ((o2.far2 (g := w.heap.size) (i := 0) (j := 1) (by simp) (.slice A1 t.L.length c1) (.slice A2 t.M.length c2)).lower hz)
  have HFAR := Lib.hid hfar
  have HB2 := Lib.hid (((below_then hb1 HB.out).setCell (p := ⟨w.heap.size, 0, none⟩) (Nat.le_refl _) (.slice A1 t.L.length c1)).setCell (p := ⟨w.heap.size, 1, none⟩) (Nat.le_refl _) (.slice A2 t.M.length c2))
  simp at x0 x1
  clear b1 bx o1 o2 hfar hb1 CB g0 q1 q2 hz
  go_wp2
  exact bodyPost_ret (v := .agg #[.slice A1 t.L.length c1, .slice A2 t.M.length c2]) (by simp [results, Tryz.results17, go_sem, kx]) rfl ⟨_, _, v1, _, _, v2, rfl, O1.out, O2.out, HB2.out, HFAR.out⟩
/-- commands, one by one -/
def runAll (f : FS) : List Cmd → FS
  | [] => f
  | c :: l => runAll (f.doS c) l
theorem runAll_snoc : ∀ (l : List Cmd) (f : FS) (c : Cmd), runAll f (l ++ [c]) = (runAll f l).doS c
  | [], _, _ => rfl
  | x :: l, f, c => runAll_snoc l (f.doS x) c
theorem runAll_ok : ∀ (l : List Cmd) (f : FS), FSOk f → FSOk (runAll f l)
  | [], _, h => h
  | c :: l, f, h => runAll_ok l _ (h.do c)
def ReplPost (mode : Int) (l : List Cmd) (w : World) (e : Ending) (w' : World) : Prop :=
  ∃ g, e = .returned (.pointer (some ⟨g, 0, none⟩)) ∧ w.heap.size ≤ g ∧ Hid (FlM w' (fun k => k = g ∨ k < w.heap.size) g (runAll (FS.new mode) l)) ∧ Below w.heap.size w w'
theorem replayed_any (mode : Int) (hm : inb mode 0 3 = true) (l : List Cmd) (A : Option Addr) (c : Nat) (w : World) (hr : Rd w w.heap.size A l.length 11 (ccell l)) (hl : l.length ≤ 100000) :
    Calls Tryz.prog 34 #[.int .i64 mode, .slice A l.length c] w (ReplPost mode l w) := by
  have HR := Lib.hid hr
  have CN := Lib.hid (fnew_all mode hm w)
  clear hr hm
  go_enter Tryz.func34, Tryz.ntmps34
  go_wp2_with (go_at_call 16; refine CN.out.mono ?_; rintro e w1 ⟨g, rfl, hg, hM, hb1⟩)
  clear CN
  go_loopw [7] (fun i wr => ∃ k : Nat, k ≤ l.length ∧ i = .int .i64 k ∧ Hid (FlM wr (fun k => k = g ∨ k < w.heap.size) g (runAll (FS.new mode) (l.take k))) ∧ Below w.heap.size w wr) (fun i _ => l.length - (intOf i).toNat)
  case atStart => exact ⟨0, by omega, rfl, hM, hb1⟩
  case round =>
    obtain ⟨k, hk, rfl, HF, hb⟩ := hrel
    clear hM hb1
    by_cases hlt : k < l.length
    · obtain ⟨b, off, t, rfl, hbl, ht, e0, e1, e2, e3, e4, e5, e6, e7, e8, e9, e10⟩ := cmd_at (HR.out.below hb) hlt
      have j0 : (0 : Int) ≤ (k : Int) := by omega
      have j1 : (k : Int) < (l.length : Int) := by omega
      have HT := Lib.hid (show runAll (FS.new mode) (l.take (k + 1)) = (runAll (FS.new mode) (l.take k)).doS t by rw [List.take_add_one, ht]; exact runAll_snoc _ _ _)
      have cD := fldo_any (runAll (FS.new mode) (l.take k)) (fun k => k = g ∨ k < w.heap.size) g t wr HF.out (runAll_ok _ _ (FSOk.new mode))
      unfold DoPost at cD
      have CD := Lib.hid cD
      clear ht cD
      generalize runAll (FS.new mode) (l.take k) = f at *
      go_wp2_with (go_at_call 11; (with_reducible refine CD.out.mono ?_); rintro e w2 ⟨A2, c2, rfl, H2, _, g2⟩)
      go_roundw
      case rel => exact ⟨k + 1, by omega, by go_num, Lib.hid (by rw [HT.out]; exact H2.out), grown_below hb g2 hg⟩
      case measure => simp [intOf]; omega
    · obtain rfl : k = l.length := by omega
      rw [List.take_length] at HF
      go_wp2
      go_ret
      exact ⟨g, rfl, hg, HF, hb⟩
set_option maxRecDepth 100000 in
set_option maxHeartbeats 4000000 in
theorem alike_any (f : FS) (X Y : Nat → Prop) (g h : Nat) (w : World) (hg : FlM w X g f) (hh : FlM w Y h f) (hok : FSOk f) :
    Calls Tryz.prog 35 #[.pointer (some ⟨g, 0, none⟩), .pointer (some ⟨h, 0, none⟩)] w fun e w' => e = .returned (.bool true) ∧ Below w.heap.size w w' := by
  have HG := Lib.hid hg; have HH := Lib.hid hh; have HOK := Lib.hid hok
  have CB1 := Lib.hid (fbook_any f X g w hg hok)
  have CB2 := Lib.hid (fun (w' : World) (hb : Below w.heap.size w w') => fbook_any f Y h w' (hh.below hb) hok)
  have k1 := hok.bk.sizes.1
  have k2 := hok.bk.sizes.2
  have s1 : f.L.length ≤ 100 ∧ ∀ x ∈ f.L, x.rs.length ≤ 100 := by have := hok.bk.buys.short; exact ⟨by omega, fun x hx => by have := this.2 x hx; omega⟩
  have s2 : f.M.length ≤ 100 ∧ ∀ x ∈ f.M, x.rs.length ≤ 100 := by have := hok.bk.sells.short; exact ⟨by omega, fun x hx => by have := this.2 x hx; omega⟩
  have HS := Lib.hid (And.intro s1 s2)
  unfold BOwn2Post at CB1 CB2
  clear hg hh hok k1 k2 s1 s2
  go_enter Tryz.func35, Tryz.ntmps35
  go_wp2_with fail
  go_at_call 17
  refine CB1.out.mono ?_
  rintro e w1 ⟨A1, c1, v1, A2, c2, v2, rfl, o1, o2, hb1, _⟩
  go_wp2_with fail
  go_at_call 17
  refine (CB2.out _ hb1).mono ?_
  rintro e w2 ⟨B1, d1, u1, B2, d2, u2, rfl, p1, p2, hb2, _⟩
  have CSB := Lib.hid (same_book f.L f.M A1 A2 B1 B2 c1 c2 d1 d2 w2 (o1.below hb2).rd (o2.below hb2).rd p1.rd p2.rd HS.out.1 HS.out.2)
  have hb12 := below_then hb2 hb1
  clear o1 o2 p1 p2 hb1 hb2 CB1 CB2
  go_wp2_with fail
  go_at_call 65
  refine CSB.out.mono ?_
  rintro e w3 ⟨rfl, hb3⟩
  have hb13 := below_then hb3 hb12
  have CS1 := Lib.hid (fstops_any f X g w3 (HG.out.below hb13) HOK.out.few)
  unfold AllPost at CS1
  clear hb12 hb3 CSB
  go_wp2_with fail
  go_at_call 15
  refine CS1.out.mono ?_
  rintro e w4 ⟨A3, c3, rfl, o3, hb4⟩
  have hb14 := below_then hb4 hb13
  have CS2 := Lib.hid (fstops_any f Y h w4 (HH.out.below hb14) HOK.out.few)
  unfold AllPost at CS2
  go_wp2_with fail
  go_at_call 15
  refine CS2.out.mono ?_
  rintro e w5 ⟨A4, c4, rfl, o4, hb5⟩
  have CSO := Lib.hid (same_ords f.st A3 A4 c3 c4 w5 (o3.below hb5).rdO o4.rdO (by have := HOK.out.few; omega))
  have hb15 := below_then hb5 hb14
  clear o3 o4 hb4 hb5 hb13 hb14 CS1 CS2
  go_wp2_with (go_at_call 66; refine CSO.out.mono ?_; rintro e w6 ⟨rfl, hb6⟩)
  have HB6 := Lib.hid (below_then hb6 hb15)
  clear hb6 hb15 CSO
  go_loopw [7] (fun i wr => ∃ k : Nat, 1 ≤ k ∧ k ≤ 10 ∧ i = .int .i64 k ∧ Hid (Below w.heap.size w wr)) (fun i _ => 10 - (intOf i).toNat)
  case atStart => exact ⟨1, by omega, by omega, rfl, HB6⟩
  case round =>
    obtain ⟨k, hk1, hk2, rfl, HB⟩ := hrel
    by_cases hlt : k ≤ 9
    · have hlt2 : (k : Int) ≤ 9 := by omega
      have hget : getP f.S k = (0, f.S k) := by unfold getP; rw [if_pos (by simp [inb]; omega)]; simp
      have c1 := fpurse_any f X g k wr (HG.out.below HB.out)
      have c2 := fun (w' : World) (hb : Below wr.heap.size wr w') => fpurse_any f Y h k w' (HH.out.below (below_then hb HB.out))
      rw [hget] at c1
      simp only [hget] at c2
      dsimp only at c1 c2
      rw [show errV 0 = Value.nilIface from rfl] at c1
      simp only [show errV 0 = Value.nilIface from rfl] at c2
      have C1 := Lib.hid c1; have C2 := Lib.hid c2
      clear hget c1 c2
      generalize f.S k = p at *
      go_upto_region 7 with (go_at_call 13; (with_reducible refine C1.out.mono ?_); rintro e w7 ⟨rfl, hb7⟩)
      have ha7 : Below w7.heap.size w7 (w7.alloc (.cells #[.int .i64 p.who, .int .i64 p.cash, .int .i64 p.held, .int .i64 p.stock, .int .i64 p.hstock] 36)) := below_then_alloc (Below.refl _ _)
      have p7 := Bk.new w7 36 #[.int .i64 p.who, .int .i64 p.cash, .int .i64 p.held, .int .i64 p.stock, .int .i64 p.hstock]
      have hb8 := below_then ha7 hb7
      generalize w7.alloc (.cells #[.int .i64 p.who, .int .i64 p.cash, .int .i64 p.held, .int .i64 p.stock, .int .i64 p.hstock] 36) = w8 at *
      go_upto_region 8 with (go_at_call 13; (with_reducible refine (C2.out _ hb8).mono ?_); rintro e w9 ⟨rfl, hb9⟩)
      have ha9 : Below w9.heap.size w9 (w9.alloc (.cells #[.int .i64 p.who, .int .i64 p.cash, .int .i64 p.held, .int .i64 p.stock, .int .i64 p.hstock] 36)) := below_then_alloc (Below.refl _ _)
      have p9 := Bk.new w9 36 #[.int .i64 p.who, .int .i64 p.cash, .int .i64 p.held, .int .i64 p.stock, .int .i64 p.hstock]
      have p8 := p7.keep (below_then ha9 hb9)
      have HB10 := Lib.hid (below_then (below_then (below_then ha9 hb9) hb8) HB.out)
      generalize w9.alloc (.cells #[.int .i64 p.who, .int .i64 p.cash, .int .i64 p.held, .int .i64 p.stock, .int .i64 p.hstock] 36) = w10 at *
      obtain ⟨a0, a1, a2, a3, a4⟩ := pbox5 p8
      obtain ⟨b0, b1, b2, b3, b4⟩ := pbox5 p9
      clear ha7 hb7 hb8 ha9 hb9 p7 p8 p9 C1 C2
      go_wp2
      go_roundw
      case rel => exact ⟨k + 1, by omega, by omega, by go_num, HB10⟩
      case measure => simp [intOf]; omega
    · obtain rfl : k = 10 := by omega
      have L1 := Lib.hid (flast_any f X g wr (HG.out.below HB.out))
      have L2 := Lib.hid (flast_any f Y h wr (HH.out.below HB.out))
      go_wp2_with (first | (go_at_call 14; (with_reducible refine L1.out.mono ?_); rintro e wq ⟨rfl, rfl⟩) | (go_at_call 14; (with_reducible refine L2.out.mono ?_); rintro e wq ⟨rfl, rfl⟩))
      go_ret
      exact ⟨rfl, HB.out⟩
end Go.Proofs.YtkdgpdijbobmkaaGreat
