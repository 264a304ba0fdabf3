/- The contract of book.Cancel. -/
import Derived.Test.YtiaofbkhnodbhaaBookFind
namespace Go.Proofs.Ytiaofbkhnodbhaa
set_option linter.all false
open Go Go.RowKit
/-- how Cancel ends -/
def BCancelPost (z : Int) (L M : List Lv) (id : Int) (w : World) (e : Ending) (w' : World) : Prop :=
  ∃ A1 n1 c1 A2 n2 c2 r0 r1 r2 r3 r4 ev, e = .returned (.tuple #[.agg #[.slice A1 n1 c1, .slice A2 n2 c2], .agg #[.int .i64 r0, .int .i64 r1, .int .i64 r2, .int .i64 r3, .int .i64 r4], ev]) ∧
    Hid ((z ≠ 0 ∧ ev = er z ∧ n1 = 0 ∧ n2 = 0 ∧ (⟨r0, r1, r2, r3, r4⟩ : Rest) = ⟨0, 0, 0, 0, 0⟩) ∨ (z = 0 ∧ ev = .nilIface ∧ ∃ s i k x r v1 v2, BAt L M id s i k x r ∧ (⟨r0, r1, r2, r3, r4⟩ : Rest) = r ∧ n1 = (cutL s i k L).length ∧ n2 = (cutM s i k M).length ∧
      OwnLv w' w.heap.size A1 c1 (cutL s i k L) v1 ∧ OwnLv w' w.heap.size A2 c2 (cutM s i k M) v2)) ∧ Below w.heap.size w w'
theorem below_set2 {B : Nat} {w w1 : World} {g : Nat} (h : Below B w w1) (hg : B ≤ g) (a b : Value) : Below B w ((w1.setCell ⟨g, 0, none⟩ a).setCell ⟨g, 1, none⟩ b) := (h.setCell (p := ⟨g, 0, none⟩) hg a).setCell (p := ⟨g, 1, none⟩) hg b
theorem OwnLv.far5 {w : World} {base cap g : Nat} {A : Option Addr} {L : List Lv} {vs : List (Option Addr × Nat)} (h : OwnLv w base A cap L vs) (hg : g < base) (a b c d e : Value) : OwnLv (((((w.setCell ⟨g, 0, none⟩ a).setCell ⟨g, 1, none⟩ b).setCell ⟨g, 2, none⟩ c).setCell ⟨g, 3, none⟩ d).setCell ⟨g, 4, none⟩ e) base A cap L vs :=
  ((((h.far (p := ⟨g, 0, none⟩) hg a).far (p := ⟨g, 1, none⟩) hg b).far (p := ⟨g, 2, none⟩) hg c).far (p := ⟨g, 3, none⟩) hg d).far (p := ⟨g, 4, none⟩) hg e
theorem Bk.far5 {w : World} {g k : Nat} {t : TypeId} {cs : Array Value} (h : Bk w g t cs) (hg : g ≠ k) (a b c d e : Value) : Bk (((((w.setCell ⟨k, 0, none⟩ a).setCell ⟨k, 1, none⟩ b).setCell ⟨k, 2, none⟩ c).setCell ⟨k, 3, none⟩ d).setCell ⟨k, 4, none⟩ e) g t cs :=
  ((((h.far (p := ⟨k, 0, none⟩) hg a).far (p := ⟨k, 1, none⟩) hg b).far (p := ⟨k, 2, none⟩) hg c).far (p := ⟨k, 3, none⟩) hg d).far (p := ⟨k, 4, none⟩) hg e
theorem Bk.far2 {w : World} {g k : Nat} {t : TypeId} {cs : Array Value} (h : Bk w g t cs) (hg : g ≠ k) (a b : Value) : Bk ((w.setCell ⟨k, 0, none⟩ a).setCell ⟨k, 1, none⟩ b) g t cs := (h.far (p := ⟨k, 0, none⟩) hg a).far (p := ⟨k, 1, none⟩) hg b
set_option maxRecDepth 100000 in
set_option maxHeartbeats 4000000 in
theorem bcancel_any (L M : List Lv) (A1 A2 : Option Addr) (c1 c2 : Nat) (id : Int) (w : World) (h1 : RdLv w w.heap.size A1 L) (h2 : RdLv w w.heap.size A2 M) (hl1 : L.length ≤ maxLen) (hl2 : M.length ≤ maxLen) (hA1 : A1 = none → c1 = 0) (hA2 : A2 = none → c2 = 0) (z : Int) (hz : z = bfE L M id) :
    Calls Try.prog 12 #[.agg #[.slice A1 L.length c1, .slice A2 M.length c2], .int .i64 id] w (BCancelPost z L M id w) := by
  have HL := Lib.hid h1; have HM := Lib.hid h2; have HZ := Lib.hid hz
  have cC := Lib.hid (fun w' h h' => bcheck_any L M A1 A2 c1 c2 w' h h' hl1 hl2)
  have hb : Below w.heap.size w (((w.alloc (.cells #[.slice A1 L.length c1, .slice A2 M.length c2] 29)).alloc (.cells #[.slice none 0 0, .slice none 0 0] 29)).alloc (.cells #[.int .i64 0, .int .i64 0, .int .i64 0, .int .i64 0, .int .i64 0] 23)) := below_then_alloc (below_then_alloc ((Below.refl _ _).alloc (Nat.le_refl _) _))
  have bb := ((Bk.new w 29 #[.slice A1 L.length c1, .slice A2 M.length c2]).alloc (.cells #[.slice none 0 0, .slice none 0 0] 29)).alloc (.cells #[.int .i64 0, .int .i64 0, .int .i64 0, .int .i64 0, .int .i64 0] 23)
  have bo := (Bk.at_ (w := w.alloc (.cells #[.slice A1 L.length c1, .slice A2 M.length c2] 29)) (g' := w.heap.size + 1) (by simp) 29 #[.slice none 0 0, .slice none 0 0]).alloc (.cells #[.int .i64 0, .int .i64 0, .int .i64 0, .int .i64 0, .int .i64 0] 23)
  have br := Bk.at_ (w := (w.alloc (.cells #[.slice A1 L.length c1, .slice A2 M.length c2] 29)).alloc (.cells #[.slice none 0 0, .slice none 0 0] 29)) (g' := w.heap.size + 2) (by simp) 23 #[.int .i64 0, .int .i64 0, .int .i64 0, .int .i64 0, .int .i64 0]
  have HA1 := Lib.hid hA1; have HA2 := Lib.hid hA2
  clear h1 h2 hl1 hl2 hz hA1 hA2
  go_enter Try.func12, Try.ntmps12
  go_upto_region 1 with fail
  generalize ((w.alloc (.cells #[.slice A1 L.length c1, .slice A2 M.length c2] 29)).alloc (.cells #[.slice none 0 0, .slice none 0 0] 29)).alloc (.cells #[.int .i64 0, .int .i64 0, .int .i64 0, .int .i64 0, .int .i64 0] 23) = w0 at *
  obtain ⟨q0, q1⟩ := box2 bb
  go_wp2_with fail
  go_at_call 11
  refine (cC.out _ (HL.out.on hb) (HM.out.on hb)).mono ?_
  rintro e w1 ⟨rfl, hb1⟩
  replace bb := bb.keep hb1; replace bo := bo.keep hb1; replace br := br.keep hb1; replace hb := below_then hb1 hb
  clear hb1 cC q0 q1
  by_cases h1 : bookE L M = 0
  case neg =>
    have HE := Lib.hid (show z = bookE L M by rw [HZ.out, bfE, if_pos h1])
    have HN := Lib.hid h1
    rw [show errV (bookE L M) = er (bookE L M) by rw [errV, if_neg h1]]
    clear h1
    generalize bookE L M = y at *
    obtain ⟨s0, s1⟩ := box2 bo
    have f0 := bo.free 0; have f1 := bo.free 1
    have br2 := br.far2 (k := w.heap.size + 1) (by omega) (.slice none 0 0) (.slice none 0 0)
    obtain ⟨r0, r1, r2, r3, r4⟩ := pbox5 br
    have z0 := br.free 0; have z1 := br.free 1; have z2 := br.free 2; have z3 := br.free 3; have z4 := br.free 4
    have kx := box2 ((bo.set2 (.slice none 0 0) (.slice none 0 0)).far5 (k := w.heap.size + 2) (by omega) (.int .i64 0) (.int .i64 0) (.int .i64 0) (.int .i64 0) (.int .i64 0))
    have ky := pbox5 (br2.set5 (.int .i64 0) (.int .i64 0) (.int .i64 0) (.int .i64 0) (.int .i64 0))
    go_wp2
    exact bodyPost_ret (v := .tuple #[.agg #[.slice none 0 0, .slice none 0 0], .agg #[.int .i64 0, .int .i64 0, .int .i64 0, .int .i64 0, .int .i64 0], er y]) (by simp [results, Try.results12, go_sem, kx, ky]) rfl ⟨none, 0, 0, none, 0, 0, 0, 0, 0, 0, 0, er y, rfl, Lib.hid (.inl ⟨by rw [HE.out]; exact HN.out, by rw [HE.out], rfl, rfl, rfl⟩), below_set5 (below_set2 hb (by omega) _ _) (by omega) _ _ _ _ _⟩
  have HZ2 := Lib.hid (show z = if (whereB L M id).1 = 0 then 5 else 0 by rw [HZ.out, bfE, if_neg (by simpa using h1)])
  have zz := bookE_zero h1
  have O1 := LvOk.of zz.1
  have O2 := LvOk.of zz.2.1
  have cW := Lib.hid (fun w' h h' => bwhere_any L M A1 A2 c1 c2 id w' h h' O1 O2)
  have cOwn := Lib.hid (fun w' h h' => bown2_any L M A1 A2 c1 c2 w' h h' O1 O2 HA1.out HA2.out)
  have HBK := Lib.hid (bookE_iff.1 h1)
  rw [h1, show errV 0 = .nilIface from rfl]
  clear h1 HZ zz O1 O2 HA1 HA2
  obtain ⟨q0, q1⟩ := box2 bb
  go_wp2_with fail
  go_at_call 28
  refine (cW.out _ (HL.out.on hb) (HM.out.on hb)).mono ?_
  rintro e w2 ⟨rfl, hb2⟩
  replace bb := bb.keep hb2; replace bo := bo.keep hb2; replace br := br.keep hb2; replace hb := below_then hb2 hb
  clear hb2 cW q0 q1
  by_cases h2 : (whereB L M id).1 = 0
  · have HE := Lib.hid (show z = 5 by rw [HZ2.out, if_pos h2])
    have h2' : ((whereB L M id).1 == 0) = true := by simpa using h2
    clear h2
    generalize (whereB L M id).1 = q at *
    generalize (whereB L M id).2.1 = q' at *
    generalize (whereB L M id).2.2 = q'' at *
    obtain ⟨s0, s1⟩ := box2 bo
    have f0 := bo.free 0; have f1 := bo.free 1
    have br2 := br.far2 (k := w.heap.size + 1) (by omega) (.slice none 0 0) (.slice none 0 0)
    obtain ⟨r0, r1, r2, r3, r4⟩ := pbox5 br
    have z0 := br.free 0; have z1 := br.free 1; have z2 := br.free 2; have z3 := br.free 3; have z4 := br.free 4
    have kx := box2 ((bo.set2 (.slice none 0 0) (.slice none 0 0)).far5 (k := w.heap.size + 2) (by omega) (.int .i64 0) (.int .i64 0) (.int .i64 0) (.int .i64 0) (.int .i64 0))
    have ky := pbox5 (br2.set5 (.int .i64 0) (.int .i64 0) (.int .i64 0) (.int .i64 0) (.int .i64 0))
    go_wp2
    exact bodyPost_ret (v := .tuple #[.agg #[.slice none 0 0, .slice none 0 0], .agg #[.int .i64 0, .int .i64 0, .int .i64 0, .int .i64 0, .int .i64 0], er 5]) (by simp [results, Try.results12, go_sem, kx, ky]) rfl ⟨none, 0, 0, none, 0, 0, 0, 0, 0, 0, 0, er 5, rfl, Lib.hid (.inl ⟨by rw [HE.out]; decide, by rw [HE.out], rfl, rfl, rfl⟩), below_set5 (below_set2 hb (by omega) _ _) (by omega) _ _ _ _ _⟩
  have HE := Lib.hid (show z = 0 by rw [HZ2.out, if_neg h2])
  obtain ⟨s, i, k, x, r, hat⟩ := whereB_at h2
  have hsz : s ≠ 0 := by have := hat.where_; rw [this] at h2; exact h2
  have hs0 : (s == 0) = false := by simpa using hsz
  rw [hat.where_]
  dsimp only
  have hx := hat.at_.lv
  have hrk := hat.at_.rest
  have HAT := Lib.hid hat
  have cOf := Lib.hid (fun w => ofs_any s hat.side L M A1 A2 c1 c2 w)
  have hi : i < (sidL s L M).length := (List.getElem?_eq_some_iff.1 hx).1
  have hk : k < x.rs.length := (List.getElem?_eq_some_iff.1 hrk).1
  have HRS : Hid (∀ w', Below w.heap.size w w' → RdLv w' w.heap.size (sid s A1 A2) (sidL s L M)) := Lib.hid (fun w' hb => by
    rcases side_two hat.side with rfl | rfl
    · exact HL.out.below hb
    · exact HM.out.below hb)
  have hx60 : x.rs.length ≤ 60 := by
    have hm := List.mem_of_getElem? hx
    rcases side_two hat.side with rfl | rfl
    · exact Nat.le_trans (len_cnt hm) HBK.out.buys.few
    · exact Nat.le_trans (len_cnt hm) HBK.out.sells.few
  have hl1 : L.length ≤ 1000 := by have := full_len HBK.out.buys.full; have := HBK.out.buys.few; omega
  have hl2 : M.length ≤ 1000 := by have := full_len HBK.out.sells.full; have := HBK.out.sells.few; omega
  have cCut := Lib.hid (fun (B1 B2 : Option Addr) (d1 d2 : Nat) (v1 v2 : List (Option Addr × Nat)) (base : Nat) (w' : World) o1 o2 hf hb => cutb_any s HAT.out.side L M B1 B2 d1 d2 v1 v2 base i k x w' o1 o2 hf hb HAT.out.at_.lv hk ⟨hl1, hl2⟩ (by omega))
  clear h2 hat hsz HZ2
  obtain ⟨q0, q1⟩ := box2 bb
  generalize hK : sidL s L M = K at *
  have HK := Lib.hid hK
  clear hK
  generalize sid s A1 A2 = AK at *
  generalize sid s c1 c2 = cK at *
  go_wp2_with fail
  go_at_call 29
  refine (cOf.out _).mono ?_
  rintro e w3 ⟨rfl, hb3⟩
  replace bb := bb.keep hb3; replace bo := bo.keep hb3; replace br := br.keep hb3; replace hb := below_then hb3 hb
  clear hb3 cOf q0 q1
  obtain ⟨b, off, y, Ar, cr, rfl, hbl, hy, d0, d1, g1, g2, g3⟩ := lv_at (HRS.out w3 hb) hi
  obtain rfl : x = y := Option.some.inj (hx.symm.trans hy)
  obtain ⟨b', off', t, rfl, hbl', ht, e0, e1, e2, e3, e4⟩ := rest_at g3 hk
  obtain rfl : r = t := Option.some.inj (hrk.symm.trans ht)
  obtain ⟨r0, r1, r2, r3, r4⟩ := r
  dsimp only at e0 e1 e2 e3 e4
  have i0 : (0 : Int) ≤ (i : Int) := by omega
  have i1 : (i : Int) < (K.length : Int) := by omega
  have k0 : (0 : Int) ≤ (k : Int) := by omega
  have k1 : (k : Int) < (x.rs.length : Int) := by omega
  clear hx hrk hy ht g3 HRS
  go_upto_region 8 with fail
  have hlt3 := br.lt
  have bx := Bk.new w3 23 #[.int .i64 r0, .int .i64 r1, .int .i64 r2, .int .i64 r3, .int .i64 r4]
  have hba : Below w3.heap.size w3 (w3.alloc (.cells #[.int .i64 r0, .int .i64 r1, .int .i64 r2, .int .i64 r3, .int .i64 r4] 23)) := (Below.refl _ _).alloc (Nat.le_refl _) _
  replace bb := bb.keep hba; replace bo := bo.keep hba; replace br := br.keep hba; replace hb := below_then hba hb
  clear hba d0 d1 e0 e1 e2 e3 e4
  generalize w3.alloc (.cells #[.int .i64 r0, .int .i64 r1, .int .i64 r2, .int .i64 r3, .int .i64 r4] 23) = w4 at *
  obtain ⟨x0, x1, x2, x3, x4⟩ := pbox5 bx
  obtain ⟨q0, q1⟩ := box2 bb
  have HBB := Lib.hid bb; have HBO := Lib.hid bo; have HBR := Lib.hid br; have HBX := Lib.hid bx
  have hlt := br.lt
  have hbsz := hb.size
  have hlx := HBX.out.lt
  have hge : w.heap.size + 2 < w3.heap.size := by have := hlt3; omega
  have n1 : ¬ w3.heap.size = w.heap.size + 1 := by omega
  have n2 : ¬ w3.heap.size = w.heap.size + 2 := by omega
  have n3 : ¬ w.heap.size + 1 = w3.heap.size := by omega
  have n4 : ¬ w.heap.size + 2 = w3.heap.size := by omega
  clear bb bo br bx
  go_region_held3 (fun w' => w'.cell? ⟨w.heap.size, 0, none⟩ = some (.slice A1 L.length c1) ∧ w'.cell? ⟨w.heap.size, 1, none⟩ = some (.slice A2 M.length c2) ∧ w'.cell? ⟨w3.heap.size, 0, none⟩ = some (.int .i64 r0) ∧ w'.cell? ⟨w3.heap.size, 1, none⟩ = some (.int .i64 r1) ∧ w'.cell? ⟨w3.heap.size, 2, none⟩ = some (.int .i64 r2) ∧ w'.cell? ⟨w3.heap.size, 3, none⟩ = some (.int .i64 r3) ∧ w'.cell? ⟨w3.heap.size, 4, none⟩ = some (.int .i64 r4))
    ((repeat' apply And.intro) <;> (first | (with_reducible assumption) | (with_reducible exact cell_drew (by assumption)) | (go_simp; done)))
    (first
      | (go_at_call 33; (with_reducible refine (cOwn.out _ (HL.out.on hb.drew) (HM.out.on hb.drew)).mono ?_); rintro e wo ⟨B1, d1, v1, B2, d2, v2, rfl, o1, o2, hbo, hfr⟩; go_loud (have bbo := (HBB.out.drew).keep hbo); go_loud (have bxo := (HBX.out.drew).keep hbo); obtain ⟨q0, q1⟩ := box2 bbo; obtain ⟨x0, x1, x2, x3, x4⟩ := pbox5 bxo)
      | (go_at_call 32; (with_reducible refine (cCut.out B1 B2 d1 d2 v1 v2 _ _ o1 o2 hfr hbo.size).mono ?_); rintro e wc ⟨D1, e1, u1, D2, e2, u2, rfl, p1, p2, hbc⟩; go_loud (have bbc := bbo.below hbc HBB.out.lt); go_loud (have bxc := bxo.below hbc HBX.out.lt); obtain ⟨q0, q1⟩ := box2 bbc; obtain ⟨x0, x1, x2, x3, x4⟩ := pbox5 bxc; go_loud (have boc := (HBO.out.drew.keep hbo).below hbc HBO.out.lt); go_loud (have brc := (HBR.out.drew.keep hbo).below hbc HBR.out.lt); obtain ⟨s0, s1⟩ := box2 boc; (have f0 := boc.free 0); (have f1 := boc.free 1); obtain ⟨y0, y1, y2, y3, y4⟩ := pbox5 brc; (have z0 := brc.free 0); (have z1 := brc.free 1); (have z2 := brc.free 2); (have z3 := brc.free 3); (have z4 := brc.free 4)))
  have brc2 := brc.far2 (k := w.heap.size + 1) (by omega) (.slice D1 (cutL s i k L).length e1) (.slice D2 (cutM s i k M).length e2)
  have kx := box2 ((boc.set2 (.slice D1 (cutL s i k L).length e1) (.slice D2 (cutM s i k M).length e2)).far5 (k := w.heap.size + 2) (by omega) (.int .i64 r0) (.int .i64 r1) (.int .i64 r2) (.int .i64 r3) (.int .i64 r4))
  have ky := pbox5 (brc2.set5 (.int .i64 r0) (.int .i64 r1) (.int .i64 r2) (.int .i64 r3) (.int .i64 r4))
  have hdz : w4.drew.heap.size = w4.heap.size := rfl
  have hbf : Below w.heap.size w wc := (below_then hbo hb.drew).trans (hbc.mono (by rw [hdz]; omega))
  have P1 := Lib.hid (((p1.far2 (g := w.heap.size + 1) (i := 0) (j := 1) (by rw [hdz]; omega) (.slice D1 (cutL s i k L).length e1) (.slice D2 (cutM s i k M).length e2)).far5 (g := w.heap.size + 2) (by rw [hdz]; omega) (.int .i64 r0) (.int .i64 r1) (.int .i64 r2) (.int .i64 r3) (.int .i64 r4)).lower (b := w.heap.size) (by rw [hdz]; omega))
  have P2 := Lib.hid (((p2.far2 (g := w.heap.size + 1) (i := 0) (j := 1) (by rw [hdz]; omega) (.slice D1 (cutL s i k L).length e1) (.slice D2 (cutM s i k M).length e2)).far5 (g := w.heap.size + 2) (by rw [hdz]; omega) (.int .i64 r0) (.int .i64 r1) (.int .i64 r2) (.int .i64 r3) (.int .i64 r4)).lower (b := w.heap.size) (by rw [hdz]; omega))
  have HF := Lib.hid (below_set5 (below_set2 hbf (g := w.heap.size + 1) (by omega) (.slice D1 (cutL s i k L).length e1) (.slice D2 (cutM s i k M).length e2)) (g := w.heap.size + 2) (by omega) (.int .i64 r0) (.int .i64 r1) (.int .i64 r2) (.int .i64 r3) (.int .i64 r4))
  clear p1 p2 hbf hbo hbc boc brc brc2 bbo bbc bxo bxc o1 o2 hfr
  go_wp2
  exact bodyPost_ret (v := .tuple #[.agg #[.slice D1 (cutL s i k L).length e1, .slice D2 (cutM s i k M).length e2], .agg #[.int .i64 r0, .int .i64 r1, .int .i64 r2, .int .i64 r3, .int .i64 r4], .nilIface]) (by simp [results, Try.results12, go_sem, kx, ky]) rfl ⟨D1, _, e1, D2, _, e2, r0, r1, r2, r3, r4, .nilIface, rfl, Lib.hid (.inr ⟨HE.out, rfl, s, i, k, x, ⟨r0, r1, r2, r3, r4⟩, u1, u2, HAT.out, rfl, rfl, rfl, P1.out, P2.out⟩), HF.out⟩
end Go.Proofs.Ytiaofbkhnodbhaa
