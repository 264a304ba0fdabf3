/- The contract of book.Find. -/
import Derived.Test.YtkdgpdijbobmkaaGreatGrpN
namespace Go.Proofs.YtkdgpdijbobmkaaGreat
set_option linter.all false
open Go Go.RowKit
/-- what is wrong when an id is looked for in a book -/
def bfE (L M : List Lv) (id : Int) : Int := if bookE L M ≠ 0 then bookE L M else if (whereB L M id).1 = 0 then 5 else 0
theorem bfE_ok {L M : List Lv} {id : Int} (h : bfE L M id = 0) : bookE L M = 0 ∧ (whereB L M id).1 ≠ 0 := by
  unfold bfE at h
  by_cases h1 : bookE L M = 0
  · rw [if_neg (by simpa using h1)] at h
    by_cases h2 : (whereB L M id).1 = 0
    · rw [if_pos h2] at h; omega
    · exact ⟨h1, h2⟩
  · rw [if_pos h1] at h; exact absurd h h1
/-- how Find ends -/
def BFindPost (z : Int) (L M : List Lv) (id : Int) (w : World) (e : Ending) (w' : World) : Prop :=
  ∃ a p r0 r1 r2 r3 r4 ev, e = .returned (.tuple #[.int .i64 a, .int .i64 p, .agg #[.int .i64 r0, .int .i64 r1, .int .i64 r2, .int .i64 r3, .int .i64 r4], ev]) ∧
    Hid ((z ≠ 0 ∧ ev = er z ∧ a = 0 ∧ p = 0 ∧ (⟨r0, r1, r2, r3, r4⟩ : Rest) = ⟨0, 0, 0, 0, 0⟩) ∨ (z = 0 ∧ ev = .nilIface ∧ ∃ s i k x r, BAt L M id s i k x r ∧ a = s ∧ p = x.price ∧ (⟨r0, r1, r2, r3, r4⟩ : Rest) = r)) ∧ Below w.heap.size w w'
theorem below_set5 {B : Nat} {w w1 : World} {g : Nat} (h : Below B w w1) (hg : B ≤ g) (a b c d e : Value) : Below B w (((((w1.setCell ⟨g, 0, none⟩ a).setCell ⟨g, 1, none⟩ b).setCell ⟨g, 2, none⟩ c).setCell ⟨g, 3, none⟩ d).setCell ⟨g, 4, none⟩ e) :=
  ((((h.setCell (p := ⟨g, 0, none⟩) hg a).setCell (p := ⟨g, 1, none⟩) hg b).setCell (p := ⟨g, 2, none⟩) hg c).setCell (p := ⟨g, 3, none⟩) hg d).setCell (p := ⟨g, 4, none⟩) hg e
set_option maxRecDepth 100000 in
set_option maxHeartbeats 4000000 in
theorem bfind_any (L M : List Lv) (A1 A2 : Option Addr) (c1 c2 : Nat) (id : Int) (w : World) (h1 : RdLv w w.heap.size A1 L) (h2 : RdLv w w.heap.size A2 M) (hl1 : L.length ≤ maxLen) (hl2 : M.length ≤ maxLen) (z : Int) (hz : z = bfE L M id) :
    Calls Tryz.prog 128 #[.agg #[.slice A1 L.length c1, .slice A2 M.length c2], .int .i64 id] w (BFindPost z L M id w) := by
  have HL := Lib.hid h1; have HM := Lib.hid h2; have HZ := Lib.hid hz
  have cC := Lib.hid (fun w' h h' => bcheck_any L M A1 A2 c1 c2 w' h h' hl1 hl2)
  have hb : Below w.heap.size w ((w.alloc (.cells #[.slice A1 L.length c1, .slice A2 M.length c2] 54)).alloc (.cells #[.int .i64 0, .int .i64 0, .int .i64 0, .int .i64 0, .int .i64 0] 62)) := below_then_alloc ((Below.refl _ _).alloc (Nat.le_refl _) _)
  have bb := (Bk.new w 54 #[.slice A1 L.length c1, .slice A2 M.length c2]).alloc (.cells #[.int .i64 0, .int .i64 0, .int .i64 0, .int .i64 0, .int .i64 0] 62)
  have br := Bk.at_ (w := w.alloc (.cells #[.slice A1 L.length c1, .slice A2 M.length c2] 54)) (g' := w.heap.size + 1) (by simp) 62 #[.int .i64 0, .int .i64 0, .int .i64 0, .int .i64 0, .int .i64 0]
  clear h1 h2 hl1 hl2 hz
  go_enter Tryz.func128, Tryz.ntmps128
  go_upto_region 1 with fail
  generalize (w.alloc (.cells #[.slice A1 L.length c1, .slice A2 M.length c2] 54)).alloc (.cells #[.int .i64 0, .int .i64 0, .int .i64 0, .int .i64 0, .int .i64 0] 62) = w0 at *
  obtain ⟨q0, q1⟩ := box2 bb
  go_wp2_with fail
  go_at_call 18
  refine (cC.out _ (HL.out.on hb) (HM.out.on hb)).mono ?_
  rintro e w1 ⟨rfl, hb1⟩
  replace bb := bb.keep hb1; replace br := br.keep hb1; replace hb := below_then hb1 hb
  clear hb1 cC q0 q1
  by_cases h1 : bookE L M = 0
  case neg =>
    have HE := Lib.hid (show z = bookE L M by rw [HZ.out, bfE, if_pos h1])
    have HN := Lib.hid h1
    rw [show errV (bookE L M) = er (bookE L M) by rw [errV, if_neg h1]]
    clear h1
    generalize bookE L M = y at *
    have q5 := pbox5 br
    have z0 := br.free 0; have z1 := br.free 1; have z2 := br.free 2; have z3 := br.free 3; have z4 := br.free 4
    go_wp2
    exact bodyPost_ret (v := .tuple #[.int .i64 0, .int .i64 0, .agg #[.int .i64 0, .int .i64 0, .int .i64 0, .int .i64 0, .int .i64 0], er y]) (by simp [results, Tryz.results128, go_sem, q5]) rfl ⟨0, 0, 0, 0, 0, 0, 0, er y, rfl, Lib.hid (.inl ⟨by rw [HE.out]; exact HN.out, by rw [HE.out], rfl, rfl, rfl⟩), below_set5 hb (by omega) _ _ _ _ _⟩
  have HZ2 := Lib.hid (show z = if (whereB L M id).1 = 0 then 5 else 0 by rw [HZ.out, bfE, if_neg (by simpa using h1)])
  have zz := bookE_zero h1
  have O1 := LvOk.of zz.1
  have O2 := LvOk.of zz.2.1
  have cW := Lib.hid (fun w' h h' => bwhere_any L M A1 A2 c1 c2 id w' h h' O1 O2)
  have HBK := Lib.hid (bookE_iff.1 h1)
  rw [h1, show errV 0 = .nilIface from rfl]
  clear h1 HZ zz O1 O2
  obtain ⟨q0, q1⟩ := box2 bb
  go_wp2_with fail
  go_at_call 93
  refine (cW.out _ (HL.out.on hb) (HM.out.on hb)).mono ?_
  rintro e w2 ⟨rfl, hb2⟩
  replace bb := bb.keep hb2; replace br := br.keep hb2; replace hb := below_then hb2 hb
  clear hb2 cW q0 q1
  by_cases h2 : (whereB L M id).1 = 0
  · have HE := Lib.hid (show z = 5 by rw [HZ2.out, if_pos h2])
    have h2' : ((whereB L M id).1 == 0) = true := by simpa using h2
    clear h2
    generalize (whereB L M id).1 = q at *
    generalize (whereB L M id).2.1 = q' at *
    generalize (whereB L M id).2.2 = q'' at *
    have q5 := pbox5 br
    have z0 := br.free 0; have z1 := br.free 1; have z2 := br.free 2; have z3 := br.free 3; have z4 := br.free 4
    go_wp2
    exact bodyPost_ret (v := .tuple #[.int .i64 0, .int .i64 0, .agg #[.int .i64 0, .int .i64 0, .int .i64 0, .int .i64 0, .int .i64 0], er 5]) (by simp [results, Tryz.results128, go_sem, q5]) rfl ⟨0, 0, 0, 0, 0, 0, 0, er 5, rfl, Lib.hid (.inl ⟨by rw [HE.out]; decide, by rw [HE.out], rfl, rfl, rfl⟩), below_set5 hb (by omega) _ _ _ _ _⟩
  have HE := Lib.hid (show z = 0 by rw [HZ2.out, if_neg h2])
  obtain ⟨s, i, k, x, r, hat⟩ := whereB_at h2
  have hsz : s ≠ 0 := by have := hat.where_; rw [this] at h2; exact h2
  have hs0 : (s == 0) = false := by simpa using hsz
  rw [hat.where_]
  dsimp only
  have hx := hat.at_.lv
  have hrk := hat.at_.rest
  have HAT := Lib.hid hat
  have cOf := Lib.hid (fun w => ofs_any s hat.side L M A1 A2 c1 c2 w)
  have hi : i < (sidL s L M).length := (List.getElem?_eq_some_iff.1 hx).1
  have hk : k < x.rs.length := (List.getElem?_eq_some_iff.1 hrk).1
  have HRS : Hid (∀ w', Below w.heap.size w w' → RdLv w' w.heap.size (sid s A1 A2) (sidL s L M)) := Lib.hid (fun w' hb => by
    rcases side_two hat.side with rfl | rfl
    · exact HL.out.below hb
    · exact HM.out.below hb)
  have hx60 : x.rs.length ≤ 60 := by
    have hm := List.mem_of_getElem? hx
    rcases side_two hat.side with rfl | rfl
    · exact Nat.le_trans (len_cnt hm) HBK.out.buys.few
    · exact Nat.le_trans (len_cnt hm) HBK.out.sells.few
  have hsl : (sidL s L M).length ≤ 60 := by
    rcases side_two hat.side with rfl | rfl
    · exact Nat.le_trans (full_len HBK.out.buys.full) HBK.out.buys.few
    · exact Nat.le_trans (full_len HBK.out.sells.full) HBK.out.sells.few
  clear h2 hat hsz HZ2
  obtain ⟨q0, q1⟩ := box2 bb
  generalize hK : sidL s L M = K at *
  have HK := Lib.hid hK
  clear hK
  generalize sid s A1 A2 = AK at *
  generalize sid s c1 c2 = cK at *
  go_wp2_with fail
  go_at_call 47
  refine (cOf.out _).mono ?_
  rintro e w3 ⟨rfl, hb3⟩
  replace br := br.keep hb3; replace hb := below_then hb3 hb
  clear hb3 cOf bb q0 q1
  obtain ⟨b, off, y, Ar, cr, rfl, hbl, hy, d0, d1, g1, g2, g3⟩ := lv_at (HRS.out w3 hb) hi
  obtain rfl : x = y := Option.some.inj (hx.symm.trans hy)
  obtain ⟨b', off', t, rfl, hbl', ht, e0, e1, e2, e3, e4⟩ := rest_at g3 hk
  obtain rfl : r = t := Option.some.inj (hrk.symm.trans ht)
  obtain ⟨r0, r1, r2, r3, r4⟩ := r
  dsimp only at e0 e1 e2 e3 e4
  have i0 : (0 : Int) ≤ (i : Int) := by omega
  have i1 : (i : Int) < (K.length : Int) := by omega
  have k0 : (0 : Int) ≤ (k : Int) := by omega
  have k1 : (k : Int) < (x.rs.length : Int) := by omega
  clear hx hrk hy ht g3 HRS
  go_upto_region 8 with fail
  have bx := Bk.new w3 60 #[.int .i64 x.price, .slice (some ⟨b', off', none⟩) x.rs.length cr]
  have hba : Below w3.heap.size w3 (w3.alloc (.cells #[.int .i64 x.price, .slice (some ⟨b', off', none⟩) x.rs.length cr] 60)) := (Below.refl _ _).alloc (Nat.le_refl _) _
  have hlt := br.lt
  have hbw := hb.size
  replace br := br.keep hba; replace hb := below_then hba hb
  replace e0 := (hba.cell (p := ⟨b', off' + k * 5, none⟩) (by show b' < w3.heap.size; omega)).trans e0
  replace e1 := (hba.cell (p := ⟨b', off' + k * 5 + 1, none⟩) (by show b' < w3.heap.size; omega)).trans e1
  replace e2 := (hba.cell (p := ⟨b', off' + k * 5 + 2, none⟩) (by show b' < w3.heap.size; omega)).trans e2
  replace e3 := (hba.cell (p := ⟨b', off' + k * 5 + 3, none⟩) (by show b' < w3.heap.size; omega)).trans e3
  replace e4 := (hba.cell (p := ⟨b', off' + k * 5 + 4, none⟩) (by show b' < w3.heap.size; omega)).trans e4
  clear hba d0 d1
  generalize w3.alloc (.cells #[.int .i64 x.price, .slice (some ⟨b', off', none⟩) x.rs.length cr] 60) = w4 at *
  obtain ⟨x0, x1⟩ := box2 bx
  obtain ⟨u0, u1, u2, u3, u4⟩ := pbox5 br
  have v0 := br.free 0; have v1 := br.free 1; have v2 := br.free 2; have v3 := br.free 3; have v4 := br.free 4
  go_region_held3 (fun w' => w'.cell? ⟨w3.heap.size, 0, none⟩ = some (.int .i64 x.price) ∧ w'.cell? ⟨w3.heap.size, 1, none⟩ = some (.slice (some ⟨b', off', none⟩) x.rs.length cr) ∧ w'.cell? ⟨b', off' + k * 5, none⟩ = some (.int .i64 r0) ∧ w'.cell? ⟨b', off' + k * 5 + 1, none⟩ = some (.int .i64 r1) ∧ w'.cell? ⟨b', off' + k * 5 + 2, none⟩ = some (.int .i64 r2) ∧ w'.cell? ⟨b', off' + k * 5 + 3, none⟩ = some (.int .i64 r3) ∧ w'.cell? ⟨b', off' + k * 5 + 4, none⟩ = some (.int .i64 r4))
    ((repeat' apply And.intro) <;> (first | (with_reducible assumption) | (with_reducible exact cell_drew (by assumption)) | (go_simp; done))) (fail)
  go_wp2
  exact bodyPost_ret (v := .tuple #[.int .i64 s, .int .i64 x.price, .agg #[.int .i64 r0, .int .i64 r1, .int .i64 r2, .int .i64 r3, .int .i64 r4], .nilIface]) (by simp [results, Tryz.results128, go_sem, u0, u1, u2, u3, u4]) rfl ⟨s, x.price, r0, r1, r2, r3, r4, .nilIface, rfl, Lib.hid (.inr ⟨HE.out, rfl, s, i, k, x, ⟨r0, r1, r2, r3, r4⟩, HAT.out, rfl, rfl, rfl⟩), (below_set5 hb (by omega) _ _ _ _ _).drew⟩
end Go.Proofs.YtkdgpdijbobmkaaGreat
