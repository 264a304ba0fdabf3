/- The walk of FloorPays. -/
import Derived.Test.YtkdgpdijbobmkaaGreatGrpA
import Derived.Test.YtkdgpdijbobmkaaGreatFpPlain
namespace Go.Proofs.YtkdgpdijbobmkaaGreat
set_option linter.all false
open Go Go.RowKit
theorem lim4_any (id who s p q : Int) (w : World) : Calls Tryz.prog 12 #[.int .i64 id, .int .i64 who, .int .i64 s, .int .i64 p, .int .i64 q] w fun e w' => e = .returned (.agg #[.int .i64 id, .int .i64 who, .int .i64 s, .int .i64 1, .int .i64 p, .int .i64 q, .int .i64 0, .int .i64 0]) ∧ Below w.heap.size w w' := by
  go_enter Tryz.func12, Tryz.ntmps12
  go_wp2
  exact bodyPost_ret (v := .agg #[.int .i64 id, .int .i64 who, .int .i64 s, .int .i64 1, .int .i64 p, .int .i64 q, .int .i64 0, .int .i64 0]) (by simp [results, Tryz.results12, go_sem]) rfl ⟨rfl, by exact below_then_alloc (Below.refl _ _)⟩
set_option maxRecDepth 100000 in
set_option maxHeartbeats 8000000 in
theorem fp_pays {p l q : Int} (h1 : 1 ≤ p) (hl : p ≤ l) (h2 : l ≤ 10000) (h3 : 1 ≤ q) (h4 : q ≤ 10000) (w : World) : Calls Tryz.prog 3 #[.int .i64 p, .int .i64 l, .int .i64 q] w fun e w' => e = .returned (.bool true) ∧ Below w.heap.size w w' := by
  have CR := Lib.hid (rich_any 1 (by decide) w)
  have CL := Lib.hid (fun w => lim4_any 1 1 2 p q w)
  have CM := Lib.hid (fun w => lim4_any 2 2 1 l q w)
  obtain ⟨t1, hr1, hs1⟩ := fp_one h1 (by omega : p ≤ 10000) h3 h4
  obtain ⟨t2, hr2, he2⟩ := fp_two h1 hl h2 h3 h4
  have ok0 := FR_ok (mode := 1) 10 (by omega) (by omega)
  have ok1 := ok0.doS_of hr1
  rw [hs1] at ok1
  have HS1 := Lib.hid hs1
  have HE := Lib.hid he2
  have C1 := Lib.hid (fun (w' : World) (g : Nat) (h : FlM w' (fun k => k = g) g (FR 1 10)) => fldo_good hr1 ok0 w' h)
  have C2 := Lib.hid (fun (w' : World) (g : Nat) (h : FlM w' (fun k => k = g) g (fpF1 p q)) => fldo_good hr2 ok1 w' h)
  have g1 : p ≤ l := hl
  clear hr1 hs1 hr2 he2 ok0 ok1 hl
  go_enter Tryz.func3, Tryz.ntmps3
  go_upto_region 4 with (go_at_call 10; refine CR.out.mono ?_; rintro e w1 ⟨g, rfl, hg, H1, hb1⟩)
  go_upto_region 7 with (first | (go_at_call 12; refine (CL.out _).mono ?_; rintro e w2 ⟨rfl, hb2⟩; have H2 := Lib.hid (H1.out.below hb2)) | (go_at_call 11; with_reducible refine (C1.out _ _ H2.out).mono ?_; rintro e w3 ⟨A3, c3, rfl, H3, _, g3⟩))
  have H3' := Lib.hid (show FlM w3 (fun k => k = g) g (fpF1 p q) by rw [← HS1.out]; exact H3.out)
  have hb3 := grown_below (below_then hb2 hb1) g3 hg
  clear H3 hb1 hb2 g3 H1 H2 CR CL C1
  go_upto_region 8 with (first | (go_at_call 12; refine (CM.out _).mono ?_; rintro e w4 ⟨rfl, hb4⟩; have H4 := Lib.hid (H3'.out.below hb4)) | (go_at_call 11; with_reducible refine (C2.out _ _ H4.out).mono ?_; rintro e w5 ⟨A5, c5, rfl, H5, O5, g5⟩))
  have hb5 := Lib.hid (grown_below (below_then hb4 hb3) g5 hg)
  clear hb4 hb3 g5 H3' H4 CM C2
  obtain ⟨x, hx⟩ := HE.out.ev
  have O5' := O5.out
  rw [hx] at O5' ⊢
  obtain ⟨gv, off, ev, rfl, _, _, _, v0, _⟩ := ev_at (k := 0) O5' (by simp)
  obtain rfl : ev = ⟨2, 0, 0, 0, x⟩ := by rename_i hev _ ; simpa using hev.symm
  rw [show off + 0 * 10 = off by omega] at v0
  have G1 := fpurse_any t2.shut (fun k => k = g) g 1 w5 H5.out
  have hg1 : getP t2.shut.S 1 = (0, ⟨1, 500000000 + p * q, 0, 100000 - q, 0⟩) := by
    unfold getP; rw [if_pos (by decide), ← HE.out.one]; rfl
  rw [hg1] at G1
  have hg2 : getP t2.shut.S 2 = (0, ⟨2, 500000000 - p * q, 0, 100000 + q, 0⟩) := by
    unfold getP; rw [if_pos (by decide), ← HE.out.two]; rfl
  have G2 := fun (w' : World) (hb : Below w5.heap.size w5 w') => fpurse_any t2.shut (fun k => k = g) g 2 w' (H5.out.below hb)
  rw [hg2] at G2
  have GL := fun (w' : World) (hb : Below w5.heap.size w5 w') => flast_any t2.shut (fun k => k = g) g w' (H5.out.below hb)
  rw [show t2.shut.last = p from HE.out.last] at GL
  dsimp only at G1 G2
  rw [show errV 0 = Value.nilIface from rfl] at G1
  simp only [show errV 0 = Value.nilIface from rfl] at G2
  have CG1 := Lib.hid G1; have CG2 := Lib.hid G2; have CGL := Lib.hid GL
  have hbB := prod_bd (a := p) (b := q) (by omega) (by omega) (by omega) h4
  clear hx O5 O5' HE H5 HS1 hg1 hg2 G1 G2 GL
  go_upto_region 9 with (go_at_call 13; with_reducible refine CG1.out.mono ?_; rintro e w6 ⟨rfl, hb6⟩)
  have hb7 : Below w6.heap.size w6 (w6.alloc (.cells #[.int .i64 1, .int .i64 (500000000 + p * q), .int .i64 0, .int .i64 (100000 - q), .int .i64 0] 36)) := below_then_alloc (Below.refl _ _)
  have HB7 := Lib.hid (below_then hb7 hb6)
  have p7 := Bk.new w6 36 #[.int .i64 1, .int .i64 (500000000 + p * q), .int .i64 0, .int .i64 (100000 - q), .int .i64 0]
  generalize w6.alloc (.cells #[.int .i64 1, .int .i64 (500000000 + p * q), .int .i64 0, .int .i64 (100000 - q), .int .i64 0] 36) = w7 at *
  clear hb7 hb6 CG1
  go_upto_region 10 with (go_at_call 13; with_reducible refine (CG2.out _ HB7.out).mono ?_; rintro e w8 ⟨rfl, hb8⟩)
  have hb9 : Below w8.heap.size w8 (w8.alloc (.cells #[.int .i64 2, .int .i64 (500000000 - p * q), .int .i64 0, .int .i64 (100000 + q), .int .i64 0] 36)) := below_then_alloc (Below.refl _ _)
  have HB9 := Lib.hid (below_then hb9 (below_then hb8 HB7.out))
  have p9 := Bk.new w8 36 #[.int .i64 2, .int .i64 (500000000 - p * q), .int .i64 0, .int .i64 (100000 + q), .int .i64 0]
  have p8 := p7.keep (below_then hb9 hb8)
  generalize w8.alloc (.cells #[.int .i64 2, .int .i64 (500000000 - p * q), .int .i64 0, .int .i64 (100000 + q), .int .i64 0] 36) = w9 at *
  have v9 := keepc HB9.out v0
  obtain ⟨a0, a1, a2, a3, a4⟩ := pbox5 p8
  obtain ⟨b0, b1, b2, b3, b4⟩ := pbox5 p9
  have HBF := Lib.hid (below_then HB9.out hb5.out)
  clear hb9 hb8 HB7 CG2 p7 p8 p9 v0 hb5
  go_wp2_with (go_at_call 14; with_reducible refine (CGL.out _ HB9.out).mono ?_; rintro e w10 ⟨rfl, rfl⟩)
  go_ret
  exact ⟨rfl, HBF.out⟩
theorem floorPays_law {H : Type} {enc : TypeId × Value → H} {v0 v1 v2 : Value} {d0 d1 d2 : DataW H} {p0 p1 p2 : List MemPlace} {base : Nat} {W : World}
    (h0 : Arg enc W base 3 v0 d0 p0) (h1 : Arg enc W base 3 v1 d1 p1) (h2 : Arg enc W base 3 v2 d2 p2) :
    Calls Tryz.prog 3 #[v0, v1, v2] W fun e w' => e = .returned (.bool true) ∧ Below W.heap.size W w' := by
  obtain ⟨p, rfl, _⟩ := h0.int
  obtain ⟨l, rfl, _⟩ := h1.int
  obtain ⟨q, rfl, _⟩ := h2.int
  clear h0 h1 h2
  rcases (show p < 1 ∨ (1 ≤ p ∧ l < p) ∨ (1 ≤ p ∧ p ≤ l ∧ 10000 < l) ∨ (1 ≤ p ∧ p ≤ l ∧ l ≤ 10000 ∧ q < 1) ∨ (1 ≤ p ∧ p ≤ l ∧ l ≤ 10000 ∧ 1 ≤ q ∧ 10000 < q) ∨ (1 ≤ p ∧ p ≤ l ∧ l ≤ 10000 ∧ 1 ≤ q ∧ q ≤ 10000) by omega) with h | ⟨a, h⟩ | ⟨a, b, h⟩ | ⟨a, b, c, h⟩ | ⟨a, b, c, d, h⟩ | ⟨a, b, c, d, h⟩
  case inr.inr.inr.inr.inr => exact fp_pays a b c d h W
  all_goals
    have CR := Lib.hid (rich_any 1 (by decide) W)
    go_enter Tryz.func3, Tryz.ntmps3
    go_wp2_with (go_at_call 10; refine CR.out.mono ?_; rintro e w1 ⟨g, rfl, hg, H1, hb1⟩)
    go_ret
    exact ⟨rfl, hb1⟩
end Go.Proofs.YtkdgpdijbobmkaaGreat
