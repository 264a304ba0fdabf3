/- BookHolds holds: for all arguments the law's function returns true. No condition. -/
import Derived.Test.YtbnjkcgkdpildaaBookPut
import Derived.Test.YtbnjkcgkdpildaaBookCancel
import Derived.Test.YtbnjkcgkdpildaaPutLaw
import Derived.Test.YtbnjkcgkdpildaaSameLv
import Derived.Test.YtbnjkcgkdpildaaBookArg
import Derived.Test.YtbnjkcgkdpildaaStructArg
namespace Go.Proofs.Ytbnjkcgkdpildaa
set_option linter.all false
open Go Go.RowKit Go.ChangeShapes Go.WideShapes
def bhR : Rest := ⟨1, 1, 5, 0, 0⟩
theorem bh_fact : putE [] [] 2 100 bhR = 0 := by decide
set_option maxRecDepth 100000 in
set_option maxHeartbeats 4000000 in
theorem bookHolds_any (L M : List Lv) (s p : Int) (r : Rest) (A1 A2 : Option Addr) (c1 c2 : Nat) (w : World) (h1 : RdLv w w.heap.size A1 L) (h2 : RdLv w w.heap.size A2 M) (hl1 : L.length ≤ maxLen) (hl2 : M.length ≤ maxLen) (hA1 : A1 = none → c1 = 0) (hA2 : A2 = none → c2 = 0) :
    Calls Try.prog 6 #[.agg #[.slice A1 L.length c1, .slice A2 M.length c2], .int .i64 s, .int .i64 p, .agg #[.int .i64 r.id, .int .i64 r.who, .int .i64 r.qty, .int .i64 r.hidden, .int .i64 r.show_]] w fun e w' => e = .returned (.bool true) ∧ Below w.heap.size w w' := by
  have HL := Lib.hid h1; have HM := Lib.hid h2
  have cF := Lib.hid (fun w => put_any [] [] 2 100 bhR none none 0 0 w RdLv.nil RdLv.nil (by decide) (by decide) (fun _ => rfl) (fun _ => rfl) 0 bh_fact.symm)
  have cP := Lib.hid (fun w' h h' => put_any L M s p r A1 A2 c1 c2 w' h h' hl1 hl2 hA1 hA2 _ rfl)
  have hb : Below w.heap.size w ((w.alloc (.cells #[.slice A1 L.length c1, .slice A2 M.length c2] 24)).alloc (.cells #[.int .i64 r.id, .int .i64 r.who, .int .i64 r.qty, .int .i64 r.hidden, .int .i64 r.show_] 26)) := below_then_alloc ((Below.refl _ _).alloc (Nat.le_refl _) _)
  have bb := (Bk.new w 24 #[.slice A1 L.length c1, .slice A2 M.length c2]).alloc (.cells #[.int .i64 r.id, .int .i64 r.who, .int .i64 r.qty, .int .i64 r.hidden, .int .i64 r.show_] 26)
  have bx := Bk.at_ (w := w.alloc (.cells #[.slice A1 L.length c1, .slice A2 M.length c2] 24)) (g' := w.heap.size + 1) (by simp) 26 #[.int .i64 r.id, .int .i64 r.who, .int .i64 r.qty, .int .i64 r.hidden, .int .i64 r.show_]
  have HA1 := Lib.hid hA1; have HA2 := Lib.hid hA2
  clear h1 h2 hA1 hA2
  go_enter Try.func6, Try.ntmps6
  go_upto_region 1 with fail
  generalize (w.alloc (.cells #[.slice A1 L.length c1, .slice A2 M.length c2] 24)).alloc (.cells #[.int .i64 r.id, .int .i64 r.who, .int .i64 r.qty, .int .i64 r.hidden, .int .i64 r.show_] 26) = w0 at *
  go_wp2_with fail
  go_at_call 22
  refine (cF.out _).mono ?_
  rintro e w1 (⟨h, _⟩ | ⟨_, B1, d1, u1, B2, d2, u2, rfl, _, _, hb1⟩)
  · exact absurd rfl h
  rw [show (putL 2 100 bhR []).length = 0 from rfl, show (putM 2 100 bhR []).length = 1 from rfl]
  replace bb := bb.keep hb1; replace bx := bx.keep hb1; replace hb := below_then hb1 hb
  clear hb1 cF
  go_upto_region 2 with fail
  have bf := Bk.new w1 24 #[.slice B1 0 d1, .slice B2 1 d2]
  have hba : Below w1.heap.size w1 (w1.alloc (.cells #[.slice B1 0 d1, .slice B2 1 d2] 24)) := (Below.refl _ _).alloc (Nat.le_refl _) _
  replace bb := bb.keep hba; replace bx := bx.keep hba; replace hb := below_then hba hb
  clear hba
  generalize w1.alloc (.cells #[.slice B1 0 d1, .slice B2 1 d2] 24) = w2 at *
  obtain ⟨f0, f1⟩ := box2 bf
  obtain ⟨q0, q1⟩ := box2 bb
  obtain ⟨b0, b1, b2, b3, b4⟩ := pbox5 bx
  have cP2 := Lib.hid (cP.out w2 (HL.out.on hb) (HM.out.on hb))
  clear cP
  go_wp2_with fail
  go_at_call 22
  refine cP2.out.mono ?_
  rintro e w3 (⟨hz, rfl, hb3⟩ | ⟨hz, X1, e1, v1, X2, e2, v2, rfl, o1, o2, hb3⟩)
  · replace hb := below_then hb3 hb
    have HN := Lib.hid hz
    clear hz hb3 f0 f1 q0 q1 b0 b1 b2 b3 b4
    generalize putE L M s p r = z at *
    go_wp2
    go_ret
    exact ⟨rfl, below_then_alloc hb⟩
  replace bb := bb.keep hb3; replace bx := bx.keep hb3; replace hb := below_then hb3 hb
  have hput := putted hz
  have HO60 := Lib.hid hput.old.few
  have HP := Lib.hid hput
  clear hb3 hz cP2 f0 f1 q0 q1 b0 b1 b2 b3 b4 bf
  go_upto_region 5 with fail
  have by_ := Bk.new w3 24 #[.slice X1 (putL s p r L).length e1, .slice X2 (putM s p r M).length e2]
  have hba : Below w3.heap.size w3 (w3.alloc (.cells #[.slice X1 (putL s p r L).length e1, .slice X2 (putM s p r M).length e2] 24)) := (Below.refl _ _).alloc (Nat.le_refl _) _
  replace bb := bb.keep hba; replace bx := bx.keep hba; replace hb := below_then hba hb
  have HX := Lib.hid (o1.rd.on hba); have HY := Lib.hid (o2.rd.on hba)
  have HX1 := Lib.hid (fun e => (o1.own.none_cap e).2); have HX2 := Lib.hid (fun e => (o2.own.none_cap e).2)
  clear hba o1 o2
  generalize w3.alloc (.cells #[.slice X1 (putL s p r L).length e1, .slice X2 (putM s p r M).length e2] 24) = w4 at *
  have S1 := Lib.hid hput.ok.sizes; have S0 := Lib.hid hput.old.sizes
  have hz1 : bfE (putL s p r L) (putM s p r M) r.id = 0 := by rw [bfE, bookE_iff.2 hput.ok, if_neg (by simp), if_neg hput.found]
  have hzb : bookE (putL s p r L) (putM s p r M) = 0 := bookE_iff.2 hput.ok
  have hzo : bookE L M = 0 := bookE_iff.2 hput.old
  have htop := hput.ok.top
  have hcnt := hput.cnt_
  have hc1 : cnt (putL s p r L) + cnt (putM s p r M) ≤ 60 := hput.ok.few
  have HAT := Lib.hid hput.at_
  have cFi := Lib.hid (fun w' h h' => bfind_any (putL s p r L) (putM s p r M) X1 X2 e1 e2 r.id w' h h' S1.out.1.1 S1.out.2.1 0 hz1.symm)
  have cCa := Lib.hid (fun w' h h' => bcancel_any (putL s p r L) (putM s p r M) X1 X2 e1 e2 r.id w' h h' S1.out.1.1 S1.out.2.1 HX1.out HX2.out 0 hz1.symm)
  have cTo := Lib.hid (fun w' h h' => btop_any (putL s p r L) (putM s p r M) X1 X2 e1 e2 w' h h' S1.out.1.1 S1.out.2.1 0 hzb.symm)
  have cCo := Lib.hid (fun w' h h' => bcount_any (putL s p r L) (putM s p r M) X1 X2 e1 e2 w' h h' S1.out.1.1 S1.out.2.1 0 hzb.symm)
  have cCn := Lib.hid (fun w' h h' => bcount_any L M A1 A2 c1 c2 w' h h' hl1 hl2 0 hzo.symm)
  rw [hcnt] at cCo
  clear hput hz1 hzb hzo HP hcnt hc1
  generalize putL s p r L = L' at *
  generalize putM s p r M = M' at *
  generalize hca : cnt L = ca at *
  generalize hcb : cnt M = cb at *
  generalize bestL L' = t1 at *
  generalize bestL M' = t2 at *
  have cc60 : ca + cb ≤ 60 := by have := HO60.out; omega
  clear hca hcb
  obtain ⟨x0, x1⟩ := box2 by_
  obtain ⟨b0, b1, b2, b3, b4⟩ := pbox5 bx
  go_wp2_with fail
  go_at_call 23
  refine (cFi.out _ HX.out HY.out).mono ?_
  rintro e w5 ⟨a5, p5, g0, g1, g2, g3, g4, ev5, rfl, h5, hb5⟩
  rcases h5.out with ⟨h, _⟩ | ⟨_, rfl, s', i', k', x', q', hat, rfl, rfl, hq⟩
  · exact absurd rfl h
  obtain ⟨rfl, hpx, rfl, _, _⟩ := HAT.out _ _ _ _ _ hat
  rw [hpx]
  obtain ⟨rfl, rfl, rfl, rfl, rfl⟩ : g0 = q'.id ∧ g1 = q'.who ∧ g2 = q'.qty ∧ g3 = q'.hidden ∧ g4 = q'.show_ := by rw [← hq]; exact ⟨rfl, rfl, rfl, rfl, rfl⟩
  dsimp only
  replace bb := bb.keep hb5; replace bx := bx.keep hb5; replace by_ := by_.keep hb5; replace hb := below_then hb5 hb
  have HX5 := Lib.hid (HX.out.on hb5); have HY5 := Lib.hid (HY.out.on hb5)
  clear h5 hb5 hat hpx hq x0 x1 b0 b1 b2 b3 b4 HX HY cFi
  go_upto_region 8 with fail
  have bz := Bk.new w5 26 #[.int .i64 q'.id, .int .i64 q'.who, .int .i64 q'.qty, .int .i64 q'.hidden, .int .i64 q'.show_]
  have hba : Below w5.heap.size w5 (w5.alloc (.cells #[.int .i64 q'.id, .int .i64 q'.who, .int .i64 q'.qty, .int .i64 q'.hidden, .int .i64 q'.show_] 26)) := (Below.refl _ _).alloc (Nat.le_refl _) _
  replace bb := bb.keep hba; replace bx := bx.keep hba; replace by_ := by_.keep hba; replace hb := below_then hba hb
  have HX6 := Lib.hid (HX5.out.on hba); have HY6 := Lib.hid (HY5.out.on hba)
  clear hba HX5 HY5
  generalize w5.alloc (.cells #[.int .i64 q'.id, .int .i64 q'.who, .int .i64 q'.qty, .int .i64 q'.hidden, .int .i64 q'.show_] 26) = w6 at *
  obtain ⟨x0, x1⟩ := box2 by_
  obtain ⟨b0, b1, b2, b3, b4⟩ := pbox5 bx
  go_wp2_with fail
  go_at_call 24
  refine (cCa.out _ HX6.out HY6.out).mono ?_
  rintro e w7 ⟨D1, n1, k1, D2, n2, k2, g0, g1, g2, g3, g4, ev7, rfl, h7, hb7⟩
  rcases h7.out with ⟨h, _⟩ | ⟨_, rfl, s', i', k', x', q'', u1, u2, hat, hq, rfl, rfl, o1, o2⟩
  · exact absurd rfl h
  obtain ⟨_, _, rfl, hcl, hcm⟩ := HAT.out _ _ _ _ _ hat
  rw [hcl] at o1 ⊢
  rw [hcm] at o2 ⊢
  obtain ⟨rfl, rfl, rfl, rfl, rfl⟩ : g0 = q''.id ∧ g1 = q''.who ∧ g2 = q''.qty ∧ g3 = q''.hidden ∧ g4 = q''.show_ := by rw [← hq]; exact ⟨rfl, rfl, rfl, rfl, rfl⟩
  replace bb := bb.keep hb7; replace bx := bx.keep hb7; replace by_ := by_.keep hb7; replace bz := bz.keep hb7; replace hb := below_then hb7 hb
  have HX7 := Lib.hid (HX6.out.on hb7); have HY7 := Lib.hid (HY6.out.on hb7)
  have HD1 := Lib.hid o1.rd; have HD2 := Lib.hid o2.rd
  clear h7 hb7 hat hcl hcm hq x0 x1 b0 b1 b2 b3 b4 HX6 HY6 cCa o1 o2 HAT
  go_upto_region 9 with fail
  have bw := (Bk.new w7 24 #[.slice D1 L.length k1, .slice D2 M.length k2]).alloc (.cells #[.int .i64 q''.id, .int .i64 q''.who, .int .i64 q''.qty, .int .i64 q''.hidden, .int .i64 q''.show_] 26)
  have bv := Bk.at_ (w := w7.alloc (.cells #[.slice D1 L.length k1, .slice D2 M.length k2] 24)) (g' := w7.heap.size + 1) (by simp) 26 #[.int .i64 q''.id, .int .i64 q''.who, .int .i64 q''.qty, .int .i64 q''.hidden, .int .i64 q''.show_]
  have hba : Below w7.heap.size w7 ((w7.alloc (.cells #[.slice D1 L.length k1, .slice D2 M.length k2] 24)).alloc (.cells #[.int .i64 q''.id, .int .i64 q''.who, .int .i64 q''.qty, .int .i64 q''.hidden, .int .i64 q''.show_] 26)) := below_then_alloc ((Below.refl _ _).alloc (Nat.le_refl _) _)
  replace bb := bb.keep hba; replace bx := bx.keep hba; replace by_ := by_.keep hba; replace bz := bz.keep hba; replace hb := below_then hba hb
  have HX8 := Lib.hid (HX7.out.on hba); have HY8 := Lib.hid (HY7.out.on hba)
  have HE1 := Lib.hid (HD1.out.on hba); have HE2 := Lib.hid (HD2.out.on hba)
  clear hba HX7 HY7 HD1 HD2
  generalize (w7.alloc (.cells #[.slice D1 L.length k1, .slice D2 M.length k2] 24)).alloc (.cells #[.int .i64 q''.id, .int .i64 q''.who, .int .i64 q''.qty, .int .i64 q''.hidden, .int .i64 q''.show_] 26) = w8 at *
  have cS := Lib.hid (samebook_any L M L M D1 D2 A1 A2 k1 k2 c1 c2 w8 HE1.out HE2.out (HL.out.on hb) (HM.out.on hb) S0.out.1 S0.out.2 S0.out.1 S0.out.2)
  obtain ⟨x0, x1⟩ := box2 bw
  obtain ⟨q0, q1⟩ := box2 bb
  go_wp2_with fail
  go_at_call 25
  refine cS.out.mono ?_
  rintro e w9 ⟨rfl, hb9⟩
  rw [show decide (L = L ∧ M = M) = true from decide_eq_true ⟨rfl, rfl⟩]
  replace bb := bb.keep hb9; replace bx := bx.keep hb9; replace by_ := by_.keep hb9; replace bz := bz.keep hb9; replace bv := bv.keep hb9; replace hb := below_then hb9 hb
  have HX9 := Lib.hid (HX8.out.on hb9); have HY9 := Lib.hid (HY8.out.on hb9)
  clear hb9 cS x0 x1 q0 q1 HX8 HY8 HE1 HE2 bw S0
  obtain ⟨x0, x1⟩ := box2 by_
  go_wp2_with fail
  go_at_call 26
  refine (cTo.out _ HX9.out HY9.out).mono ?_
  rintro e wa ⟨y1, y2, eva, rfl, ha, hba⟩
  rcases ha.out with ⟨h, _⟩ | ⟨_, rfl, rfl, rfl⟩
  · exact absurd rfl h
  replace bb := bb.keep hba; replace bx := bx.keep hba; replace by_ := by_.keep hba; replace bz := bz.keep hba; replace bv := bv.keep hba; replace hb := below_then hba hb
  have HXa := Lib.hid (HX9.out.on hba); have HYa := Lib.hid (HY9.out.on hba)
  clear ha hba cTo x0 x1 HX9 HY9
  obtain ⟨x0, x1⟩ := box2 by_
  go_wp2_with fail
  go_at_call 27
  refine (cCo.out _ HXa.out HYa.out).mono ?_
  rintro e wb ⟨y3, evb, rfl, hc, hbb⟩
  rcases hc.out with ⟨h, _⟩ | ⟨_, rfl, rfl⟩
  · exact absurd rfl h
  replace bb := bb.keep hbb; replace bx := bx.keep hbb; replace bz := bz.keep hbb; replace bv := bv.keep hbb; replace hb := below_then hbb hb
  clear hc hbb cCo x0 x1 HXa HYa by_
  obtain ⟨q0, q1⟩ := box2 bb
  go_wp2_with fail
  go_at_call 27
  refine (cCn.out _ (HL.out.on hb) (HM.out.on hb)).mono ?_
  rintro e wc ⟨y4, evc, rfl, hc, hbc⟩
  rcases hc.out with ⟨h, _⟩ | ⟨_, rfl, rfl⟩
  · exact absurd rfl h
  replace bx := bx.keep hbc; replace bz := bz.keep hbc; replace bv := bv.keep hbc; replace hb := below_then hbc hb
  clear hc hbc cCn q0 q1 bb
  obtain ⟨b0, b1, b2, b3, b4⟩ := pbox5 bx
  obtain ⟨z0, z1, z2, z3, z4⟩ := pbox5 bz
  obtain ⟨v0, v1', v2', v3, v4⟩ := pbox5 bv
  have j1 : IntKind.i64.wrap ((ca : Int) + (cb : Int) + 1) = (ca : Int) + (cb : Int) + 1 := IntWalk.i64_in _ (by omega)
  rcases (show y1 = 0 ∨ (y1 ≠ 0 ∧ y2 = 0) ∨ (y1 ≠ 0 ∧ y2 ≠ 0 ∧ y1 < y2) by omega) with ht | ⟨ht, ht2⟩ | ⟨ht, ht2, ht3⟩
  · subst ht
    clear htop
    go_wp2
    go_ret
    exact ⟨ret_bool (by simp), hb⟩
  · subst ht2
    have e3 : (y1 == 0) = false := by simpa using ht
    clear htop ht
    go_wp2
    go_ret
    exact ⟨ret_bool (by simp), hb⟩
  · have e3 : (y1 == 0) = false := by simpa using ht
    have e4 : (y2 == 0) = false := by simpa using ht2
    clear htop ht ht2
    go_wp2
    go_ret
    exact ⟨ret_bool (by simp), hb⟩
theorem bookHolds_law {H : Type} {enc : TypeId × Value → H} {v0 v1 v2 v3 : Value} {d0 d1 d2 d3 : DataW H} {p0 p1 p2 p3 : List MemPlace} {base : Nat} {W : World}
    (h0 : Arg enc W base 24 v0 d0 p0) (h1 : Arg enc W base 3 v1 d1 p1) (h2 : Arg enc W base 3 v2 d2 p2) (h3 : Arg enc W base 26 v3 d3 p3) :
    Calls Try.prog 6 #[v0, v1, v2, v3] W fun e w' => e = .returned (.bool true) ∧ Below W.heap.size W w' := by
  obtain ⟨A1, L, c1, A2, M, c2, rfl, hl1, hl2, hA1, hA2, hr1, hr2⟩ := h0.book
  obtain ⟨s, rfl, _⟩ := h1.int
  obtain ⟨p, rfl, _⟩ := h2.int
  obtain ⟨r, rfl⟩ := h3.rest
  exact bookHolds_any L M s p r A1 A2 c1 c2 W hr1 hr2 hl1 hl2 hA1 hA2
end Go.Proofs.Ytbnjkcgkdpildaa
