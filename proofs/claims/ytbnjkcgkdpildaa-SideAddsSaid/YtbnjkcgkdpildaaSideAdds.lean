/- SideAdds holds: for all arguments the law's function returns true. No condition. -/
import Derived.Test.YtbnjkcgkdpildaaSideAdd
import Derived.Test.YtbnjkcgkdpildaaSideDrop
import Derived.Test.YtbnjkcgkdpildaaSameLv
import Derived.Test.YtbnjkcgkdpildaaBookArg
import Derived.Test.YtbnjkcgkdpildaaStructArg
namespace Go.Proofs.Ytbnjkcgkdpildaa
set_option linter.all false
open Go Go.RowKit Go.ChangeShapes Go.WideShapes
def saR : Rest := ⟨1, 1, 5, 0, 0⟩
theorem sa_fact : addE 1 [] 100 saR = 0 := by decide
theorem added_find {s p : Int} {L : List Lv} {r : Rest} {i k : Nat} {rs : List Rest} (h : Added s p r L i k rs) : sdE s (addL s p r L) r.id = 0 := by
  rw [sdE, sideE_iff.2 h.side, if_neg (by decide), h.where_, if_neg (by dsimp only; omega)]
theorem Added.at' {s p : Int} {L : List Lv} {r : Rest} {i k i' k' : Nat} {rs : List Rest} {x : Lv} {q : Rest} (h : Added s p r L i k rs) (h2 : At (addL s p r L) r.id i' k' x q) : x = ⟨p, rs ++ [r]⟩ ∧ q = r ∧ outL (addL s p r L) i' k' = L := by
  have e := h.where_.symm.trans h2.where_
  simp only [Prod.mk.injEq] at e
  obtain rfl : i = i' := by omega
  obtain rfl : k = k' := by omega
  have e2 := h.at_.symm.trans h2.lv
  cases e2
  refine ⟨rfl, ?_, h.back⟩
  have := h2.rest
  rw [h.len] at this
  simp at this
  exact this.symm
set_option maxRecDepth 100000 in
set_option maxHeartbeats 4000000 in
theorem sideAdds_any (s p : Int) (r : Rest) (L : List Lv) (A : Option Addr) (c : Nat) (w : World) (hr : RdLv w w.heap.size A L) (hL : L.length ≤ maxLen) (hA : A = none → c = 0) :
    Calls Try.prog 4 #[.int .i64 s, .slice A L.length c, .int .i64 p, .agg #[.int .i64 r.id, .int .i64 r.who, .int .i64 r.qty, .int .i64 r.hidden, .int .i64 r.show_]] w fun e w' => e = .returned (.bool true) ∧ Below w.heap.size w w' := by
  have HR := Lib.hid hr
  have c1 := Lib.hid (fun w => sadd_any 1 100 saR [] none 0 w RdLv.nil (by decide) (fun _ => rfl) 0 sa_fact.symm)
  have hb : Below w.heap.size w (w.alloc (.cells #[.int .i64 r.id, .int .i64 r.who, .int .i64 r.qty, .int .i64 r.hidden, .int .i64 r.show_] 26)) := (Below.refl _ _).alloc (Nat.le_refl _) _
  have bx := Bk.new w 26 #[.int .i64 r.id, .int .i64 r.who, .int .i64 r.qty, .int .i64 r.hidden, .int .i64 r.show_]
  have cAd := Lib.hid (fun w' h => sadd_any s p r L A c w' h hL hA _ rfl)
  clear hr
  go_enter Try.func4, Try.ntmps4
  go_upto_region 1 with fail
  generalize w.alloc (.cells #[.int .i64 r.id, .int .i64 r.who, .int .i64 r.qty, .int .i64 r.hidden, .int .i64 r.show_] 26) = w0 at *
  go_wp2_with fail
  go_at_call 12
  refine (c1.out _).mono ?_
  rintro e w1 ⟨A1, n1, d1, ev1, rfl, h1, hb1⟩
  rcases h1.out with ⟨h, _⟩ | ⟨_, rfl, rfl, vs1, o1⟩
  · exact absurd rfl h
  replace bx := bx.keep hb1; replace hb := below_then hb1 hb
  obtain ⟨b, off, x, Ar, cr, rfl, hbl, hx, e0, e1, _⟩ := lv_at o1.rd (k := 0) (by decide)
  cases hx
  simp only [Nat.zero_mul, Nat.add_zero, List.length_singleton] at e0 e1
  rw [show (addL 1 100 saR []).length = 1 from rfl]
  obtain ⟨b0, b1, b2, b3, b4⟩ := pbox5 bx
  clear hb1 h1 o1 c1
  have cAd1 := Lib.hid (cAd.out w1 (HR.out.on hb))
  clear cAd
  go_wp2_with fail
  go_at_call 12
  refine cAd1.out.mono ?_
  rintro e w2 ⟨A2, n2, d2, ev2, rfl, h2, hb2⟩
  replace bx := bx.keep hb2; replace hb := below_then hb2 hb
  clear hb2 e0 e1 b0 b1 b2 b3 b4 cAd1 hbl
  rcases h2.out with ⟨h, rfl, rfl⟩ | ⟨hz, rfl, rfl, vs2, o2⟩
  · clear h2 h
    go_wp2
    go_ret
    exact ⟨rfl, hb⟩
  obtain ⟨i, k, rs, hA2⟩ := added hz
  have HA := Lib.hid hA2
  have hX := hA2.side
  have hS : SideOk s L := (addE_parts hz).1
  have hXl : (addL s p r L).length ≤ 60 := Nat.le_trans (full_len hX.full) hX.few
  have hLl : L.length ≤ 60 := Nat.le_trans (full_len hS.full) hS.few
  have HL60 := Lib.hid (show ∀ x ∈ L, x.rs.length ≤ 1000 from fun x hx => by have := len_cnt hx; have := hS.few; omega)
  have HO := Lib.hid o2
  have HA60 := Lib.hid (show ∀ x ∈ addL s p r L, x.rs.length ≤ 60 from fun x hx => Nat.le_trans (len_cnt hx) hX.few)
  have HSE := Lib.hid (sideE_iff.2 hX)
  have hF0 := added_find hA2
  have cF := Lib.hid (fun w' h => sfind_any s (addL s p r L) A2 d2 r.id w' h (by unfold maxLen; omega) 0 hF0.symm)
  have cD := Lib.hid (fun w' h => sdrop_any s (addL s p r L) A2 d2 r.id w' h (by unfold maxLen; omega) (fun e => (HO.out.own.none_cap e).2) 0 hF0.symm)
  have cC := Lib.hid (fun w' h => scheck_any s (addL s p r L) A2 d2 w' h (by unfold maxLen; omega))
  have HRX := Lib.hid o2.rd
  obtain ⟨b0, b1, b2, b3, b4⟩ := pbox5 bx
  have hi : i < (addL s p r L).length := (List.getElem?_eq_some_iff.1 hA2.at_).1
  have HK := Lib.hid hA2.len
  have HW := Lib.hid hA2.where_
  have HAT := Lib.hid (fun i' k' x' q (h2 : At (addL s p r L) r.id i' k' x' q) => hA2.at' h2)
  have HXi := Lib.hid hA2.at_
  clear h2 hz hA2 hX hS o2 hF0
  generalize hX : addL s p r L = X at *
  clear hX
  go_wp2_with fail
  go_at_call 13
  refine (cF.out _ HRX.out).mono ?_
  rintro e w3 ⟨fa, fb, fev, rfl, h3, hb3⟩
  rcases h3.out with ⟨h, _⟩ | ⟨_, rfl, rfl, rfl⟩
  · exact absurd rfl h
  rw [HW.out]
  dsimp only
  have hb23 := hb3
  replace bx := bx.keep hb3; replace hb := below_then hb3 hb
  clear h3 hb3 cF b0 b1 b2 b3 b4
  obtain ⟨b0, b1, b2, b3, b4⟩ := pbox5 bx
  go_wp2_with fail
  go_at_call 14
  refine (cD.out _ (HRX.out.on hb23)).mono ?_
  rintro e w4 ⟨A4, n4, d4, q0, q1, q2, q3, q4, q5, ev4, rfl, h4, hb4⟩
  rcases h4.out with ⟨h, _⟩ | ⟨_, rfl, i', k', x', r', vs4, hat, hq, rfl, rfl, o4⟩
  · exact absurd rfl h
  obtain ⟨rfl, hr', hback⟩ := HAT.out _ _ _ _ hat
  rw [hback] at o4 ⊢
  rw [hr'] at hq
  obtain ⟨rfl, rfl, rfl, rfl, rfl⟩ : q0 = r.id ∧ q1 = r.who ∧ q2 = r.qty ∧ q3 = r.hidden ∧ q4 = r.show_ := by rw [← hq]; exact ⟨rfl, rfl, rfl, rfl, rfl⟩
  dsimp only
  replace bx := bx.keep hb4; replace hb := below_then hb4 hb
  have HRX4 := Lib.hid ((HRX.out.on hb23).on hb4)
  have HO4 := Lib.hid o4.rd
  clear h4 hb4 hb23 cD b0 b1 b2 b3 b4 hat hr' hback hq o4 HAT HW HRX
  go_upto_region 9 with fail
  have bz := Bk.new w4 26 #[.int .i64 r.id, .int .i64 r.who, .int .i64 r.qty, .int .i64 r.hidden, .int .i64 r.show_]
  have hba : Below w4.heap.size w4 (w4.alloc (.cells #[.int .i64 r.id, .int .i64 r.who, .int .i64 r.qty, .int .i64 r.hidden, .int .i64 r.show_] 26)) := (Below.refl _ _).alloc (Nat.le_refl _) _
  replace bx := bx.keep hba; replace hb := below_then hba hb
  have HRX5 := Lib.hid (HRX4.out.on hba)
  have HO5 := Lib.hid (HO4.out.on hba)
  clear hba HRX4 HO4
  generalize w4.alloc (.cells #[.int .i64 r.id, .int .i64 r.who, .int .i64 r.qty, .int .i64 r.hidden, .int .i64 r.show_] 26) = w5 at *
  have cL := Lib.hid (levels_any L L A4 A d4 c w5 HO5.out (HR.out.on hb) (by unfold maxLen; omega) (by unfold maxLen; omega) HL60.out HL60.out)
  rw [show decide (L = L) = true from decide_eq_true rfl] at cL
  go_wp2_with fail
  go_at_call 15
  refine cL.out.mono ?_
  rintro e w6 ⟨rfl, hb6⟩
  replace bx := bx.keep hb6; replace bz := bz.keep hb6; replace hb := below_then hb6 hb
  have HRX6 := Lib.hid (HRX5.out.on hb6)
  have cC6 := Lib.hid (cC.out w6 HRX6.out)
  rw [HSE.out] at cC6
  obtain ⟨b0, b1, b2, b3, b4⟩ := pbox5 bx
  obtain ⟨z0, z1, z2, z3, z4⟩ := pbox5 bz
  clear hb6 cL HRX5 HO5 cC
  go_wp2_with fail
  go_at_call 16
  refine cC6.out.mono ?_
  rw [show errV 0 = .nilIface from rfl]
  rintro e w7 ⟨rfl, hb7⟩
  replace bx := bx.keep hb7; replace hb := below_then hb7 hb
  have HRX7 := Lib.hid (HRX6.out.on hb7)
  clear hb7 cC6 b0 b1 b2 b3 b4 z0 z1 z2 z3 z4 bz HRX6
  obtain ⟨b, off, x, Ar, cr, rfl, hbl, hx, e0, e1, _, _, g3⟩ := lv_at HRX7.out hi
  obtain rfl : x = ⟨p, rs ++ [r]⟩ := Option.some.inj (hx.symm.trans HXi.out)
  have hk := HK.out
  have hkl : k < (rs ++ [r]).length := by rw [List.length_append, List.length_singleton]; omega
  obtain ⟨b', off', t, rfl, hbl', ht, f0, f1, f2, f3, f4⟩ := rest_at (l := rs ++ [r]) g3 hkl
  obtain rfl : r = t := by
    rw [hk] at ht
    simpa using ht
  dsimp only at e0 e1
  have hn : (rs ++ [r]).length = k + 1 := by rw [List.length_append, List.length_singleton, hk]
  rw [hn] at e1
  obtain ⟨b0, b1, b2, b3, b4⟩ := pbox5 bx
  have i0 : (0 : Int) ≤ (i : Int) := by omega
  have i1 : (i : Int) < (X.length : Int) := by omega
  have k0 : (0 : Int) ≤ (k : Int) := by omega
  have k1 : (k : Int) < ((k : Int) + 1) := by omega
  have hk9 : k ≤ 1000 := by
    have h1 := HXi.out
    have h2 := HA60.out _ (List.mem_of_getElem? h1)
    dsimp only at h2
    omega
  have x1 : IntKind.i64.wrap (k : Int) = (k : Int) := IntWalk.i64_in _ (by omega)
  have x2 : IntKind.i64.wrap ((k : Int) + 1 - 1) = (k : Int) := by rw [show (k : Int) + 1 - 1 = k by omega]; exact x1
  clear hx ht g3 hkl hn hk hk9
  go_wp2_with fail
  go_quiet (fail)
  go_wp2
  go_ret
  exact ⟨rfl, below_drewN hb _⟩
theorem sideAdds_law {H : Type} {enc : TypeId × Value → H} {v0 v1 v2 v3 : Value} {d0 d1 d2 d3 : DataW H} {p0 p1 p2 p3 : List MemPlace} {base : Nat} {W : World}
    (h0 : Arg enc W base 3 v0 d0 p0) (h1 : Arg enc W base 22 v1 d1 p1) (h2 : Arg enc W base 3 v2 d2 p2) (h3 : Arg enc W base 26 v3 d3 p3) :
    Calls Try.prog 4 #[v0, v1, v2, v3] W fun e w' => e = .returned (.bool true) ∧ Below W.heap.size W w' := by
  obtain ⟨s, rfl, _⟩ := h0.int
  obtain ⟨A, L, c, rfl, hL, hA, hr⟩ := h1.levels
  obtain ⟨p, rfl, _⟩ := h2.int
  obtain ⟨r, rfl⟩ := h3.rest
  exact sideAdds_any s p r L A c W hr hL hA
end Go.Proofs.Ytbnjkcgkdpildaa
