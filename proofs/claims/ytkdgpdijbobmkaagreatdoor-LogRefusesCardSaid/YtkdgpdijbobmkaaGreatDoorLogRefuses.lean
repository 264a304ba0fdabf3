/- The walk of LogRefuses. -/
import Derived.Test.YtkdgpdijbobmkaaGreatDoorLrPlain
import Derived.Test.YtkdgpdijbobmkaaGreatDoorGrpAD
import Derived.Test.YtkdgpdijbobmkaaGreatDoorGrpS
import Derived.Test.YtkdgpdijbobmkaaGreatDoorGrpT
namespace Go.Proofs.YtkdgpdijbobmkaaGreatDoor
set_option linter.all false
open Go Go.RowKit
set_option maxRecDepth 100000 in
set_option maxHeartbeats 8000000 in
theorem lr_walk (o : Order) (w : World) (hl : Laid w) : Calls Tryz.prog 4 #[.agg #[.int .i64 o.id, .int .i64 o.who, .int .i64 o.side, .int .i64 o.kind, .int .i64 o.price, .int .i64 o.qty, .int .i64 o.show_, .int .i64 o.stop]] w fun e w' => e = .returned (.bool true) ∧ Below w.heap.size w w' := by
  have hb : Below w.heap.size w (w.alloc (.cells #[.int .i64 o.id, .int .i64 o.who, .int .i64 o.side, .int .i64 o.kind, .int .i64 o.price, .int .i64 o.qty, .int .i64 o.show_, .int .i64 o.stop] 45)) := below_then_alloc (Below.refl _ _)
  have HB := Lib.hid hb
  have bo := Bk.new w 45 #[.int .i64 o.id, .int .i64 o.who, .int .i64 o.side, .int .i64 o.kind, .int .i64 o.price, .int .i64 o.qty, .int .i64 o.show_, .int .i64 o.stop]
  have HLD := Lib.hid (hl.below hb)
  have CN := Lib.hid (fun w => lnew_any 0 (by decide) w)
  clear hb hl
  go_enter Tryz.func4, Tryz.ntmps4
  go_upto_region 1 with fail
  generalize w.alloc (.cells #[.int .i64 o.id, .int .i64 o.who, .int .i64 o.side, .int .i64 o.kind, .int .i64 o.price, .int .i64 o.qty, .int .i64 o.show_, .int .i64 o.stop] 45) = w1 at *
  go_upto_region 4 with (go_at_call 16; refine (CN.out _).mono ?_; rintro e w2 ⟨gl, rfl, H2, hb2⟩)
  obtain ⟨E, hE, hr, h9⟩ := lr_refuse o
  have cD := lgdo_any (LgS.new 0) ⟨1, o, 0, 0⟩ w1.heap.size gl w2 H2.out (LgOk.new (by decide)) hb2.size (by decide)
  unfold LgPost at cD
  rw [hr, errV, if_neg hE] at cD
  have CD := Lib.hid cD
  have HE := Lib.hid hE; have H9 := Lib.hid h9
  have bo2 := bo.keep hb2
  obtain ⟨o0, o1, o2, o3, o4, o5, o6, o7⟩ := obox bo2
  have BO := Lib.hid bo
  clear hE hr h9 cD bo bo2 CN
  go_upto_region 5 with (go_at_call 17; (with_reducible refine CD.out.mono ?_); rintro e w3 ⟨A3, c3, rfl, H3, _, hb3⟩)
  have hb13 : Below w1.heap.size w1 w3 := hb2.trans hb3
  have hlo3 := hb13.size
  have HL3 := Lib.hid (HLD.out.below hb13)
  have CE := Lib.hid (same_er E 9 w3 HL3.out)
  clear o0 o1 o2 o3 o4 o5 o6 o7 CD H2 hb2 hb3
  go_upto_region 6 with (go_at_call 9; (with_reducible refine CE.out.mono ?_); rintro e w4 ⟨rfl, hb4⟩)
  have hb14 := below_then hb4 hb13
  have bo4 := BO.out.keep hb14
  obtain ⟨o0, o1, o2, o3, o4, o5, o6, o7⟩ := obox bo4
  have CC := Lib.hid (check_any o w4)
  have hbx : Below w4.heap.size w4 (w4.alloc (.cells #[.int .i64 o.id, .int .i64 o.who, .int .i64 o.side, .int .i64 o.kind, .int .i64 o.price, .int .i64 o.qty, .int .i64 o.show_, .int .i64 o.stop] 45)) := below_then_alloc (Below.refl _ _)
  have H5 := Lib.hid ((H3.out.below hb4).below hbx)
  have HB5 := Lib.hid (below_then hbx hb14)
  have CB5 := Lib.hid (lbytes_any _ _ _ _ H5.out)
  have HB4 := Lib.hid hb4
  go_cut [40] (fun v wx => v = .bool false ∧ wx = w4.alloc (.cells #[.int .i64 o.id, .int .i64 o.who, .int .i64 o.side, .int .i64 o.kind, .int .i64 o.price, .int .i64 o.qty, .int .i64 o.show_, .int .i64 o.stop] 45))
  case first =>
    by_cases ho : o.err = 0
    · have hE9 := H9.out ho
      subst hE9
      have cC := CC.out
      rw [ho, show errV 0 = Value.nilIface from rfl] at cC
      have CC2 := Lib.hid (show Calls Tryz.prog 18 #[.agg #[.int .i64 o.id, .int .i64 o.who, .int .i64 o.side, .int .i64 o.kind, .int .i64 o.price, .int .i64 o.qty, .int .i64 o.show_, .int .i64 o.stop]] w4 fun e w' => e = .returned .nilIface ∧ w' = w4.alloc (.cells #[.int .i64 o.id, .int .i64 o.who, .int .i64 o.side, .int .i64 o.kind, .int .i64 o.price, .int .i64 o.qty, .int .i64 o.show_, .int .i64 o.stop] 45) from cC)
      clear ho cC CC
      go_wp2_with (first | (go_at_call 18; (with_reducible refine CC2.out.mono ?_); rintro e w5 ⟨rfl, rfl⟩) | (go_at_call 19; (with_reducible refine CB5.out.mono ?_); rintro e w6 ⟨rfl, rfl⟩))
      go_meet
      case rel => exact ⟨rfl, rfl⟩
    · have cC := CC.out
      rw [errV, if_neg ho] at cC
      have CC2 := Lib.hid (show Calls Tryz.prog 18 #[.agg #[.int .i64 o.id, .int .i64 o.who, .int .i64 o.side, .int .i64 o.kind, .int .i64 o.price, .int .i64 o.qty, .int .i64 o.show_, .int .i64 o.stop]] w4 fun e w' => e = .returned (er o.err) ∧ w' = w4.alloc (.cells #[.int .i64 o.id, .int .i64 o.who, .int .i64 o.side, .int .i64 o.kind, .int .i64 o.price, .int .i64 o.qty, .int .i64 o.show_, .int .i64 o.stop] 45) from cC)
      clear ho cC CC
      go_wp2_with (first | (go_at_call 18; (with_reducible refine CC2.out.mono ?_); rintro e w5 ⟨rfl, rfl⟩) | (go_at_call 19; (with_reducible refine CB5.out.mono ?_); rintro e w6 ⟨rfl, rfl⟩))
      go_meet
      case rel => exact ⟨rfl, rfl⟩
  obtain ⟨rfl, rfl⟩ := hcut
  obtain ⟨V, s2, hr, hs2⟩ := lr_pay
  have cD := lgdo_any (LgS.new 0) ⟨4, ⟨0, 0, 0, 0, 0, 0, 0, 0⟩, 1, 5⟩ w1.heap.size gl _ H5.out (LgOk.new (by decide)) HB5.out.size (by decide)
  unfold LgPost at cD
  rw [hr, show errV 0 = Value.nilIface from rfl] at cD
  have CD := Lib.hid cD
  have hs3 : (2 : Int) ≤ (s2.b.size : Int) := by omega
  clear hr hs2 cD o0 o1 o2 o3 o4 o5 o6 o7 bo4 hbx CC CB5 HB4 hb4 CE
  generalize w4.alloc (.cells #[.int .i64 o.id, .int .i64 o.who, .int .i64 o.side, .int .i64 o.kind, .int .i64 o.price, .int .i64 o.qty, .int .i64 o.show_, .int .i64 o.stop] 45) = w5 at *
  go_upto_region 9 with (go_at_call 17; (with_reducible refine CD.out.mono ?_); rintro e w6 ⟨A6, c6, rfl, H6, _, hb6⟩)
  have CB := Lib.hid (lbytes_any _ _ _ _ H6.out)
  have HBF := Lib.hid (below_then (HB5.out.trans hb6) HB.out)
  clear H6 hb6 CD
  go_wp2_with (go_at_call 19; (with_reducible refine CB.out.mono ?_); rintro e w7 ⟨rfl, rfl⟩)
  go_ret
  exact ⟨rfl, HBF.out⟩
theorem logRefuses_law {H : Type} {enc : TypeId × Value → H} {v0 : Value} {d0 : DataW H} {p0 : List MemPlace} {base : Nat} {W : World}
    (h0 : Arg enc W base 45 v0 d0 p0) (hl : Laid W) :
    Calls Tryz.prog 4 #[v0] W fun e w' => e = .returned (.bool true) ∧ Below W.heap.size W w' := by
  obtain ⟨o, rfl⟩ := h0.order
  exact lr_walk o W hl
end Go.Proofs.YtkdgpdijbobmkaaGreatDoor
