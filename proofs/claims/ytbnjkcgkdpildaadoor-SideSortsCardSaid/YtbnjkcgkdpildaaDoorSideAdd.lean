/- The contract of side.Add. -/
import Derived.Test.YtbnjkcgkdpildaaDoorSidePut
import Derived.Test.YtbnjkcgkdpildaaDoorGrpG
namespace Go.Proofs.YtbnjkcgkdpildaaDoor
set_option linter.all false
open Go Go.RowKit
/-- how Add ends -/
def AddPost (z : Int) (L' : List Lv) (w : World) (e : Ending) (w' : World) : Prop :=
  ∃ A' n' c' ev, e = .returned (.tuple #[.slice A' n' c', ev]) ∧ Hid ((z ≠ 0 ∧ ev = er z ∧ n' = 0) ∨ (z = 0 ∧ ev = .nilIface ∧ n' = L'.length ∧ ∃ vs, OwnLv w' w.heap.size A' c' L' vs)) ∧ Below w.heap.size w w'
set_option maxRecDepth 100000 in
set_option maxHeartbeats 4000000 in
theorem sadd_any (s p : Int) (r : Rest) (L : List Lv) (A : Option Addr) (c : Nat) (w : World) (hr : RdLv w w.heap.size A L) (hL : L.length ≤ maxLen) (hA : A = none → c = 0) (z : Int) (hz : z = addE s L p r) :
    Calls Tryd.prog 11 #[.int .i64 s, .slice A L.length c, .int .i64 p, .agg #[.int .i64 r.id, .int .i64 r.who, .int .i64 r.qty, .int .i64 r.hidden, .int .i64 r.show_]] w (AddPost z (addL s p r L) w) := by
  have HR := Lib.hid hr
  have HZ := Lib.hid hz
  have cC := Lib.hid (fun w' h => scheck_any s L A c w' h hL)
  have cP := Lib.hid (fun w => sprice_any p w)
  have cO := Lib.hid (fun w => one_any r w)
  have hb : Below w.heap.size w (w.alloc (.cells #[.int .i64 r.id, .int .i64 r.who, .int .i64 r.qty, .int .i64 r.hidden, .int .i64 r.show_] 23)) := (Below.refl _ _).alloc (Nat.le_refl _) _
  have bx := Bk.new w 23 #[.int .i64 r.id, .int .i64 r.who, .int .i64 r.qty, .int .i64 r.hidden, .int .i64 r.show_]
  clear hr hL hz
  go_enter Tryd.func11, Tryd.ntmps11
  go_upto_region 1 with fail
  generalize w.alloc (.cells #[.int .i64 r.id, .int .i64 r.who, .int .i64 r.qty, .int .i64 r.hidden, .int .i64 r.show_] 23) = w0 at *
  go_wp2_with fail
  go_at_call 10
  refine (cC.out _ (HR.out.on hb)).mono ?_
  rintro e w1 ⟨rfl, hb1⟩
  replace bx := bx.keep hb1; replace hb := below_then hb1 hb
  clear hb1 cC
  by_cases h1 : sideE s L = 0
  case neg =>
    have HE := Lib.hid (show z = sideE s L by rw [HZ.out, addE, if_pos h1])
    have HN := Lib.hid h1
    rw [show errV (sideE s L) = er (sideE s L) by rw [errV, if_neg h1]]
    clear h1
    generalize sideE s L = y at *
    go_wp2
    go_ret2
    exact ⟨none, 0, 0, er y, rfl, Lib.hid (.inl ⟨by rw [HE.out]; exact HN.out, by rw [HE.out], rfl⟩), hb⟩
  case pos =>
  have OK := Lib.hid (LvOk.of h1)
  have HS := Lib.hid (sideE_iff.1 h1)
  have HZ1 := Lib.hid (show z = if vp p = false then 1 else if r.err ≠ 0 then r.err else if 0 ≤ (whereL L r.id).1 then 7 else if 60 ≤ cnt L then 4 else 0 by rw [HZ.out, addE, if_neg (by simpa using h1)])
  rw [h1, show errV 0 = .nilIface from rfl]
  clear h1 HZ
  go_wp2_with fail
  go_at_call 32
  refine (cP.out _).mono ?_
  rintro e w' ⟨rfl, rfl⟩
  cases hvp : vp p
  · have HE := Lib.hid (show z = 1 by rw [HZ1.out, if_pos hvp])
    rw [show errV (if false = true then 0 else 1) = er 1 from rfl]
    clear hvp
    go_wp2
    go_ret2
    exact ⟨none, 0, 0, er 1, rfl, Lib.hid (.inl ⟨by rw [HE.out]; decide, by rw [HE.out], rfl⟩), hb⟩
  have HZ2 := Lib.hid (show z = if r.err ≠ 0 then r.err else if 0 ≤ (whereL L r.id).1 then 7 else if 60 ≤ cnt L then 4 else 0 by rw [HZ1.out, if_neg (by rw [hvp]; decide)])
  rw [show errV (if true = true then 0 else 1) = .nilIface from rfl]
  clear hvp HZ1
  obtain ⟨b0, b1, b2, b3, b4⟩ := pbox5 bx
  go_wp2_with fail
  go_at_call 37
  refine (cO.out _).mono ?_
  rintro e w2 ⟨rfl, rfl⟩
  have hb2 : Below w1.heap.size w1 (w1.alloc (.cells #[.int .i64 r.id, .int .i64 r.who, .int .i64 r.qty, .int .i64 r.hidden, .int .i64 r.show_] 23)) := (Below.refl _ _).alloc (Nat.le_refl _) _
  replace bx := bx.keep hb2; replace hb := below_then hb2 hb
  generalize w1.alloc (.cells #[.int .i64 r.id, .int .i64 r.who, .int .i64 r.qty, .int .i64 r.hidden, .int .i64 r.show_] 23) = w3 at *
  clear hb2 b0 b1 b2 b3 b4 cP cO
  by_cases h2 : r.err = 0
  case neg =>
    have HE := Lib.hid (show z = r.err by rw [HZ2.out, if_pos h2])
    have HN := Lib.hid h2
    rw [show errV r.err = er r.err by rw [errV, if_neg h2]]
    clear h2
    go_wp2
    go_ret2
    exact ⟨none, 0, 0, er r.err, rfl, Lib.hid (.inl ⟨by rw [HE.out]; exact HN.out, by rw [HE.out], rfl⟩), hb⟩
  case pos =>
  have HZ3 := Lib.hid (show z = if 0 ≤ (whereL L r.id).1 then 7 else if 60 ≤ cnt L then 4 else 0 by rw [HZ2.out, if_neg (by simpa using h2)])
  rw [h2, show errV 0 = .nilIface from rfl]
  clear h2 HZ2
  obtain ⟨b0, b1, b2, b3, b4⟩ := pbox5 bx
  have cW := Lib.hid (swhere_any L A c r.id w3 (HR.out.on hb) OK.out.few OK.out.each)
  go_wp2_with fail
  go_at_call 38
  refine cW.out.mono ?_
  rintro e w4 ⟨rfl, hb4⟩
  replace bx := bx.keep hb4; replace hb := below_then hb4 hb
  clear hb4 b0 b1 b2 b3 b4 cW
  by_cases h3 : 0 ≤ (whereL L r.id).1
  · have HE := Lib.hid (show z = 7 by rw [HZ3.out, if_pos h3])
    generalize (whereL L r.id).1 = q at *
    generalize (whereL L r.id).2 = q2 at *
    go_wp2
    go_ret2
    exact ⟨none, 0, 0, er 7, rfl, Lib.hid (.inl ⟨by rw [HE.out]; decide, by rw [HE.out], rfl⟩), hb⟩
  have HZ4 := Lib.hid (show z = if 60 ≤ cnt L then 4 else 0 by rw [HZ3.out, if_neg h3])
  have h3' : (whereL L r.id).1 < 0 := by omega
  clear h3 HZ3
  generalize (whereL L r.id).1 = q at *
  generalize (whereL L r.id).2 = q2 at *
  have cN := Lib.hid (count_any L A c w4 (HR.out.on hb) (by have := OK.out.few; unfold maxLen; omega) (by have := OK.out.cnt; unfold maxLen; omega))
  go_wp2_with fail
  go_at_call 35
  refine cN.out.mono ?_
  rintro e w5 ⟨rfl, hb5⟩
  replace bx := bx.keep hb5; replace hb := below_then hb5 hb
  clear hb5 cN
  have hcn := OK.out.cnt
  by_cases h4 : 60 ≤ cnt L
  · have HE := Lib.hid (show z = 4 by rw [HZ4.out, if_pos h4])
    have h4' : (60 : Int) ≤ (cnt L : Int) := by omega
    go_wp2
    go_ret2
    exact ⟨none, 0, 0, er 4, rfl, Lib.hid (.inl ⟨by rw [HE.out]; decide, by rw [HE.out], rfl⟩), hb⟩
  have HE := Lib.hid (show z = 0 by rw [HZ4.out, if_neg h4])
  have h4' : (cnt L : Int) < 60 := by omega
  clear h4 HZ4
  have hsd := HS.out.side
  have cOw := Lib.hid (fun w' h => own_any L A c w' h OK.out hA)
  have cPut := Lib.hid (fun us A' c' base w' h hb => sput_any s p r hsd L us A' c' base w' h hb (by have := OK.out.few; have := full_len OK.out.full; omega) (fun x hx => by have := OK.out.each x hx; omega))
  obtain ⟨b0, b1, b2, b3, b4⟩ := pbox5 bx
  have hx0 := bx.lt
  go_upto_region 15 with fail
  go_region_held3 (fun w' => w'.cell? ⟨w.heap.size, 0, none⟩ = some (.int .i64 r.id) ∧ w'.cell? ⟨w.heap.size, 1, none⟩ = some (.int .i64 r.who) ∧ w'.cell? ⟨w.heap.size, 2, none⟩ = some (.int .i64 r.qty) ∧ w'.cell? ⟨w.heap.size, 3, none⟩ = some (.int .i64 r.hidden) ∧ w'.cell? ⟨w.heap.size, 4, none⟩ = some (.int .i64 r.show_))
    ((repeat' apply And.intro) <;> (first | (with_reducible assumption) | (with_reducible exact cell_drew (by assumption))))
    (first
      | (go_at_call 40; (with_reducible refine (cOw.out _ (HR.out.on hb.drew)).mono ?_); rintro e wo ⟨Ao, co, vo, rfl, oo, hbo⟩; have bxo := bx.drew.keep hbo; obtain ⟨b0, b1, b2, b3, b4⟩ := pbox5 bxo)
      | (go_at_call 39; (with_reducible refine (cPut.out vo Ao co _ _ oo hbo.size).mono ?_); rintro e wp ⟨Ap', cp, vp', rfl, op, hbp⟩; have bxp := bxo.below hbp hx0; obtain ⟨b0, b1, b2, b3, b4⟩ := pbox5 bxp))
  have hbf : Below w.heap.size w wp := (below_then hbo hb.drew).trans (hbp.mono (Nat.le_trans hb.size (Nat.le_refl _)))
  have HOP := Lib.hid (op.lower (b := w.heap.size) hb.size)
  clear oo op hbo hbp bx bxo bxp b0 b1 b2 b3 b4
  go_wp2
  go_ret2
  exact ⟨Ap', _, cp, .nilIface, rfl, Lib.hid (.inr ⟨HE.out, rfl, rfl, vp', HOP.out⟩), hbf⟩
end Go.Proofs.YtbnjkcgkdpildaaDoor
