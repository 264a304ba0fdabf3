/- The contract of side.Add. The contract of book.Put. -/
import Derived.Test.YtkdgpdijbobmkaaGreatSidePut
import Derived.Test.YtkdgpdijbobmkaaGreatGrpG
namespace Go.Proofs.YtkdgpdijbobmkaaGreat
set_option linter.all false
open Go Go.RowKit
/-- how Add ends -/
def AddPost (z : Int) (L' : List Lv) (w : World) (e : Ending) (w' : World) : Prop :=
  ∃ A' n' c' ev, e = .returned (.tuple #[.slice A' n' c', ev]) ∧ Hid ((z ≠ 0 ∧ ev = er z ∧ n' = 0) ∨ (z = 0 ∧ ev = .nilIface ∧ n' = L'.length ∧ ∃ vs, OwnLv w' w.heap.size A' c' L' vs)) ∧ Below w.heap.size w w'
set_option maxRecDepth 100000 in
set_option maxHeartbeats 4000000 in
theorem sadd_any (s p : Int) (r : Rest) (L : List Lv) (A : Option Addr) (c : Nat) (w : World) (hr : RdLv w w.heap.size A L) (hL : L.length ≤ maxLen) (hA : A = none → c = 0) (z : Int) (hz : z = addE s L p r) :
    Calls Tryz.prog 139 #[.int .i64 s, .slice A L.length c, .int .i64 p, .agg #[.int .i64 r.id, .int .i64 r.who, .int .i64 r.qty, .int .i64 r.hidden, .int .i64 r.show_]] w (AddPost z (addL s p r L) w) := by
  have HR := Lib.hid hr
  have HZ := Lib.hid hz
  have cC := Lib.hid (fun w' h => scheck_any s L A c w' h hL)
  have cP := Lib.hid (fun w => sprice_any p w)
  have cO := Lib.hid (fun w => one_any r w)
  have hb : Below w.heap.size w (w.alloc (.cells #[.int .i64 r.id, .int .i64 r.who, .int .i64 r.qty, .int .i64 r.hidden, .int .i64 r.show_] 62)) := (Below.refl _ _).alloc (Nat.le_refl _) _
  have bx := Bk.new w 62 #[.int .i64 r.id, .int .i64 r.who, .int .i64 r.qty, .int .i64 r.hidden, .int .i64 r.show_]
  clear hr hL hz
  go_enter Tryz.func139, Tryz.ntmps139
  go_upto_region 1 with fail
  generalize w.alloc (.cells #[.int .i64 r.id, .int .i64 r.who, .int .i64 r.qty, .int .i64 r.hidden, .int .i64 r.show_] 62) = w0 at *
  go_wp2_with fail
  go_at_call 46
  refine (cC.out _ (HR.out.on hb)).mono ?_
  rintro e w1 ⟨rfl, hb1⟩
  replace bx := bx.keep hb1; replace hb := below_then hb1 hb
  clear hb1 cC
  by_cases h1 : sideE s L = 0
  case neg =>
    have HE := Lib.hid (show z = sideE s L by rw [HZ.out, addE, if_pos h1])
    have HN := Lib.hid h1
    rw [show errV (sideE s L) = er (sideE s L) by rw [errV, if_neg h1]]
    clear h1
    generalize sideE s L = y at *
    go_wp2
    go_ret2
    exact ⟨none, 0, 0, er y, rfl, Lib.hid (.inl ⟨by rw [HE.out]; exact HN.out, by rw [HE.out], rfl⟩), hb⟩
  case pos =>
  have OK := Lib.hid (LvOk.of h1)
  have HS := Lib.hid (sideE_iff.1 h1)
  have HZ1 := Lib.hid (show z = if vp p = false then 1 else if r.err ≠ 0 then r.err else if 0 ≤ (whereL L r.id).1 then 7 else if 60 ≤ cnt L then 4 else 0 by rw [HZ.out, addE, if_neg (by simpa using h1)])
  rw [h1, show errV 0 = .nilIface from rfl]
  clear h1 HZ
  go_wp2_with fail
  go_at_call 22
  refine (cP.out _).mono ?_
  rintro e w' ⟨rfl, rfl⟩
  cases hvp : vp p
  · have HE := Lib.hid (show z = 1 by rw [HZ1.out, if_pos hvp])
    rw [show errV (if false = true then 0 else 1) = er 1 from rfl]
    clear hvp
    go_wp2
    go_ret2
    exact ⟨none, 0, 0, er 1, rfl, Lib.hid (.inl ⟨by rw [HE.out]; decide, by rw [HE.out], rfl⟩), hb⟩
  have HZ2 := Lib.hid (show z = if r.err ≠ 0 then r.err else if 0 ≤ (whereL L r.id).1 then 7 else if 60 ≤ cnt L then 4 else 0 by rw [HZ1.out, if_neg (by rw [hvp]; decide)])
  rw [show errV (if true = true then 0 else 1) = .nilIface from rfl]
  clear hvp HZ1
  obtain ⟨b0, b1, b2, b3, b4⟩ := pbox5 bx
  go_wp2_with fail
  go_at_call 49
  refine (cO.out _).mono ?_
  rintro e w2 ⟨rfl, rfl⟩
  have hb2 : Below w1.heap.size w1 (w1.alloc (.cells #[.int .i64 r.id, .int .i64 r.who, .int .i64 r.qty, .int .i64 r.hidden, .int .i64 r.show_] 62)) := (Below.refl _ _).alloc (Nat.le_refl _) _
  replace bx := bx.keep hb2; replace hb := below_then hb2 hb
  generalize w1.alloc (.cells #[.int .i64 r.id, .int .i64 r.who, .int .i64 r.qty, .int .i64 r.hidden, .int .i64 r.show_] 62) = w3 at *
  clear hb2 b0 b1 b2 b3 b4 cP cO
  by_cases h2 : r.err = 0
  case neg =>
    have HE := Lib.hid (show z = r.err by rw [HZ2.out, if_pos h2])
    have HN := Lib.hid h2
    rw [show errV r.err = er r.err by rw [errV, if_neg h2]]
    clear h2
    go_wp2
    go_ret2
    exact ⟨none, 0, 0, er r.err, rfl, Lib.hid (.inl ⟨by rw [HE.out]; exact HN.out, by rw [HE.out], rfl⟩), hb⟩
  case pos =>
  have HZ3 := Lib.hid (show z = if 0 ≤ (whereL L r.id).1 then 7 else if 60 ≤ cnt L then 4 else 0 by rw [HZ2.out, if_neg (by simpa using h2)])
  rw [h2, show errV 0 = .nilIface from rfl]
  clear h2 HZ2
  obtain ⟨b0, b1, b2, b3, b4⟩ := pbox5 bx
  have cW := Lib.hid (swhere_any L A c r.id w3 (HR.out.on hb) OK.out.few OK.out.each)
  go_wp2_with fail
  go_at_call 123
  refine cW.out.mono ?_
  rintro e w4 ⟨rfl, hb4⟩
  replace bx := bx.keep hb4; replace hb := below_then hb4 hb
  clear hb4 b0 b1 b2 b3 b4 cW
  by_cases h3 : 0 ≤ (whereL L r.id).1
  · have HE := Lib.hid (show z = 7 by rw [HZ3.out, if_pos h3])
    generalize (whereL L r.id).1 = q at *
    generalize (whereL L r.id).2 = q2 at *
    go_wp2
    go_ret2
    exact ⟨none, 0, 0, er 7, rfl, Lib.hid (.inl ⟨by rw [HE.out]; decide, by rw [HE.out], rfl⟩), hb⟩
  have HZ4 := Lib.hid (show z = if 60 ≤ cnt L then 4 else 0 by rw [HZ3.out, if_neg h3])
  have h3' : (whereL L r.id).1 < 0 := by omega
  clear h3 HZ3
  generalize (whereL L r.id).1 = q at *
  generalize (whereL L r.id).2 = q2 at *
  have cN := Lib.hid (count_any L A c w4 (HR.out.on hb) (by have := OK.out.few; unfold maxLen; omega) (by have := OK.out.cnt; unfold maxLen; omega))
  go_wp2_with fail
  go_at_call 56
  refine cN.out.mono ?_
  rintro e w5 ⟨rfl, hb5⟩
  replace bx := bx.keep hb5; replace hb := below_then hb5 hb
  clear hb5 cN
  have hcn := OK.out.cnt
  by_cases h4 : 60 ≤ cnt L
  · have HE := Lib.hid (show z = 4 by rw [HZ4.out, if_pos h4])
    have h4' : (60 : Int) ≤ (cnt L : Int) := by omega
    go_wp2
    go_ret2
    exact ⟨none, 0, 0, er 4, rfl, Lib.hid (.inl ⟨by rw [HE.out]; decide, by rw [HE.out], rfl⟩), hb⟩
  have HE := Lib.hid (show z = 0 by rw [HZ4.out, if_neg h4])
  have h4' : (cnt L : Int) < 60 := by omega
  clear h4 HZ4
  have hsd := HS.out.side
  have cOw := Lib.hid (fun w' h => own_any L A c w' h OK.out hA)
  have cPut := Lib.hid (fun us A' c' base w' h hb => sput_any s p r hsd L us A' c' base w' h hb (by have := OK.out.few; have := full_len OK.out.full; omega) (fun x hx => by have := OK.out.each x hx; omega))
  obtain ⟨b0, b1, b2, b3, b4⟩ := pbox5 bx
  have hx0 := bx.lt
  go_upto_region 15 with fail
  go_region_held3 (fun w' => w'.cell? ⟨w.heap.size, 0, none⟩ = some (.int .i64 r.id) ∧ w'.cell? ⟨w.heap.size, 1, none⟩ = some (.int .i64 r.who) ∧ w'.cell? ⟨w.heap.size, 2, none⟩ = some (.int .i64 r.qty) ∧ w'.cell? ⟨w.heap.size, 3, none⟩ = some (.int .i64 r.hidden) ∧ w'.cell? ⟨w.heap.size, 4, none⟩ = some (.int .i64 r.show_))
    ((repeat' apply And.intro) <;> (first | (with_reducible assumption) | (with_reducible exact cell_drew (by assumption))))
    (first
      | (go_at_call 79; (with_reducible refine (cOw.out _ (HR.out.on hb.drew)).mono ?_); rintro e wo ⟨Ao, co, vo, rfl, oo, hbo⟩; have bxo := bx.drew.keep hbo; obtain ⟨b0, b1, b2, b3, b4⟩ := pbox5 bxo)
      | (go_at_call 155; (with_reducible refine (cPut.out vo Ao co _ _ oo hbo.size).mono ?_); rintro e wp ⟨Ap', cp, vp', rfl, op, hbp⟩; have bxp := bxo.below hbp hx0; obtain ⟨b0, b1, b2, b3, b4⟩ := pbox5 bxp))
  have hbf : Below w.heap.size w wp := (below_then hbo hb.drew).trans (hbp.mono (Nat.le_trans hb.size (Nat.le_refl _)))
  have HOP := Lib.hid (op.lower (b := w.heap.size) hb.size)
  clear oo op hbo hbp bx bxo bxp b0 b1 b2 b3 b4
  go_wp2
  go_ret2
  exact ⟨Ap', _, cp, .nilIface, rfl, Lib.hid (.inr ⟨HE.out, rfl, rfl, vp', HOP.out⟩), hbf⟩
end Go.Proofs.YtkdgpdijbobmkaaGreat
namespace Go.Proofs.YtkdgpdijbobmkaaGreat
set_option linter.all false
open Go Go.RowKit
/-- the two sides after With -/
theorem put_sides {s p : Int} {w : World} {base ca d1 d2 : Nat} {r : Rest} {L M : List Lv} {Aa B1 B2 : Option Addr} {va v1 v2 : List (Option Addr × Nat)} (hs : vs s = true) (h0 : addE s (sidL s L M) p r = 0) (k1 : LvOk L) (k2 : LvOk M)
    (oa : OwnLv w base Aa ca (addL s p r (sidL s L M)) va) (o1 : OwnLv w base B1 d1 L v1) (o2 : OwnLv w base B2 d2 M v2) :
    ∃ X1 e1 u1 X2 e2 u2, sid s Aa B1 = X1 ∧ sid s (addL s p r (sidL s L M)).length L.length = (putL s p r L).length ∧ sid s ca d1 = e1 ∧ sid s B2 Aa = X2 ∧ sid s M.length (addL s p r (sidL s L M)).length = (putM s p r M).length ∧ sid s d2 ca = e2 ∧
      OwnLv w base X1 e1 (putL s p r L) u1 ∧ OwnLv w base X2 e2 (putM s p r M) u2 ∧ LvOk (putL s p r L) ∧ LvOk (putM s p r M) := by
  rcases side_two hs with rfl | rfl
  · exact ⟨Aa, ca, va, B2, d2, v2, rfl, rfl, rfl, rfl, rfl, rfl, oa, o2, addL_ok h0, k2⟩
  · exact ⟨B1, d1, v1, Aa, ca, va, rfl, rfl, rfl, rfl, rfl, rfl, o1, oa, k1, addL_ok h0⟩
set_option maxRecDepth 100000 in
set_option maxHeartbeats 4000000 in
theorem put_any (L M : List Lv) (s p : Int) (r : Rest) (A1 A2 : Option Addr) (c1 c2 : Nat) (w : World) (h1 : RdLv w w.heap.size A1 L) (h2 : RdLv w w.heap.size A2 M) (hl1 : L.length ≤ maxLen) (hl2 : M.length ≤ maxLen) (hA1 : A1 = none → c1 = 0) (hA2 : A2 = none → c2 = 0) (z : Int) (hz : z = putE L M s p r) :
    Calls Tryz.prog 117 #[.agg #[.slice A1 L.length c1, .slice A2 M.length c2], .int .i64 s, .int .i64 p, .agg #[.int .i64 r.id, .int .i64 r.who, .int .i64 r.qty, .int .i64 r.hidden, .int .i64 r.show_]] w (PutPost z (putL s p r L) (putM s p r M) w) := by
  have HL := Lib.hid h1; have HM := Lib.hid h2; have HZ := Lib.hid hz
  have cC := Lib.hid (fun w' h h' => bcheck_any L M A1 A2 c1 c2 w' h h' hl1 hl2)
  have cS := Lib.hid (fun w => side_any s w)
  have hb : Below w.heap.size w (((w.alloc (.cells #[.slice A1 L.length c1, .slice A2 M.length c2] 54)).alloc (.cells #[.int .i64 r.id, .int .i64 r.who, .int .i64 r.qty, .int .i64 r.hidden, .int .i64 r.show_] 62)).alloc (.cells #[.slice none 0 0, .slice none 0 0] 54)) := below_then_alloc (below_then_alloc ((Below.refl _ _).alloc (Nat.le_refl _) _))
  have bb := ((Bk.new w 54 #[.slice A1 L.length c1, .slice A2 M.length c2]).alloc (.cells #[.int .i64 r.id, .int .i64 r.who, .int .i64 r.qty, .int .i64 r.hidden, .int .i64 r.show_] 62)).alloc (.cells #[.slice none 0 0, .slice none 0 0] 54)
  have bx := (Bk.at_ (w := w.alloc (.cells #[.slice A1 L.length c1, .slice A2 M.length c2] 54)) (g' := w.heap.size + 1) (by simp) 62 #[.int .i64 r.id, .int .i64 r.who, .int .i64 r.qty, .int .i64 r.hidden, .int .i64 r.show_]).alloc (.cells #[.slice none 0 0, .slice none 0 0] 54)
  have br := Bk.at_ (w := (w.alloc (.cells #[.slice A1 L.length c1, .slice A2 M.length c2] 54)).alloc (.cells #[.int .i64 r.id, .int .i64 r.who, .int .i64 r.qty, .int .i64 r.hidden, .int .i64 r.show_] 62)) (g' := w.heap.size + 2) (by simp) 54 #[.slice none 0 0, .slice none 0 0]
  clear h1 h2 hz hl1 hl2
  go_enter Tryz.func117, Tryz.ntmps117
  go_upto_region 1 with fail
  generalize ((w.alloc (.cells #[.slice A1 L.length c1, .slice A2 M.length c2] 54)).alloc (.cells #[.int .i64 r.id, .int .i64 r.who, .int .i64 r.qty, .int .i64 r.hidden, .int .i64 r.show_] 62)).alloc (.cells #[.slice none 0 0, .slice none 0 0] 54) = w0 at *
  have hgl : w.heap.size + 2 < w0.heap.size := br.lt
  obtain ⟨q0, q1⟩ := box2 bb
  go_wp2_with fail
  go_at_call 18
  refine (cC.out _ (HL.out.on hb) (HM.out.on hb)).mono ?_
  rintro e w1 ⟨rfl, hb1⟩
  have hz1 : w0.heap.size ≤ w1.heap.size := hb1.size
  replace bb := bb.keep hb1; replace bx := bx.keep hb1; replace br := br.keep hb1; replace hb := below_then hb1 hb
  clear hb1 q0 q1 cC
  have hgl1 : w.heap.size + 2 < w1.heap.size := by omega
  by_cases h0 : bookE L M = 0
  case neg =>
    have HE := Lib.hid (show z = bookE L M by rw [HZ.out, putE, if_pos h0])
    have HN := Lib.hid h0
    rw [show errV (bookE L M) = er (bookE L M) by rw [errV, if_neg h0]]
    obtain ⟨r0, r1⟩ := box2 br
    have f0 := br.free 0; have f1 := br.free 1
    have kx := box2 (br.set2 (.slice none 0 0) (.slice none 0 0))
    have HF := Lib.hid ((hb.setCell (p := ⟨w.heap.size + 2, 0, none⟩) (by show w.heap.size ≤ w.heap.size + 2; omega) (.slice none 0 0)).setCell (p := ⟨w.heap.size + 2, 1, none⟩) (by show w.heap.size ≤ w.heap.size + 2; omega) (.slice none 0 0))
    clear h0 bb bx br hb
    generalize bookE L M = y at *
    go_wp2
    exact bodyPost_ret (v := .tuple #[.agg #[.slice none 0 0, .slice none 0 0], er y]) (by simp [results, Tryz.results117, go_sem, kx]) rfl (.inl ⟨by rw [HE.out]; exact HN.out, by rw [HE.out], HF.out⟩)
  case pos =>
  have HBK := Lib.hid (bookE_iff.1 h0)
  have HZ1 := Lib.hid (show z = if vs s = false then 1 else if addE s (sidL s L M) p r ≠ 0 then addE s (sidL s L M) p r else wholeE (putL s p r L) (putM s p r M) by rw [HZ.out, putE, if_neg (by simpa using h0)])
  rw [h0, show errV 0 = .nilIface from rfl]
  clear h0 HZ
  go_wp2_with fail
  go_at_call 50
  refine (cS.out _).mono ?_
  rintro e w' ⟨rfl, rfl⟩
  cases hs : vs s
  · have HE := Lib.hid (show z = 1 by rw [HZ1.out, if_pos hs])
    obtain ⟨r0, r1⟩ := box2 br
    have f0 := br.free 0; have f1 := br.free 1
    have kx := box2 (br.set2 (.slice none 0 0) (.slice none 0 0))
    have HF := Lib.hid ((hb.setCell (p := ⟨w.heap.size + 2, 0, none⟩) (by show w.heap.size ≤ w.heap.size + 2; omega) (.slice none 0 0)).setCell (p := ⟨w.heap.size + 2, 1, none⟩) (by show w.heap.size ≤ w.heap.size + 2; omega) (.slice none 0 0))
    clear bb bx br hb hs
    go_wp2
    exact bodyPost_ret (v := .tuple #[.agg #[.slice none 0 0, .slice none 0 0], er 1]) (by simp [results, Tryz.results117, go_sem, kx]) rfl (.inl ⟨by rw [HE.out]; decide, by rw [HE.out], HF.out⟩)
  have HZ2 := Lib.hid (show z = if addE s (sidL s L M) p r ≠ 0 then addE s (sidL s L M) p r else wholeE (putL s p r L) (putM s p r M) by rw [HZ1.out, if_neg (by rw [hs]; decide)])
  have HSS := Lib.hid hs
  have cOf := Lib.hid (fun w => ofs_any s hs L M A1 A2 c1 c2 w)
  obtain ⟨K, hK⟩ : ∃ K, K = sidL s L M := ⟨_, rfl⟩
  obtain ⟨Ak, hAk⟩ : ∃ X, X = sid s A1 A2 := ⟨_, rfl⟩
  obtain ⟨ck, hck⟩ : ∃ X, X = sid s c1 c2 := ⟨_, rfl⟩
  obtain ⟨y, hy⟩ : ∃ y, y = addE s (sidL s L M) p r := ⟨_, rfl⟩
  have HKR := Lib.hid (show ∀ w', Below w.heap.size w w' → RdLv w' w'.heap.size Ak K by
    intro w' hw'
    rw [hK, hAk]
    rcases side_two hs with e | e <;> rw [e]
    · exact HL.out.on hw'
    · exact HM.out.on hw')
  have cAdd := Lib.hid (fun w' h => sadd_any s p r K Ak ck w' h (by rw [hK]; rcases side_two hs with e | e <;> rw [e]; exact (by have := (LvOk.of (sideE_iff.2 HBK.out.buys)).few; unfold maxLen; show L.length ≤ _; omega); exact (by have := (LvOk.of (sideE_iff.2 HBK.out.sells)).few; unfold maxLen; show M.length ≤ _; omega)) (by rw [hAk, hck]; rcases side_two hs with e | e <;> rw [e]; exact hA1; exact hA2) y (by rw [hy, hK]))
  have cOf2 := cOf.out
  rw [← hK, ← hAk, ← hck] at cOf2
  have cOfK := Lib.hid cOf2
  rw [← hy] at HZ2
  have HYY := Lib.hid (show y = addE s K p r by rw [hy, hK])
  have HKK := Lib.hid hK
  clear cOf cOf2 hK hAk hck hy HZ1 hs cS
  obtain ⟨q0, q1⟩ := box2 bb
  obtain ⟨b0, b1, b2, b3, b4⟩ := pbox5 bx
  go_upto_region 6 with fail
  go_region_held3 (fun w' => w'.cell? ⟨w.heap.size, 0, none⟩ = some (.slice A1 L.length c1) ∧ w'.cell? ⟨w.heap.size, 1, none⟩ = some (.slice A2 M.length c2) ∧ w'.cell? ⟨w.heap.size + 1, 0, none⟩ = some (.int .i64 r.id) ∧ w'.cell? ⟨w.heap.size + 1, 1, none⟩ = some (.int .i64 r.who) ∧ w'.cell? ⟨w.heap.size + 1, 2, none⟩ = some (.int .i64 r.qty) ∧ w'.cell? ⟨w.heap.size + 1, 3, none⟩ = some (.int .i64 r.hidden) ∧ w'.cell? ⟨w.heap.size + 1, 4, none⟩ = some (.int .i64 r.show_))
    ((repeat' apply And.intro) <;> (first | (with_reducible assumption) | (with_reducible exact cell_drew (by assumption))))
    (first
      | (go_at_call 47; (with_reducible refine (cOfK.out _).mono ?_); rintro e wo ⟨rfl, hbo⟩; have hbw1 := below_then hbo hb.drew; have bxo := bx.drew.keep hbo; obtain ⟨b0, b1, b2, b3, b4⟩ := pbox5 bxo; have bbo := bb.drew.keep hbo; obtain ⟨q0, q1⟩ := box2 bbo)
      | (go_at_call 139; (with_reducible refine (cAdd.out _ (HKR.out _ hbw1)).mono ?_); rintro e wa ⟨Aa, na, ca, ev, rfl, hRA, hba⟩; have hbw2 := below_then hba hbw1; have bxa := bxo.keep hba; obtain ⟨b0, b1, b2, b3, b4⟩ := pbox5 bxa; have bba := bbo.keep hba; obtain ⟨q0, q1⟩ := box2 bba))
  have bra := (br.drew.keep hbo).keep hba
  have hw1 := hbo.size; have hw2 := hba.size
  have hw3 : w1.drew.heap.size = w1.heap.size := rfl
  rw [hw3] at hw1
  clear b0 b1 b2 b3 b4 bx bxo bxa bb bbo hbw1 hbo hba hb br cOfK cAdd HKR hw3
  rcases hRA.out with ⟨hy, rfl, rfl⟩ | ⟨hy, rfl, rfl, va, hov⟩
  · have HE := Lib.hid (show z = y by rw [HZ2.out, if_pos hy])
    have HN := Lib.hid hy
    obtain ⟨r0, r1⟩ := box2 bra
    have f0 := bra.free 0; have f1 := bra.free 1
    have kx := box2 (bra.set2 (.slice none 0 0) (.slice none 0 0))
    have HF := Lib.hid ((hbw2.setCell (p := ⟨w.heap.size + 2, 0, none⟩) (by show w.heap.size ≤ w.heap.size + 2; omega) (.slice none 0 0)).setCell (p := ⟨w.heap.size + 2, 1, none⟩) (by show w.heap.size ≤ w.heap.size + 2; omega) (.slice none 0 0))
    clear hy hRA HZ2 bba bra hbw2 HYY HKK HBK HL HM HSS
    go_wp2
    exact bodyPost_ret (v := .tuple #[.agg #[.slice none 0 0, .slice none 0 0], er y]) (by simp [results, Tryz.results117, go_sem, kx]) rfl (.inl ⟨by rw [HE.out]; exact HN.out, by rw [HE.out], HF.out⟩)
  have HE0 := Lib.hid (show addE s (sidL s L M) p r = 0 by rw [← HKK.out, ← HYY.out]; exact hy)
  have HZ3 := Lib.hid (show z = wholeE (putL s p r L) (putM s p r M) by rw [HZ2.out, if_neg (by simpa using hy)])
  have k1 : Hid (LvOk L) := Lib.hid (LvOk.of (sideE_iff.2 HBK.out.buys))
  have k2 : Hid (LvOk M) := Lib.hid (LvOk.of (sideE_iff.2 HBK.out.sells))
  have HOV := Lib.hid hov
  have cOwn := Lib.hid (fun w' h h' => bown_any L M A1 A2 c1 c2 w' h h' k1.out k2.out hA1 hA2)
  have cW := Lib.hid (fun A1 A2 n1 n2 c1 c2 w' => withs_any s HSS.out A1 A2 Aa n1 n2 (addL s p r K).length c1 c2 ca w')
  clear hov hy HZ2 HYY hRA hA1 hA2
  go_wp2_with fail
  go_at_call 45
  (with_reducible refine (cOwn.out _ (HL.out.on hbw2) (HM.out.on hbw2)).mono ?_)
  rintro e wb ⟨B1, d1, v1, B2, d2, v2, rfl, o1, o2, hbb⟩
  have O1 := Lib.hid o1; have O2 := Lib.hid o2
  clear o1 o2
  go_wp2_with fail
  go_at_call 129
  (with_reducible refine (cW.out B1 B2 _ _ d1 d2 _).mono ?_)
  rintro e wc ⟨rfl, hbc⟩
  have bbc := (bba.keep hbb).keep hbc
  have brc := (bra.keep hbb).keep hbc
  have hbf := below_then hbc (below_then hbb hbw2)
  have HOV2 := Lib.hid (HKK.out ▸ HOV.out)
  obtain ⟨X1, e1, u1, X2, e2, u2, t1, t2, t3, t4, t5, t6, p1, p2, m1, m2⟩ := put_sides HSS.out HE0.out k1.out k2.out (((HOV2.out.below hbb).below hbc).lower (b := w.heap.size + 3) (by omega)) ((O1.out.below hbc).lower (by omega)) ((O2.out.below hbc).lower (by omega))
  rw [← HKK.out] at t2 t5
  rw [t1, t2, t3, t4, t5, t6]
  obtain ⟨q0, q1⟩ := box2 bbc
  have f0 := bbc.free 0; have f1 := bbc.free 1
  have bbd := bbc.set2 (.slice X1 (putL s p r L).length e1) (.slice X2 (putM s p r M).length e2)
  have brd := (brc.far (p := ⟨w.heap.size, 0, none⟩) (by show w.heap.size + 2 ≠ w.heap.size; omega) (.slice X1 (putL s p r L).length e1)).far (p := ⟨w.heap.size, 1, none⟩) (by show w.heap.size + 2 ≠ w.heap.size; omega) (.slice X2 (putM s p r M).length e2)
  have P1 := Lib.hid (p1.far2 (g := w.heap.size) (i := 0) (j := 1) (by omega) (.slice X1 (putL s p r L).length e1) (.slice X2 (putM s p r M).length e2))
  have P2 := Lib.hid (p2.far2 (g := w.heap.size) (i := 0) (j := 1) (by omega) (.slice X1 (putL s p r L).length e1) (.slice X2 (putM s p r M).length e2))
  have hbd := (hbf.setCell (p := ⟨w.heap.size, 0, none⟩) (Nat.le_refl _) (.slice X1 (putL s p r L).length e1)).setCell (p := ⟨w.heap.size, 1, none⟩) (Nat.le_refl _) (.slice X2 (putM s p r M).length e2)
  obtain ⟨x0, x1⟩ := box2 bbd
  have cWh := Lib.hid (fun w' h h' => whole_any (putL s p r L) (putM s p r M) X1 X2 e1 e2 w' h h' m1 m2)
  clear p1 p2 m1 m2 t1 t2 t3 t4 t5 t6 bbc brc bba bra hbf hbb hbc O1 O2 HOV HOV2 hbw2 cOwn cW HKK HE0 hw1 hw2
  go_wp2_with fail
  go_at_call 48
  (with_reducible refine (cWh.out _ P1.out.rd P2.out.rd).mono ?_)
  rintro e we ⟨rfl, hbe⟩
  replace bbd := bbd.keep hbe; replace brd := brd.keep hbe; replace hbd := below_then hbe hbd
  have F1 := Lib.hid (P1.out.below hbe); have F2 := Lib.hid (P2.out.below hbe)
  generalize (wc.setCell { block := w.heap.size, off := 0 } (Value.slice X1 (putL s p r L).length e1)).setCell { block := w.heap.size, off := 1 } (Value.slice X2 (putM s p r M).length e2) = wq at *
  clear q0 q1 f0 f1 x0 x1 P1 P2 cWh hbe
  obtain ⟨q0, q1⟩ := box2 bbd
  obtain ⟨r0, r1⟩ := box2 brd
  have f0 := brd.free 0; have f1 := brd.free 1
  by_cases h4 : wholeE (putL s p r L) (putM s p r M) = 0
  case neg =>
    have HE := Lib.hid (show z = wholeE (putL s p r L) (putM s p r M) by rw [HZ3.out])
    have HN := Lib.hid h4
    rw [show errV (wholeE (putL s p r L) (putM s p r M)) = er (wholeE (putL s p r L) (putM s p r M)) by rw [errV, if_neg h4]]
    generalize wholeE (putL s p r L) (putM s p r M) = y at *
    have kx := box2 (brd.set2 (.slice none 0 0) (.slice none 0 0))
    have HF := Lib.hid ((hbd.setCell (p := ⟨w.heap.size + 2, 0, none⟩) (by show w.heap.size ≤ w.heap.size + 2; omega) (.slice none 0 0)).setCell (p := ⟨w.heap.size + 2, 1, none⟩) (by show w.heap.size ≤ w.heap.size + 2; omega) (.slice none 0 0))
    clear h4 HZ3 bbd brd hbd F1 F2
    go_wp2
    exact bodyPost_ret (v := .tuple #[.agg #[.slice none 0 0, .slice none 0 0], er y]) (by simp [results, Tryz.results117, go_sem, kx]) rfl (.inl ⟨by rw [HE.out]; exact HN.out, by rw [HE.out], HF.out⟩)
  have HE := Lib.hid (show z = 0 by rw [HZ3.out, h4])
  rw [h4, show errV 0 = .nilIface from rfl]
  have kx := box2 (brd.set2 (.slice X1 (putL s p r L).length e1) (.slice X2 (putM s p r M).length e2))
  have HF := Lib.hid ((hbd.setCell (p := ⟨w.heap.size + 2, 0, none⟩) (by show w.heap.size ≤ w.heap.size + 2; omega) (.slice X1 (putL s p r L).length e1)).setCell (p := ⟨w.heap.size + 2, 1, none⟩) (by show w.heap.size ≤ w.heap.size + 2; omega) (.slice X2 (putM s p r M).length e2))
  have G1 := Lib.hid ((F1.out.far2 (g := w.heap.size + 2) (i := 0) (j := 1) (by omega) (.slice X1 (putL s p r L).length e1) (.slice X2 (putM s p r M).length e2)).lower (b := w.heap.size) (by omega))
  have G2 := Lib.hid ((F2.out.far2 (g := w.heap.size + 2) (i := 0) (j := 1) (by omega) (.slice X1 (putL s p r L).length e1) (.slice X2 (putM s p r M).length e2)).lower (b := w.heap.size) (by omega))
  clear h4 HZ3 bbd brd hbd F1 F2
  go_wp2
  exact bodyPost_ret (v := .tuple #[.agg #[.slice X1 (putL s p r L).length e1, .slice X2 (putM s p r M).length e2], .nilIface]) (by simp [results, Tryz.results117, go_sem, kx]) rfl (.inr ⟨HE.out, X1, e1, u1, X2, e2, u2, rfl, G1.out, G2.out, HF.out⟩)
theorem putCon : PutCon := fun L M s p r A1 A2 c1 c2 w h1 h2 hl1 hl2 hA1 hA2 => put_any L M s p r A1 A2 c1 c2 w h1 h2 hl1 hl2 hA1 hA2 _ rfl
end Go.Proofs.YtkdgpdijbobmkaaGreat
