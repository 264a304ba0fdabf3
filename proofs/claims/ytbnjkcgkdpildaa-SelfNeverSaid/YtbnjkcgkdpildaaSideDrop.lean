/- The contracts of side.Find, side.Drop. -/
import Derived.Test.YtbnjkcgkdpildaaSideCut
import Derived.Test.YtbnjkcgkdpildaaSidePut
import Derived.Test.YtbnjkcgkdpildaaGrpG
namespace Go.Proofs.Ytbnjkcgkdpildaa
set_option linter.all false
open Go Go.RowKit
/-- where a rest of an id is -/
structure At (L : List Lv) (id : Int) (i k : Nat) (x : Lv) (r : Rest) : Prop where
  where_ : whereL L id = ((i : Int), (k : Int))
  lv : L[i]? = some x
  rest : x.rs[k]? = some r
  id_ : r.id = id
theorem findI_at {l : List Rest} {id : Int} (h : 0 ≤ findI l id) : ∃ (k : Nat) (r : Rest), findI l id = k ∧ l[k]? = some r ∧ r.id = id := by
  unfold findI at h ⊢
  cases hf : l.findIdx? (fun r => r.id == id) with
  | none => rw [hf] at h; simp at h
  | some k =>
    obtain ⟨hk, h1, _⟩ := List.findIdx?_eq_some_iff_getElem.1 hf
    exact ⟨k, l[k], rfl, List.getElem?_eq_getElem hk, by simpa using h1⟩
theorem whereL_at {L : List Lv} {id : Int} (h : 0 ≤ (whereL L id).1) : ∃ i k x r, At L id i k x r := by
  unfold whereL at h
  cases hf : (List.range L.length).find? (fun k => decide (0 ≤ findI ((L.getD k ⟨0, []⟩).rs) id)) with
  | none => rw [hf] at h; simp at h
  | some i =>
    rw [List.find?_range_eq_some] at hf
    obtain ⟨h1, h2, h3⟩ := hf
    have hi : i < L.length := by simpa using h2
    have hx := lv_get hi
    have hg : L.getD i ⟨0, []⟩ = L[i] := by rw [List.getD_eq_getElem?_getD, hx]; rfl
    rw [hg] at h1
    have h1' : 0 ≤ findI L[i].rs id := by simpa using h1
    obtain ⟨k, r, e1, e2, e3⟩ := findI_at h1'
    refine ⟨i, k, L[i], r, ⟨?_, hx, e2, e3⟩⟩
    rw [whereL_hit hx (fun j hj => by have := h3 j hj; simpa using this) h1', e1]
/-- what is wrong when an id is looked for -/
def sdE (s : Int) (L : List Lv) (id : Int) : Int := if sideE s L ≠ 0 then sideE s L else if (whereL L id).1 < 0 then 5 else 0
theorem sdE_ok {s : Int} {L : List Lv} {id : Int} (h : sdE s L id = 0) : sideE s L = 0 ∧ 0 ≤ (whereL L id).1 := by
  unfold sdE at h
  by_cases h1 : sideE s L = 0
  · rw [if_neg (by simpa using h1)] at h
    by_cases h2 : (whereL L id).1 < 0
    · rw [if_pos h2] at h; omega
    · exact ⟨h1, by omega⟩
  · rw [if_pos h1] at h; exact absurd h h1
/-- how Find ends -/
def SFindPost (z i k : Int) (w : World) (e : Ending) (w' : World) : Prop :=
  ∃ a b ev, e = .returned (.tuple #[.int .i64 a, .int .i64 b, ev]) ∧ Hid ((z ≠ 0 ∧ ev = er z ∧ a = 0 ∧ b = 0) ∨ (z = 0 ∧ ev = .nilIface ∧ a = i ∧ b = k)) ∧ Below w.heap.size w w'
set_option maxRecDepth 100000 in
set_option maxHeartbeats 2000000 in
theorem sfind_any (s : Int) (L : List Lv) (A : Option Addr) (c : Nat) (id : Int) (w : World) (hr : RdLv w w.heap.size A L) (hL : L.length ≤ maxLen) (z : Int) (hz : z = sdE s L id) :
    Calls Try.prog 13 #[.int .i64 s, .slice A L.length c, .int .i64 id] w (SFindPost z (whereL L id).1 (whereL L id).2 w) := by
  have HR := Lib.hid hr
  have HZ := Lib.hid hz
  have cC := Lib.hid (fun w' h => scheck_any s L A c w' h hL)
  clear hr hL hz
  go_enter Try.func13, Try.ntmps13
  go_wp2_with fail
  go_at_call 16
  refine (cC.out _ HR.out).mono ?_
  rintro e w1 ⟨rfl, hb⟩
  clear cC
  by_cases h1 : sideE s L = 0
  case neg =>
    have HE := Lib.hid (show z = sideE s L by rw [HZ.out, sdE, if_pos h1])
    have HN := Lib.hid h1
    rw [show errV (sideE s L) = er (sideE s L) by rw [errV, if_neg h1]]
    clear h1
    generalize sideE s L = y at *
    go_wp2
    refine bodyPost_ret (v := .tuple #[.int .i64 0, .int .i64 0, er y]) (by simp [results, Try.results13, go_sem]) rfl ?_
    exact ⟨0, 0, er y, rfl, Lib.hid (.inl ⟨by rw [HE.out]; exact HN.out, by rw [HE.out], rfl, rfl⟩), hb⟩
  have HZ2 := Lib.hid (show z = if (whereL L id).1 < 0 then 5 else 0 by rw [HZ.out, sdE, if_neg (by simpa using h1)])
  have OK := LvOk.of h1
  have cW := Lib.hid (swhere_any L A c id w1 (HR.out.on hb) OK.few OK.each)
  rw [h1, show errV 0 = .nilIface from rfl]
  clear h1 HZ OK
  go_wp2_with fail
  go_at_call 40
  refine cW.out.mono ?_
  rintro e w2 ⟨rfl, hb2⟩
  replace hb := below_then hb2 hb
  clear hb2 cW
  generalize (whereL L id).1 = q at *
  generalize (whereL L id).2 = q2 at *
  by_cases h2 : q < 0
  · have HE := Lib.hid (show z = 5 by rw [HZ2.out, if_pos h2])
    go_wp2
    refine bodyPost_ret (v := .tuple #[.int .i64 0, .int .i64 0, er 5]) (by simp [results, Try.results13, go_sem]) rfl ?_
    exact ⟨0, 0, er 5, rfl, Lib.hid (.inl ⟨by rw [HE.out]; decide, by rw [HE.out], rfl, rfl⟩), hb⟩
  · have HE := Lib.hid (show z = 0 by rw [HZ2.out, if_neg h2])
    have h2' : 0 ≤ q := by omega
    go_wp2
    refine bodyPost_ret (v := .tuple #[.int .i64 q, .int .i64 q2, .nilIface]) (by simp [results, Try.results13, go_sem]) rfl ?_
    exact ⟨q, q2, .nilIface, rfl, Lib.hid (.inr ⟨HE.out, rfl, rfl, rfl⟩), hb⟩
/-- how Drop ends -/
def SDropPost (z : Int) (L : List Lv) (id : Int) (w : World) (e : Ending) (w' : World) : Prop :=
  ∃ A' n' c' r0 r1 r2 r3 r4 p ev, e = .returned (.tuple #[.slice A' n' c', .agg #[.int .i64 r0, .int .i64 r1, .int .i64 r2, .int .i64 r3, .int .i64 r4], .int .i64 p, ev]) ∧
    Hid ((z ≠ 0 ∧ ev = er z ∧ n' = 0 ∧ (⟨r0, r1, r2, r3, r4⟩ : Rest) = ⟨0, 0, 0, 0, 0⟩ ∧ p = 0) ∨ (z = 0 ∧ ev = .nilIface ∧ ∃ i k x r vs, At L id i k x r ∧ (⟨r0, r1, r2, r3, r4⟩ : Rest) = r ∧ p = x.price ∧ n' = (outL L i k).length ∧ OwnLv w' w.heap.size A' c' (outL L i k) vs)) ∧ Below w.heap.size w w'
set_option maxRecDepth 100000 in
set_option maxHeartbeats 4000000 in
theorem sdrop_any (s : Int) (L : List Lv) (A : Option Addr) (c : Nat) (id : Int) (w : World) (hr : RdLv w w.heap.size A L) (hL : L.length ≤ maxLen) (hA : A = none → c = 0) (z : Int) (hz : z = sdE s L id) :
    Calls Try.prog 14 #[.int .i64 s, .slice A L.length c, .int .i64 id] w (SDropPost z L id w) := by
  have HR := Lib.hid hr
  have HZ := Lib.hid hz
  have cC := Lib.hid (fun w' h => scheck_any s L A c w' h hL)
  have b5 := Bk.new w 26 #[.int .i64 0, .int .i64 0, .int .i64 0, .int .i64 0, .int .i64 0]
  have hb : Below w.heap.size w (w.alloc (.cells #[.int .i64 0, .int .i64 0, .int .i64 0, .int .i64 0, .int .i64 0] 26)) := (Below.refl _ _).alloc (Nat.le_refl _) _
  clear hr hL hz
  go_enter Try.func14, Try.ntmps14
  go_upto_region 1 with fail
  generalize w.alloc (.cells #[.int .i64 0, .int .i64 0, .int .i64 0, .int .i64 0, .int .i64 0] 26) = w0 at *
  go_wp2_with fail
  go_at_call 16
  refine (cC.out _ (HR.out.on hb)).mono ?_
  rintro e w1 ⟨rfl, hb1⟩
  replace b5 := b5.keep hb1; replace hb := below_then hb1 hb
  clear hb1 cC
  by_cases h1 : sideE s L = 0
  case neg =>
    have HE := Lib.hid (show z = sideE s L by rw [HZ.out, sdE, if_pos h1])
    have HN := Lib.hid h1
    rw [show errV (sideE s L) = er (sideE s L) by rw [errV, if_neg h1]]
    clear h1
    generalize sideE s L = y at *
    have q5 := pbox5 b5
    have z0 := b5.free 0; have z1 := b5.free 1; have z2 := b5.free 2; have z3 := b5.free 3; have z4 := b5.free 4
    go_wp2
    refine bodyPost_ret (v := .tuple #[.slice none 0 0, .agg #[.int .i64 0, .int .i64 0, .int .i64 0, .int .i64 0, .int .i64 0], .int .i64 0, er y]) (by simp [results, Try.results14, go_sem, q5]) rfl ⟨none, 0, 0, 0, 0, 0, 0, 0, 0, er y, rfl, Lib.hid (.inl ⟨by rw [HE.out]; exact HN.out, by rw [HE.out], rfl, rfl, rfl⟩), ?_⟩
    exact ((((hb.setCell (Nat.le_refl _) _).setCell (Nat.le_refl _) _).setCell (Nat.le_refl _) _).setCell (Nat.le_refl _) _).setCell (Nat.le_refl _) _
  have HZ2 := Lib.hid (show z = if (whereL L id).1 < 0 then 5 else 0 by rw [HZ.out, sdE, if_neg (by simpa using h1)])
  have OK := Lib.hid (LvOk.of h1)
  have hS := sideE_iff.1 h1
  have cW := Lib.hid (swhere_any L A c id w1 (HR.out.on hb) OK.out.few OK.out.each)
  rw [h1, show errV 0 = .nilIface from rfl]
  clear h1 HZ
  go_wp2_with fail
  go_at_call 40
  refine cW.out.mono ?_
  rintro e w2 ⟨rfl, hb2⟩
  replace b5 := b5.keep hb2; replace hb := below_then hb2 hb
  clear hb2 cW
  by_cases h2 : (whereL L id).1 < 0
  · have HE := Lib.hid (show z = 5 by rw [HZ2.out, if_pos h2])
    generalize (whereL L id).1 = q at *
    generalize (whereL L id).2 = q2 at *
    have q5 := pbox5 b5
    have z0 := b5.free 0; have z1 := b5.free 1; have z2 := b5.free 2; have z3 := b5.free 3; have z4 := b5.free 4
    go_wp2
    refine bodyPost_ret (v := .tuple #[.slice none 0 0, .agg #[.int .i64 0, .int .i64 0, .int .i64 0, .int .i64 0, .int .i64 0], .int .i64 0, er 5]) (by simp [results, Try.results14, go_sem, q5]) rfl ⟨none, 0, 0, 0, 0, 0, 0, 0, 0, er 5, rfl, Lib.hid (.inl ⟨by rw [HE.out]; decide, by rw [HE.out], rfl, rfl, rfl⟩), ?_⟩
    exact ((((hb.setCell (Nat.le_refl _) _).setCell (Nat.le_refl _) _).setCell (Nat.le_refl _) _).setCell (Nat.le_refl _) _).setCell (Nat.le_refl _) _
  have HE := Lib.hid (show z = 0 by rw [HZ2.out, if_neg h2])
  obtain ⟨i, k, x, r, hat⟩ := whereL_at (L := L) (id := id) (by omega)
  rw [hat.where_] at h2 ⊢
  dsimp only at h2 ⊢
  have hx := hat.lv
  have hrk := hat.rest
  have HAT := Lib.hid hat
  have hi : i < L.length := (List.getElem?_eq_some_iff.1 hx).1
  have hk : k < x.rs.length := (List.getElem?_eq_some_iff.1 hrk).1
  have hx60 := OK.out.each x (List.mem_of_getElem? hx)
  have hLl : L.length ≤ 1000 := by have := hS.few; have := full_len hS.full; omega
  obtain ⟨b, off, y, Ar, cr, rfl, hbl, hy, d0, d1, g1, g2, g3⟩ := lv_at (HR.out.on hb) hi
  obtain rfl : x = y := Option.some.inj (hx.symm.trans hy)
  obtain ⟨b', off', t, rfl, hbl', ht, e0, e1, e2, e3, e4⟩ := rest_at g3 hk
  obtain rfl : r = t := Option.some.inj (hrk.symm.trans ht)
  obtain ⟨r0, r1, r2, r3, r4⟩ := r
  dsimp only at e0 e1 e2 e3 e4
  have i0 : (0 : Int) ≤ (i : Int) := by omega
  have i1 : (i : Int) < (L.length : Int) := by omega
  have k0 : (0 : Int) ≤ (k : Int) := by omega
  have k1 : (k : Int) < (x.rs.length : Int) := by omega
  have HXR := Lib.hid (And.intro hx hrk)
  have cOw := Lib.hid (fun w' h => own_any L (some ⟨b, off, none⟩) c w' h OK.out hA)
  have cCut := Lib.hid (fun vs A' c' base w' h hb => scut_any L vs A' c' base i k x w' h hb HXR.out.1 hk hLl (by omega))
  clear h2 hat hx hrk hy ht g3 HZ2 hbl hbl' hS
  go_upto_region 7 with fail
  have hz2 := b5.lt
  have b9 := (Bk.new w2 26 #[.int .i64 r0, .int .i64 r1, .int .i64 r2, .int .i64 r3, .int .i64 r4]).drew
  have b5w := (b5.alloc (.cells #[.int .i64 r0, .int .i64 r1, .int .i64 r2, .int .i64 r3, .int .i64 r4] 26)).drew
  have hb3 : Below w.heap.size w (w2.alloc (.cells #[.int .i64 r0, .int .i64 r1, .int .i64 r2, .int .i64 r3, .int .i64 r4] 26)).drew := (below_then_alloc hb).drew
  go_region_held3 (fun w' => w'.cell? ⟨b, off + i * 2, none⟩ = some (.int .i64 x.price) ∧ w'.cell? ⟨b, off + i * 2 + 1, none⟩ = some (.slice (some ⟨b', off', none⟩) x.rs.length cr) ∧ w'.cell? ⟨b', off' + k * 5, none⟩ = some (.int .i64 r0) ∧ w'.cell? ⟨b', off' + k * 5 + 1, none⟩ = some (.int .i64 r1) ∧ w'.cell? ⟨b', off' + k * 5 + 2, none⟩ = some (.int .i64 r2) ∧ w'.cell? ⟨b', off' + k * 5 + 3, none⟩ = some (.int .i64 r3) ∧ w'.cell? ⟨b', off' + k * 5 + 4, none⟩ = some (.int .i64 r4))
    ((repeat' apply And.intro) <;> (first | (with_reducible assumption) | (with_reducible exact cell_drew (by assumption)) | (with_reducible exact cell_alloc (by assumption) _) | (with_reducible exact cell_alloc_drew (by assumption) _) | (with_reducible exact cell_alloc (cell_drew (by assumption)) _))) (fail)
  go_upto_region 8 with fail
  generalize (w2.alloc (.cells #[.int .i64 r0, .int .i64 r1, .int .i64 r2, .int .i64 r3, .int .i64 r4] 26)).drew = W at *
  clear d0 d1 e0 e1 e2 e3 e4 b5
  have hne9 := b9.lt
  obtain ⟨s0, s1, s2, s3, s4⟩ := pbox5 b9
  have hsz := hb3.size
  have hszw := hb.size
  have HRW := Lib.hid (HR.out.on hb3.drew)
  have hne1 : ¬ w2.heap.size = w.heap.size := by omega
  have hne2 : ¬ w.heap.size = w2.heap.size := by omega
  have GW := Lib.hid (show W.heap.size ≤ W.drew.heap.size from Nat.le_refl _)
  go_region_held3 (fun w' => w'.cell? ⟨w2.heap.size, 0, none⟩ = some (.int .i64 r0) ∧ w'.cell? ⟨w2.heap.size, 1, none⟩ = some (.int .i64 r1) ∧ w'.cell? ⟨w2.heap.size, 2, none⟩ = some (.int .i64 r2) ∧ w'.cell? ⟨w2.heap.size, 3, none⟩ = some (.int .i64 r3) ∧ w'.cell? ⟨w2.heap.size, 4, none⟩ = some (.int .i64 r4)) ((repeat' apply And.intro) <;> first | (with_reducible assumption) | (with_reducible exact cell_drew (by assumption)) | (go_simp; done)) (first | (go_at_call 43; (with_reducible refine (cOw.out _ HRW.out).mono ?_); rintro e wo ⟨Ao, co, vo, rfl, oo, hbo⟩; have b9o := (b9.drew).keep hbo; have b5o := (b5w.drew).keep hbo; obtain ⟨s0, s1, s2, s3, s4⟩ := pbox5 b9o) | (go_at_call 44; (with_reducible refine (cCut.out vo Ao co _ _ oo hbo.size).mono ?_); rintro e wp ⟨Ap', cp, vp', rfl, op, hbp⟩; have b9p := b9o.below hbp hne9; have b5p := b5o.below hbp (by show w.heap.size < W.heap.size; omega); obtain ⟨s0, s1, s2, s3, s4⟩ := pbox5 b9p; have y5 := pbox5 b5p; have z0 := b5p.free 0; have z1 := b5p.free 1; have z2 := b5p.free 2; have z3 := b5p.free 3; have z4 := b5p.free 4))
  have q5 := pbox5 b5p
  have hbf : Below w.heap.size w wp := (below_then hbo hb3.drew).trans (hbp.mono (Nat.le_trans hb3.size (Nat.le_refl _)))
  have hol := hbo.size
  go_wp2
  refine bodyPost_ret (v := .tuple #[.slice Ap' (outL L i k).length cp, .agg #[.int .i64 r0, .int .i64 r1, .int .i64 r2, .int .i64 r3, .int .i64 r4], .int .i64 x.price, .nilIface]) (by simp [results, Try.results14, go_sem, q5]) rfl ⟨Ap', _, cp, r0, r1, r2, r3, r4, x.price, .nilIface, rfl, Lib.hid (.inr ⟨HE.out, rfl, i, k, x, ⟨r0, r1, r2, r3, r4⟩, vp', HAT.out, rfl, rfl, rfl, ?_⟩), ?_⟩
  · have hlt : w.heap.size < W.drew.heap.size := by show w.heap.size < W.heap.size; omega
    exact (((((op.far hlt _).far hlt _).far hlt _).far hlt _).far hlt _).lower hb3.size
  · exact ((((hbf.setCell (Nat.le_refl _) _).setCell (Nat.le_refl _) _).setCell (Nat.le_refl _) _).setCell (Nat.le_refl _) _).setCell (Nat.le_refl _) _
end Go.Proofs.Ytbnjkcgkdpildaa
