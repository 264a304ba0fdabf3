/- Levels of the call's own: side.Own. -/
import Derived.Test.YtbnjkcgkdpildaaDoorBook
import Derived.Test.YtbnjkcgkdpildaaDoorTake
namespace Go.Proofs.YtbnjkcgkdpildaaDoor
set_option linter.all false
open Go Go.RowKit
/-- the cells of levels whose rests lie at vs -/
def lvCells (L : List Lv) (vs : List (Option Addr × Nat)) : List Value := (L.zip vs).flatMap fun p => [.int .i64 p.1.price, .slice p.2.1 p.1.rs.length p.2.2]
section
variable {L : List Lv} {vs : List (Option Addr × Nat)} {w w' : World} {A : Option Addr} {base cap : Nat}
theorem lvCells_len (h : vs.length = L.length) : (lvCells L vs).length = L.length * 2 := by
  rw [lvCells, flat_len (s := 2) (fun a => rfl), List.length_zip, h, Nat.min_self]
theorem lvCells_snoc (h : vs.length = L.length) (x : Lv) (v : Option Addr × Nat) : lvCells (L ++ [x]) (vs ++ [v]) = lvCells L vs ++ [.int .i64 x.price, .slice v.1 x.rs.length v.2] := by
  rw [lvCells, List.zip_append h.symm, List.flatMap_append]; rfl
theorem lvCells_get {i : Nat} {x : Lv} {v : Option Addr × Nat} (hx : L[i]? = some x) (hv : vs[i]? = some v) : (lvCells L vs)[i * 2]? = some (.int .i64 x.price) ∧ (lvCells L vs)[i * 2 + 1]? = some (.slice v.1 x.rs.length v.2) := by
  have hz : (L.zip vs)[i]? = some (x, v) := by rw [List.getElem?_zip_eq_some]; exact ⟨hx, hv⟩
  have h0 := flat_get (f := fun p : Lv × (Option Addr × Nat) => [Value.int .i64 p.1.price, .slice p.2.1 p.1.rs.length p.2.2]) (s := 2) (fun a => rfl) hz (j := 0) (by omega)
  have h1 := flat_get (f := fun p : Lv × (Option Addr × Nat) => [Value.int .i64 p.1.price, .slice p.2.1 p.1.rs.length p.2.2]) (s := 2) (fun a => rfl) hz (j := 1) (by omega)
  exact ⟨h0, h1⟩
theorem lvCells_step {xs : List Value} {B k : Nat} {x : Lv} (hc : LvC w B L xs) (hx : L[k]? = some x) (hv : vs.length = k) (v : Option Addr × Nat) :
    (lvCells (L.take k) vs ++ xs.drop (k * 2)).set (k * 2 + 1) (.slice v.1 x.rs.length v.2) = lvCells (L.take (k + 1)) (vs ++ [v]) ++ xs.drop ((k + 1) * 2) := by
  have hk : k < L.length := (List.getElem?_eq_some_iff.1 hx).1
  have htk : (L.take k).length = k := by rw [List.length_take]; omega
  obtain ⟨h1, Ar, cr, h2, _⟩ := hc.at_ k x hx
  have hl := hc.len
  have e1 : xs.drop (k * 2) = .int .i64 x.price :: .slice Ar x.rs.length cr :: xs.drop ((k + 1) * 2) := by
    rw [List.drop_eq_getElem_cons (show k * 2 < xs.length by omega), List.drop_eq_getElem_cons (show k * 2 + 1 < xs.length by omega)]
    rw [List.getElem?_eq_getElem (show k * 2 < xs.length by omega)] at h1
    rw [List.getElem?_eq_getElem (show k * 2 + 1 < xs.length by omega)] at h2
    rw [Option.some.inj h1, Option.some.inj h2, show (k + 1) * 2 = k * 2 + 1 + 1 by omega]
  have e2 : L.take (k + 1) = L.take k ++ [x] := by rw [List.take_add_one, hx]; rfl
  have hlen := lvCells_len (L := L.take k) (vs := vs) (by rw [htk]; exact hv)
  rw [htk] at hlen
  rw [e1, e2, lvCells_snoc (by rw [htk]; exact hv), List.set_append_right _ _ (by omega), hlen, show k * 2 + 1 - k * 2 = 1 by omega, List.append_assoc]
  rfl
/-- levels of the call's own, each with rests of its own, apart -/
structure OwnLv (w : World) (base : Nat) (A : Option Addr) (cap : Nat) (L : List Lv) (vs : List (Option Addr × Nat)) : Prop where
  len : vs.length = L.length
  own : OwnS w base 2 A L.length cap (lvCells L vs)
  each : ∀ (i : Nat) (x : Lv) (v : Option Addr × Nat), L[i]? = some x → vs[i]? = some v → OwnS w base 5 v.1 x.rs.length v.2 (rows x.rs) ∧ (rowOf v.1 v.2 = none ∨ rowOf v.1 v.2 ≠ rowOf A cap)
  apart : ∀ (i j : Nat) (v u : Option Addr × Nat), i ≠ j → vs[i]? = some v → vs[j]? = some u → rowOf v.1 v.2 = none ∨ rowOf v.1 v.2 ≠ rowOf u.1 u.2
theorem OwnLv.below (h : OwnLv w base A cap L vs) (hb : Below w.heap.size w w') : OwnLv w' base A cap L vs :=
  ⟨h.len, h.own.below hb, fun i x v hx hv => ⟨((h.each i x v hx hv).1).below hb, (h.each i x v hx hv).2⟩, h.apart⟩
theorem OwnLv.lower {b : Nat} (h : OwnLv w base A cap L vs) (hb : b ≤ base) : OwnLv w b A cap L vs :=
  ⟨h.len, h.own.lower hb, fun i x v hx hv => ⟨((h.each i x v hx hv).1).lower hb, (h.each i x v hx hv).2⟩, h.apart⟩
theorem OwnLv.rd (h : OwnLv w base A cap L vs) : RdLv w w.heap.size A L := by
  intro h0
  obtain ⟨g, off, e, _, hl, h1, _⟩ := h.own.cell h0
  refine ⟨g, off, e, hl, fun i x hx => ?_⟩
  have hi : i < L.length := (List.getElem?_eq_some_iff.1 hx).1
  have hv : vs[i]? = some (vs[i]'(by rw [h.len]; exact hi)) := List.getElem?_eq_getElem (by rw [h.len]; exact hi)
  obtain ⟨c1, c2⟩ := lvCells_get hx hv
  have ho := (h.each i x _ hx hv).1
  exact ⟨(h1 _ (by omega)).trans c1, _, _, by rw [Nat.add_assoc]; exact (h1 _ (by omega)).trans c2, ho.le, ho.max, ho.rd (fun i j hi hj => rows_get hi hj)⟩
end
set_option maxRecDepth 100000 in
set_option maxHeartbeats 2000000 in
theorem own_any (L : List Lv) (A : Option Addr) (c : Nat) (w : World) (hr : RdLv w w.heap.size A L) (ok : LvOk L) (hA : A = none → c = 0) :
    Calls Tryd.prog 40 #[.slice A L.length c] w fun e w' => ∃ A' c' vs, e = .returned (.slice A' L.length c') ∧ OwnLv w' w.heap.size A' c' L vs ∧ Below w.heap.size w w' := by
  have OK := Lib.hid ok
  have hl := ok.few
  have cC := Lib.hid (clone_lv L A c w hr (by omega) hA)
  clear hr ok hA
  go_enter Tryd.func40, Tryd.ntmps40
  go_wp2_with fail
  go_at_call 64
  refine cC.out.mono ?_
  rintro e w1 ⟨A1, c1, xs, rfl, own, hx, hb, _⟩
  have HX := Lib.hid hx
  have OWN := Lib.hid own
  clear hx cC own
  go_wp2_with fail
  go_loopw [9] (fun i wr => ∃ (k : Nat) (vs : List (Option Addr × Nat)), k ≤ L.length ∧ i = .int .i64 k ∧ Hid (vs.length = k ∧ OwnS wr w.heap.size 2 A1 L.length c1 (lvCells (L.take k) vs ++ xs.drop (k * 2)) ∧
      (∀ (i : Nat) (x : Lv) (v : Option Addr × Nat), L[i]? = some x → vs[i]? = some v → OwnS wr w.heap.size 5 v.1 x.rs.length v.2 (rows x.rs) ∧ (rowOf v.1 v.2 = none ∨ rowOf v.1 v.2 ≠ rowOf A1 c1)) ∧
      (∀ (i j : Nat) (v u : Option Addr × Nat), i ≠ j → vs[i]? = some v → vs[j]? = some u → rowOf v.1 v.2 = none ∨ rowOf v.1 v.2 ≠ rowOf u.1 u.2)) ∧ Below w.heap.size w wr) (fun i _ => L.length - (intOf i).toNat)
  case atStart => exact ⟨0, [], by omega, rfl, Lib.hid ⟨rfl, by simpa [lvCells] using OWN.out, fun i x v _ h => by simp at h, fun i j v u _ h => by simp at h⟩, hb⟩
  case round =>
    clear hb
    obtain ⟨k, vs, hk, rfl, hi, hb⟩ := hrel
    by_cases hlt : k < L.length
    · have hx := lv_get hlt
      generalize hxx : L[k] = x at hx
      clear hxx
      obtain ⟨i1, i2, i3, i4⟩ := hi.out
      obtain ⟨g, off, rfl, hg0, hg1, hcell, hfree⟩ := i2.cell (by omega)
      obtain ⟨h1, Ar, cr, h2, h3, h4, h5⟩ := HX.out.at_ k x hx
      have hll := lvCells_len (L := L.take k) (vs := vs) (by rw [List.length_take]; omega)
      rw [List.length_take, Nat.min_eq_left hk] at hll
      have d0 : wr.cell? ⟨g, off + k * 2, none⟩ = some (.int .i64 x.price) := by
        rw [hcell _ (by omega), List.getElem?_append_right (by omega), hll, Nat.sub_self, List.getElem?_drop, Nat.add_zero, h1]
      have d1 : wr.cell? ⟨g, off + k * 2 + 1, none⟩ = some (.slice Ar x.rs.length cr) := by
        rw [Nat.add_assoc, hcell _ (by omega), List.getElem?_append_right (by omega), hll, List.getElem?_drop, show k * 2 + (k * 2 + 1 - k * 2) = k * 2 + 1 by omega, h2]
      have hAr : Ar = none → x.rs.length = 0 ∧ cr = 0 := by
        intro hn
        have h0 := OK.out.full x (List.mem_of_getElem? hx)
        obtain ⟨b', off', e, _⟩ := h5 (by omega)
        rw [hn] at e; cases e
      have hx60 := OK.out.each x (List.mem_of_getElem? hx)
      have hb1 := below_then_alloc (o := .cells #[.int .i64 x.price, .slice Ar x.rs.length cr] 26) hb
      have hbw : Below wr.heap.size wr (wr.alloc (.cells #[.int .i64 x.price, .slice Ar x.rs.length cr] 26)) := (Below.refl _ _).alloc (Nat.le_refl _) _
      have cR := Lib.hid (clone_rests x.rs Ar cr _ ((h5.below hb1).more hb1.size) (by omega) hAr)
      have HI := Lib.hid hi.out
      have HXX := Lib.hid hx
      have fr := (hfree (k * 2 + 1) (by have := i2.le; omega)).2
      rw [← Nat.add_assoc] at fr
      clear hi i1 i2 i3 i4 hcell hfree h1 h2 h3 h4 h5 hAr hx hll
      go_wp2_with fail
      go_at_call 65
      refine cR.out.mono ?_
      rintro e w2 ⟨A2, c2, rfl, own2, hb2, _⟩
      have hb3 := below_then hb2 hb1
      have hbw2 := below_then hb2 hbw
      have d1' := (hbw2.cell (p := ⟨g, off + k * 2 + 1, none⟩) hg1).trans d1
      have f1' : w2.frozen? ⟨g, off + k * 2 + 1, none⟩ = false := by rw [← fr]; exact hbw2.frozen hg1
      have O2 := Lib.hid own2
      clear own2 d0 d1 fr cR
      go_wp2
      go_roundw
      case rel =>
        obtain ⟨i1, i2, i3, i4⟩ := HI.out
        refine ⟨k + 1, vs ++ [(A2, c2)], by omega, by go_num, Lib.hid ⟨by simp [i1], ?_, ?_, ?_⟩, hb3.setCell hg0 _⟩
        · have h := (i2.below hbw2).set (j := k * 2 + 1) (by omega) (.slice A2 x.rs.length c2)
          rw [← Nat.add_assoc] at h
          rw [lvCells_step HX.out HXX.out i1 (A2, c2)] at h
          exact h
        · intro i y v hy hv
          have hfar : ∀ (B : Option Addr) (cb : Nat), (rowOf B cb = none ∨ rowOf B cb ≠ rowOf (some ⟨g, off, none⟩) c1) → rowOf B cb ≠ some g := by
            intro B cb h e
            rcases h with h | h
            · rw [h] at e; cases e
            · exact h (by rw [e, rowOf_some (by have := i2.le; omega)])
          rcases Nat.lt_or_ge i vs.length with hik | hik
          · rw [List.getElem?_append_left hik] at hv
            obtain ⟨a, b⟩ := i3 i y v hy hv
            exact ⟨(a.below hbw2).far (hfar _ _ b) _, b⟩
          · obtain rfl : i = k := by
              have := (List.getElem?_eq_some_iff.1 hv).1
              rw [List.length_append, List.length_singleton] at this
              omega
            rw [HXX.out] at hy
            cases hy
            rw [List.getElem?_append_right (by omega), i1, Nat.sub_self] at hv
            cases hv
            have hne : rowOf A2 c2 = none ∨ rowOf A2 c2 ≠ rowOf (some ⟨g, off, none⟩) c1 := by
              cases h : rowOf A2 c2 with
              | none => exact .inl rfl
              | some z =>
                refine .inr ?_
                have := (O2.out.row_lt z h).1
                rw [rowOf_some (by have := i2.le; omega)]
                intro e
                cases e
                have := hbw.size
                omega
            exact ⟨((O2.out.lower (Nat.le_trans hb1.size (Nat.le_refl _))).far (hfar _ _ hne) _), hne⟩
        · have hnew : ∀ (i : Nat) (v : Option Addr × Nat), vs[i]? = some v → rowOf v.1 v.2 = none ∨ ∃ z, rowOf v.1 v.2 = some z ∧ z < wr.heap.size := by
            intro i v hv
            cases h : rowOf v.1 v.2 with
            | none => exact .inl rfl
            | some z =>
              have hik := (List.getElem?_eq_some_iff.1 hv).1
              exact .inr ⟨z, rfl, ((i3 i _ v (lv_get (by omega)) hv).1.row_lt z h).2⟩
          have hrow : ∀ z, rowOf A2 c2 = some z → wr.heap.size ≤ z := fun z h => Nat.le_trans hbw.size (O2.out.row_lt z h).1
          intro i j v u hij hv hu
          rcases Nat.lt_or_ge i vs.length with hik | hik <;> rcases Nat.lt_or_ge j vs.length with hjk | hjk
          · rw [List.getElem?_append_left hik] at hv
            rw [List.getElem?_append_left hjk] at hu
            exact i4 i j v u hij hv hu
          · rw [List.getElem?_append_left hik] at hv
            have hj : j = vs.length := by have := (List.getElem?_eq_some_iff.1 hu).1; rw [List.length_append, List.length_singleton] at this; omega
            rw [List.getElem?_append_right hjk, hj, Nat.sub_self] at hu
            cases hu
            rcases hnew i v hv with h | ⟨z, h, hz⟩
            · exact .inl h
            · refine .inr fun e => ?_
              have := hrow z (e ▸ h)
              omega
          · rw [List.getElem?_append_left hjk] at hu
            have hi' : i = vs.length := by have := (List.getElem?_eq_some_iff.1 hv).1; rw [List.length_append, List.length_singleton] at this; omega
            rw [List.getElem?_append_right hik, hi', Nat.sub_self] at hv
            cases hv
            cases h : rowOf A2 c2 with
            | none => exact .inl rfl
            | some y =>
              refine .inr fun e => ?_
              have h2 := hrow y h
              rcases hnew j u hu with h3 | ⟨z, h3, hz⟩
              · rw [h3] at e; cases e
              · rw [h3] at e; cases e; omega
          · exfalso
            have h1 := (List.getElem?_eq_some_iff.1 hv).1
            have h2 := (List.getElem?_eq_some_iff.1 hu).1
            rw [List.length_append, List.length_singleton] at h1 h2
            omega
      case measure => simp [intOf]; omega
    · obtain rfl : k = L.length := by omega
      have HI := Lib.hid hi.out
      clear hi
      go_wp2
      go_ret
      obtain ⟨i1, i2, i3, i4⟩ := HI.out
      rw [List.take_length, List.drop_eq_nil_of_le (by have := HX.out.len; omega), List.append_nil] at i2
      exact ⟨A1, c1, vs, rfl, ⟨i1, i2, i3, i4⟩, hb⟩
end Go.Proofs.YtbnjkcgkdpildaaDoor
