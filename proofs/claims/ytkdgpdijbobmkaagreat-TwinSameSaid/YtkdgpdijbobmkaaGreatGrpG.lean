/- When a side, a book, is right: plain. Levels of the call's own: side.Own. The contracts of book.With, book.Own. The contract of meet.trade. What meet.Run computes: plain. The memory of a meeting: levels of its own of which the first turns, trades and ids that grow; all apart. The contract of book.Own. What Put computes: plain. A rest more, a rest less at a side: plain. The contracts of book.Of, book.With, of a side by its number. -/
import Derived.Test.YtkdgpdijbobmkaaGreatGrpF
import Derived.Test.YtkdgpdijbobmkaaGreatGrpD
import Derived.Test.YtkdgpdijbobmkaaGreatTrade
import Derived.Test.YtkdgpdijbobmkaaGreatGrpC
namespace Go.Proofs.YtkdgpdijbobmkaaGreat
set_option linter.all false
open Go Go.RowKit
theorem side_two {s : Int} (h : vs s = true) : s = 1 ∨ s = 2 := by have := vs_t h; omega
theorem twice_iff : ∀ (l s : List Int), twice s l = false ↔ l.Nodup ∧ ∀ x ∈ l, x ∉ s
  | [], s => by simp [twice]
  | x :: r, s => by
    rw [twice, Bool.or_eq_false_iff, twice_iff r, List.nodup_cons]
    constructor
    · rintro ⟨h1, h2, h3⟩
      have h1' : x ∉ s := by simpa using h1
      refine ⟨⟨fun h => ?_, h2⟩, fun y hy => ?_⟩
      · exact h3 x h (by simp)
      · rcases List.mem_cons.1 hy with rfl | hy
        · exact h1'
        · exact fun h => h3 y hy (by simp [h])
    · rintro ⟨⟨h1, h2⟩, h3⟩
      refine ⟨by simpa using h3 x (by simp), h2, fun y hy h => ?_⟩
      rcases List.mem_append.1 h with h | h
      · exact h3 y (by simp [hy]) h
      · rw [List.mem_singleton] at h
        subst h
        exact h1 hy
theorem twice_nil (l : List Int) : twice [] l = false ↔ l.Nodup := by rw [twice_iff]; simp
theorem sAhd_iff {s a b : Int} (hs : vs s = true) : sAhd s a b = true ↔ (s = 1 ∧ b < a) ∨ (s = 2 ∧ a < b) := by
  rcases (show s = 1 ∨ s = 2 by have := vs_t hs; omega) with rfl | rfl <;> simp [sAhd, ahd']
theorem sAhd_trans {s a b c : Int} (hs : vs s = true) (h1 : sAhd s a b = true) (h2 : sAhd s b c = true) : sAhd s a c = true := by
  rw [sAhd_iff hs] at *
  omega
/-- a side that is right -/
structure SideOk (s : Int) (L : List Lv) : Prop where
  side : vs s = true
  price : ∀ x ∈ L, vp x.price = true
  full : ∀ x ∈ L, x.rs.length ≠ 0
  sound : ∀ x ∈ L, Sound x.rs
  sorted : L.Pairwise fun x y => sAhd s x.price y.price = true
  few : cnt L ≤ 60
  once : (ids L).Nodup
theorem ids_sub {L : List Lv} {x : Lv} (hx : x ∈ L) : (x.rs.map Rest.id).Sublist (ids L) := by
  induction L with
  | nil => cases hx
  | cons y L ih =>
    simp only [ids, List.flatMap_cons]
    rcases List.mem_cons.1 hx with rfl | hx
    · exact List.sublist_append_left _ _
    · exact (ih hx).trans (List.sublist_append_right _ _)
theorem len_cnt {L : List Lv} {x : Lv} (hx : x ∈ L) : x.rs.length ≤ cnt L := by
  have := (ids_sub hx).length_le
  rw [ids_len] at this
  simpa using this
theorem pairwise_step {s : Int} (hs : vs s = true) : ∀ (L : List Lv), (∀ k x y, L[k]? = some x → L[k + 1]? = some y → sAhd s x.price y.price = true) → L.Pairwise fun x y => sAhd s x.price y.price = true
  | [], _ => List.Pairwise.nil
  | x :: L, h => by
    have ih := pairwise_step hs L (fun k a b ha hb => h (k + 1) a b (by simpa using ha) (by simpa using hb))
    rw [List.pairwise_cons]
    refine ⟨fun y hy => ?_, ih⟩
    cases L with
    | nil => cases hy
    | cons z L =>
      have hz := h 0 x z rfl rfl
      rcases List.mem_cons.1 hy with rfl | hy
      · exact hz
      · exact sAhd_trans hs hz ((List.pairwise_cons.1 ih).1 y hy)
theorem sideE_iff {s : Int} {L : List Lv} : sideE s L = 0 ↔ SideOk s L := by
  constructor
  · intro h
    obtain ⟨h1, h2, h3, h4⟩ := sideE_zero h
    have h0 := lvErr_zero h2
    have each : ∀ x ∈ L, vp x.price = true ∧ x.rs.length ≠ 0 ∧ qErr x.rs = 0 := fun x hx => by
      obtain ⟨j, hj, rfl⟩ := List.getElem_of_mem hx
      have := stepL_zero (lv_get hj) (h0 j hj)
      exact ⟨this.1, this.2.1, this.2.2.1⟩
    refine ⟨h1, fun x hx => (each x hx).1, fun x hx => (each x hx).2.1, fun x hx => (qErr_iff.1 (each x hx).2.2).2.1, pairwise_step h1 L fun k x y hx hy => ?_, h3, (twice_nil _).1 h4⟩
    exact (stepL_zero hy (h0 _ (List.getElem?_eq_some_iff.1 hy).1)).2.2.2 x (by omega) (by simpa using hx)
  · rintro ⟨h1, h2, h3, h4, h5, h6, h7⟩
    have hq : ∀ x ∈ L, qErr x.rs = 0 := fun x hx => qErr_iff.2 ⟨Nat.le_trans (len_cnt hx) h6, h4 x hx, (ids_sub hx).nodup h7⟩
    have hl : lvErr s L = 0 := lvErr_none fun j hj => by
      have hm : L[j] ∈ L := List.getElem_mem hj
      unfold stepL
      rw [lv_get hj]
      simp only [h2 _ hm, h3 _ hm, hq _ hm]
      simp only [Bool.true_eq_false, if_false, ne_eq, not_true_eq_false]
      by_cases h0 : j = 0
      · rw [if_pos h0]
      · rw [if_neg h0, lv_get (show j - 1 < L.length by omega)]
        simp only
        rw [if_pos (List.pairwise_iff_getElem.1 h5 (j - 1) j (by omega) hj (by omega))]
    rw [sideE, h1, hl, (twice_nil _).2 h7]
    simp
    omega
/-- a book that is right -/
structure BookOk (L M : List Lv) : Prop where
  buys : SideOk 1 L
  sells : SideOk 2 M
  apart : ∀ x ∈ L, ∀ y ∈ M, x.price < y.price
  few : cnt L + cnt M ≤ 60
  once : (ids L ++ ids M).Nodup
theorem bookE_iff {L M : List Lv} : bookE L M = 0 ↔ BookOk L M := by
  constructor
  · intro h
    obtain ⟨h1, h2, h3⟩ := bookE_zero h
    rw [sideE_iff] at h1 h2
    unfold wholeE at h3
    by_cases hc : crossB L M = true
    · rw [if_pos hc] at h3; omega
    · rw [if_neg hc] at h3
      by_cases ht : twice [] (ids (L ++ M)) = true
      · rw [if_pos ht] at h3; omega
      · rw [if_neg ht] at h3
        refine ⟨h1, h2, fun x hx y hy => ?_, ?_, ?_⟩
        · cases L with
          | nil => cases hx
          | cons a L =>
            cases M with
            | nil => cases hy
            | cons b M =>
              have h0 : a.price < b.price := by simp [crossB] at hc; omega
              have ha : x.price ≤ a.price := by
                rcases List.mem_cons.1 hx with rfl | hx
                · omega
                · have := (sAhd_iff h1.side).1 ((List.pairwise_cons.1 h1.sorted).1 x hx); omega
              have hb : b.price ≤ y.price := by
                rcases List.mem_cons.1 hy with rfl | hy
                · omega
                · have := (sAhd_iff h2.side).1 ((List.pairwise_cons.1 h2.sorted).1 y hy); omega
              omega
        · by_cases hf : 60 < cnt L + cnt M
          · rw [if_pos hf] at h3; omega
          · omega
        · rw [← ids_app, ← twice_nil]
          simpa using ht
  · rintro ⟨h1, h2, h3, h4, h5⟩
    have e1 : crossB L M = false := by
      cases L with
      | nil => rfl
      | cons a L =>
        cases M with
        | nil => rfl
        | cons b M =>
          have := h3 a (by simp) b (by simp)
          simp [crossB]; omega
    have e2 : twice [] (ids (L ++ M)) = false := by rw [twice_nil, ids_app]; exact h5
    rw [bookE, sideE_iff.2 h1, sideE_iff.2 h2, wholeE, e1, e2]
    simp
    omega
theorem whereL_neg {L : List Lv} {id : Int} : (whereL L id).1 < 0 ↔ id ∉ ids L := by
  constructor
  · intro h hm
    obtain ⟨x, hx, hr⟩ := List.mem_flatMap.1 hm
    obtain ⟨k, hk, rfl⟩ := List.getElem_of_mem hx
    unfold whereL at h
    split at h
    · simp only at h; omega
    · rename_i hn
      rw [List.find?_eq_none] at hn
      have := hn k (List.mem_range.2 hk)
      simp only [List.getD_eq_getElem?_getD, List.getElem?_eq_getElem hk, Option.getD_some, decide_eq_true_eq] at this
      exact findI_neg.1 this hr
  · intro h
    rw [whereL_none fun j hj => ?_]
    · simp
    · have : ¬ 0 ≤ findI ((L.getD j ⟨0, []⟩).rs) id := by
        rw [findI_neg]
        intro hr
        apply h
        rw [List.getD_eq_getElem?_getD, List.getElem?_eq_getElem hj, Option.getD_some] at hr
        exact List.mem_flatMap.2 ⟨L[j], List.getElem_mem hj, hr⟩
      omega
theorem whereB_zero {L M : List Lv} {id : Int} : (whereB L M id).1 = 0 ↔ id ∉ ids L ∧ id ∉ ids M := by
  rw [← whereL_neg, ← whereL_neg]
  unfold whereB
  by_cases h1 : 0 ≤ (whereL L id).1
  · rw [if_pos h1]; constructor
    · intro h; simp at h
    · intro h; omega
  · rw [if_neg h1]
    by_cases h2 : 0 ≤ (whereL M id).1
    · rw [if_pos h2]; constructor
      · intro h; simp at h
      · intro h; omega
    · rw [if_neg h2]; constructor
      · intro _; omega
      · intro _; rfl
theorem readyE_iff {L M : List Lv} {o : Order} : readyE L M o = 0 ↔ BookOk L M ∧ o.err = 0 ∧ o.stop = 0 ∧ o.id ∉ ids L ∧ o.id ∉ ids M := by
  rw [← bookE_iff, ← whereB_zero]
  unfold readyE
  by_cases h1 : bookE L M = 0
  · rw [if_neg (by simpa using h1)]
    by_cases h2 : o.err = 0
    · rw [if_neg (by simpa using h2)]
      by_cases h3 : o.stop = 0
      · rw [if_neg (by simpa using h3)]
        by_cases h4 : (whereB L M o.id).1 = 0
        · simp [h1, h2, h3, h4]
        · simp [h4]
      · simp [h3]
    · simp [h2]
  · simp [h1]
theorem vs_of {s : Int} (h : s = 1 ∨ s = 2) : vs s = true := by rcases h with rfl | rfl <;> decide
end Go.Proofs.YtkdgpdijbobmkaaGreat
namespace Go.Proofs.YtkdgpdijbobmkaaGreat
set_option linter.all false
open Go Go.RowKit
/-- the cells of levels whose rests lie at vs -/
def lvCells (L : List Lv) (vs : List (Option Addr × Nat)) : List Value := (L.zip vs).flatMap fun p => [.int .i64 p.1.price, .slice p.2.1 p.1.rs.length p.2.2]
section
variable {L : List Lv} {vs : List (Option Addr × Nat)} {w w' : World} {A : Option Addr} {base cap : Nat}
theorem lvCells_len (h : vs.length = L.length) : (lvCells L vs).length = L.length * 2 := by
  rw [lvCells, flat_len (s := 2) (fun a => rfl), List.length_zip, h, Nat.min_self]
theorem lvCells_snoc (h : vs.length = L.length) (x : Lv) (v : Option Addr × Nat) : lvCells (L ++ [x]) (vs ++ [v]) = lvCells L vs ++ [.int .i64 x.price, .slice v.1 x.rs.length v.2] := by
  rw [lvCells, List.zip_append h.symm, List.flatMap_append]; rfl
theorem lvCells_get {i : Nat} {x : Lv} {v : Option Addr × Nat} (hx : L[i]? = some x) (hv : vs[i]? = some v) : (lvCells L vs)[i * 2]? = some (.int .i64 x.price) ∧ (lvCells L vs)[i * 2 + 1]? = some (.slice v.1 x.rs.length v.2) := by
  have hz : (L.zip vs)[i]? = some (x, v) := by rw [List.getElem?_zip_eq_some]; exact ⟨hx, hv⟩
  have h0 := flat_get (f := fun p : Lv × (Option Addr × Nat) => [Value.int .i64 p.1.price, .slice p.2.1 p.1.rs.length p.2.2]) (s := 2) (fun a => rfl) hz (j := 0) (by omega)
  have h1 := flat_get (f := fun p : Lv × (Option Addr × Nat) => [Value.int .i64 p.1.price, .slice p.2.1 p.1.rs.length p.2.2]) (s := 2) (fun a => rfl) hz (j := 1) (by omega)
  exact ⟨h0, h1⟩
theorem lvCells_step {xs : List Value} {B k : Nat} {x : Lv} (hc : LvC w B L xs) (hx : L[k]? = some x) (hv : vs.length = k) (v : Option Addr × Nat) :
    (lvCells (L.take k) vs ++ xs.drop (k * 2)).set (k * 2 + 1) (.slice v.1 x.rs.length v.2) = lvCells (L.take (k + 1)) (vs ++ [v]) ++ xs.drop ((k + 1) * 2) := by
  have hk : k < L.length := (List.getElem?_eq_some_iff.1 hx).1
  have htk : (L.take k).length = k := by rw [List.length_take]; omega
  obtain ⟨h1, Ar, cr, h2, _⟩ := hc.at_ k x hx
  have hl := hc.len
  have e1 : xs.drop (k * 2) = .int .i64 x.price :: .slice Ar x.rs.length cr :: xs.drop ((k + 1) * 2) := by
    rw [List.drop_eq_getElem_cons (show k * 2 < xs.length by omega), List.drop_eq_getElem_cons (show k * 2 + 1 < xs.length by omega)]
    rw [List.getElem?_eq_getElem (show k * 2 < xs.length by omega)] at h1
    rw [List.getElem?_eq_getElem (show k * 2 + 1 < xs.length by omega)] at h2
    rw [Option.some.inj h1, Option.some.inj h2, show (k + 1) * 2 = k * 2 + 1 + 1 by omega]
  have e2 : L.take (k + 1) = L.take k ++ [x] := by rw [List.take_add_one, hx]; rfl
  have hlen := lvCells_len (L := L.take k) (vs := vs) (by rw [htk]; exact hv)
  rw [htk] at hlen
  rw [e1, e2, lvCells_snoc (by rw [htk]; exact hv), List.set_append_right _ _ (by omega), hlen, show k * 2 + 1 - k * 2 = 1 by omega, List.append_assoc]
  rfl
/-- levels of the call's own, each with rests of its own, apart -/
structure OwnLv (w : World) (base : Nat) (A : Option Addr) (cap : Nat) (L : List Lv) (vs : List (Option Addr × Nat)) : Prop where
  len : vs.length = L.length
  own : OwnS w base 2 A L.length cap (lvCells L vs)
  each : ∀ (i : Nat) (x : Lv) (v : Option Addr × Nat), L[i]? = some x → vs[i]? = some v → OwnS w base 5 v.1 x.rs.length v.2 (rows x.rs) ∧ (rowOf v.1 v.2 = none ∨ rowOf v.1 v.2 ≠ rowOf A cap)
  apart : ∀ (i j : Nat) (v u : Option Addr × Nat), i ≠ j → vs[i]? = some v → vs[j]? = some u → rowOf v.1 v.2 = none ∨ rowOf v.1 v.2 ≠ rowOf u.1 u.2
theorem OwnLv.below (h : OwnLv w base A cap L vs) (hb : Below w.heap.size w w') : OwnLv w' base A cap L vs :=
  ⟨h.len, h.own.below hb, fun i x v hx hv => ⟨((h.each i x v hx hv).1).below hb, (h.each i x v hx hv).2⟩, h.apart⟩
theorem OwnLv.lower {b : Nat} (h : OwnLv w base A cap L vs) (hb : b ≤ base) : OwnLv w b A cap L vs :=
  ⟨h.len, h.own.lower hb, fun i x v hx hv => ⟨((h.each i x v hx hv).1).lower hb, (h.each i x v hx hv).2⟩, h.apart⟩
theorem OwnLv.rd (h : OwnLv w base A cap L vs) : RdLv w w.heap.size A L := by
  intro h0
  obtain ⟨g, off, e, _, hl, h1, _⟩ := h.own.cell h0
  refine ⟨g, off, e, hl, fun i x hx => ?_⟩
  have hi : i < L.length := (List.getElem?_eq_some_iff.1 hx).1
  have hv : vs[i]? = some (vs[i]'(by rw [h.len]; exact hi)) := List.getElem?_eq_getElem (by rw [h.len]; exact hi)
  obtain ⟨c1, c2⟩ := lvCells_get hx hv
  have ho := (h.each i x _ hx hv).1
  exact ⟨(h1 _ (by omega)).trans c1, _, _, by rw [Nat.add_assoc]; exact (h1 _ (by omega)).trans c2, ho.le, ho.max, ho.rd (fun i j hi hj => rows_get hi hj)⟩
end
set_option maxRecDepth 100000 in
set_option maxHeartbeats 2000000 in
theorem own_any (L : List Lv) (A : Option Addr) (c : Nat) (w : World) (hr : RdLv w w.heap.size A L) (ok : LvOk L) (hA : A = none → c = 0) :
    Calls Tryz.prog 79 #[.slice A L.length c] w fun e w' => ∃ A' c' vs, e = .returned (.slice A' L.length c') ∧ OwnLv w' w.heap.size A' c' L vs ∧ Below w.heap.size w w' := by
  have OK := Lib.hid ok
  have hl := ok.few
  have cC := Lib.hid (clone_lv L A c w hr (by omega) hA)
  clear hr ok hA
  go_enter Tryz.func79, Tryz.ntmps79
  go_wp2_with fail
  go_at_call 109
  refine cC.out.mono ?_
  rintro e w1 ⟨A1, c1, xs, rfl, own, hx, hb, _⟩
  have HX := Lib.hid hx
  have OWN := Lib.hid own
  clear hx cC own
  go_wp2_with fail
  go_loopw [9] (fun i wr => ∃ (k : Nat) (vs : List (Option Addr × Nat)), k ≤ L.length ∧ i = .int .i64 k ∧ Hid (vs.length = k ∧ OwnS wr w.heap.size 2 A1 L.length c1 (lvCells (L.take k) vs ++ xs.drop (k * 2)) ∧
      (∀ (i : Nat) (x : Lv) (v : Option Addr × Nat), L[i]? = some x → vs[i]? = some v → OwnS wr w.heap.size 5 v.1 x.rs.length v.2 (rows x.rs) ∧ (rowOf v.1 v.2 = none ∨ rowOf v.1 v.2 ≠ rowOf A1 c1)) ∧
      (∀ (i j : Nat) (v u : Option Addr × Nat), i ≠ j → vs[i]? = some v → vs[j]? = some u → rowOf v.1 v.2 = none ∨ rowOf v.1 v.2 ≠ rowOf u.1 u.2)) ∧ Below w.heap.size w wr) (fun i _ => L.length - (intOf i).toNat)
  case atStart => exact ⟨0, [], by omega, rfl, Lib.hid ⟨rfl, by simpa [lvCells] using OWN.out, fun i x v _ h => by simp at h, fun i j v u _ h => by simp at h⟩, hb⟩
  case round =>
    clear hb
    obtain ⟨k, vs, hk, rfl, hi, hb⟩ := hrel
    by_cases hlt : k < L.length
    · have hx := lv_get hlt
      generalize hxx : L[k] = x at hx
      clear hxx
      obtain ⟨i1, i2, i3, i4⟩ := hi.out
      obtain ⟨g, off, rfl, hg0, hg1, hcell, hfree⟩ := i2.cell (by omega)
      obtain ⟨h1, Ar, cr, h2, h3, h4, h5⟩ := HX.out.at_ k x hx
      have hll := lvCells_len (L := L.take k) (vs := vs) (by rw [List.length_take]; omega)
      rw [List.length_take, Nat.min_eq_left hk] at hll
      have d0 : wr.cell? ⟨g, off + k * 2, none⟩ = some (.int .i64 x.price) := by
        rw [hcell _ (by omega), List.getElem?_append_right (by omega), hll, Nat.sub_self, List.getElem?_drop, Nat.add_zero, h1]
      have d1 : wr.cell? ⟨g, off + k * 2 + 1, none⟩ = some (.slice Ar x.rs.length cr) := by
        rw [Nat.add_assoc, hcell _ (by omega), List.getElem?_append_right (by omega), hll, List.getElem?_drop, show k * 2 + (k * 2 + 1 - k * 2) = k * 2 + 1 by omega, h2]
      have hAr : Ar = none → x.rs.length = 0 ∧ cr = 0 := by
        intro hn
        have h0 := OK.out.full x (List.mem_of_getElem? hx)
        obtain ⟨b', off', e, _⟩ := h5 (by omega)
        rw [hn] at e; cases e
      have hx60 := OK.out.each x (List.mem_of_getElem? hx)
      have hb1 := below_then_alloc (o := .cells #[.int .i64 x.price, .slice Ar x.rs.length cr] 60) hb
      have hbw : Below wr.heap.size wr (wr.alloc (.cells #[.int .i64 x.price, .slice Ar x.rs.length cr] 60)) := (Below.refl _ _).alloc (Nat.le_refl _) _
      have cR := Lib.hid (clone_rests x.rs Ar cr _ ((h5.below hb1).more hb1.size) (by omega) hAr)
      have HI := Lib.hid hi.out
      have HXX := Lib.hid hx
      have fr := (hfree (k * 2 + 1) (by have := i2.le; omega)).2
      rw [← Nat.add_assoc] at fr
      clear hi i1 i2 i3 i4 hcell hfree h1 h2 h3 h4 h5 hAr hx hll
      go_wp2_with fail
      go_at_call 110
      refine cR.out.mono ?_
      rintro e w2 ⟨A2, c2, rfl, own2, hb2, _⟩
      have hb3 := below_then hb2 hb1
      have hbw2 := below_then hb2 hbw
      have d1' := (hbw2.cell (p := ⟨g, off + k * 2 + 1, none⟩) hg1).trans d1
      have f1' : w2.frozen? ⟨g, off + k * 2 + 1, none⟩ = false := by rw [← fr]; exact hbw2.frozen hg1
      have O2 := Lib.hid own2
      clear own2 d0 d1 fr cR
      go_wp2
      go_roundw
      case rel =>
        obtain ⟨i1, i2, i3, i4⟩ := HI.out
        refine ⟨k + 1, vs ++ [(A2, c2)], by omega, by go_num, Lib.hid ⟨by simp [i1], ?_, ?_, ?_⟩, hb3.setCell hg0 _⟩
        · have h := (i2.below hbw2).set (j := k * 2 + 1) (by omega) (.slice A2 x.rs.length c2)
          rw [← Nat.add_assoc] at h
          rw [lvCells_step HX.out HXX.out i1 (A2, c2)] at h
          exact h
        · intro i y v hy hv
          have hfar : ∀ (B : Option Addr) (cb : Nat), (rowOf B cb = none ∨ rowOf B cb ≠ rowOf (some ⟨g, off, none⟩) c1) → rowOf B cb ≠ some g := by
            intro B cb h e
            rcases h with h | h
            · rw [h] at e; cases e
            · exact h (by rw [e, rowOf_some (by have := i2.le; omega)])
          rcases Nat.lt_or_ge i vs.length with hik | hik
          · rw [List.getElem?_append_left hik] at hv
            obtain ⟨a, b⟩ := i3 i y v hy hv
            exact ⟨(a.below hbw2).far (hfar _ _ b) _, b⟩
          · obtain rfl : i = k := by
              have := (List.getElem?_eq_some_iff.1 hv).1
              rw [List.length_append, List.length_singleton] at this
              omega
            rw [HXX.out] at hy
            cases hy
            rw [List.getElem?_append_right (by omega), i1, Nat.sub_self] at hv
            cases hv
            have hne : rowOf A2 c2 = none ∨ rowOf A2 c2 ≠ rowOf (some ⟨g, off, none⟩) c1 := by
              cases h : rowOf A2 c2 with
              | none => exact .inl rfl
              | some z =>
                refine .inr ?_
                have := (O2.out.row_lt z h).1
                rw [rowOf_some (by have := i2.le; omega)]
                intro e
                cases e
                have := hbw.size
                omega
            exact ⟨((O2.out.lower (Nat.le_trans hb1.size (Nat.le_refl _))).far (hfar _ _ hne) _), hne⟩
        · have hnew : ∀ (i : Nat) (v : Option Addr × Nat), vs[i]? = some v → rowOf v.1 v.2 = none ∨ ∃ z, rowOf v.1 v.2 = some z ∧ z < wr.heap.size := by
            intro i v hv
            cases h : rowOf v.1 v.2 with
            | none => exact .inl rfl
            | some z =>
              have hik := (List.getElem?_eq_some_iff.1 hv).1
              exact .inr ⟨z, rfl, ((i3 i _ v (lv_get (by omega)) hv).1.row_lt z h).2⟩
          have hrow : ∀ z, rowOf A2 c2 = some z → wr.heap.size ≤ z := fun z h => Nat.le_trans hbw.size (O2.out.row_lt z h).1
          intro i j v u hij hv hu
          rcases Nat.lt_or_ge i vs.length with hik | hik <;> rcases Nat.lt_or_ge j vs.length with hjk | hjk
          · rw [List.getElem?_append_left hik] at hv
            rw [List.getElem?_append_left hjk] at hu
            exact i4 i j v u hij hv hu
          · rw [List.getElem?_append_left hik] at hv
            have hj : j = vs.length := by have := (List.getElem?_eq_some_iff.1 hu).1; rw [List.length_append, List.length_singleton] at this; omega
            rw [List.getElem?_append_right hjk, hj, Nat.sub_self] at hu
            cases hu
            rcases hnew i v hv with h | ⟨z, h, hz⟩
            · exact .inl h
            · refine .inr fun e => ?_
              have := hrow z (e ▸ h)
              omega
          · rw [List.getElem?_append_left hjk] at hu
            have hi' : i = vs.length := by have := (List.getElem?_eq_some_iff.1 hv).1; rw [List.length_append, List.length_singleton] at this; omega
            rw [List.getElem?_append_right hik, hi', Nat.sub_self] at hv
            cases hv
            cases h : rowOf A2 c2 with
            | none => exact .inl rfl
            | some y =>
              refine .inr fun e => ?_
              have h2 := hrow y h
              rcases hnew j u hu with h3 | ⟨z, h3, hz⟩
              · rw [h3] at e; cases e
              · rw [h3] at e; cases e; omega
          · exfalso
            have h1 := (List.getElem?_eq_some_iff.1 hv).1
            have h2 := (List.getElem?_eq_some_iff.1 hu).1
            rw [List.length_append, List.length_singleton] at h1 h2
            omega
      case measure => simp [intOf]; omega
    · obtain rfl : k = L.length := by omega
      have HI := Lib.hid hi.out
      clear hi
      go_wp2
      go_ret
      obtain ⟨i1, i2, i3, i4⟩ := HI.out
      rw [List.take_length, List.drop_eq_nil_of_le (by have := HX.out.len; omega), List.append_nil] at i2
      exact ⟨A1, c1, vs, rfl, ⟨i1, i2, i3, i4⟩, hb⟩
end Go.Proofs.YtkdgpdijbobmkaaGreat
namespace Go.Proofs.YtkdgpdijbobmkaaGreat
set_option linter.all false
open Go Go.RowKit
theorem box2 {w' : World} {v0 v1 : Value} {g : Nat} {t : TypeId} (h : Bk w' g t #[v0, v1]) : w'.cell? ⟨g, 0, none⟩ = some v0 ∧ w'.cell? ⟨g, 1, none⟩ = some v1 := ⟨h.cell 0, h.cell 1⟩
theorem Bk.set2 {w : World} {g : Nat} {t : TypeId} {x0 x1 : Value} (h : Bk w g t #[x0, x1]) (a b : Value) : Bk ((w.setCell ⟨g, 0, none⟩ a).setCell ⟨g, 1, none⟩ b) g t #[a, b] := (h.set_ 0 a).set_ 1 b
/-- With the levels to sell -/
theorem with_sell (A1 A2 A3 : Option Addr) (n1 n2 n3 c1 c2 c3 : Nat) (w : World) :
    Calls Tryz.prog 129 #[.agg #[.slice A1 n1 c1, .slice A2 n2 c2], .int .i64 2, .slice A3 n3 c3] w fun e w' => e = .returned (.agg #[.slice A1 n1 c1, .slice A3 n3 c3]) ∧ Below w.heap.size w w' := by
  have hb : Below w.heap.size w ((w.alloc (.cells #[.slice A1 n1 c1, .slice A2 n2 c2] 54)).alloc (.cells #[.slice none 0 0, .slice none 0 0] 54)) := below_then_alloc ((Below.refl _ _).alloc (Nat.le_refl _) _)
  have bb := (Bk.new w 54 #[.slice A1 n1 c1, .slice A2 n2 c2]).alloc (.cells #[.slice none 0 0, .slice none 0 0] 54)
  have br := Bk.at_ (w := w.alloc (.cells #[.slice A1 n1 c1, .slice A2 n2 c2] 54)) (g' := w.heap.size + 1) (by simp) 54 #[.slice none 0 0, .slice none 0 0]
  go_enter Tryz.func129, Tryz.ntmps129
  go_upto_region 1 with fail
  generalize (w.alloc (.cells #[.slice A1 n1 c1, .slice A2 n2 c2] 54)).alloc (.cells #[.slice none 0 0, .slice none 0 0] 54) = w0 at *
  have b2 := bb.set_ 1 (.slice A3 n3 c3)
  have r2 := br.far (p := ⟨w.heap.size, 1, none⟩) (by simp) (.slice A3 n3 c3)
  have hb2 := hb.setCell (p := ⟨w.heap.size, 1, none⟩) (Nat.le_refl _) (.slice A3 n3 c3)
  obtain ⟨q0, q1⟩ := box2 bb
  have z1 := bb.free 1
  obtain ⟨p0, p1⟩ := box2 b2
  obtain ⟨s0, s1⟩ := box2 r2
  have y0 := r2.free 0; have y1 := r2.free 1
  have kx := box2 (r2.set2 (.slice A1 n1 c1) (.slice A3 n3 c3))
  have hb3 := (hb2.setCell (p := ⟨w.heap.size + 1, 0, none⟩) (by simp) (.slice A1 n1 c1)).setCell (p := ⟨w.heap.size + 1, 1, none⟩) (by simp) (.slice A3 n3 c3)
  go_wp2
  exact bodyPost_ret (v := .agg #[.slice A1 n1 c1, .slice A3 n3 c3]) (by simp [results, Tryz.results129, go_sem, kx]) rfl ⟨rfl, hb3⟩
/-- With the levels to buy -/
theorem with_buy (A1 A2 A3 : Option Addr) (n1 n2 n3 c1 c2 c3 : Nat) (w : World) :
    Calls Tryz.prog 129 #[.agg #[.slice A1 n1 c1, .slice A2 n2 c2], .int .i64 1, .slice A3 n3 c3] w fun e w' => e = .returned (.agg #[.slice A3 n3 c3, .slice A2 n2 c2]) ∧ Below w.heap.size w w' := by
  have hb : Below w.heap.size w ((w.alloc (.cells #[.slice A1 n1 c1, .slice A2 n2 c2] 54)).alloc (.cells #[.slice none 0 0, .slice none 0 0] 54)) := below_then_alloc ((Below.refl _ _).alloc (Nat.le_refl _) _)
  have bb := (Bk.new w 54 #[.slice A1 n1 c1, .slice A2 n2 c2]).alloc (.cells #[.slice none 0 0, .slice none 0 0] 54)
  have br := Bk.at_ (w := w.alloc (.cells #[.slice A1 n1 c1, .slice A2 n2 c2] 54)) (g' := w.heap.size + 1) (by simp) 54 #[.slice none 0 0, .slice none 0 0]
  go_enter Tryz.func129, Tryz.ntmps129
  go_upto_region 1 with fail
  generalize (w.alloc (.cells #[.slice A1 n1 c1, .slice A2 n2 c2] 54)).alloc (.cells #[.slice none 0 0, .slice none 0 0] 54) = w0 at *
  have b2 := bb.set_ 0 (.slice A3 n3 c3)
  have r2 := br.far (p := ⟨w.heap.size, 0, none⟩) (by simp) (.slice A3 n3 c3)
  have hb2 := hb.setCell (p := ⟨w.heap.size, 0, none⟩) (Nat.le_refl _) (.slice A3 n3 c3)
  obtain ⟨q0, q1⟩ := box2 bb
  have z1 := bb.free 0
  obtain ⟨p0, p1⟩ := box2 b2
  obtain ⟨s0, s1⟩ := box2 r2
  have y0 := r2.free 0; have y1 := r2.free 1
  have kx := box2 (r2.set2 (.slice A3 n3 c3) (.slice A2 n2 c2))
  have hb3 := (hb2.setCell (p := ⟨w.heap.size + 1, 0, none⟩) (by simp) (.slice A3 n3 c3)).setCell (p := ⟨w.heap.size + 1, 1, none⟩) (by simp) (.slice A2 n2 c2)
  go_wp2
  exact bodyPost_ret (v := .agg #[.slice A3 n3 c3, .slice A2 n2 c2]) (by simp [results, Tryz.results129, go_sem, kx]) rfl ⟨rfl, hb3⟩
end Go.Proofs.YtkdgpdijbobmkaaGreat
namespace Go.Proofs.YtkdgpdijbobmkaaGreat
set_option linter.all false
open Go Go.RowKit
/-- the trade of a fill -/
def mTr (o : Order) (f : Fill) (p : Int) : Trade := if o.side = 2 then ⟨f.id, o.id, o.who, f.who, p, f.qty⟩ else ⟨f.id, o.id, f.who, o.who, p, f.qty⟩
def mtPost (t : Trade) (w : World) (e : Ending) (w' : World) : Prop := e = .returned (.agg #[.int .i64 t.maker, .int .i64 t.taker, .int .i64 t.frm, .int .i64 t.to, .int .i64 t.price, .int .i64 t.qty]) ∧ Below w.heap.size w w'
set_option maxRecDepth 100000 in
set_option maxHeartbeats 1000000 in
theorem mtrade_any (o : Order) (f : Fill) (p : Int) (w : World) :
    Calls Tryz.prog 138 #[.agg #[.int .i64 o.id, .int .i64 o.who, .int .i64 o.side, .int .i64 o.kind, .int .i64 o.price, .int .i64 o.qty, .int .i64 o.show_, .int .i64 o.stop], .agg #[.int .i64 f.id, .int .i64 f.who, .int .i64 f.qty], .int .i64 p] w (mtPost (mTr o f p) w) := by
  by_cases h : o.side = 2
  · have hs : (o.side == 2) = true := by simpa using h
    have H := Lib.hid (show mTr o f p = ⟨f.id, o.id, o.who, f.who, p, f.qty⟩ from if_pos h)
    clear h
    go_enter Tryz.func138, Tryz.ntmps138
    go_wp2
    refine bodyPost_ret (v := .agg #[.int .i64 f.id, .int .i64 o.id, .int .i64 o.who, .int .i64 f.who, .int .i64 p, .int .i64 f.qty]) (by simp [results, Tryz.results138, go_sem]) rfl ⟨by rw [H.out], ?_⟩
    (repeat (first | exact Below.refl _ _ | assumption | (refine below_then (by assumption) ?_) | (refine below_then_alloc ?_) | (refine Below.drew ?_)))
  · have hs : (o.side == 2) = false := by simpa using h
    have H := Lib.hid (show mTr o f p = ⟨f.id, o.id, f.who, o.who, p, f.qty⟩ from if_neg h)
    clear h
    go_enter Tryz.func138, Tryz.ntmps138
    go_wp2
    refine bodyPost_ret (v := .agg #[.int .i64 f.id, .int .i64 o.id, .int .i64 f.who, .int .i64 o.who, .int .i64 p, .int .i64 f.qty]) (by simp [results, Tryz.results138, go_sem]) rfl ⟨by rw [H.out], ?_⟩
    (repeat (first | exact Below.refl _ _ | assumption | (refine below_then (by assumption) ?_) | (refine below_then_alloc ?_) | (refine Below.drew ?_)))
end Go.Proofs.YtkdgpdijbobmkaaGreat
namespace Go.Proofs.YtkdgpdijbobmkaaGreat
set_option linter.all false
open Go Go.RowKit
/-- how far a meeting has come -/
structure MSt where
  L : List Lv
  left : Int
  T : List Trade
  W : List Int
  ends : Bool
/-- does a meeting go on? -/
def mGo (o : Order) (s : MSt) : Bool := decide (0 < s.left) && !s.ends && (match s.L with | [] => false | x :: _ => may o x.price)
/-- levels, the first with other rests, or without it -/
def mCut (x : Lv) (rs : List Rest) (L : List Lv) : List Lv := if rs.length = 0 then L else ⟨x.price, rs⟩ :: L
/-- one round -/
def mStep (o : Order) (mode : Int) (s : MSt) : MSt :=
  match s.L with
  | [] => s
  | x :: L => match x.rs with
    | [] => s
    | r :: t =>
      if r.who = o.who ∧ mode ≠ 0 then
        if mode = 1 then { s with ends := true } else { s with ends := decide (mode ≠ 2), W := s.W ++ [r.id], L := mCut x t L }
      else { s with L := mCut x (qFirst r t s.left).2 L, T := s.T ++ [mTr o (qFirst r t s.left).1 x.price], left := s.left - (qFirst r t s.left).1.qty }
def mRun (o : Order) (mode : Int) : Nat → MSt → Option MSt
  | 0, s => some s
  | n + 1, s => if mGo o s then (if 400 < (mStep o mode s).T.length then none else mRun o mode n (mStep o mode s)) else some s
/-- all is right on the way -/
structure MOk (s : MSt) : Prop where
  some_ : ∀ x ∈ s.L, x.rs.length ≠ 0
  each : ∀ x ∈ s.L, ∀ r ∈ x.rs, r.err = 0
  few : cnt s.L ≤ 60
  left0 : 0 ≤ s.left
  left1 : s.left ≤ 10000
  went : s.W.length + cnt s.L ≤ 60
  trades : s.T.length ≤ 400
def mSize (s : MSt) : Nat := s.left.toNat + cnt s.L + (if s.ends then 0 else 1)
theorem cnt_cons (x : Lv) (L : List Lv) : cnt (x :: L) = x.rs.length + cnt L := by simp [cnt]
theorem full_len : ∀ {L : List Lv}, (∀ x ∈ L, x.rs.length ≠ 0) → L.length ≤ cnt L
  | [], _ => Nat.zero_le _
  | x :: L, h => by
    have := full_len (fun y hy => h y (List.mem_cons_of_mem _ hy))
    have := h x (by simp)
    rw [cnt_cons, List.length_cons]
    omega
theorem cnt_mCut (x : Lv) (rs : List Rest) (L : List Lv) : cnt (mCut x rs L) = rs.length + cnt L := by
  unfold mCut
  split
  · omega
  · rw [cnt_cons]
theorem qFirst_len (r : Rest) (t : List Rest) (n : Int) : (qFirst r t n).2.length ≤ t.length + 1 := by
  unfold qFirst
  split
  · simp
  · split <;> simp
theorem err_make {id who qty hidden show_ : Int} (h1 : inb id 1 9999 = true) (h2 : inb who 1 9 = true) (a : 1 ≤ qty) (b : qty ≤ 10000) (c : 0 ≤ hidden) (d : hidden ≤ 10000) (e : 0 ≤ show_) (f : show_ ≤ 10000) (g : show_ = 0 → hidden = 0) (i : show_ ≠ 0 → qty ≤ show_) : Rest.err ⟨id, who, qty, hidden, show_⟩ = 0 := by
  simp only [Rest.err, h1, h2, inb_y ⟨a, b⟩, inb_y ⟨c, d⟩, inb_y ⟨e, f⟩]
  by_cases hs : show_ = 0
  · simp [hs, g hs]
  · have := i hs
    simp [hs]
    omega
theorem qFirst_ok {r : Rest} {t : List Rest} {n : Int} (hr : r.err = 0) (ht : ∀ x ∈ t, x.err = 0) (hn : 1 ≤ n) : (∀ x ∈ (qFirst r t n).2, x.err = 0) ∧ 1 ≤ (qFirst r t n).1.qty ∧ (qFirst r t n).1.qty ≤ n ∧ (qFirst r t n).1.qty ≤ 10000 := by
  obtain ⟨q1, q2, q3, q4, q5, q6, q7, q8, q9, q10⟩ := err0 hr
  obtain ⟨id, who, qty, hidden, show_⟩ := r
  dsimp only at *
  unfold qFirst
  dsimp only
  by_cases h1 : n < qty
  · rw [if_pos h1]
    refine ⟨fun x hx => ?_, by dsimp only; omega, by dsimp only; omega, by dsimp only; omega⟩
    rcases List.mem_cons.1 hx with rfl | hx
    · exact err_make q9 q10 (by omega) (by omega) q3 q4 q5 q6 q7 (fun h => by have := q8 h; omega)
    · exact ht x hx
  · rw [if_neg h1]
    by_cases h2 : 0 < hidden
    · rw [if_pos h2]
      refine ⟨fun x hx => ?_, by dsimp only; omega, by dsimp only; omega, by dsimp only; omega⟩
      rcases List.mem_append.1 hx with hx | hx
      · exact ht x hx
      · rw [List.mem_singleton] at hx
        subst hx
        have hs : show_ ≠ 0 := fun h => by have := q7 h; omega
        have := q8 hs
        exact err_make q9 q10 (by omega) (by omega) (by omega) (by omega) q5 q6 (fun h => absurd h hs) (fun _ => by omega)
    · rw [if_neg h2]
      exact ⟨fun x hx => ht x hx, by dsimp only; omega, by dsimp only; omega, by dsimp only; omega⟩
theorem mCut_mem {x : Lv} {rs : List Rest} {L : List Lv} {y : Lv} (h : y ∈ mCut x rs L) : (y = ⟨x.price, rs⟩ ∧ rs.length ≠ 0) ∨ y ∈ L := by
  unfold mCut at h
  split at h
  · exact .inr h
  · rcases List.mem_cons.1 h with h | h
    · exact .inl ⟨h, by assumption⟩
    · exact .inr h
/-- what holds behind a round -/
theorem mStep_ok {o : Order} {mode : Int} {s : MSt} (h : MOk s) (hg : mGo o s = true) :
    (∀ x ∈ (mStep o mode s).L, x.rs.length ≠ 0) ∧ (∀ x ∈ (mStep o mode s).L, ∀ r ∈ x.rs, r.err = 0) ∧ cnt (mStep o mode s).L ≤ cnt s.L ∧ 0 ≤ (mStep o mode s).left ∧ (mStep o mode s).left ≤ s.left ∧ (mStep o mode s).W.length + cnt (mStep o mode s).L ≤ 60 ∧ (mStep o mode s).T.length ≤ s.T.length + 1 ∧ mSize (mStep o mode s) < mSize s := by
  obtain ⟨L, left, T, W, ends⟩ := s
  obtain ⟨h1, h2, h3, h4, h5, h6, h7⟩ := h
  dsimp only at *
  have hl : 0 < left := by
    by_cases h0 : 0 < left
    · exact h0
    · simp [mGo, h0] at hg
  have he : ends = false := by
    cases ends
    · rfl
    · simp [mGo] at hg
  subst he
  cases L with
  | nil => simp [mGo] at hg
  | cons x L =>
    obtain ⟨p, rs⟩ := x
    cases rs with
    | nil => exact absurd rfl (h1 _ (List.mem_cons_self ..))
    | cons r t =>
      have hr : r.err = 0 := h2 _ (List.mem_cons_self ..) r (List.mem_cons_self ..)
      have ht : ∀ x ∈ t, x.err = 0 := fun y hy => h2 _ (List.mem_cons_self ..) y (List.mem_cons_of_mem _ hy)
      have hL1 : ∀ x ∈ L, x.rs.length ≠ 0 := fun y hy => h1 y (List.mem_cons_of_mem _ hy)
      have hL2 : ∀ x ∈ L, ∀ r ∈ x.rs, r.err = 0 := fun y hy => h2 y (List.mem_cons_of_mem _ hy)
      rw [cnt_cons] at h3 h6
      simp only [List.length_cons] at h3 h6
      unfold mStep
      dsimp only
      by_cases hw : r.who = o.who ∧ mode ≠ 0
      · rw [if_pos hw]
        by_cases hm : mode = 1
        · rw [if_pos hm]
          dsimp only
          refine ⟨h1, h2, Nat.le_refl _, h4, Int.le_refl _, ?_, by omega, ?_⟩
          · rw [cnt_cons]; simp only [List.length_cons]; omega
          · simp [mSize]
        · rw [if_neg hm]
          dsimp only
          refine ⟨fun y hy => ?_, fun y hy => ?_, ?_, h4, Int.le_refl _, ?_, by omega, ?_⟩
          · rcases mCut_mem hy with ⟨rfl, h⟩ | hy
            · exact h
            · exact hL1 y hy
          · rcases mCut_mem hy with ⟨rfl, h⟩ | hy
            · exact ht
            · exact hL2 y hy
          · rw [cnt_mCut, cnt_cons]; simp only [List.length_cons]; omega
          · rw [cnt_mCut, List.length_append]; simp only [List.length_cons, List.length_nil]; omega
          · simp only [mSize, cnt_mCut, cnt_cons, List.length_cons]; split <;> simp <;> omega
      · rw [if_neg hw]
        dsimp only
        obtain ⟨k1, k2, k3, k4⟩ := qFirst_ok hr ht (n := left) (by omega)
        have kl := qFirst_len r t left
        refine ⟨fun y hy => ?_, fun y hy => ?_, ?_, by omega, by omega, ?_, by simp, ?_⟩
        · rcases mCut_mem hy with ⟨rfl, h⟩ | hy
          · exact h
          · exact hL1 y hy
        · rcases mCut_mem hy with ⟨rfl, h⟩ | hy
          · exact k1
          · exact hL2 y hy
        · rw [cnt_mCut, cnt_cons]; simp only [List.length_cons]; omega
        · rw [cnt_mCut]; omega
        · simp only [mSize, cnt_mCut, cnt_cons, List.length_cons]; simp; omega
theorem mStep_ok2 {o : Order} {mode : Int} {s : MSt} (h : MOk s) (hg : mGo o s = true) (ht : (mStep o mode s).T.length ≤ 400) : MOk (mStep o mode s) := by
  obtain ⟨a, b, c, d, e, f, g, i⟩ := mStep_ok (mode := mode) h hg
  exact ⟨a, b, Nat.le_trans c h.few, d, Int.le_trans e h.left1, f, ht⟩
theorem mRun_stop {o : Order} {mode : Int} {s : MSt} {n : Nat} (h : mGo o s = false) : mRun o mode n s = some s := by
  cases n with
  | zero => rfl
  | succ n => simp [mRun, h]
theorem mRun_go {o : Order} {mode : Int} {s : MSt} {n : Nat} (h : mGo o s = true) : mRun o mode (n + 1) s = if 400 < (mStep o mode s).T.length then none else mRun o mode n (mStep o mode s) := by
  simp [mRun, h]
/-- what holds at the start of a meeting, and is kept by each round, holds at its end; there it does not go on -/
theorem mRun_ind {o : Order} {mode : Int} (I : MSt → Prop) (hI : ∀ s, MOk s → I s → mGo o s = true → I (mStep o mode s)) : ∀ (n : Nat) (s : MSt) (e : MSt), MOk s → I s → mSize s < n → mRun o mode n s = some e → MOk e ∧ I e ∧ mGo o e = false := by
  intro n
  induction n with
  | zero => intro s e _ _ h; omega
  | succ n ih =>
    intro s e hs hi hz hr
    cases hg : mGo o s with
    | false =>
      rw [mRun_stop hg] at hr
      cases hr
      exact ⟨hs, hi, hg⟩
    | true =>
      rw [mRun_go hg] at hr
      by_cases ht : 400 < (mStep o mode s).T.length
      · rw [if_pos ht] at hr; cases hr
      · rw [if_neg ht] at hr
        have := (mStep_ok (mode := mode) hs hg).2.2.2.2.2.2.2
        exact ih _ e (mStep_ok2 hs hg (by omega)) (hI s hs hi hg) (by omega) hr
/-- who comes meets the other side -/
def met (L M : List Lv) (o : Order) (mode : Int) : Option MSt := mRun o mode (10000 + 60 + 2) ⟨if o.side = 1 then M else L, o.qty, [], [], false⟩
end Go.Proofs.YtkdgpdijbobmkaaGreat
namespace Go.Proofs.YtkdgpdijbobmkaaGreat
set_option linter.all false
open Go Go.RowKit
/-- two blocks, if there are two, are not one -/
def Ap (a b : Option Nat) : Prop := a = none ∨ a ≠ b
theorem Ap.symm {a b : Option Nat} (h : Ap a b) : Ap b a := by
  rcases h with rfl | h
  · cases b with
    | none => exact .inl rfl
    | some x => exact .inr (by simp)
  · exact .inr (Ne.symm h)
theorem Ap.new {a b : Option Nat} {n : Nat} (ha : ∀ k, a = some k → n ≤ k) (hb : ∀ k, b = some k → k < n) : Ap a b := by
  cases a with
  | none => exact .inl rfl
  | some k =>
    refine .inr fun e => ?_
    have h1 := ha k rfl
    have h2 := hb k e.symm
    omega
theorem Ap.none_right (a : Option Nat) : Ap a none := by
  cases a with
  | none => exact .inl rfl
  | some x => exact .inr (by simp)
section
variable {w w1 : World} {base cap c' g off : Nat} {A A' : Option Addr} {L : List Lv} {x : Lv} {v : Option Addr × Nat} {vs : List (Option Addr × Nat)} {rs : List Rest}
theorem OwnLv.row_lt (h : OwnLv w base A cap L vs) : ∀ k, rowOf A cap = some k → base ≤ k ∧ k < w.heap.size := h.own.row_lt
theorem OwnLv.each_lt (h : OwnLv w base A cap L vs) {i : Nat} {u : Option Addr × Nat} (hu : vs[i]? = some u) : ∀ k, rowOf u.1 u.2 = some k → base ≤ k ∧ k < w.heap.size := by
  have hi : i < L.length := by rw [← h.len]; exact (List.getElem?_eq_some_iff.1 hu).1
  exact ((h.each i _ u (lv_get hi) hu).1).row_lt
/-- a block of its own turns: all else of it is as it was -/
theorem OwnLv.keep {row : Option Nat} (h : OwnLv w base A cap L vs) (hg : w.grownBy w1 row) (h1 : Ap (rowOf A cap) row) (h2 : ∀ (i : Nat) u, vs[i]? = some u → Ap (rowOf u.1 u.2) row) : OwnLv w1 base A cap L vs := by
  have key : ∀ {s n c : Nat} {B : Option Addr} {xs : List Value}, OwnS w base s B n c xs → Ap (rowOf B c) row → OwnS w1 base s B n c xs := by
    intro s n c B xs o hp
    rcases hp with hp | hp
    · have hc : c = 0 ∨ B = none := by
        unfold rowOf at hp
        split at hp
        · left; assumption
        · right; cases B with
          | none => rfl
          | some b => cases hp
      refine ⟨o.len, o.le, o.max, fun h0 => ?_⟩
      obtain ⟨g', off', e, _⟩ := o.lies h0
      rcases hc with hc | hc
      · omega
      · rw [hc] at e; cases e
    · exact o.keep hg (.inr hp)
  exact ⟨h.len, key h.own h1, fun i y u hy hu => ⟨key (h.each i y u hy hu).1 (h2 i u hu), (h.each i y u hy hu).2⟩, h.apart⟩
theorem OwnS.apart {s n c : Nat} {B : Option Addr} {xs : List Value} {row : Option Nat} (o : OwnS w base s B n c xs) (hg : w.grownBy w1 row) (hp : Ap (rowOf B c) row) : OwnS w1 base s B n c xs := by
  rcases hp with hp | hp
  · have hc : c = 0 ∨ B = none := by
      unfold rowOf at hp
      split at hp
      · left; assumption
      · right; cases B with
        | none => rfl
        | some b => cases hp
    refine ⟨o.len, o.le, o.max, fun h0 => ?_⟩
    obtain ⟨g', off', e, _⟩ := o.lies h0
    rcases hc with hc | hc
    · omega
    · rw [hc] at e; cases e
  · exact o.keep hg (.inr hp)
/-- a store below its blocks -/
theorem OwnLv.far {p : Addr} (h : OwnLv w base A cap L vs) (hp : p.block < base) (u : Value) : OwnLv (w.setCell p u) base A cap L vs :=
  h.keep (grown_set w p u) (Ap.new (n := base) (fun k hk => (h.row_lt k hk).1) (fun k hk => by cases hk; exact hp)) (fun i v hv => Ap.new (n := base) (fun k hk => (h.each_lt hv k hk).1) (fun k hk => by cases hk; exact hp))
theorem OwnLv.far2 {g i j : Nat} (h : OwnLv w base A cap L vs) (hg : g < base) (a b : Value) : OwnLv ((w.setCell ⟨g, i, none⟩ a).setCell ⟨g, j, none⟩ b) base A cap L vs := (h.far (p := ⟨g, i, none⟩) hg a).far (p := ⟨g, j, none⟩) hg b
/-- the first level has other rests now -/
theorem OwnLv.head (h : OwnLv w base (some ⟨g, off, none⟩) cap (x :: L) (v :: vs)) (hg : w.grownBy w1 (rowOf v.1 v.2)) (o : OwnS w1 base 5 A' rs.length c' (rows rs))
    (hr : rowOf A' c' = none ∨ rowOf A' c' = rowOf v.1 v.2 ∨ ∃ k, rowOf A' c' = some k ∧ w.heap.size ≤ k) :
    OwnLv (w1.setCell ⟨g, off + 1, none⟩ (.slice A' rs.length c')) base (some ⟨g, off, none⟩) cap (⟨x.price, rs⟩ :: L) ((A', c') :: vs) := by
  have hcap : 0 < cap := by have := h.own.le; simp at this; omega
  have hrow : rowOf (some ⟨g, off, none⟩) cap = some g := by rw [rowOf, if_neg (by omega)]; rfl
  have hv0 := h.each 0 x v rfl rfl
  have hvg : Ap (rowOf v.1 v.2) (some g) := by rw [← hrow]; exact hv0.2
  have hglt := h.own.row_lt g hrow
  have hA'g : Ap (rowOf A' c') (some g) := by
    rcases hr with e | e | ⟨k, e, hk⟩
    · exact .inl e
    · rw [e]; exact hvg
    · rw [e]; exact .inr (by intro e; cases e; omega)
  have far : ∀ {s n c : Nat} {B : Option Addr} {xs : List Value}, OwnS w1 base s B n c xs → Ap (rowOf B c) (some g) → OwnS (w1.setCell ⟨g, off + 1, none⟩ (.slice A' rs.length c')) base s B n c xs :=
    fun o hp => o.apart (grown_set w1 ⟨g, off + 1, none⟩ _) hp
  have own1 : OwnS w1 base 2 (some ⟨g, off, none⟩) (L.length + 1) cap (lvCells (x :: L) (v :: vs)) := h.own.apart hg (by rw [hrow]; exact hvg.symm)
  refine ⟨by have := h.len; simpa using this, ?_, ?_, ?_⟩
  · have := own1.set (j := 1) (by omega) (.slice A' rs.length c')
    exact this
  · intro i y u hy hu
    cases i with
    | zero =>
      cases hy; cases hu
      exact ⟨far o hA'g, by rw [hrow]; exact hA'g⟩
    | succ i =>
      have he := h.each (i + 1) y u hy hu
      have hap : Ap (rowOf u.1 u.2) (rowOf v.1 v.2) := h.apart (i + 1) 0 u v (by omega) hu rfl
      exact ⟨far (he.1.apart hg hap) (by rw [← hrow]; exact he.2), he.2⟩
  · have hn : ∀ (i : Nat) u, vs[i]? = some u → Ap (rowOf A' c') (rowOf u.1 u.2) := by
      intro i u hu
      rcases hr with e | e | ⟨k, e, hk⟩
      · exact .inl e
      · rw [e]; exact h.apart 0 (i + 1) v u (by omega) rfl hu
      · rw [e]
        refine .inr fun e2 => ?_
        have := (h.each_lt (i := i + 1) (u := u) hu k e2.symm).2
        omega
    intro i j u u' hij hu hu'
    cases i with
    | zero =>
      cases hu
      cases j with
      | zero => omega
      | succ j => exact hn j u' hu'
    | succ i =>
      cases j with
      | zero => cases hu'; exact (hn i u hu).symm
      | succ j => exact h.apart (i + 1) (j + 1) u u' (by omega) hu hu'
/-- the first level cut off -/
theorem OwnLv.tail (h : OwnLv w base (some ⟨g, off, none⟩) cap (x :: L) (v :: vs)) : OwnLv w base (some (if cap = 1 then ⟨g, off, none⟩ else ⟨g, off + 2, none⟩)) (cap - 1) L vs := by
  have hcap : 0 < cap := by have := h.own.le; simp at this; omega
  refine ⟨by have := h.len; simpa using this, ?_, fun i y u hy hu => ?_, fun i j u u' hij hu hu' => h.apart (i + 1) (j + 1) u u' (by omega) hu hu'⟩
  · have := h.own.tail (n := L.length)
    exact this
  · have he := h.each (i + 1) y u hy hu
    refine ⟨he.1, ?_⟩
    rcases he.2 with e | e
    · exact .inl e
    · by_cases h1 : cap = 1
      · subst h1
        rw [show rowOf (some (if (1:Nat) = 1 then (⟨g, off, none⟩ : Addr) else ⟨g, off + 2, none⟩)) (1 - 1) = none from rfl]
        exact Ap.none_right _
      · rw [if_neg h1]
        refine .inr ?_
        rw [show rowOf (some (⟨g, off + 2, none⟩ : Addr)) (cap - 1) = some g by rw [rowOf, if_neg (by omega)]; rfl]
        rw [show rowOf (some (⟨g, off, none⟩ : Addr)) cap = some g by rw [rowOf, if_neg (by omega)]; rfl] at e
        exact e
theorem row_tail {n : Nat} (hc : 0 < cap) : rowOf (some (if cap = 1 then (⟨g, off, none⟩ : Addr) else ⟨g, off + n, none⟩)) (cap - 1) = none ∨ rowOf (some (if cap = 1 then (⟨g, off, none⟩ : Addr) else ⟨g, off + n, none⟩)) (cap - 1) = rowOf (some ⟨g, off, none⟩) cap := by
  by_cases h1 : cap = 1
  · subst h1; exact .inl rfl
  · right; rw [if_neg h1, rowOf, if_neg (by omega), rowOf, if_neg (by omega)]; rfl
end
end Go.Proofs.YtkdgpdijbobmkaaGreat
namespace Go.Proofs.YtkdgpdijbobmkaaGreat
set_option linter.all false
open Go Go.RowKit
theorem cell_far1 {w : World} {p q : Addr} {v a : Value} (h : w.cell? p = some v) (hg : p.block ≠ q.block) : (w.setCell q a).cell? p = some v := by
  rw [World.cell?_setCell_other w _ _ a (fun e => hg (by rw [e]))]; exact h
theorem cell_far2 {w : World} {p : Addr} {g i j : Nat} {v a b : Value} (h : w.cell? p = some v) (hg : p.block ≠ g) : ((w.setCell ⟨g, i, none⟩ a).setCell ⟨g, j, none⟩ b).cell? p = some v := cell_far1 (cell_far1 h hg) hg
def BOwnPost (L M : List Lv) (w : World) (e : Ending) (w' : World) : Prop :=
  ∃ A1 c1 v1 A2 c2 v2, e = .returned (.agg #[.slice A1 L.length c1, .slice A2 M.length c2]) ∧ OwnLv w' w.heap.size A1 c1 L v1 ∧ OwnLv w' w.heap.size A2 c2 M v2 ∧ Below w.heap.size w w'
set_option maxRecDepth 100000 in
set_option maxHeartbeats 4000000 in
theorem bown_any (L M : List Lv) (A1 A2 : Option Addr) (c1 c2 : Nat) (w : World) (h1 : RdLv w w.heap.size A1 L) (h2 : RdLv w w.heap.size A2 M) (ok1 : LvOk L) (ok2 : LvOk M) (hA1 : A1 = none → c1 = 0) (hA2 : A2 = none → c2 = 0) :
    Calls Tryz.prog 45 #[.agg #[.slice A1 L.length c1, .slice A2 M.length c2]] w (BOwnPost L M w) := by
  have HL := Lib.hid h1; have HM := Lib.hid h2
  have cL := Lib.hid (fun w' h => own_any L A1 c1 w' h ok1 hA1)
  have cM := Lib.hid (fun w' h => own_any M A2 c2 w' h ok2 hA2)
  clear h1 h2 ok1 ok2 hA1 hA2
  have hb : Below w.heap.size w ((w.alloc (.cells #[.slice A1 L.length c1, .slice A2 M.length c2] 54)).alloc (.cells #[.slice none 0 0, .slice none 0 0] 54)) := below_then_alloc ((Below.refl _ _).alloc (Nat.le_refl _) _)
  have bb := (Bk.new w 54 #[.slice A1 L.length c1, .slice A2 M.length c2]).alloc (.cells #[.slice none 0 0, .slice none 0 0] 54)
  have br := Bk.at_ (w := w.alloc (.cells #[.slice A1 L.length c1, .slice A2 M.length c2] 54)) (g' := w.heap.size + 1) (by simp) 54 #[.slice none 0 0, .slice none 0 0]
  go_enter Tryz.func45, Tryz.ntmps45
  go_upto_region 1 with fail
  generalize (w.alloc (.cells #[.slice A1 L.length c1, .slice A2 M.length c2] 54)).alloc (.cells #[.slice none 0 0, .slice none 0 0] 54) = w0 at *
  replace bb := bb.drew
  replace br := br.drew
  have hbd := hb.drew
  obtain ⟨q0, q1⟩ := box2 bb
  go_region_held3 (fun w' => w'.cell? ⟨w.heap.size, 0, none⟩ = some (.slice A1 L.length c1) ∧ w'.cell? ⟨w.heap.size, 1, none⟩ = some (.slice A2 M.length c2)) ((repeat' apply And.intro) <;> (first | (with_reducible assumption) | (with_reducible exact cell_far2 (by assumption) (by simp))))
    (first
      | (go_at_call 79; (with_reducible refine (cL.out _ (HL.out.on (by (repeat (first | exact Below.refl _ _ | assumption | (refine below_then (by assumption) ?_) | (refine below_then_alloc ?_) | (refine Below.drew ?_)))))).mono ?_); rintro e wa ⟨Aa, ca, va, rfl, oa, ha⟩; go_loud (have bbL : Bk wa w.heap.size 54 #[.slice A1 L.length c1, .slice A2 M.length c2] := by first | exact bb.keep ha | exact bbM.keep ha); go_loud (have brL : Bk wa (w.heap.size + 1) 54 #[.slice none 0 0, .slice none 0 0] := by first | exact br.keep ha | exact brM.keep ha); have s0 := bbL.cell 0; have s1 := bbL.cell 1; (simp at s0 s1); have r0 := brL.cell 0; have r1 := brL.cell 1; (simp at r0 r1); have f0 := brL.free 0; have f1 := brL.free 1)
      | (go_at_call 79; (with_reducible refine (cM.out _ (HM.out.on (by (repeat (first | exact Below.refl _ _ | assumption | (refine below_then (by assumption) ?_) | (refine below_then_alloc ?_) | (refine Below.drew ?_)))))).mono ?_); rintro e wm ⟨Am, cm, vm, rfl, om, hm⟩; go_loud (have bbM : Bk wm w.heap.size 54 #[.slice A1 L.length c1, .slice A2 M.length c2] := by first | exact bb.keep hm | exact bbL.keep hm); go_loud (have brM : Bk wm (w.heap.size + 1) 54 #[.slice none 0 0, .slice none 0 0] := by first | exact br.keep hm | exact brL.keep hm); have s0 := bbM.cell 0; have s1 := bbM.cell 1; (simp at s0 s1); have r0 := brM.cell 0; have r1 := brM.cell 1; (simp at r0 r1); have f0 := brM.free 0; have f1 := brM.free 1))
  · have kx := box2 (brM.set2 (.slice Aa L.length ca) (.slice Am M.length cm))
    have hbf := below_then hm (below_then ha hbd)
    have hz : w.heap.size + 1 < w0.heap.size := by have := br.lt; simpa using this
    have hz2 := ha.size
    have O1 := Lib.hid (((oa.below hm).far2 (g := w.heap.size + 1) (i := 0) (j := 1) (by simpa using hz) (.slice Aa L.length ca) (.slice Am M.length cm)).lower hbd.size)
    have O2 := Lib.hid ((om.far2 (g := w.heap.size + 1) (i := 0) (j := 1) (by simp at hz2; omega) (.slice Aa L.length ca) (.slice Am M.length cm)).lower (below_then ha hbd).size)
    have hb2 := (hbf.setCell (p := ⟨w.heap.size + 1, 0, none⟩) (by simp) (.slice Aa L.length ca)).setCell (p := ⟨w.heap.size + 1, 1, none⟩) (by simp) (.slice Am M.length cm)
    clear oa om ha hm hz hz2
    go_wp2
    exact bodyPost_ret (v := .agg #[.slice Aa L.length ca, .slice Am M.length cm]) (by simp [results, Tryz.results45, go_sem, kx]) rfl ⟨_, _, va, _, _, vm, rfl, O1.out, O2.out, hb2⟩
end Go.Proofs.YtkdgpdijbobmkaaGreat
namespace Go.Proofs.YtkdgpdijbobmkaaGreat
set_option linter.all false
open Go Go.RowKit
/-- a rest more at a price of a side -/
def addL (s p : Int) (r : Rest) : List Lv → List Lv
  | [] => [⟨p, [r]⟩]
  | x :: L => if sAhd s x.price p then x :: addL s p r L else if x.price = p then ⟨x.price, x.rs ++ [r]⟩ :: L else ⟨p, [r]⟩ :: x :: L
/-- what is wrong with that -/
def addE (s : Int) (L : List Lv) (p : Int) (r : Rest) : Int := if sideE s L ≠ 0 then sideE s L else if vp p = false then 1 else if r.err ≠ 0 then r.err else if 0 ≤ (whereL L r.id).1 then 7 else if 60 ≤ cnt L then 4 else 0
/-- of a side -/
def sidL (s : Int) (L M : List Lv) : List Lv := if s = 1 then L else M
def putL (s p : Int) (r : Rest) (L : List Lv) : List Lv := if s = 1 then addL s p r L else L
def putM (s p : Int) (r : Rest) (M : List Lv) : List Lv := if s = 1 then M else addL s p r M
def putE (L M : List Lv) (s p : Int) (r : Rest) : Int := if bookE L M ≠ 0 then bookE L M else if vs s = false then 1 else if addE s (sidL s L M) p r ≠ 0 then addE s (sidL s L M) p r else wholeE (putL s p r L) (putM s p r M)
/-- how Put ends -/
def PutPost (z : Int) (L' M' : List Lv) (w : World) (e : Ending) (w' : World) : Prop :=
  (z ≠ 0 ∧ e = .returned (.tuple #[.agg #[.slice none 0 0, .slice none 0 0], er z]) ∧ Below w.heap.size w w') ∨
  (z = 0 ∧ ∃ A1 c1 v1 A2 c2 v2, e = .returned (.tuple #[.agg #[.slice A1 L'.length c1, .slice A2 M'.length c2], .nilIface]) ∧ OwnLv w' w.heap.size A1 c1 L' v1 ∧ OwnLv w' w.heap.size A2 c2 M' v2 ∧ Below w.heap.size w w')
/-- Put's contract -/
def PutCon : Prop := ∀ (L M : List Lv) (s p : Int) (r : Rest) (A1 A2 : Option Addr) (c1 c2 : Nat) (w : World), RdLv w w.heap.size A1 L → RdLv w w.heap.size A2 M → L.length ≤ maxLen → M.length ≤ maxLen → (A1 = none → c1 = 0) → (A2 = none → c2 = 0) →
    Calls Tryz.prog 117 #[.agg #[.slice A1 L.length c1, .slice A2 M.length c2], .int .i64 s, .int .i64 p, .agg #[.int .i64 r.id, .int .i64 r.who, .int .i64 r.qty, .int .i64 r.hidden, .int .i64 r.show_]] w (PutPost (putE L M s p r) (putL s p r L) (putM s p r M) w)
end Go.Proofs.YtkdgpdijbobmkaaGreat
namespace Go.Proofs.YtkdgpdijbobmkaaGreat
set_option linter.all false
open Go Go.RowKit
theorem addE_ok {s p : Int} {L : List Lv} {r : Rest} (h : addE s L p r = 0) : sideE s L = 0 := by
  unfold addE at h
  by_cases h1 : sideE s L = 0
  · exact h1
  · rw [if_pos h1] at h; exact h
theorem cnt_addL (s p : Int) (r : Rest) : ∀ L : List Lv, cnt (addL s p r L) = cnt L + 1
  | [] => rfl
  | x :: L => by
    unfold addL
    split
    · rw [cnt_cons, cnt_cons, cnt_addL s p r L]; omega
    · split
      · rw [cnt_cons, cnt_cons]; simp; omega
      · rw [cnt_cons]; simp; omega
theorem addL_mem (s p : Int) (r : Rest) : ∀ (L : List Lv), (∀ x ∈ L, x.rs.length ≠ 0) → ∀ y ∈ addL s p r L, y.rs.length ≠ 0 ∧ ∀ q ∈ y.rs, q = r ∨ ∃ x ∈ L, q ∈ x.rs
  | [], _, y, hy => by
    simp only [addL, List.mem_singleton] at hy
    subst hy
    exact ⟨by simp, fun q hq => .inl (by simpa using hq)⟩
  | x :: L, hf, y, hy => by
    have ih := addL_mem s p r L (fun z hz => hf z (by simp [hz]))
    have old : ∀ z ∈ x :: L, z.rs.length ≠ 0 ∧ ∀ q ∈ z.rs, q = r ∨ ∃ x' ∈ x :: L, q ∈ x'.rs := fun z hz => ⟨hf z hz, fun q hq => .inr ⟨z, hz, hq⟩⟩
    unfold addL at hy
    split at hy
    · rcases List.mem_cons.1 hy with rfl | hy
      · exact old _ (by simp)
      · obtain ⟨h1, h2⟩ := ih y hy
        refine ⟨h1, fun q hq => ?_⟩
        rcases h2 q hq with h | ⟨z, hz, hq'⟩
        · exact .inl h
        · exact .inr ⟨z, by simp [hz], hq'⟩
    · split at hy
      · rcases List.mem_cons.1 hy with rfl | hy
        · refine ⟨by simp, fun q hq => ?_⟩
          rcases List.mem_append.1 hq with h | h
          · exact .inr ⟨x, by simp, h⟩
          · exact .inl (by simpa using h)
        · exact old y (by simp [hy])
      · rcases List.mem_cons.1 hy with rfl | hy
        · exact ⟨by simp, fun q hq => .inl (by simpa using hq)⟩
        · exact old y hy
theorem addE_parts {s p : Int} {L : List Lv} {r : Rest} (h : addE s L p r = 0) : SideOk s L ∧ vp p = true ∧ r.err = 0 ∧ r.id ∉ ids L ∧ cnt L < 60 := by
  have h1 := addE_ok h
  unfold addE at h
  rw [if_neg (by simpa using h1)] at h
  cases hv : vp p
  · rw [hv] at h; simp at h
  · rw [hv] at h
    simp only [Bool.true_eq_false, if_false] at h
    by_cases h2 : r.err = 0
    · rw [if_neg (by simpa using h2)] at h
      by_cases h3 : 0 ≤ (whereL L r.id).1
      · rw [if_pos h3] at h; omega
      · rw [if_neg h3] at h
        by_cases h4 : 60 ≤ cnt L
        · rw [if_pos h4] at h; omega
        · exact ⟨sideE_iff.1 h1, rfl, h2, whereL_neg.1 (by omega), by omega⟩
    · rw [if_pos h2] at h; exact absurd h h2
theorem addL_ok {s p : Int} {L : List Lv} {r : Rest} (h : addE s L p r = 0) : LvOk (addL s p r L) := by
  obtain ⟨h1, _, h3, _, h5⟩ := addE_parts h
  have hm := addL_mem s p r L h1.full
  have hc := cnt_addL s p r L
  refine ⟨?_, fun x hx => ?_, by omega, fun i hi => ?_, fun x hx => (hm x hx).1⟩
  · have := full_len (L := addL s p r L) (fun x hx => (hm x hx).1); omega
  · have := len_cnt hx; omega
  · obtain ⟨x, hx, hi⟩ := List.mem_flatMap.1 hi
    obtain ⟨q, hq, rfl⟩ := List.mem_map.1 hi
    rcases (hm x hx).2 q hq with rfl | ⟨y, hy, hq'⟩
    · exact rest_id h3
    · exact rest_id (h1.sound y hy q hq')
theorem ids_cons (x : Lv) (L : List Lv) : ids (x :: L) = x.rs.map Rest.id ++ ids L := by simp [ids]
theorem ids_mCut (x : Lv) (rs : List Rest) (L : List Lv) : ids (mCut x rs L) = rs.map Rest.id ++ ids L := by
  unfold mCut
  split
  · rename_i h
    rw [List.length_eq_zero_iff.1 h]; rfl
  · rw [ids_cons]
theorem mem_mCut {x : Lv} {rs : List Rest} {L : List Lv} {y : Lv} (h : y ∈ L) : y ∈ mCut x rs L := by
  unfold mCut
  split
  · exact h
  · exact List.mem_cons_of_mem _ h
theorem sAhd_total {s a b : Int} (hs : vs s = true) (h : ¬ sAhd s a b = true) (h2 : a ≠ b) : sAhd s b a = true := by
  rw [sAhd_iff hs] at *
  rcases side_two hs with h | h <;> omega
/-- how a rest comes into a side: between those ahead and those behind, at its price -/
theorem addL_split {s p : Int} {r : Rest} (hs : vs s = true) : ∀ (L : List Lv), (L.Pairwise fun x y => sAhd s x.price y.price = true) → (∀ x ∈ L, x.rs.length ≠ 0) →
    ∃ L1 L2 rs, L = L1 ++ mCut ⟨p, rs⟩ rs L2 ∧ addL s p r L = L1 ++ ⟨p, rs ++ [r]⟩ :: L2 ∧ (∀ x ∈ L1, sAhd s x.price p = true) ∧ (∀ x ∈ L2, sAhd s p x.price = true)
  | [], _, _ => ⟨[], [], [], rfl, rfl, by simp, by simp⟩
  | x :: L, hp, hf => by
    rw [List.pairwise_cons] at hp
    unfold addL
    by_cases h1 : sAhd s x.price p = true
    · obtain ⟨L1, L2, rs, e1, e2, e3, e4⟩ := addL_split (r := r) hs L hp.2 (fun y hy => hf y (by simp [hy]))
      rw [if_pos h1]
      refine ⟨x :: L1, L2, rs, by rw [List.cons_append, ← e1], by rw [List.cons_append, ← e2], fun y hy => ?_, e4⟩
      rcases List.mem_cons.1 hy with rfl | hy
      · exact h1
      · exact e3 y hy
    · rw [if_neg h1]
      by_cases h2 : x.price = p
      · rw [if_pos h2]
        subst h2
        refine ⟨[], L, x.rs, ?_, rfl, by simp, hp.1⟩
        rw [mCut, if_neg (hf x (by simp))]
        rfl
      · rw [if_neg h2]
        have h3 := sAhd_total hs h1 h2
        refine ⟨[], x :: L, [], rfl, rfl, by simp, fun y hy => ?_⟩
        rcases List.mem_cons.1 hy with rfl | hy
        · exact h3
        · exact sAhd_trans hs h3 (hp.1 y hy)
theorem ids_append (L M : List Lv) : ids (L ++ M) = ids L ++ ids M := by simp [ids]
theorem cnt_append (L M : List Lv) : cnt (L ++ M) = cnt L + cnt M := by simp [cnt]
/-- where the rest of an id is, in a side that is put together -/
theorem whereL_mid {L1 L2 : List Lv} {x : Lv} {id : Int} {k : Nat} (h1 : id ∉ ids L1) (hk : findI x.rs id = k) : whereL (L1 ++ x :: L2) id = ((L1.length : Int), (k : Int)) := by
  rw [← hk]
  refine whereL_hit (k := L1.length) (x := x) (by simp) (fun j hj => ?_) (by omega)
  have e : (L1 ++ x :: L2).getD j ⟨0, []⟩ = L1[j] := by
    rw [List.getD_eq_getElem?_getD, List.getElem?_append_left hj, List.getElem?_eq_getElem hj]; rfl
  rw [e]
  have : ¬ 0 ≤ findI L1[j].rs id := by
    rw [findI_neg]
    exact fun h => h1 (List.mem_flatMap.2 ⟨L1[j], List.getElem_mem hj, h⟩)
  omega
theorem findI_snoc {rs : List Rest} {r : Rest} (h : r.id ∉ rs.map Rest.id) : findI (rs ++ [r]) r.id = rs.length := by
  refine findI_hit (k := rs.length) (t := r) (by simp) rfl (fun j hj u hu e => h ?_)
  rw [List.getElem?_append_left hj] at hu
  rw [← e]
  exact List.mem_map.2 ⟨u, List.mem_of_getElem? hu, rfl⟩
/-- a side without the k-th rest of level i -/
def outL (L : List Lv) (i k : Nat) : List Lv := match L[i]? with
  | none => L
  | some x => L.take i ++ mCut x (x.rs.eraseIdx k) (L.drop (i + 1))
theorem outL_mid (L1 L2 : List Lv) (x : Lv) (k : Nat) : outL (L1 ++ x :: L2) L1.length k = L1 ++ mCut x (x.rs.eraseIdx k) L2 := by
  have e : (L1 ++ x :: L2)[L1.length]? = some x := by simp
  unfold outL
  rw [e]
  simp
theorem mCut_price {x y : Lv} (h : x.price = y.price) (rs : List Rest) (L : List Lv) : mCut x rs L = mCut y rs L := by unfold mCut; rw [h]
theorem eraseIdx_snoc (rs : List Rest) (r : Rest) : (rs ++ [r]).eraseIdx rs.length = rs := by
  rw [List.eraseIdx_append_of_length_le (Nat.le_refl _)]; simp
/-- what holds of a side with a rest more -/
structure Added (s p : Int) (r : Rest) (L : List Lv) (i k : Nat) (rs : List Rest) : Prop where
  side : SideOk s (addL s p r L)
  at_ : (addL s p r L)[i]? = some ⟨p, rs ++ [r]⟩
  len : k = rs.length
  where_ : whereL (addL s p r L) r.id = ((i : Int), (k : Int))
  back : outL (addL s p r L) i k = L
  mem : ∀ x ∈ addL s p r L, x.price = p ∨ ∃ y ∈ L, y.price = x.price
  idp : (ids (addL s p r L)).Perm (r.id :: ids L)
theorem added {s p : Int} {L : List Lv} {r : Rest} (h : addE s L p r = 0) : ∃ i k rs, Added s p r L i k rs := by
  obtain ⟨h1, h2, h3, h4, h5⟩ := addE_parts h
  obtain ⟨L1, L2, rs, e1, e2, e3, e4⟩ := addL_split (p := p) (r := r) h1.side L h1.sorted h1.full
  have hc := cnt_addL s p r L
  have hi : ids L = ids L1 ++ (rs.map Rest.id ++ ids L2) := by rw [e1, ids_append, ids_mCut]
  have hi2 : ids (addL s p r L) = ids L1 ++ ((rs.map Rest.id ++ [r.id]) ++ ids L2) := by rw [e2, ids_append, ids_cons]; simp
  have hperm : (ids (addL s p r L)).Perm (r.id :: ids L) := by
    rw [hi2, hi]
    have : ids L1 ++ ((rs.map Rest.id ++ [r.id]) ++ ids L2) = (ids L1 ++ rs.map Rest.id) ++ r.id :: ids L2 := by simp
    rw [this, ← List.append_assoc (ids L1)]
    exact List.perm_middle
  have hr1 : r.id ∉ ids L1 := fun h => h4 (by rw [hi]; exact List.mem_append_left _ h)
  have hr2 : r.id ∉ rs.map Rest.id := fun h => h4 (by rw [hi]; exact List.mem_append_right _ (List.mem_append_left _ h))
  have hL1 : ∀ x ∈ L1, x ∈ L := fun x hx => by rw [e1]; exact List.mem_append_left _ hx
  have hL2 : ∀ x ∈ L2, x ∈ L := fun x hx => by rw [e1]; exact List.mem_append_right _ (mem_mCut hx)
  have hrs : ∀ q ∈ rs, q.err = 0 := fun q hq => by
    have h0 : rs.length ≠ 0 := by have := List.length_pos_of_mem hq; omega
    have : (⟨p, rs⟩ : Lv) ∈ L := by rw [e1, mCut, if_neg h0]; simp
    exact h1.sound _ this q hq
  refine ⟨L1.length, rs.length, rs, ⟨⟨h1.side, fun x hx => ?_, fun x hx => ?_, fun x hx => ?_, ?_, by omega, ?_⟩, by rw [e2]; simp, rfl, ?_, ?_, fun x hx => ?_, hperm⟩⟩
  · rw [e2] at hx
    rcases List.mem_append.1 hx with hx | hx
    · exact h1.price x (hL1 x hx)
    · rcases List.mem_cons.1 hx with rfl | hx
      · exact h2
      · exact h1.price x (hL2 x hx)
  · exact (addL_mem s p r L h1.full x hx).1
  · rw [e2] at hx
    rcases List.mem_append.1 hx with hx | hx
    · exact h1.sound x (hL1 x hx)
    · rcases List.mem_cons.1 hx with rfl | hx
      · intro q hq
        rcases List.mem_append.1 hq with hq | hq
        · exact hrs q hq
        · rw [List.mem_singleton] at hq; rw [hq]; exact h3
      · exact h1.sound x (hL2 x hx)
  · have hs := h1.sorted
    rw [e1, List.pairwise_append] at hs
    have hs2 : L2.Pairwise fun x y => sAhd s x.price y.price = true := by
      have := hs.2.1
      unfold mCut at this
      split at this
      · exact this
      · exact (List.pairwise_cons.1 this).2
    rw [e2, List.pairwise_append]
    refine ⟨hs.1, List.pairwise_cons.2 ⟨fun y hy => e4 y hy, hs2⟩, fun x hx y hy => ?_⟩
    rcases List.mem_cons.1 hy with rfl | hy
    · exact e3 x hx
    · exact sAhd_trans h1.side (e3 x hx) (e4 y hy)
  · exact hperm.nodup_iff.2 (List.nodup_cons.2 ⟨h4, h1.once⟩)
  · rw [e2]
    exact whereL_mid hr1 (findI_snoc hr2)
  · rw [e2, outL_mid]
    dsimp only
    rw [eraseIdx_snoc, mCut_price (x := ⟨p, rs ++ [r]⟩) (y := ⟨p, rs⟩) rfl, ← e1]
  · rw [e2] at hx
    rcases List.mem_append.1 hx with hx | hx
    · exact .inr ⟨x, hL1 x hx, rfl⟩
    · rcases List.mem_cons.1 hx with rfl | hx
      · exact .inl rfl
      · exact .inr ⟨x, hL2 x hx, rfl⟩
end Go.Proofs.YtkdgpdijbobmkaaGreat
namespace Go.Proofs.YtkdgpdijbobmkaaGreat
set_option linter.all false
open Go Go.RowKit
/-- of a side -/
def sid {α : Type} (s : Int) (a b : α) : α := if s = 1 then a else b
theorem ofs_any (s : Int) (hs : vs s = true) (L M : List Lv) (A1 A2 : Option Addr) (c1 c2 : Nat) (w : World) :
    Calls Tryz.prog 47 #[.agg #[.slice A1 L.length c1, .slice A2 M.length c2], .int .i64 s] w fun e w' => e = .returned (.slice (sid s A1 A2) (sidL s L M).length (sid s c1 c2)) ∧ Below w.heap.size w w' := by
  rcases side_two hs with rfl | rfl
  · exact of_buy A1 A2 _ _ c1 c2 w
  · exact of_sell A1 A2 _ _ c1 c2 w
theorem withs_any (s : Int) (hs : vs s = true) (A1 A2 A3 : Option Addr) (n1 n2 n3 c1 c2 c3 : Nat) (w : World) :
    Calls Tryz.prog 129 #[.agg #[.slice A1 n1 c1, .slice A2 n2 c2], .int .i64 s, .slice A3 n3 c3] w fun e w' => e = .returned (.agg #[.slice (sid s A3 A1) (sid s n3 n1) (sid s c3 c1), .slice (sid s A2 A3) (sid s n2 n3) (sid s c2 c3)]) ∧ Below w.heap.size w w' := by
  rcases side_two hs with rfl | rfl
  · exact with_buy A1 A2 A3 n1 n2 n3 c1 c2 c3 w
  · exact with_sell A1 A2 A3 n1 n2 n3 c1 c2 c3 w
end Go.Proofs.YtkdgpdijbobmkaaGreat
