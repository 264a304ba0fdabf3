/- Arguments: levels, a book. -/
import Derived.Test.YtbnjkcgkdpildaaDoorOpen
import Derived.Test.YtbnjkcgkdpildaaDoorGrpE
namespace Go.Proofs.YtbnjkcgkdpildaaDoor
set_option linter.all false
open Go.RowKit Go.ChangeShapes Go.WideShapes Go.Deep
section
variable {H : Type} {enc : TypeId × Value → H} {w : World} {base : Nat} {spare : Nat → Bool} {held : Bool}
theorem addr_lit {b off : Nat} {spot : Option Nat} {v : Value} (h : w.cell? ((⟨b, off, spot⟩ : Addr).add 0) = some v) : spot = none := by simpa [Addr.add] using World.cell?_spot h
theorem add_lit (b off k : Nat) : (⟨b, off, none⟩ : Addr).add k = ⟨b, off + k, none⟩ := by unfold Addr.add; split <;> simp_all
set_option maxRecDepth 100000 in
theorem trod_rests {fuel : Nat} {cs : List Value} {x : DataW H × List MemPlace} (h : DataW.trod enc Tryd.prog w base spare held fuel 24 cs = some x) :
    ∃ (A : Option Addr) (l : List Rest) (c : Nat), cs = [.slice A l.length c] ∧ l.length ≤ c ∧ c ≤ maxLen ∧ (A = none → c = 0) ∧ Rd w w.heap.size A l.length 5 (rcell l) := by
  have hr : cs = [.slice none 0 0] ∨ ∃ (a : Addr) (len cap : Nat), cs = [.slice (some a) len cap] ∧ len ≤ cap ∧ ∀ i, i < len → ∀ j, j < 5 → ∃ v : Int, w.cell? (a.add (i * 5 + j)) = some (.int .i64 v) := trod_rows Tryd.underlying24 Tryd.underlying23 (by kernel_rfl) (by kernel_rfl) (by
    intro j f hj
    match j, hj with
    | 0, hj => cases hj; exact Tryd.underlying3
    | 1, hj => cases hj; exact Tryd.underlying3
    | 2, hj => cases hj; exact Tryd.underlying3
    | 3, hj => cases hj; exact Tryd.underlying3
    | 4, hj => cases hj; exact Tryd.underlying3
    | _ + 5, hj => simp at hj) h
  rcases open_slice Tryd.underlying24 h with ⟨rfl, _⟩ | ⟨a, len, cap, m, n, D, Pl, rfl, _, hl, hm, _⟩
  · exact ⟨none, [], 0, rfl, Nat.le_refl _, Nat.zero_le _, fun _ => rfl, Rd.nil⟩
  · rcases hr with hr | ⟨a', len', cap', hcs, _, hc⟩
    · cases hr
    · simp only [List.cons.injEq, Value.slice.injEq, Option.some.injEq, and_true] at hcs
      obtain ⟨rfl, rfl, rfl⟩ := hcs
      rcases Nat.eq_zero_or_pos len with rfl | hn
      · exact ⟨_, [], _, rfl, hl, hm, (fun h => by cases h), Rd.nil⟩
      · obtain ⟨b, off, spot⟩ := a
        obtain ⟨v0, h0⟩ := hc 0 hn 0 (by decide)
        obtain rfl := addr_lit (by simpa using h0)
        have hb := World.block_lt_of_cell? w _ h0
        rw [add_lit] at hb
        let f : Nat → Nat → Int := fun i j => cellInt w ⟨b, off + (i * 5 + j), none⟩
        refine ⟨_, (List.range len).map fun i => ⟨f i 0, f i 1, f i 2, f i 3, f i 4⟩, cap, by simp, by simpa using hl, hm, (fun h => by cases h), fun _ => ⟨b, off, rfl, hb, fun i hi j hj => ?_⟩⟩
        simp only [List.length_map, List.length_range] at hi
        obtain ⟨v1, h1⟩ := hc i hi j hj
        rw [add_lit] at h1
        rw [cellInt_of h1]
        simp only [rcell, List.getD_eq_getElem?_getD, List.getElem?_map, List.getElem?_range hi, Option.map_some, Option.getD_some]
        match j, hj with
        | 0, _ => rfl
        | 1, _ => rfl
        | 2, _ => rfl
        | 3, _ => rfl
        | 4, _ => rfl
theorem lv_cells : Tryd.prog.cellsOf 26 = 2 := by kernel_rfl
theorem rs_cells : Tryd.prog.cellsOf 24 = 1 := by kernel_rfl
theorem in_cells : Tryd.prog.cellsOf 3 = 1 := by kernel_rfl
set_option maxRecDepth 100000 in
theorem trod_levels {fuel : Nat} {cs : List Value} {x : DataW H × List MemPlace} (h : DataW.trod enc Tryd.prog w base spare held fuel 27 cs = some x) :
    ∃ (A : Option Addr) (L : List Lv) (c : Nat), cs = [.slice A L.length c] ∧ L.length ≤ c ∧ c ≤ maxLen ∧ (A = none → c = 0) ∧ RdLv w w.heap.size A L := by
  rcases open_slice Tryd.underlying27 h with ⟨rfl, _⟩ | ⟨a, len, cap, m, n, D, Pl, rfl, _, hl, hm, hmm, _, hi⟩
  · exact ⟨none, [], 0, rfl, Nat.le_refl _, Nat.zero_le _, fun _ => rfl, RdLv.nil⟩
  · have hlm : len ≤ m := by rw [hmm]; split <;> omega
    have each : ∀ i, i < len → ∃ y : Lv × (Option Addr × Nat), w.cell? (a.add (i * 2)) = some (.int .i64 y.1.price) ∧ w.cell? (a.add (i * 2 + 1)) = some (.slice y.2.1 y.1.rs.length y.2.2) ∧ y.1.rs.length ≤ y.2.2 ∧ y.2.2 ≤ maxLen ∧ Rd w w.heap.size y.2.1 y.1.rs.length 5 (rcell y.1.rs) := by
      intro i him
      obtain ⟨cs', hc, ht'⟩ := hi i (by omega)
      rw [lv_cells] at hc
      obtain ⟨ys, n', hn', hy, hlen, hyl, hf⟩ := DataW.trod_struct Tryd.underlying26 ht'
      rw [lv_cells] at hlen
      obtain ⟨_, _, hat⟩ := World.cells?_some hc
      match cs', hlen with
      | [c0, c1], _ =>
        have h0 := hf 0 _ rfl
        have h1 := hf 1 _ rfl
        change DataW.trod enc Tryd.prog w base spare held n' 3 (([c0, c1].drop 0).take (Tryd.prog.cellsOf 3)) = ys[0]? at h0
        change DataW.trod enc Tryd.prog w base spare held n' 24 (([c0, c1].drop 1).take (Tryd.prog.cellsOf 24)) = ys[1]? at h1
        rw [in_cells] at h0
        rw [rs_cells] at h1
        have hys0 : ys[0]? = some (ys[0]'(by rw [hyl]; decide)) := List.getElem?_eq_getElem _
        have hys1 : ys[1]? = some (ys[1]'(by rw [hyl]; decide)) := List.getElem?_eq_getElem _
        rw [hys0] at h0
        rw [hys1] at h1
        obtain ⟨p, e0, _, _⟩ := DataW.trod_int Tryd.underlying3 h0
        obtain ⟨A, l, c, e1, g1, g2, g3, g4⟩ := trod_rests h1
        have a0 := hat 0 (by decide)
        have a1 := hat 1 (by decide)
        rw [Go.Deep.add_add] at a0 a1
        simp only [List.drop_zero, List.take_succ_cons, List.take_zero, List.drop_succ_cons, List.cons.injEq, and_true] at e0 e1
        subst e0 e1
        exact ⟨(⟨p, l⟩, (A, c)), by simpa using a0, by simpa using a1, g1, g2, g4⟩
    haveI : Inhabited (Lv × Option Addr × Nat) := ⟨(⟨0, []⟩, none, 0)⟩
    obtain ⟨f, hf⟩ := choose_lt each
    refine ⟨some a, (List.range len).map fun i => (f i).1, cap, by simp, by simpa using hl, hm, (fun h => by cases h), ?_⟩
    rintro hn
    simp only [List.length_map, List.length_range] at hn
    obtain ⟨b, off, spot⟩ := a
    obtain rfl := addr_lit (by simpa using (hf 0 hn).1)
    have hb := World.block_lt_of_cell? w _ (hf 0 hn).1
    rw [add_lit] at hb
    refine ⟨b, off, rfl, hb, fun i x hx => ?_⟩
    have hi' : i < len := by simpa using (List.getElem?_eq_some_iff.1 hx).1
    simp only [List.getElem?_map, List.getElem?_range hi', Option.map_some, Option.some.injEq] at hx
    subst hx
    obtain ⟨g0, g1, g2, g3, g4⟩ := hf i hi'
    rw [add_lit] at g0 g1
    exact ⟨g0, _, _, g1, g2, g3, g4⟩
set_option maxRecDepth 100000 in
theorem Arg.levelsc {v : Value} {d : DataW H} {p : List MemPlace} (h : Arg enc w base 27 v d p) :
    ∃ (A : Option Addr) (L : List Lv) (c : Nat), v = .slice A L.length c ∧ (L.length ≤ c ∧ c ≤ maxLen) ∧ (A = none → c = 0) ∧ RdLv w w.heap.size A L := by
  obtain ⟨A, n, cap, rfl⟩ := okWide_slice Tryd.underlying27 h.ok
  obtain ⟨fuel, hf⟩ := h.rd
  obtain ⟨A', L, c, hc, h1, h2, h3, h4⟩ := trod_levels hf
  simp only [Value.cells, List.cons.injEq, Value.slice.injEq, and_true] at hc
  obtain ⟨rfl, rfl, rfl⟩ := hc
  exact ⟨_, L, _, rfl, ⟨h1, h2⟩, h3, h4⟩
theorem Arg.levels {v : Value} {d : DataW H} {p : List MemPlace} (h : Arg enc w base 27 v d p) :
    ∃ (A : Option Addr) (L : List Lv) (c : Nat), v = .slice A L.length c ∧ L.length ≤ maxLen ∧ (A = none → c = 0) ∧ RdLv w w.heap.size A L := by
  obtain ⟨A, L, c, e, h1, h2, h3⟩ := h.levelsc
  exact ⟨A, L, c, e, Nat.le_trans h1.1 h1.2, h2, h3⟩
theorem bk_cells : Tryd.prog.cellsOf 29 = 2 := by kernel_rfl
theorem ls_cells : Tryd.prog.cellsOf 27 = 1 := by kernel_rfl
set_option maxRecDepth 100000 in
theorem Arg.bookc {v : Value} {d : DataW H} {p : List MemPlace} (h : Arg enc w base 29 v d p) :
    ∃ (A1 : Option Addr) (L : List Lv) (c1 : Nat) (A2 : Option Addr) (M : List Lv) (c2 : Nat), v = .agg #[.slice A1 L.length c1, .slice A2 M.length c2] ∧ (L.length ≤ c1 ∧ c1 ≤ maxLen) ∧ (M.length ≤ c2 ∧ c2 ≤ maxLen) ∧ (A1 = none → c1 = 0) ∧ (A2 = none → c2 = 0) ∧ RdLv w w.heap.size A1 L ∧ RdLv w w.heap.size A2 M := by
  obtain ⟨fuel, hf⟩ := h.rd
  have hok := h.ok
  simp only [Value.okWide, Tryd.underlying29] at hok
  obtain ⟨cs, rfl, hz, _⟩ := hok
  rw [bk_cells] at hz
  obtain ⟨ys, n', hn', hy, hlen, hyl, hfl⟩ := DataW.trod_struct Tryd.underlying29 hf
  obtain ⟨l⟩ := cs
  simp only [List.size_toArray] at hz
  match l, hz with
  | [c0, c1], _ =>
    have h0 := hfl 0 _ rfl
    have h1 := hfl 1 _ rfl
    change DataW.trod enc Tryd.prog w 0 (fun _ => true) true n' 27 (([c0, c1].drop 0).take (Tryd.prog.cellsOf 27)) = ys[0]? at h0
    change DataW.trod enc Tryd.prog w 0 (fun _ => true) true n' 27 (([c0, c1].drop 1).take (Tryd.prog.cellsOf 27)) = ys[1]? at h1
    rw [ls_cells] at h0 h1
    have hys0 : ys[0]? = some (ys[0]'(by rw [hyl]; decide)) := List.getElem?_eq_getElem _
    have hys1 : ys[1]? = some (ys[1]'(by rw [hyl]; decide)) := List.getElem?_eq_getElem _
    rw [hys0] at h0
    rw [hys1] at h1
    obtain ⟨A1, L, k1, e1, g1, g2, g3, g4⟩ := trod_levels h0
    obtain ⟨A2, M, k2, e2, m1, m2, m3, m4⟩ := trod_levels h1
    simp only [Value.cells, List.drop_zero, List.take_succ_cons, List.take_zero, List.drop_succ_cons, List.cons.injEq, and_true] at e1 e2
    subst e1 e2
    exact ⟨A1, L, k1, A2, M, k2, rfl, ⟨g1, g2⟩, ⟨m1, m2⟩, g3, m3, g4, m4⟩
theorem Arg.book {v : Value} {d : DataW H} {p : List MemPlace} (h : Arg enc w base 29 v d p) :
    ∃ (A1 : Option Addr) (L : List Lv) (c1 : Nat) (A2 : Option Addr) (M : List Lv) (c2 : Nat), v = .agg #[.slice A1 L.length c1, .slice A2 M.length c2] ∧ L.length ≤ maxLen ∧ M.length ≤ maxLen ∧ (A1 = none → c1 = 0) ∧ (A2 = none → c2 = 0) ∧ RdLv w w.heap.size A1 L ∧ RdLv w w.heap.size A2 M := by
  obtain ⟨A1, L, c1, A2, M, c2, e, h1, h2, h3, h4, h5, h6⟩ := h.bookc
  exact ⟨A1, L, c1, A2, M, c2, e, Nat.le_trans h1.1 h1.2, Nat.le_trans h2.1 h2.2, h3, h4, h5, h6⟩
end
end Go.Proofs.YtbnjkcgkdpildaaDoor
