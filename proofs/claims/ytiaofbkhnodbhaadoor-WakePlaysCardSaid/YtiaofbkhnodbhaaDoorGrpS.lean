/- Arguments that are slices of structs of integers. Arguments: levels, a book. Arguments that are structs of integers: an order, a rest. -/
import Derived.Test.YtiaofbkhnodbhaaDoorGrpA
import Derived.Deep.Slices
import Derived.Deep.Fields
import Derived.ChangeSame
import Derived.Test.YtiaofbkhnodbhaaDoorGrpE
import Derived.Test.YtiaofbkhnodbhaaDoorGrpB
namespace Go.Proofs.YtiaofbkhnodbhaaDoor
set_option linter.all false
open Go.RowKit Go.ChangeShapes Go.WideShapes Go.Deep
section
variable {H : Type} {enc : TypeId × Value → H} {w : World} {base : Nat} {spare : Nat → Bool} {held : Bool}
/-- the number in a cell -/
def cellInt (w : World) (p : Addr) : Int := match w.cell? p with
  | some (.int _ x) => x
  | _ => 0
theorem cellInt_of {w : World} {p : Addr} {x : Int} (h : w.cell? p = some (.int .i64 x)) : w.cell? p = some (.int .i64 (cellInt w p)) := by
  simp [cellInt, h]
theorem trod_rows {t e : TypeId} {fs : Array Field} {fuel : Nat} {cs : List Value} {x : DataW H × List MemPlace} (ht : Tryd.prog.underlying t = some (.slice e)) (he : Tryd.prog.underlying e = some (.struct fs))
    (hone : oneCellFields Tryd.prog fs = true) (hC : Tryd.prog.cellsOf e = fs.size) (hint : ∀ (j : Nat) (f : Field), fs[j]? = some f → Tryd.prog.underlying f.type = some (.int .i64)) (h : DataW.trod enc Tryd.prog w base spare held fuel t cs = some x) :
    cs = [.slice none 0 0] ∨
    ∃ (a : Addr) (len cap : Nat), cs = [.slice (some a) len cap] ∧ len ≤ cap ∧ ∀ i, i < len → ∀ j, j < fs.size → ∃ v : Int, w.cell? (a.add (i * fs.size + j)) = some (.int .i64 v) := by
  rcases open_slice ht h with ⟨h0, _⟩ | ⟨a, len, cap, m, n, D, Pl, hcs, hb, hl, hm, hmm, hx, hi⟩
  · exact .inl h0
  · refine .inr ⟨a, len, cap, hcs, hl, fun i him j hj => ?_⟩
    have hlm : len ≤ m := by rw [hmm]; split <;> omega
    obtain ⟨cs', hc, ht'⟩ := hi i (by omega)
    rw [hC] at hc
    obtain ⟨ys, n', hn', hy, hlen, hyl, hf⟩ := DataW.trod_struct he ht'
    obtain ⟨_, hcl, hat⟩ := World.cells?_some hc
    have hjf : fs[j]? = some fs[j] := Array.getElem?_eq_getElem hj
    obtain ⟨ho, hk⟩ := hone_of hone j fs[j] hjf
    have hcell := hat j hj
    have hv : cs'[j]? = some (cs'[j]'(by omega)) := List.getElem?_eq_getElem (by omega)
    have h1 := hf j fs[j] hjf
    rw [ho, hk] at h1
    have hone' : (cs'.drop j).take 1 = [cs'[j]'(by omega)] := by
      rw [List.drop_eq_getElem_cons (by omega)]
      rfl
    rw [hone'] at h1
    have hys : ys[j]? = some (ys[j]'(by omega)) := List.getElem?_eq_getElem (by omega)
    rw [hys] at h1
    obtain ⟨v, e0, _, _⟩ := DataW.trod_int (hint j _ hjf) h1
    refine ⟨v, ?_⟩
    rw [← Go.Deep.add_add, hcell, hv]
    simpa using e0
set_option maxRecDepth 100000 in
theorem open_rows (s : Nat) {t e : TypeId} {fs : Array Field} {v : Value} {d : DataW H} {p : List MemPlace} {base0 : Nat} (ht : Tryd.prog.underlying t = some (.slice e)) (he : Tryd.prog.underlying e = some (.struct fs))
    (hone : oneCellFields Tryd.prog fs = true) (hC : Tryd.prog.cellsOf e = fs.size) (hs : fs.size = s) (hpos : 0 < s) (hint : ∀ (j : Nat) (f : Field), fs[j]? = some f → Tryd.prog.underlying f.type = some (.int .i64)) (ha : Arg enc w base0 t v d p) :
    ∃ A n cap, v = .slice A n cap ∧ n ≤ cap ∧ (0 < n → ∃ b off, A = some ⟨b, off, none⟩ ∧ b < w.heap.size ∧ ∀ i, i < n → ∀ j, j < s → w.cell? ⟨b, off + (i * s + j), none⟩ = some (.int .i64 (cellInt w ⟨b, off + (i * s + j), none⟩))) := by
  subst hs
  obtain ⟨A, n, cap, rfl⟩ := okWide_slice ht ha.ok
  obtain ⟨fuel, hf⟩ := ha.rd
  rcases trod_rows ht he hone hC hint hf with h | ⟨a, len, cap', hcs, hl, hc⟩
  · simp only [Value.cells, List.cons.injEq, Value.slice.injEq, and_true] at h
    obtain ⟨rfl, rfl, rfl⟩ := h
    exact ⟨none, 0, 0, rfl, Nat.le_refl _, fun h => absurd h (by omega)⟩
  · simp only [Value.cells, List.cons.injEq, Value.slice.injEq, and_true] at hcs
    obtain ⟨rfl, rfl, rfl⟩ := hcs
    refine ⟨_, _, _, rfl, hl, fun hn => ?_⟩
    obtain ⟨b, off, spot⟩ := a
    obtain ⟨v0, h0⟩ := hc 0 hn 0 hpos
    have hs : spot = none := by simpa [Addr.add] using World.cell?_spot h0
    subst hs
    have hadd : ∀ k, (⟨b, off, none⟩ : Addr).add k = ⟨b, off + k, none⟩ := fun k => by unfold Addr.add; split <;> simp_all
    refine ⟨b, off, rfl, ?_, fun i hi j hj => ?_⟩
    · have := World.block_lt_of_cell? w _ h0
      rwa [hadd] at this
    · obtain ⟨v1, h1⟩ := hc i hi j hj
      rw [hadd] at h1
      exact cellInt_of h1
theorem arg_max {t e : TypeId} {d : DataW H} {p : List MemPlace} {base0 : Nat} {A : Option Addr} {n cap : Nat} (ht : Tryd.prog.underlying t = some (.slice e)) (ha : Arg enc w base0 t (.slice A n cap) d p) : n ≤ cap ∧ cap ≤ maxLen ∧ (A = none → n = 0 ∧ cap = 0) := by
  obtain ⟨fuel, hf⟩ := ha.rd
  rcases open_slice ht hf with ⟨h0, _⟩ | ⟨a, len, cap', m, n', D, Pl, hcs, _, hl, hm, _⟩
  · simp only [Value.cells, List.cons.injEq, Value.slice.injEq, and_true] at h0
    obtain ⟨rfl, rfl, rfl⟩ := h0
    exact ⟨Nat.le_refl _, Nat.zero_le _, fun _ => ⟨rfl, rfl⟩⟩
  · simp only [Value.cells, List.cons.injEq, Value.slice.injEq, and_true] at hcs
    obtain ⟨rfl, rfl, rfl⟩ := hcs
    exact ⟨hl, hm, fun h => by cases h⟩
end
end Go.Proofs.YtiaofbkhnodbhaaDoor
namespace Go.Proofs.YtiaofbkhnodbhaaDoor
set_option linter.all false
open Go.RowKit Go.ChangeShapes Go.WideShapes Go.Deep
section
variable {H : Type} {enc : TypeId × Value → H} {w : World} {base : Nat} {spare : Nat → Bool} {held : Bool}
theorem addr_lit {b off : Nat} {spot : Option Nat} {v : Value} (h : w.cell? ((⟨b, off, spot⟩ : Addr).add 0) = some v) : spot = none := by simpa [Addr.add] using World.cell?_spot h
theorem add_lit (b off k : Nat) : (⟨b, off, none⟩ : Addr).add k = ⟨b, off + k, none⟩ := by unfold Addr.add; split <;> simp_all
set_option maxRecDepth 100000 in
theorem trod_rests {fuel : Nat} {cs : List Value} {x : DataW H × List MemPlace} (h : DataW.trod enc Tryd.prog w base spare held fuel 30 cs = some x) :
    ∃ (A : Option Addr) (l : List Rest) (c : Nat), cs = [.slice A l.length c] ∧ l.length ≤ c ∧ c ≤ maxLen ∧ (A = none → c = 0) ∧ Rd w w.heap.size A l.length 5 (rcell l) := by
  have hr : cs = [.slice none 0 0] ∨ ∃ (a : Addr) (len cap : Nat), cs = [.slice (some a) len cap] ∧ len ≤ cap ∧ ∀ i, i < len → ∀ j, j < 5 → ∃ v : Int, w.cell? (a.add (i * 5 + j)) = some (.int .i64 v) := trod_rows Tryd.underlying30 Tryd.underlying24 (by kernel_rfl) (by kernel_rfl) (by
    intro j f hj
    match j, hj with
    | 0, hj => cases hj; exact Tryd.underlying3
    | 1, hj => cases hj; exact Tryd.underlying3
    | 2, hj => cases hj; exact Tryd.underlying3
    | 3, hj => cases hj; exact Tryd.underlying3
    | 4, hj => cases hj; exact Tryd.underlying3
    | _ + 5, hj => simp at hj) h
  rcases open_slice Tryd.underlying30 h with ⟨rfl, _⟩ | ⟨a, len, cap, m, n, D, Pl, rfl, _, hl, hm, _⟩
  · exact ⟨none, [], 0, rfl, Nat.le_refl _, Nat.zero_le _, fun _ => rfl, Rd.nil⟩
  · rcases hr with hr | ⟨a', len', cap', hcs, _, hc⟩
    · cases hr
    · simp only [List.cons.injEq, Value.slice.injEq, Option.some.injEq, and_true] at hcs
      obtain ⟨rfl, rfl, rfl⟩ := hcs
      rcases Nat.eq_zero_or_pos len with rfl | hn
      · exact ⟨_, [], _, rfl, hl, hm, (fun h => by cases h), Rd.nil⟩
      · obtain ⟨b, off, spot⟩ := a
        obtain ⟨v0, h0⟩ := hc 0 hn 0 (by decide)
        obtain rfl := addr_lit (by simpa using h0)
        have hb := World.block_lt_of_cell? w _ h0
        rw [add_lit] at hb
        let f : Nat → Nat → Int := fun i j => cellInt w ⟨b, off + (i * 5 + j), none⟩
        refine ⟨_, (List.range len).map fun i => ⟨f i 0, f i 1, f i 2, f i 3, f i 4⟩, cap, by simp, by simpa using hl, hm, (fun h => by cases h), fun _ => ⟨b, off, rfl, hb, fun i hi j hj => ?_⟩⟩
        simp only [List.length_map, List.length_range] at hi
        obtain ⟨v1, h1⟩ := hc i hi j hj
        rw [add_lit] at h1
        rw [cellInt_of h1]
        simp only [rcell, List.getD_eq_getElem?_getD, List.getElem?_map, List.getElem?_range hi, Option.map_some, Option.getD_some]
        match j, hj with
        | 0, _ => rfl
        | 1, _ => rfl
        | 2, _ => rfl
        | 3, _ => rfl
        | 4, _ => rfl
theorem lv_cells : Tryd.prog.cellsOf 32 = 2 := by kernel_rfl
theorem rs_cells : Tryd.prog.cellsOf 30 = 1 := by kernel_rfl
theorem in_cells : Tryd.prog.cellsOf 3 = 1 := by kernel_rfl
set_option maxRecDepth 100000 in
theorem trod_levels {fuel : Nat} {cs : List Value} {x : DataW H × List MemPlace} (h : DataW.trod enc Tryd.prog w base spare held fuel 22 cs = some x) :
    ∃ (A : Option Addr) (L : List Lv) (c : Nat), cs = [.slice A L.length c] ∧ L.length ≤ c ∧ c ≤ maxLen ∧ (A = none → c = 0) ∧ RdLv w w.heap.size A L := by
  rcases open_slice Tryd.underlying22 h with ⟨rfl, _⟩ | ⟨a, len, cap, m, n, D, Pl, rfl, _, hl, hm, hmm, _, hi⟩
  · exact ⟨none, [], 0, rfl, Nat.le_refl _, Nat.zero_le _, fun _ => rfl, RdLv.nil⟩
  · have hlm : len ≤ m := by rw [hmm]; split <;> omega
    have each : ∀ i, i < len → ∃ y : Lv × (Option Addr × Nat), w.cell? (a.add (i * 2)) = some (.int .i64 y.1.price) ∧ w.cell? (a.add (i * 2 + 1)) = some (.slice y.2.1 y.1.rs.length y.2.2) ∧ y.1.rs.length ≤ y.2.2 ∧ y.2.2 ≤ maxLen ∧ Rd w w.heap.size y.2.1 y.1.rs.length 5 (rcell y.1.rs) := by
      intro i him
      obtain ⟨cs', hc, ht'⟩ := hi i (by omega)
      rw [lv_cells] at hc
      obtain ⟨ys, n', hn', hy, hlen, hyl, hf⟩ := DataW.trod_struct Tryd.underlying32 ht'
      rw [lv_cells] at hlen
      obtain ⟨_, _, hat⟩ := World.cells?_some hc
      match cs', hlen with
      | [c0, c1], _ =>
        have h0 := hf 0 _ rfl
        have h1 := hf 1 _ rfl
        change DataW.trod enc Tryd.prog w base spare held n' 3 (([c0, c1].drop 0).take (Tryd.prog.cellsOf 3)) = ys[0]? at h0
        change DataW.trod enc Tryd.prog w base spare held n' 30 (([c0, c1].drop 1).take (Tryd.prog.cellsOf 30)) = ys[1]? at h1
        rw [in_cells] at h0
        rw [rs_cells] at h1
        have hys0 : ys[0]? = some (ys[0]'(by rw [hyl]; decide)) := List.getElem?_eq_getElem _
        have hys1 : ys[1]? = some (ys[1]'(by rw [hyl]; decide)) := List.getElem?_eq_getElem _
        rw [hys0] at h0
        rw [hys1] at h1
        obtain ⟨p, e0, _, _⟩ := DataW.trod_int Tryd.underlying3 h0
        obtain ⟨A, l, c, e1, g1, g2, g3, g4⟩ := trod_rests h1
        have a0 := hat 0 (by decide)
        have a1 := hat 1 (by decide)
        rw [Go.Deep.add_add] at a0 a1
        simp only [List.drop_zero, List.take_succ_cons, List.take_zero, List.drop_succ_cons, List.cons.injEq, and_true] at e0 e1
        subst e0 e1
        exact ⟨(⟨p, l⟩, (A, c)), by simpa using a0, by simpa using a1, g1, g2, g4⟩
    haveI : Inhabited (Lv × Option Addr × Nat) := ⟨(⟨0, []⟩, none, 0)⟩
    obtain ⟨f, hf⟩ := choose_lt each
    refine ⟨some a, (List.range len).map fun i => (f i).1, cap, by simp, by simpa using hl, hm, (fun h => by cases h), ?_⟩
    rintro hn
    simp only [List.length_map, List.length_range] at hn
    obtain ⟨b, off, spot⟩ := a
    obtain rfl := addr_lit (by simpa using (hf 0 hn).1)
    have hb := World.block_lt_of_cell? w _ (hf 0 hn).1
    rw [add_lit] at hb
    refine ⟨b, off, rfl, hb, fun i x hx => ?_⟩
    have hi' : i < len := by simpa using (List.getElem?_eq_some_iff.1 hx).1
    simp only [List.getElem?_map, List.getElem?_range hi', Option.map_some, Option.some.injEq] at hx
    subst hx
    obtain ⟨g0, g1, g2, g3, g4⟩ := hf i hi'
    rw [add_lit] at g0 g1
    exact ⟨g0, _, _, g1, g2, g3, g4⟩
set_option maxRecDepth 100000 in
theorem Arg.levelsc {v : Value} {d : DataW H} {p : List MemPlace} (h : Arg enc w base 22 v d p) :
    ∃ (A : Option Addr) (L : List Lv) (c : Nat), v = .slice A L.length c ∧ (L.length ≤ c ∧ c ≤ maxLen) ∧ (A = none → c = 0) ∧ RdLv w w.heap.size A L := by
  obtain ⟨A, n, cap, rfl⟩ := okWide_slice Tryd.underlying22 h.ok
  obtain ⟨fuel, hf⟩ := h.rd
  obtain ⟨A', L, c, hc, h1, h2, h3, h4⟩ := trod_levels hf
  simp only [Value.cells, List.cons.injEq, Value.slice.injEq, and_true] at hc
  obtain ⟨rfl, rfl, rfl⟩ := hc
  exact ⟨_, L, _, rfl, ⟨h1, h2⟩, h3, h4⟩
theorem Arg.levels {v : Value} {d : DataW H} {p : List MemPlace} (h : Arg enc w base 22 v d p) :
    ∃ (A : Option Addr) (L : List Lv) (c : Nat), v = .slice A L.length c ∧ L.length ≤ maxLen ∧ (A = none → c = 0) ∧ RdLv w w.heap.size A L := by
  obtain ⟨A, L, c, e, h1, h2, h3⟩ := h.levelsc
  exact ⟨A, L, c, e, Nat.le_trans h1.1 h1.2, h2, h3⟩
end
end Go.Proofs.YtiaofbkhnodbhaaDoor
namespace Go.Proofs.YtiaofbkhnodbhaaDoor
set_option linter.all false
open Go.RowKit Go.ChangeShapes Go.WideShapes
section
variable {P : Program} {W : World} {base : Nat} {v : Value}
theorem cell_int {e : TypeId} (hu : P.underlying e = some (.int .i64)) (h : Cell.okWide P W .any base e v) : ∃ a : Int, v = .int .i64 a := by
  simp only [Cell.okWide, hu] at h
  cases v <;> simp_all [Cell.ok]
/-- a struct of integers, however nested -/
theorem ints_of_ok {t n e : Nat} {fs : Array Field} (he : P.underlying e = some (.int .i64)) (hu : P.underlying t = some (.struct fs)) (hc : P.cellsOf t = n) (hts : P.cellTypes P.depth t = some (List.replicate n e)) (h : Value.okWide P W .any base t v) :
    ∃ cs : Array Value, v = .agg cs ∧ cs.size = n ∧ ∀ i, i < n → ∃ a : Int, cs[i]? = some (.int .i64 a) := by
  simp only [Value.okWide, hu] at h
  obtain ⟨cs, h1, h2, ts, h3, _, h5⟩ := h
  rw [hts] at h3
  cases h3
  rw [hc] at h2
  refine ⟨cs, h1, h2, fun i hi => ?_⟩
  have hv : cs[i]? = some cs[i] := Array.getElem?_eq_getElem (by omega)
  obtain ⟨u, hu2, hk⟩ := h5 i _ hv
  rw [List.length_replicate, Nat.mod_eq_of_lt hi, List.getElem?_replicate, if_pos hi] at hu2
  cases hu2
  obtain ⟨a, ha⟩ := cell_int he hk
  exact ⟨a, by rw [hv, ha]⟩
end
theorem cells8 {cs : Array Value} (h : cs.size = 8) (hi : ∀ i, i < 8 → ∃ a : Int, cs[i]? = some (.int .i64 a)) : ∃ o : Order, cs = o.cells := by
  obtain ⟨a0, h0⟩ := hi 0 (by omega); obtain ⟨a1, h1⟩ := hi 1 (by omega); obtain ⟨a2, h2⟩ := hi 2 (by omega); obtain ⟨a3, h3⟩ := hi 3 (by omega); obtain ⟨a4, h4⟩ := hi 4 (by omega); obtain ⟨a5, h5⟩ := hi 5 (by omega)
  obtain ⟨a6, h6⟩ := hi 6 (by omega); obtain ⟨a7, h7⟩ := hi 7 (by omega)
  refine ⟨⟨a0, a1, a2, a3, a4, a5, a6, a7⟩, Array.ext_getElem? fun i => ?_⟩
  match i with
  | 0 => exact h0
  | 1 => exact h1
  | 2 => exact h2
  | 3 => exact h3
  | 4 => exact h4
  | 5 => exact h5
  | 6 => exact h6
  | 7 => exact h7
  | i + 8 => rw [Array.getElem?_eq_none (by omega), Array.getElem?_eq_none (by simp)]
set_option maxRecDepth 100000 in
theorem ord_types : Tryd.prog.cellTypes Tryd.prog.depth 58 = some (List.replicate 8 3) := by kernel_rfl
theorem ord_cells : Tryd.prog.cellsOf 58 = 8 := by kernel_rfl
set_option maxRecDepth 100000 in
theorem Arg.order {H : Type} {enc : TypeId × Value → H} {W : World} {base : Nat} {v : Value} {d : DataW H} {p : List MemPlace} (h : Arg enc W base 58 v d p) : ∃ o : Order, v = .agg o.cells := by
  obtain ⟨cs, h1, h2, h3⟩ := ints_of_ok Tryd.underlying3 Tryd.underlying58 ord_cells ord_types h.ok
  obtain ⟨c, rfl⟩ := cells8 h2 h3
  exact ⟨c, h1⟩
abbrev Rest.cells (r : Rest) : Array Value := #[.int .i64 r.id, .int .i64 r.who, .int .i64 r.qty, .int .i64 r.hidden, .int .i64 r.show_]
theorem cells5 {cs : Array Value} (h : cs.size = 5) (hi : ∀ i, i < 5 → ∃ a : Int, cs[i]? = some (.int .i64 a)) : ∃ r : Rest, cs = r.cells := by
  obtain ⟨a0, h0⟩ := hi 0 (by omega); obtain ⟨a1, h1⟩ := hi 1 (by omega); obtain ⟨a2, h2⟩ := hi 2 (by omega); obtain ⟨a3, h3⟩ := hi 3 (by omega); obtain ⟨a4, h4⟩ := hi 4 (by omega)
  refine ⟨⟨a0, a1, a2, a3, a4⟩, Array.ext_getElem? fun i => ?_⟩
  match i with
  | 0 => exact h0
  | 1 => exact h1
  | 2 => exact h2
  | 3 => exact h3
  | 4 => exact h4
  | i + 5 => rw [Array.getElem?_eq_none (by omega), Array.getElem?_eq_none (by simp)]
set_option maxRecDepth 100000 in
theorem rest_types : Tryd.prog.cellTypes Tryd.prog.depth 24 = some (List.replicate 5 3) := by kernel_rfl
theorem rest_cells : Tryd.prog.cellsOf 24 = 5 := by kernel_rfl
set_option maxRecDepth 100000 in
theorem Arg.rest {H : Type} {enc : TypeId × Value → H} {W : World} {base : Nat} {v : Value} {d : DataW H} {p : List MemPlace} (h : Arg enc W base 24 v d p) : ∃ r : Rest, v = .agg r.cells := by
  obtain ⟨cs, h1, h2, h3⟩ := ints_of_ok Tryd.underlying3 Tryd.underlying24 rest_cells rest_types h.ok
  obtain ⟨c, rfl⟩ := cells5 h2 h3
  exact ⟨c, h1⟩
end Go.Proofs.YtiaofbkhnodbhaaDoor
