/- Arguments that are slices of structs of integers, structs among them. Arguments: commands. -/
import Derived.Test.YtkdgpdijbobmkaaGreatGrpS
import Derived.Test.YtkdgpdijbobmkaaGreatGrpAC
namespace Go.Proofs.YtkdgpdijbobmkaaGreat
set_option linter.all false
open Go.RowKit Go.ChangeShapes Go.WideShapes Go.Deep
section
variable {H : Type} {enc : TypeId × Value → H} {w : World} {base : Nat} {spare : Nat → Bool} {held : Bool}
/-- the first n cells are integers -/
def IntsAt (n : Nat) (cs : List Value) : Prop := ∀ j, j < n → ∃ v : Int, cs[j]? = some (.int .i64 v)
theorem int_cells {t : TypeId} {fuel : Nat} {cs : List Value} {x : DataW H × List MemPlace} (ht : Tryz.prog.underlying t = some (.int .i64)) (h : DataW.trod enc Tryz.prog w base spare held fuel t cs = some x) : IntsAt 1 cs := by
  intro j hj
  obtain rfl : j = 0 := by omega
  obtain ⟨v, e0, _, _⟩ := DataW.trod_int ht h
  exact ⟨v, by rw [e0]; rfl⟩
theorem flat_cells {e : TypeId} {fs : Array Field} {fuel : Nat} {cs : List Value} {x : DataW H × List MemPlace} (he : Tryz.prog.underlying e = some (.struct fs))
    (hone : oneCellFields Tryz.prog fs = true) (hint : ∀ (j : Nat) (f : Field), fs[j]? = some f → Tryz.prog.underlying f.type = some (.int .i64)) (h : DataW.trod enc Tryz.prog w base spare held fuel e cs = some x) : IntsAt fs.size cs := by
  intro j hj
  obtain ⟨ys, n', hn', hy, hlen, hyl, hf⟩ := DataW.trod_struct he h
  have hjf : fs[j]? = some fs[j] := Array.getElem?_eq_getElem hj
  obtain ⟨ho, hk⟩ := hone_of hone j fs[j] hjf
  have h1 := hf j fs[j] hjf
  rw [ho, hk] at h1
  have hys : ys[j]? = some (ys[j]'(by omega)) := List.getElem?_eq_getElem (by omega)
  rw [hys] at h1
  obtain ⟨v, hv⟩ := int_cells (hint j _ hjf) h1 0 (by omega)
  refine ⟨v, ?_⟩
  rw [List.getElem?_take_of_lt (by omega), List.getElem?_drop] at hv
  exact hv
/-- the cells of a field -/
theorem part_cells {cs : List Value} {o m : Nat} (h : IntsAt m ((cs.drop o).take m)) : ∀ j, j < m → ∃ v : Int, cs[o + j]? = some (.int .i64 v) := by
  intro j hj
  obtain ⟨v, hv⟩ := h j hj
  rw [List.getElem?_take_of_lt hj, List.getElem?_drop] at hv
  exact ⟨v, hv⟩
theorem trod_rowsN {t e n : Nat} {fuel : Nat} {cs : List Value} {x : DataW H × List MemPlace} (ht : Tryz.prog.underlying t = some (.slice e)) (hC : Tryz.prog.cellsOf e = n)
    (hE : ∀ (fuel : Nat) (cs : List Value) (x : DataW H × List MemPlace), DataW.trod enc Tryz.prog w base spare held fuel e cs = some x → IntsAt n cs) (h : DataW.trod enc Tryz.prog w base spare held fuel t cs = some x) :
    cs = [.slice none 0 0] ∨
    ∃ (a : Addr) (len cap : Nat), cs = [.slice (some a) len cap] ∧ len ≤ cap ∧ ∀ i, i < len → ∀ j, j < n → ∃ v : Int, w.cell? (a.add (i * n + j)) = some (.int .i64 v) := by
  rcases open_slice ht h with ⟨h0, _⟩ | ⟨a, len, cap, m, n', D, Pl, hcs, hb, hl, hm, hmm, hx, hi⟩
  · exact .inl h0
  · refine .inr ⟨a, len, cap, hcs, hl, fun i him j hj => ?_⟩
    have hlm : len ≤ m := by rw [hmm]; split <;> omega
    obtain ⟨cs', hc, ht'⟩ := hi i (by omega)
    rw [hC] at hc
    obtain ⟨_, hcl, hat⟩ := World.cells?_some hc
    obtain ⟨v, hv⟩ := hE _ _ _ ht' j hj
    refine ⟨v, ?_⟩
    rw [← Go.Deep.add_add, hat j hj, hv]
set_option maxRecDepth 100000 in
theorem open_rowsN (s : Nat) {t e : TypeId} {v : Value} {d : DataW H} {p : List MemPlace} {base0 : Nat} (ht : Tryz.prog.underlying t = some (.slice e)) (hC : Tryz.prog.cellsOf e = s) (hpos : 0 < s)
    (hE : ∀ (fuel : Nat) (cs : List Value) (x : DataW H × List MemPlace), DataW.trod enc Tryz.prog w 0 (fun _ => true) true fuel e cs = some x → IntsAt s cs) (ha : Arg enc w base0 t v d p) :
    ∃ A n cap, v = .slice A n cap ∧ n ≤ cap ∧ (0 < n → ∃ b off, A = some ⟨b, off, none⟩ ∧ b < w.heap.size ∧ ∀ i, i < n → ∀ j, j < s → w.cell? ⟨b, off + (i * s + j), none⟩ = some (.int .i64 (cellInt w ⟨b, off + (i * s + j), none⟩))) := by
  obtain ⟨A, n, cap, rfl⟩ := okWide_slice ht ha.ok
  obtain ⟨fuel, hf⟩ := ha.rd
  rcases trod_rowsN ht hC hE hf with h | ⟨a, len, cap', hcs, hl, hc⟩
  · simp only [Value.cells, List.cons.injEq, Value.slice.injEq, and_true] at h
    obtain ⟨rfl, rfl, rfl⟩ := h
    exact ⟨none, 0, 0, rfl, Nat.le_refl _, fun h => absurd h (by omega)⟩
  · simp only [Value.cells, List.cons.injEq, Value.slice.injEq, and_true] at hcs
    obtain ⟨rfl, rfl, rfl⟩ := hcs
    refine ⟨_, _, _, rfl, hl, fun hn => ?_⟩
    obtain ⟨b, off, spot⟩ := a
    obtain ⟨v0, h0⟩ := hc 0 hn 0 hpos
    have hs : spot = none := by simpa [Addr.add] using World.cell?_spot h0
    subst hs
    have hadd : ∀ k, (⟨b, off, none⟩ : Addr).add k = ⟨b, off + k, none⟩ := fun k => by unfold Addr.add; split <;> simp_all
    refine ⟨b, off, rfl, ?_, fun i hi j hj => ?_⟩
    · have := World.block_lt_of_cell? w _ h0
      rwa [hadd] at this
    · obtain ⟨v1, h1⟩ := hc i hi j hj
      rw [hadd] at h1
      exact cellInt_of h1
end
end Go.Proofs.YtkdgpdijbobmkaaGreat
namespace Go.Proofs.YtkdgpdijbobmkaaGreat
set_option linter.all false
open Go.RowKit Go.ChangeShapes Go.WideShapes Go.Deep
theorem ocells8 : Tryz.prog.cellsOf 31 = 8 := by kernel_rfl
theorem icells1 : Tryz.prog.cellsOf 3 = 1 := by kernel_rfl
theorem ccells11 : Tryz.prog.cellsOf 34 = 11 := by kernel_rfl
set_option maxRecDepth 100000 in
theorem ord_ints {H : Type} {enc : TypeId × Value → H} {w : World} {base : Nat} {spare : Nat → Bool} {held : Bool} (fuel : Nat) (cs : List Value) (x : DataW H × List MemPlace) (h : DataW.trod enc Tryz.prog w base spare held fuel 31 cs = some x) : IntsAt 8 cs :=
  flat_cells Tryz.underlying31 (by kernel_rfl) (by
    intro j f hj
    match j, hj with
    | 0, hj => cases hj; exact Tryz.underlying3
    | 1, hj => cases hj; exact Tryz.underlying3
    | 2, hj => cases hj; exact Tryz.underlying3
    | 3, hj => cases hj; exact Tryz.underlying3
    | 4, hj => cases hj; exact Tryz.underlying3
    | 5, hj => cases hj; exact Tryz.underlying3
    | 6, hj => cases hj; exact Tryz.underlying3
    | 7, hj => cases hj; exact Tryz.underlying3
    | _ + 8, hj => simp at hj) h
set_option maxRecDepth 100000 in
theorem cmd_ints {H : Type} {enc : TypeId × Value → H} {w : World} {base : Nat} {spare : Nat → Bool} {held : Bool} (fuel : Nat) (cs : List Value) (x : DataW H × List MemPlace) (h : DataW.trod enc Tryz.prog w base spare held fuel 34 cs = some x) : IntsAt 11 cs := by
  obtain ⟨ys, n', hn', hy, hlen, hyl, hf⟩ := DataW.trod_struct Tryz.underlying34 h
  have hl : ys.length = 4 := hyl
  match ys, hl with
  | [y0, y1, y2, y3], _ =>
  have f0 : DataW.trod enc Tryz.prog w base spare held n' 3 ((cs.drop 0).take (Tryz.prog.cellsOf 3)) = some y0 := hf 0 _ rfl
  have f1 : DataW.trod enc Tryz.prog w base spare held n' 31 ((cs.drop 1).take (Tryz.prog.cellsOf 31)) = some y1 := hf 1 _ rfl
  have f2 : DataW.trod enc Tryz.prog w base spare held n' 3 ((cs.drop 9).take (Tryz.prog.cellsOf 3)) = some y2 := hf 2 _ rfl
  have f3 : DataW.trod enc Tryz.prog w base spare held n' 3 ((cs.drop 10).take (Tryz.prog.cellsOf 3)) = some y3 := hf 3 _ rfl
  rw [icells1] at f0 f2 f3
  rw [ocells8] at f1
  have g0 := part_cells (int_cells Tryz.underlying3 f0)
  have g1 := part_cells (ord_ints _ _ _ f1)
  have g2 := part_cells (int_cells Tryz.underlying3 f2)
  have g3 := part_cells (int_cells Tryz.underlying3 f3)
  intro j hj
  match j, hj with
  | 0, _ => exact g0 0 (by omega)
  | 1, _ => exact g1 0 (by omega)
  | 2, _ => exact g1 1 (by omega)
  | 3, _ => exact g1 2 (by omega)
  | 4, _ => exact g1 3 (by omega)
  | 5, _ => exact g1 4 (by omega)
  | 6, _ => exact g1 5 (by omega)
  | 7, _ => exact g1 6 (by omega)
  | 8, _ => exact g1 7 (by omega)
  | 9, _ => exact g2 0 (by omega)
  | 10, _ => exact g3 0 (by omega)
set_option maxRecDepth 100000 in
theorem Arg.cmds {H : Type} {enc : TypeId × Value → H} {w : World} {base : Nat} {v : Value} {d : DataW H} {p : List MemPlace} (h : Arg enc w base 48 v d p) :
    ∃ (A : Option Addr) (l : List Cmd) (c : Nat), v = .slice A l.length c ∧ l.length ≤ c ∧ c ≤ maxLen ∧ (A = none → l.length = 0 ∧ c = 0) ∧ Rd w w.heap.size A l.length 11 (ccell l) := by
  obtain ⟨A, n, cap, rfl, hnc, hr⟩ := open_rowsN 11 Tryz.underlying48 ccells11 (by decide) cmd_ints h
  obtain ⟨_, hmx, hnil⟩ := arg_max Tryz.underlying48 h
  rcases Nat.eq_zero_or_pos n with rfl | hn
  · exact ⟨A, [], cap, rfl, Nat.zero_le _, hmx, hnil, Rd.nil⟩
  · obtain ⟨b, off, rfl, hb, hc⟩ := hr hn
    let f : Nat → Nat → Int := fun i j => cellInt w ⟨b, off + (i * 11 + j), none⟩
    refine ⟨_, (List.range n).map fun i => ⟨f i 0, ⟨f i 1, f i 2, f i 3, f i 4, f i 5, f i 6, f i 7, f i 8⟩, f i 9, f i 10⟩, cap, by simp, by simpa using hnc, hmx, (fun h => by cases h), fun _ => ⟨b, off, rfl, hb, fun i hi j hj => ?_⟩⟩
    simp only [List.length_map, List.length_range] at hi
    rw [hc i hi j hj]
    simp only [ccell, List.getD_eq_getElem?_getD, List.getElem?_map, List.getElem?_range hi, Option.map_some, Option.getD_some]
    match j, hj with
    | 0, _ => rfl
    | 1, _ => rfl
    | 2, _ => rfl
    | 3, _ => rfl
    | 4, _ => rfl
    | 5, _ => rfl
    | 6, _ => rfl
    | 7, _ => rfl
    | 8, _ => rfl
    | 9, _ => rfl
    | 10, _ => rfl
end Go.Proofs.YtkdgpdijbobmkaaGreat
