/- Arguments that are slices of structs of integers. -/
import Derived.Test.YtkdgpdijbobmkaaGreatGrpA
import Derived.Deep.Slices
import Derived.Deep.Fields
import Derived.ChangeSame
namespace Go.Proofs.YtkdgpdijbobmkaaGreat
set_option linter.all false
open Go.RowKit Go.ChangeShapes Go.WideShapes Go.Deep
section
variable {H : Type} {enc : TypeId × Value → H} {w : World} {base : Nat} {spare : Nat → Bool} {held : Bool}
/-- the number in a cell -/
def cellInt (w : World) (p : Addr) : Int := match w.cell? p with
  | some (.int _ x) => x
  | _ => 0
theorem cellInt_of {w : World} {p : Addr} {x : Int} (h : w.cell? p = some (.int .i64 x)) : w.cell? p = some (.int .i64 (cellInt w p)) := by
  simp [cellInt, h]
theorem trod_rows {t e : TypeId} {fs : Array Field} {fuel : Nat} {cs : List Value} {x : DataW H × List MemPlace} (ht : Tryz.prog.underlying t = some (.slice e)) (he : Tryz.prog.underlying e = some (.struct fs))
    (hone : oneCellFields Tryz.prog fs = true) (hC : Tryz.prog.cellsOf e = fs.size) (hint : ∀ (j : Nat) (f : Field), fs[j]? = some f → Tryz.prog.underlying f.type = some (.int .i64)) (h : DataW.trod enc Tryz.prog w base spare held fuel t cs = some x) :
    cs = [.slice none 0 0] ∨
    ∃ (a : Addr) (len cap : Nat), cs = [.slice (some a) len cap] ∧ len ≤ cap ∧ ∀ i, i < len → ∀ j, j < fs.size → ∃ v : Int, w.cell? (a.add (i * fs.size + j)) = some (.int .i64 v) := by
  rcases open_slice ht h with ⟨h0, _⟩ | ⟨a, len, cap, m, n, D, Pl, hcs, hb, hl, hm, hmm, hx, hi⟩
  · exact .inl h0
  · refine .inr ⟨a, len, cap, hcs, hl, fun i him j hj => ?_⟩
    have hlm : len ≤ m := by rw [hmm]; split <;> omega
    obtain ⟨cs', hc, ht'⟩ := hi i (by omega)
    rw [hC] at hc
    obtain ⟨ys, n', hn', hy, hlen, hyl, hf⟩ := DataW.trod_struct he ht'
    obtain ⟨_, hcl, hat⟩ := World.cells?_some hc
    have hjf : fs[j]? = some fs[j] := Array.getElem?_eq_getElem hj
    obtain ⟨ho, hk⟩ := hone_of hone j fs[j] hjf
    have hcell := hat j hj
    have hv : cs'[j]? = some (cs'[j]'(by omega)) := List.getElem?_eq_getElem (by omega)
    have h1 := hf j fs[j] hjf
    rw [ho, hk] at h1
    have hone' : (cs'.drop j).take 1 = [cs'[j]'(by omega)] := by
      rw [List.drop_eq_getElem_cons (by omega)]
      rfl
    rw [hone'] at h1
    have hys : ys[j]? = some (ys[j]'(by omega)) := List.getElem?_eq_getElem (by omega)
    rw [hys] at h1
    obtain ⟨v, e0, _, _⟩ := DataW.trod_int (hint j _ hjf) h1
    refine ⟨v, ?_⟩
    rw [← Go.Deep.add_add, hcell, hv]
    simpa using e0
set_option maxRecDepth 100000 in
theorem open_rows (s : Nat) {t e : TypeId} {fs : Array Field} {v : Value} {d : DataW H} {p : List MemPlace} {base0 : Nat} (ht : Tryz.prog.underlying t = some (.slice e)) (he : Tryz.prog.underlying e = some (.struct fs))
    (hone : oneCellFields Tryz.prog fs = true) (hC : Tryz.prog.cellsOf e = fs.size) (hs : fs.size = s) (hpos : 0 < s) (hint : ∀ (j : Nat) (f : Field), fs[j]? = some f → Tryz.prog.underlying f.type = some (.int .i64)) (ha : Arg enc w base0 t v d p) :
    ∃ A n cap, v = .slice A n cap ∧ n ≤ cap ∧ (0 < n → ∃ b off, A = some ⟨b, off, none⟩ ∧ b < w.heap.size ∧ ∀ i, i < n → ∀ j, j < s → w.cell? ⟨b, off + (i * s + j), none⟩ = some (.int .i64 (cellInt w ⟨b, off + (i * s + j), none⟩))) := by
  subst hs
  obtain ⟨A, n, cap, rfl⟩ := okWide_slice ht ha.ok
  obtain ⟨fuel, hf⟩ := ha.rd
  rcases trod_rows ht he hone hC hint hf with h | ⟨a, len, cap', hcs, hl, hc⟩
  · simp only [Value.cells, List.cons.injEq, Value.slice.injEq, and_true] at h
    obtain ⟨rfl, rfl, rfl⟩ := h
    exact ⟨none, 0, 0, rfl, Nat.le_refl _, fun h => absurd h (by omega)⟩
  · simp only [Value.cells, List.cons.injEq, Value.slice.injEq, and_true] at hcs
    obtain ⟨rfl, rfl, rfl⟩ := hcs
    refine ⟨_, _, _, rfl, hl, fun hn => ?_⟩
    obtain ⟨b, off, spot⟩ := a
    obtain ⟨v0, h0⟩ := hc 0 hn 0 hpos
    have hs : spot = none := by simpa [Addr.add] using World.cell?_spot h0
    subst hs
    have hadd : ∀ k, (⟨b, off, none⟩ : Addr).add k = ⟨b, off + k, none⟩ := fun k => by unfold Addr.add; split <;> simp_all
    refine ⟨b, off, rfl, ?_, fun i hi j hj => ?_⟩
    · have := World.block_lt_of_cell? w _ h0
      rwa [hadd] at this
    · obtain ⟨v1, h1⟩ := hc i hi j hj
      rw [hadd] at h1
      exact cellInt_of h1
theorem arg_max {t e : TypeId} {d : DataW H} {p : List MemPlace} {base0 : Nat} {A : Option Addr} {n cap : Nat} (ht : Tryz.prog.underlying t = some (.slice e)) (ha : Arg enc w base0 t (.slice A n cap) d p) : n ≤ cap ∧ cap ≤ maxLen ∧ (A = none → n = 0 ∧ cap = 0) := by
  obtain ⟨fuel, hf⟩ := ha.rd
  rcases open_slice ht hf with ⟨h0, _⟩ | ⟨a, len, cap', m, n', D, Pl, hcs, _, hl, hm, _⟩
  · simp only [Value.cells, List.cons.injEq, Value.slice.injEq, and_true] at h0
    obtain ⟨rfl, rfl, rfl⟩ := h0
    exact ⟨Nat.le_refl _, Nat.zero_le _, fun _ => ⟨rfl, rfl⟩⟩
  · simp only [Value.cells, List.cons.injEq, Value.slice.injEq, and_true] at hcs
    obtain ⟨rfl, rfl, rfl⟩ := hcs
    exact ⟨hl, hm, fun h => by cases h⟩
end
end Go.Proofs.YtkdgpdijbobmkaaGreat
