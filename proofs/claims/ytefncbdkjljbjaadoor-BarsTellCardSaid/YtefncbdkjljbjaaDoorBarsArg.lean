/- Arguments: bars; a piece of trades. -/
import Derived.Test.YtefncbdkjljbjaaDoorOpenTr
import Derived.Test.YtefncbdkjljbjaaDoorBarsMore
import Derived.Test.YtefncbdkjljbjaaDoorOwn
namespace Go.Proofs.YtefncbdkjljbjaaDoor
set_option linter.all false
open Go Go.RowKit Go.ChangeShapes Go.WideShapes Go.Deep
set_option maxRecDepth 100000 in
theorem Arg.bars {H : Type} {enc : TypeId × Value → H} {w : World} {base : Nat} {v : Value} {d : DataW H} {p : List MemPlace} (h : Arg enc w base 35 v d p) :
    ∃ (A : Option Addr) (l : List Bar) (c : Nat), v = .slice A l.length c ∧ l.length ≤ maxLen ∧ Rd w w.heap.size A l.length 5 (bcellv l) := by
  obtain ⟨A, n, cap, rfl, hnc, hr⟩ := open_rows 5 Tryd.underlying35 Tryd.underlying38 (by kernel_rfl) (by kernel_rfl) rfl (by decide) (by
    intro j f hj
    match j, hj with
    | 0, hj => cases hj; exact Tryd.underlying3
    | 1, hj => cases hj; exact Tryd.underlying3
    | 2, hj => cases hj; exact Tryd.underlying3
    | 3, hj => cases hj; exact Tryd.underlying3
    | 4, hj => cases hj; exact Tryd.underlying3
    | _ + 5, hj => simp at hj) h
  have hm := arg_max Tryd.underlying35 h
  have hm2 : n ≤ maxLen := Nat.le_trans hm.1 hm.2.1
  rcases Nat.eq_zero_or_pos n with rfl | hn
  · exact ⟨A, [], cap, rfl, Nat.zero_le _, Rd.nil⟩
  · obtain ⟨b, off, rfl, hb, hc⟩ := hr hn
    let f : Nat → Nat → Int := fun i j => cellInt w ⟨b, off + (i * 5 + j), none⟩
    refine ⟨_, (List.range n).map fun i => ⟨f i 0, f i 1, f i 2, f i 3, f i 4⟩, cap, by simp, by simpa using hm2, fun _ => ⟨b, off, rfl, hb, fun i hi j hj => ?_⟩⟩
    simp only [List.length_map, List.length_range] at hi
    rw [hc i hi j hj]
    simp only [bcellv, List.getD_eq_getElem?_getD, List.getElem?_map, List.getElem?_range hi, Option.map_some, Option.getD_some]
    match j, hj with
    | 0, _ => rfl
    | 1, _ => rfl
    | 2, _ => rfl
    | 3, _ => rfl
    | 4, _ => rfl
/-- a piece of trades -/
theorem Rd.piece {l : List Trade} {w : World} {B b off : Nat} (hr : Rd w B (some ⟨b, off, none⟩) l.length 6 (tcell l)) (i k : Nat) : Rd w B (some ⟨b, off + i * 6, none⟩) ((l.drop i).take k).length 6 (tcell ((l.drop i).take k)) := by
  intro hn
  rw [List.length_take, List.length_drop] at hn
  obtain ⟨b', off', e, hb, hx⟩ := hr (by omega)
  cases e
  refine ⟨b, off + i * 6, rfl, hb, fun q hq j hj => ?_⟩
  rw [List.length_take, List.length_drop] at hq
  have := hx (i + q) (by omega) j hj
  rw [show off + i * 6 + (q * 6 + j) = off + ((i + q) * 6 + j) by omega, this]
  simp only [tcell, List.getD_eq_getElem?_getD]
  rw [List.getElem?_take_of_lt (by omega), List.getElem?_drop]
theorem flatB_get {l : List Bar} {i j : Nat} (hi : i < l.length) (hj : j < 5) : (flatB l)[i * 5 + j]? = some (bcellv l i j) := by
  rw [flatB, flat_get Bar.vals_len (List.getElem?_eq_getElem hi) hj]
  have hg : l.getD i bar0 = l[i] := by simp [hi]
  simp only [bcellv, hg]
  rw [List.getElem?_eq_getElem (by rw [Bar.vals_len]; exact hj)]
  rfl
end Go.Proofs.YtefncbdkjljbjaaDoor
