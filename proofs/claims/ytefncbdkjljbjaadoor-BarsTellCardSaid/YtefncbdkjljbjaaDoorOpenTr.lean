/- Arguments: trades. -/
import Derived.Test.YtefncbdkjljbjaaDoorOpen
import Derived.Test.YtefncbdkjljbjaaDoorBars
namespace Go.Proofs.YtefncbdkjljbjaaDoor
set_option linter.all false
open Go.RowKit Go.ChangeShapes Go.WideShapes
set_option maxRecDepth 100000 in
theorem Arg.trades {H : Type} {enc : TypeId × Value → H} {w : World} {base : Nat} {v : Value} {d : DataW H} {p : List MemPlace} (h : Arg enc w base 34 v d p) :
    ∃ (A : Option Addr) (l : List Trade) (c : Nat), v = .slice A l.length c ∧ Rd w w.heap.size A l.length 6 (tcell l) := by
  obtain ⟨A, n, cap, rfl, _, hr⟩ := open_rows 6 Tryd.underlying34 Tryd.underlying43 (by kernel_rfl) (by kernel_rfl) rfl (by decide) (by
    intro j f hj
    match j, hj with
    | 0, hj => cases hj; exact Tryd.underlying3
    | 1, hj => cases hj; exact Tryd.underlying3
    | 2, hj => cases hj; exact Tryd.underlying3
    | 3, hj => cases hj; exact Tryd.underlying3
    | 4, hj => cases hj; exact Tryd.underlying3
    | 5, hj => cases hj; exact Tryd.underlying3
    | _ + 6, hj => simp at hj) h
  rcases Nat.eq_zero_or_pos n with rfl | hn
  · exact ⟨A, [], cap, rfl, Rd.nil⟩
  · obtain ⟨b, off, rfl, hb, hc⟩ := hr hn
    let f : Nat → Nat → Int := fun i j => cellInt w ⟨b, off + (i * 6 + j), none⟩
    refine ⟨_, (List.range n).map fun i => ⟨f i 0, f i 1, f i 2, f i 3, f i 4, f i 5⟩, cap, by simp, fun _ => ⟨b, off, rfl, hb, fun i hi j hj => ?_⟩⟩
    simp only [List.length_map, List.length_range] at hi
    rw [hc i hi j hj]
    simp only [tcell, List.getD_eq_getElem?_getD, List.getElem?_map, List.getElem?_range hi, Option.map_some, Option.getD_some]
    match j, hj with
    | 0, _ => rfl
    | 1, _ => rfl
    | 2, _ => rfl
    | 3, _ => rfl
    | 4, _ => rfl
    | 5, _ => rfl
theorem Arg.trades' {H : Type} {enc : TypeId × Value → H} {w : World} {base : Nat} {v : Value} {d : DataW H} {p : List MemPlace} (h : Arg enc w base 34 v d p) :
    ∃ (A : Option Addr) (l : List Trade) (c : Nat), v = .slice A l.length c ∧ l.length ≤ maxLen ∧ Rd w w.heap.size A l.length 6 (tcell l) := by
  obtain ⟨A, l, c, rfl, hr⟩ := h.trades
  have := arg_max Tryd.underlying34 h
  exact ⟨A, l, c, rfl, Nat.le_trans this.1 this.2.1, hr⟩
end Go.Proofs.YtefncbdkjljbjaaDoor
