/- Arguments: commands. -/
import Derived.Test.YtodkhhanlhelnaaOpenN
import Derived.Test.YtodkhhanlhelnaaCmds
namespace Go.Proofs.Ytodkhhanlhelnaa
set_option linter.all false
open Go.RowKit Go.ChangeShapes Go.WideShapes Go.Deep
theorem ocells8 : Try.prog.cellsOf 23 = 8 := by kernel_rfl
theorem icells1 : Try.prog.cellsOf 3 = 1 := by kernel_rfl
theorem ccells11 : Try.prog.cellsOf 25 = 11 := by kernel_rfl
set_option maxRecDepth 100000 in
theorem ord_ints {H : Type} {enc : TypeId × Value → H} {w : World} {base : Nat} {spare : Nat → Bool} {held : Bool} (fuel : Nat) (cs : List Value) (x : DataW H × List MemPlace) (h : DataW.trod enc Try.prog w base spare held fuel 23 cs = some x) : IntsAt 8 cs :=
  flat_cells Try.underlying23 (by kernel_rfl) (by
    intro j f hj
    match j, hj with
    | 0, hj => cases hj; exact Try.underlying3
    | 1, hj => cases hj; exact Try.underlying3
    | 2, hj => cases hj; exact Try.underlying3
    | 3, hj => cases hj; exact Try.underlying3
    | 4, hj => cases hj; exact Try.underlying3
    | 5, hj => cases hj; exact Try.underlying3
    | 6, hj => cases hj; exact Try.underlying3
    | 7, hj => cases hj; exact Try.underlying3
    | _ + 8, hj => simp at hj) h
set_option maxRecDepth 100000 in
theorem cmd_ints {H : Type} {enc : TypeId × Value → H} {w : World} {base : Nat} {spare : Nat → Bool} {held : Bool} (fuel : Nat) (cs : List Value) (x : DataW H × List MemPlace) (h : DataW.trod enc Try.prog w base spare held fuel 25 cs = some x) : IntsAt 11 cs := by
  obtain ⟨ys, n', hn', hy, hlen, hyl, hf⟩ := DataW.trod_struct Try.underlying25 h
  have hl : ys.length = 4 := hyl
  match ys, hl with
  | [y0, y1, y2, y3], _ =>
  have f0 : DataW.trod enc Try.prog w base spare held n' 3 ((cs.drop 0).take (Try.prog.cellsOf 3)) = some y0 := hf 0 _ rfl
  have f1 : DataW.trod enc Try.prog w base spare held n' 23 ((cs.drop 1).take (Try.prog.cellsOf 23)) = some y1 := hf 1 _ rfl
  have f2 : DataW.trod enc Try.prog w base spare held n' 3 ((cs.drop 9).take (Try.prog.cellsOf 3)) = some y2 := hf 2 _ rfl
  have f3 : DataW.trod enc Try.prog w base spare held n' 3 ((cs.drop 10).take (Try.prog.cellsOf 3)) = some y3 := hf 3 _ rfl
  rw [icells1] at f0 f2 f3
  rw [ocells8] at f1
  have g0 := part_cells (int_cells Try.underlying3 f0)
  have g1 := part_cells (ord_ints _ _ _ f1)
  have g2 := part_cells (int_cells Try.underlying3 f2)
  have g3 := part_cells (int_cells Try.underlying3 f3)
  intro j hj
  match j, hj with
  | 0, _ => exact g0 0 (by omega)
  | 1, _ => exact g1 0 (by omega)
  | 2, _ => exact g1 1 (by omega)
  | 3, _ => exact g1 2 (by omega)
  | 4, _ => exact g1 3 (by omega)
  | 5, _ => exact g1 4 (by omega)
  | 6, _ => exact g1 5 (by omega)
  | 7, _ => exact g1 6 (by omega)
  | 8, _ => exact g1 7 (by omega)
  | 9, _ => exact g2 0 (by omega)
  | 10, _ => exact g3 0 (by omega)
set_option maxRecDepth 100000 in
theorem Arg.cmds {H : Type} {enc : TypeId × Value → H} {w : World} {base : Nat} {v : Value} {d : DataW H} {p : List MemPlace} (h : Arg enc w base 26 v d p) :
    ∃ (A : Option Addr) (l : List Cmd) (c : Nat), v = .slice A l.length c ∧ l.length ≤ c ∧ c ≤ maxLen ∧ (A = none → l.length = 0 ∧ c = 0) ∧ Rd w w.heap.size A l.length 11 (ccell l) := by
  obtain ⟨A, n, cap, rfl, hnc, hr⟩ := open_rowsN 11 Try.underlying26 ccells11 (by decide) cmd_ints h
  obtain ⟨_, hmx, hnil⟩ := arg_max Try.underlying26 h
  rcases Nat.eq_zero_or_pos n with rfl | hn
  · exact ⟨A, [], cap, rfl, Nat.zero_le _, hmx, hnil, Rd.nil⟩
  · obtain ⟨b, off, rfl, hb, hc⟩ := hr hn
    let f : Nat → Nat → Int := fun i j => cellInt w ⟨b, off + (i * 11 + j), none⟩
    refine ⟨_, (List.range n).map fun i => ⟨f i 0, ⟨f i 1, f i 2, f i 3, f i 4, f i 5, f i 6, f i 7, f i 8⟩, f i 9, f i 10⟩, cap, by simp, by simpa using hnc, hmx, (fun h => by cases h), fun _ => ⟨b, off, rfl, hb, fun i hi j hj => ?_⟩⟩
    simp only [List.length_map, List.length_range] at hi
    rw [hc i hi j hj]
    simp only [ccell, List.getD_eq_getElem?_getD, List.getElem?_map, List.getElem?_range hi, Option.map_some, Option.getD_some]
    match j, hj with
    | 0, _ => rfl
    | 1, _ => rfl
    | 2, _ => rfl
    | 3, _ => rfl
    | 4, _ => rfl
    | 5, _ => rfl
    | 6, _ => rfl
    | 7, _ => rfl
    | 8, _ => rfl
    | 9, _ => rfl
    | 10, _ => rfl
end Go.Proofs.Ytodkhhanlhelnaa
