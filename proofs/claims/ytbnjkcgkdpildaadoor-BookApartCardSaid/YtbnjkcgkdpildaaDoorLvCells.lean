/- The cells of levels, as they are copied. -/
import Derived.Test.YtbnjkcgkdpildaaDoorLevels
import Derived.Test.YtbnjkcgkdpildaaDoorOwn
namespace Go.Proofs.YtbnjkcgkdpildaaDoor
set_option linter.all false
open Go Go.RowKit
/-- xs are the cells of the levels L -/
structure LvC (w : World) (B : Nat) (L : List Lv) (xs : List Value) : Prop where
  len : xs.length = L.length * 2
  at_ : ∀ i x, L[i]? = some x → xs[i * 2]? = some (.int .i64 x.price) ∧ ∃ Ar cr, xs[i * 2 + 1]? = some (.slice Ar x.rs.length cr) ∧ x.rs.length ≤ cr ∧ cr ≤ maxLen ∧ Rd w B Ar x.rs.length 5 (rcell x.rs)
section
variable {w w' : World} {B B' : Nat} {L M : List Lv} {xs ys : List Value} {A : Option Addr}
theorem LvC.nil : LvC w B [] [] := ⟨rfl, fun i x h => by simp at h⟩
theorem LvC.below (h : LvC w B L xs) (hb : Below B w w') : LvC w' B L xs := ⟨h.len, fun i x hx => by
  obtain ⟨h1, Ar, cr, h2, h3, h4, h5⟩ := h.at_ i x hx
  exact ⟨h1, Ar, cr, h2, h3, h4, h5.below hb⟩⟩
theorem LvC.more (h : LvC w B L xs) (hB : B ≤ B') : LvC w B' L xs := ⟨h.len, fun i x hx => by
  obtain ⟨h1, Ar, cr, h2, h3, h4, h5⟩ := h.at_ i x hx
  exact ⟨h1, Ar, cr, h2, h3, h4, h5.more hB⟩⟩
theorem LvC.app (h : LvC w B L xs) (g : LvC w B M ys) : LvC w B (L ++ M) (xs ++ ys) := by
  refine ⟨by rw [List.length_append, List.length_append, h.len, g.len, Nat.add_mul], fun i x hx => ?_⟩
  rcases Nat.lt_or_ge i L.length with hi | hi
  · rw [List.getElem?_append_left hi] at hx
    obtain ⟨h1, Ar, cr, h2, h3⟩ := h.at_ i x hx
    have hl := h.len
    exact ⟨by rw [List.getElem?_append_left (by omega)]; exact h1, Ar, cr, by rw [List.getElem?_append_left (by omega)]; exact h2, h3⟩
  · rw [List.getElem?_append_right hi] at hx
    obtain ⟨h1, Ar, cr, h2, h3⟩ := g.at_ _ x hx
    have hl := h.len
    refine ⟨?_, Ar, cr, ?_, h3⟩
    · rw [List.getElem?_append_right (by omega), ← h1]; congr 1; omega
    · rw [List.getElem?_append_right (by omega), ← h2]; congr 1; omega
theorem LvC.one (h : LvC w B L xs) : ∀ u ∈ xs, u.oneCell' = true := by
  intro u hu
  obtain ⟨k, hk, rfl⟩ := List.getElem_of_mem hu
  have hl := h.len
  obtain ⟨h1, Ar, cr, h2, _⟩ := h.at_ (k / 2) _ (List.getElem?_eq_getElem (by omega))
  rcases Nat.mod_two_eq_zero_or_one k with hm | hm
  · rw [show k / 2 * 2 = k by omega, List.getElem?_eq_getElem hk] at h1
    rw [Option.some.inj h1]; rfl
  · rw [show k / 2 * 2 + 1 = k by omega, List.getElem?_eq_getElem hk] at h2
    rw [Option.some.inj h2]; rfl
/-- levels that read have cells -/
theorem RdLv.cells (h : RdLv w B A L) : ∃ xs, LvC w B L xs ∧ Rd w B A L.length 2 (fun i j => xs.getD (i * 2 + j) undef) := by
  rcases Nat.eq_zero_or_pos L.length with h0 | h0
  · obtain rfl := List.eq_nil_of_length_eq_zero h0
    exact ⟨[], LvC.nil, Rd.nil⟩
  · obtain ⟨b, off, e, hb, hc⟩ := h h0
    refine ⟨(List.range (L.length * 2)).map fun k => (w.cell? ⟨b, off + k, none⟩).getD undef, ⟨by simp, fun i x hx => ?_⟩, fun _ => ⟨b, off, e, hb, fun i hi j hj => ?_⟩⟩
    · have hi : i < L.length := (List.getElem?_eq_some_iff.1 hx).1
      obtain ⟨h1, Ar, cr, h2, h3⟩ := hc i x hx
      refine ⟨?_, Ar, cr, ?_, h3⟩
      · rw [List.getElem?_map, List.getElem?_range (by omega), Option.map_some, h1]; rfl
      · rw [List.getElem?_map, List.getElem?_range (by omega), Option.map_some, ← Nat.add_assoc, h2]; rfl
    · obtain ⟨h1, Ar, cr, h2, h3⟩ := hc i _ (List.getElem?_eq_getElem hi)
      have hk : i * 2 + j < L.length * 2 := by omega
      simp only [List.getD_eq_getElem?_getD, List.getElem?_map, List.getElem?_range hk, Option.map_some, Option.getD_some]
      rcases (show j = 0 ∨ j = 1 by omega) with rfl | rfl
      · rw [Nat.add_zero, h1]; rfl
      · rw [← Nat.add_assoc, h2]; rfl
/-- a slice of its own with these cells reads as the levels -/
theorem OwnS.lv {base cap n : Nat} (h : OwnS w base 2 A n cap xs) (hc : LvC w B L xs) (hn : n = L.length) (hB : B ≤ w.heap.size) : RdLv w w.heap.size A L := by
  intro h0
  subst hn
  obtain ⟨g, off, e, _, hl, h1, _⟩ := h.cell h0
  refine ⟨g, off, e, hl, fun i x hx => ?_⟩
  have hi : i < L.length := (List.getElem?_eq_some_iff.1 hx).1
  obtain ⟨c1, Ar, cr, c2, c3, c4, c5⟩ := hc.at_ i x hx
  exact ⟨(h1 _ (by omega)).trans c1, Ar, cr, by rw [Nat.add_assoc]; exact (h1 _ (by omega)).trans c2, c3, c4, c5.more hB⟩
/-- what is appended -/
theorem src_lv {c tx e : Nat} (h : Rd w B A L.length 2 (fun i j => xs.getD (i * 2 + j) undef)) (hc : LvC w B L xs) (hk : Tryd.prog.underlying tx = some (.slice e)) (hA : A = none → L.length = 0) : Src Tryd.prog 2 tx (.slice A L.length c) L.length xs w :=
  src_rd h hk hc.len (fun i j hi hj => by
    have hl := hc.len
    have hlt : i * 2 + j < xs.length := by omega
    rw [List.getD_eq_getElem?_getD, List.getElem?_eq_getElem hlt]; rfl) hc.one hA
end
end Go.Proofs.YtbnjkcgkdpildaaDoor
