/- The library's stable sort over at most twenty orders: what it leaves. -/
import Derived.Test.YtiaofbkhnodbhaaDoorOrds
import Derived.Test.YtiaofbkhnodbhaaDoorWakeSort
namespace Go.Proofs.YtiaofbkhnodbhaaDoor
set_option linter.all false
open Go Go.RowKit Go.Shelf Go.Sort
/-- the numbers of the sort's function and types here -/
def srho : Ren := ⟨fun _ => 115, fun k => match k with | 0 => 0 | 3 => 3 | 4 => 4 | 22 => 52 | 24 => 58 | _ => 129, fun _ => 0⟩
theorem srho_lays : SlLaysF0.n20 Tryd.prog srho where
  mixed := by kernel_rfl
  f20 := ⟨"slices.insertionSortCmpFunc[pitfloor/api.Order]", by decide, by kernel_rfl⟩
  t0 := by kernel_rfl
  a0 := fun w => by kernel_rfl
  z0 := fun w => by kernel_rfl
  v0 := fun w => by kernel_rfl
  t3 := by kernel_rfl
  a3 := fun w => by kernel_rfl
  z3 := fun w => by kernel_rfl
  v3 := fun w => by kernel_rfl
  t4 := by kernel_rfl
  a4 := fun w => by kernel_rfl
  z4 := fun w => by kernel_rfl
  v4 := fun w => by kernel_rfl
  t22 := by kernel_rfl
  a22 := fun w => by kernel_rfl
  z22 := fun w => by kernel_rfl
  v22 := fun w => by kernel_rfl
  t25 := by kernel_rfl
  a25 := fun w => by kernel_rfl
  z25 := fun w => by kernel_rfl
  v25 := fun w => by kernel_rfl
theorem srho_agg (w : World) : (isAgg (srho.t 24)).run Tryd.prog w = .ok true w := by kernel_rfl
theorem srho_size (w : World) : (Go.sizeOf (srho.t 24)).run Tryd.prog w = .ok 8 w := by kernel_rfl
instance : Inhabited Order := ⟨ord0⟩
theorem flat_ords (l : List Order) : (flatK Order.vals 8 l.toArray).toList = ords l := by
  refine List.ext_getElem? fun j => ?_
  rcases Nat.lt_or_ge j (l.length * 8) with hj | hj
  · have e := ords_get (l := l) (i := j / 8) (j := j % 8) (by omega) (by omega)
    rw [show j / 8 * 8 + j % 8 = j by omega] at e
    have hs : j < (flatK Order.vals 8 l.toArray).size := by rw [size_flatK]; simpa using hj
    have g := get_flatK Order.vals 8 l.toArray j (by simpa using hj)
    rw [e, Array.getElem?_toList, Array.getElem?_eq_getElem hs, ← getElem!_pos _ j hs, g]
    have hd : l.toArray[j / 8]! = l.getD (j / 8) ord0 := by
      have : j / 8 < l.length := by omega
      simp [this]
    rw [hd, ocell]
    have hv : j % 8 < ((l.getD (j / 8) ord0).vals).length := by rw [Order.vals_len]; omega
    rw [List.getElem?_eq_getElem hv, List.getElem!_eq_getElem?_getD, List.getElem?_eq_getElem hv]; rfl
  · rw [List.getElem?_eq_none (by rw [Array.length_toList, size_flatK]; simpa using hj), List.getElem?_eq_none (by rw [ords_len]; exact hj)]
theorem flat_getb (l : List Order) {j : Nat} (hj : j < l.length * 8) : (ords l)[j]? = some ((flatK Order.vals 8 l.toArray)[j]!) := by
  have hs : j < (flatK Order.vals 8 l.toArray).size := by rw [size_flatK]; simpa using hj
  rw [← flat_ords, Array.getElem?_toList, Array.getElem?_eq_getElem hs, ← getElem!_pos _ j hs]
section
variable {w : World} {base cap g off : Nat} {l l' : List Order}
theorem OwnS.holdsK (h : OwnS w base 8 (some ⟨g, off, none⟩) l.length cap (ords l)) (h0 : 0 < l.length) : HoldsK Order.vals 8 w g off l.toArray ∧ g < w.heap.size := by
  obtain ⟨g', off', e, _, hl, h1, h2⟩ := h.cell h0
  cases e
  have hle := h.le
  refine ⟨fun j hj => ?_, hl⟩
  have hj' : j < l.length * 8 := by simpa using hj
  exact ⟨(h1 j hj').trans (flat_getb l hj'), (h2 j (by omega)).2⟩
theorem sort_grown (n : Nat) (d : Array Order) (os : Array Obj) (hl : g < w.heap.size) : w.grownBy (sortWorldK Order.vals 8 w g off n d os) (some g) := by
  refine ⟨rfl, rfl, rfl, ?_, fun k hk hne => ?_⟩
  · exact size_sortWorldK_c Order.vals 8 w g off n d os
  · have hne' : g ≠ k := fun e => hne (by rw [e])
    unfold sortWorldK grow putRowK putRow mapBlock
    simp only [Array.getElem?_append]
    rw [if_pos (by simpa [Go.Sort.ahead] using hk)]
    simp [Go.Sort.ahead, Array.getElem?_modify, hne']
theorem OwnS.sorted (h : OwnS w base 8 (some ⟨g, off, none⟩) l.length cap (ords l)) (h0 : 0 < l.length) (hs : l'.length = l.length) (n : Nat) (os : Array Obj) :
    OwnS (sortWorldK Order.vals 8 w g off n l'.toArray os) base 8 (some ⟨g, off, none⟩) l.length cap (ords l') := by
  obtain ⟨hH, hgl⟩ := h.holdsK h0
  have hH' := holdsK_sortWorldK_c Order.vals 8 w g off l.toArray l'.toArray n os hH hgl (by simpa using hs)
  obtain ⟨g', off', e, hb, hl, h1, h2⟩ := h.cell h0
  cases e
  have hg := sort_grown (off := off) n l'.toArray os hgl
  refine ⟨by rw [ords_len, hs], h.le, h.max, fun _ => ⟨g, off, rfl, hb, Nat.lt_of_lt_of_le hl hg.size, fun j hj => ?_, fun j hj => ?_⟩⟩
  · rw [flat_getb l' (by omega)]
    exact (hH' j (by simpa [hs] using hj)).1
  · by_cases hj' : j < l.length * 8
    · have := hH' j (by simpa [hs] using hj')
      exact ⟨by rw [this.1]; rfl, this.2⟩
    · have hz : (putRowK Order.vals 8 (Go.Sort.ahead w n) g off l'.toArray).heap.size = w.heap.size := by unfold putRowK; rw [size_putRow]; rfl
      have e1 : (sortWorldK Order.vals 8 w g off n l'.toArray os).cell? ⟨g, off + j, none⟩ = w.cell? ⟨g, off + j, none⟩ := by
        unfold sortWorldK
        rw [cell?_grow _ _ _ (by rw [hz]; exact hgl)]
        have hfs : (flatK Order.vals 8 l'.toArray).size = l'.length * 8 := by rw [size_flatK]; simp
        have ho : off + (flatK Order.vals 8 l'.toArray).size ≤ off + j := by rw [hfs]; omega
        exact cell?_putRow_other id (Go.Sort.ahead w n) g off _ _ (.inr (.inr ho))
      have e2 : (sortWorldK Order.vals 8 w g off n l'.toArray os).frozen? ⟨g, off + j, none⟩ = w.frozen? ⟨g, off + j, none⟩ := by
        unfold sortWorldK
        rw [frozen?_grow _ _ _ (by rw [hz]; exact hgl)]
        exact frozen?_putRow id (Go.Sort.ahead w n) g off _ _
      rw [e1, e2]
      exact h2 j hj
end
/-- what a comparison is asked to do -/
def CmpO (g : Nat) (cf : Order → Order → Int) : Prop := ∀ (x y : Order) (w : World), Calls Tryd.prog g #[.agg x.vals.toArray, .agg y.vals.toArray] w fun e w' => e = .returned (.int .i64 (cf x y)) ∧ ∃ q os, w' = grow (w.drewN q) os
def SortPost (l : List Order) (base : Nat) (A : Option Addr) (cap : Nat) (w : World) (e : Ending) (w' : World) : Prop := e = .returned (.tuple #[]) ∧ OwnS w' base 8 A l.length cap (ords l) ∧ w.grownBy w' (rowOf A cap)
theorem isort_size (cf : Order → Order → Int) (l : List Order) : (isort (ltOf cf) l).length = l.length := isort_len _ l
set_option maxRecDepth 100000 in
theorem insert_any (cf : Order → Order → Int) (f : Nat) (eg : ∀ args w, (callFunc f args).run Tryd.prog w = .ok (.enter f args) w) (hc : CmpO f cf) (l : List Order) (base : Nat) (A : Option Addr) (cap : Nat) (w : World) (h : OwnS w base 8 A l.length cap (ords l)) (h0 : 0 < l.length) (hl : l.length ≤ 1000) :
    Calls Tryd.prog 115 #[.slice A l.length cap, .int .i64 0, .int .i64 l.length, .func (.func f) #[] #[]] w (SortPost (isort (ltOf cf) l) base A cap w) := by
  obtain ⟨g, off, rfl, _, hgl, _, _⟩ := h.cell h0
  obtain ⟨hH, _⟩ := h.holdsK h0
  have hle := h.le
  have hsz : l.toArray.size = l.length := by simp
  have := AnyQ.insertionSortCmpFunc srho_lays 8 srho_agg srho_size Order.vals Order.vals_len Order.vals_one cf f #[] g off cap 0 l.length l.toArray w eg (fun m os dk _ x y => hc x y _) hH hgl (Nat.zero_le _) (by rw [hsz]; exact Nat.le_refl _) (by rw [hsz]; omega)
  rw [hsz] at this
  refine this.mono ?_
  rintro e w' ⟨rfl, n, os, rfl⟩
  rw [insertion_isort]
  have hr : rowOf (some (⟨g, off, none⟩ : Addr)) cap = some g := by rw [rowOf, if_neg (by omega)]; rfl
  exact ⟨rfl, by rw [isort_size]; exact h.sorted h0 (isort_size cf l) n os, by rw [hr]; exact sort_grown n _ os hgl⟩
end Go.Proofs.YtiaofbkhnodbhaaDoor
