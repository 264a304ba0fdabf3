/- The contracts of queue.Find and queue.Check. -/
import Derived.Test.YtbnjkcgkdpildaaDoorQueue
namespace Go.Proofs.YtbnjkcgkdpildaaDoor
set_option linter.all false
open Go.RowKit
/-- cell j of rest i -/
def rcell (l : List Rest) (i j : Nat) : Value := ((l.getD i rest0).vals)[j]?.getD undef
theorem rest_at {l : List Rest} {w : World} {B k : Nat} {A : Option Addr} (hr : Rd w B A l.length 5 (rcell l)) (hk : k < l.length) :
    ∃ b off t, A = some ⟨b, off, none⟩ ∧ b < B ∧ l[k]? = some t ∧ w.cell? ⟨b, off + k * 5, none⟩ = some (.int .i64 t.id) ∧ w.cell? ⟨b, off + k * 5 + 1, none⟩ = some (.int .i64 t.who) ∧ w.cell? ⟨b, off + k * 5 + 2, none⟩ = some (.int .i64 t.qty) ∧ w.cell? ⟨b, off + k * 5 + 3, none⟩ = some (.int .i64 t.hidden) ∧ w.cell? ⟨b, off + k * 5 + 4, none⟩ = some (.int .i64 t.show_) := by
  obtain ⟨b, off, e, hb, hc⟩ := hr (by omega)
  have hg : l.getD k rest0 = l[k] := by simp [hk]
  have h := hc k hk
  have h0 := h 0 (by omega); have h1 := h 1 (by omega); have h2 := h 2 (by omega); have h3 := h 3 (by omega); have h4 := h 4 (by omega)
  simp only [rcell, hg, Rest.vals] at h0 h1 h2 h3 h4
  exact ⟨b, off, l[k], e, hb, List.getElem?_eq_getElem hk, h0, h1, h2, h3, h4⟩
/-- where an id is; -1: nowhere -/
def findI (l : List Rest) (id : Int) : Int := match l.findIdx? (fun r => r.id == id) with
  | some i => i
  | none => -1
theorem findI_hit {l : List Rest} {id : Int} {k : Nat} {t : Rest} (h : l[k]? = some t) (ht : t.id = id) (hno : ∀ j, j < k → ∀ u, l[j]? = some u → u.id ≠ id) : findI l id = k := by
  have hk : k < l.length := (List.getElem?_eq_some_iff.1 h).1
  have : l.findIdx? (fun r => r.id == id) = some k := by
    rw [List.findIdx?_eq_some_iff_getElem]
    refine ⟨hk, ?_, fun j hj => ?_⟩
    · rw [(List.getElem?_eq_some_iff.1 h).2]; simpa using ht
    · have := hno j hj l[j] (List.getElem?_eq_getElem (by omega))
      simpa using this
  simp [findI, this]
theorem findI_none {l : List Rest} {id : Int} (hno : ∀ j, j < l.length → ∀ u, l[j]? = some u → u.id ≠ id) : findI l id = -1 := by
  have : l.findIdx? (fun r => r.id == id) = none := by
    rw [List.findIdx?_eq_none_iff]
    intro x hx
    obtain ⟨j, hj⟩ := List.mem_iff_getElem?.1 hx
    have hl : j < l.length := (List.getElem?_eq_some_iff.1 hj).1
    have := hno j hl x hj
    simpa using this
  simp [findI, this]
theorem find_fn (r : Rest) (id : Int) (p : Addr) (w : World) (hp : w.cell? p = some (.int .i64 id)) :
    Calls Tryd.prog 82 #[.agg #[.int .i64 r.id, .int .i64 r.who, .int .i64 r.qty, .int .i64 r.hidden, .int .i64 r.show_], .pointer (some p)] w fun e w' => e = .returned (.bool (r.id == id)) ∧ w' = w.alloc (.cells #[.int .i64 r.id, .int .i64 r.who, .int .i64 r.qty, .int .i64 r.hidden, .int .i64 r.show_] 23) := by
  have hp2 : (w.alloc (.cells #[.int .i64 r.id, .int .i64 r.who, .int .i64 r.qty, .int .i64 r.hidden, .int .i64 r.show_] 23)).cell? p = some (.int .i64 id) := cell_alloc hp _
  go_enter Tryd.func82, Tryd.ntmps82
  go_wp2
  go_ret
  exact ⟨rfl, rfl⟩
/-- how IndexFunc ends -/
def FindPost (l : List Rest) (id : Int) (w : World) (e : Ending) (w' : World) : Prop := e = .returned (.int .i64 (findI l id)) ∧ Below w.heap.size w w'
theorem index_any (l : List Rest) (A : Option Addr) (c : Nat) (id : Int) (g : Nat) (w : World) (hr : Rd w w.heap.size A l.length 5 (rcell l)) (hp : w.cell? ⟨g, 0, none⟩ = some (.int .i64 id)) (hl : l.length ≤ 100) :
    Calls Tryd.prog 81 #[.slice A l.length c, .func (Fn.func 82) #[] #[.pointer (some ⟨g, 0, none⟩)]] w (FindPost l id w) := by
  go_enter Tryd.func81, Tryd.ntmps81
  go_wp2
  go_loopw [8] (fun i wr => ∃ k : Nat, k ≤ l.length ∧ i = .int .i64 k ∧ Below w.heap.size w wr ∧ Hid (∀ j, j < k → ∀ u, l[j]? = some u → u.id ≠ id)) (fun i _ => l.length - (intOf i).toNat)
  case atStart => exact ⟨0, by omega, rfl, Below.refl _ _, fun j hj => absurd hj (by omega)⟩
  case round =>
    obtain ⟨k, hk, rfl, hb, hno⟩ := hrel
    by_cases hlt : k < l.length
    · obtain ⟨b, off, t, rfl, hbl, ht, e0, e1, e2, e3, e4⟩ := rest_at (hr.below hb) hlt
      have HT := Lib.hid ht; clear ht hr
      have hp2 : wr.cell? ⟨g, 0, none⟩ = some (.int .i64 id) := (hb.cell (p := ⟨g, 0, none⟩) (World.block_lt_of_cell? w _ hp)).trans hp
      have cF := find_fn t id ⟨g, 0, none⟩ wr hp2
      clear hp hp2
      by_cases h : t.id = id
      · have e : (t.id == id) = true := by simpa using h
        rw [e] at cF
        have H := Lib.hid h; clear h e
        go_wp2_with (go_at_call 82; refine cF.mono ?_; rintro e w' ⟨rfl, rfl⟩)
        go_ret
        exact ⟨by rw [findI_hit HT.out H.out hno]; rfl, hb.alloc hb.size _⟩
      · have e : (t.id == id) = false := by simpa using h
        rw [e] at cF
        have H := Lib.hid h; clear h e
        go_wp2_with (go_at_call 82; refine cF.mono ?_; rintro e w' ⟨rfl, rfl⟩)
        go_roundw
        case rel =>
          refine ⟨k + 1, by omega, by go_num, hb.alloc hb.size _, fun j hj u hu => ?_⟩
          by_cases hjk : j < k
          · exact hno j hjk u hu
          · obtain rfl : j = k := by omega
            rw [HT.out] at hu
            cases hu
            exact H.out
        case measure => simp [intOf]; omega
    · obtain rfl : k = l.length := by omega
      go_wp2
      go_ret
      exact ⟨by rw [findI_none hno]; rfl, hb⟩
theorem find_any (l : List Rest) (A : Option Addr) (c : Nat) (id : Int) (w : World) (hr : Rd w w.heap.size A l.length 5 (rcell l)) (hl : l.length ≤ 100) :
    Calls Tryd.prog 58 #[.slice A l.length c, .int .i64 id] w fun e w' => e = .returned (.int .i64 (findI l id)) ∧ Below w.heap.size w w' := by
  have hb : Below w.heap.size w (w.alloc (.cells #[.int .i64 id] 3)) := (Below.refl _ _).alloc (Nat.le_refl _) _
  have cI := index_any l A c id w.heap.size (w.alloc (.cells #[.int .i64 id] 3)) ((hr.below hb).more hb.size) (cell_of_row _ _ 0 _ _ (0, 0) (heap_alloc_new w _)) hl
  clear hr
  go_enter Tryd.func58, Tryd.ntmps58
  go_wp2_with (go_at_call 81; refine cI.mono ?_; rintro e w' ⟨rfl, hb2⟩)
  go_ret
  exact ⟨rfl, below_then hb2 hb⟩
end Go.Proofs.YtbnjkcgkdpildaaDoor
