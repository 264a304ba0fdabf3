/- Any number of cells of a block at once (World.setCells: what the store of a struct by wpList_store_mid leaves). -/
import Derived.Test.YtodkhhanlhelnaaGrpA
import Derived.Deep.MidRow
namespace Go.Proofs.Ytodkhhanlhelnaa
set_option linter.all false
open Go Go.RowKit
/-- cells of an array, from i on, put anew -/
def putN (cs : Array Value) : Nat → List Value → Array Value
  | _, [] => cs
  | i, v :: vs => putN (cs.setIfInBounds i v) (i + 1) vs
theorem putN_all : ∀ (vs : List Value) (i : Nat) (cs : Array Value), i + vs.length = cs.size → putN cs i vs = (cs.toList.take i ++ vs).toArray
  | [], i, cs, h => by
    show cs = _
    rw [List.append_nil, List.take_of_length_le (by simp at h; simp; omega)]
  | v :: vs, i, cs, h => by
    simp only [List.length_cons] at h
    show putN (cs.setIfInBounds i v) (i + 1) vs = _
    rw [putN_all vs (i + 1) _ (by simp; omega)]
    congr 1
    have hi : i < cs.toList.length := by simp; omega
    rw [Array.toList_setIfInBounds, List.take_add_one, List.take_set_of_le (Nat.le_refl _), List.getElem?_set_self hi]
    simp
section
variable {g k : Nat} {t : TypeId}
theorem Bk.setP : ∀ {vs : List Value} {i : Nat} {w : World} {cs : Array Value}, Bk w g t cs → Bk (w.setCells g i vs) g t (putN cs i vs)
  | [], _, _, _, h => h
  | v :: vs, i, w, cs, h => (h.set_ i v).setP
/-- all cells of a block -/
theorem Bk.setCs {vs : List Value} {w : World} {cs : Array Value} (h : Bk w g t cs) (hl : vs.length = cs.size) : Bk (w.setCells g 0 vs) g t vs.toArray := by
  have := h.setP (vs := vs) (i := 0)
  rw [putN_all vs 0 cs (by omega)] at this
  simpa using this
theorem Bk.farCs {cs : Array Value} (hg : k ≠ g) : ∀ {vs : List Value} {i : Nat} {w : World}, Bk w k t cs → Bk (w.setCells g i vs) k t cs
  | [], _, _, h => h
  | v :: vs, i, w, h => by have := Bk.farCs hg (vs := vs) (i := i + 1) (h.far (p := ⟨g, i, none⟩) hg v); exact this
theorem below_Cs {w : World} {lo : Nat} (hg : lo ≤ g) : ∀ {vs : List Value} {i : Nat} {w1 : World}, Below lo w w1 → Below lo w (w1.setCells g i vs)
  | [], _, _, h => h
  | v :: vs, i, _, h => by have := below_Cs hg (vs := vs) (i := i + 1) (h.setCell (p := ⟨g, i, none⟩) hg v); exact this
theorem Bk.there {w : World} {cs : Array Value} (h : Bk w g t cs) : w.there g 0 cs.size := fun j hj => by
  rw [Nat.zero_add]
  exact ⟨by rw [h.cell, Array.getElem?_eq_getElem hj]; rfl, h.free j⟩
theorem Bk.there_at {w : World} {cs : Array Value} (h : Bk w g t cs) {o n : Nat} (ho : o + n ≤ cs.size) : w.there g o n := fun j hj => by
  exact ⟨by rw [h.cell, Array.getElem?_eq_getElem (by omega)]; rfl, h.free _⟩
theorem Bk.range {w : World} {cs : Array Value} (h : Bk w g t cs) : w.rangeAt g 0 cs.toList := fun j v hv => by
  rw [Nat.zero_add, h.cell, ← hv, Array.getElem?_toList]
end
/-- two results: a variable that lies in memory, and a slot -/
theorem results_ct {P : Program} {fn : Func} {tmps : Array Value} {c d : Nat} {t : TypeId} {w : World} {p : Addr} {v u : Value} (hf : fn.results = #[.cell c t, .tmp d]) (hc : tmps.getD c undef = .pointer (some p)) (hd : tmps.getD d undef = u) (hl : (loadVar t p).run P w = .ok v w) : (results fn tmps).run P w = .ok (.tuple #[v, u]) w := by
  have hc' : tmps[c]?.getD undef = .pointer (some p) := by rw [← hc, Array.getD_eq_getD_getElem?]
  have hd' : tmps[d]?.getD undef = u := by rw [← hd, Array.getD_eq_getD_getElem?]
  unfold results
  rw [hf]
  generalize loadVar = F at hl ⊢
  simp [hc', hd', hl, asAddr, go_sem]
end Go.Proofs.Ytodkhhanlhelnaa
