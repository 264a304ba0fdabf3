/- The contract of the reference's Without. -/
import Derived.Test.YtbnjkcgkdpildaaRQueue
namespace Go.Proofs.Ytbnjkcgkdpildaa
set_option linter.all false
open Go Go.RowKit
theorem Rd.drop {l : List Rest} {w : World} {B k c b off : Nat} (hr : Rd w B (some ⟨b, off, none⟩) l.length 5 (rcell l)) (hc : l.length ≤ c) : Rd w B (some (if c = k then ⟨b, off, none⟩ else ⟨b, off + k * 5, none⟩)) (l.drop k).length 5 (rcell (l.drop k)) := by
  intro hn
  rw [List.length_drop] at hn
  obtain ⟨b', off', e, hb, hx⟩ := hr (by omega)
  cases e
  rw [if_neg (by omega)]
  refine ⟨b, off + k * 5, rfl, hb, fun i hi j hj => ?_⟩
  rw [List.length_drop] at hi
  have := hx (k + i) (by omega) j hj
  rw [show off + k * 5 + (i * 5 + j) = off + ((k + i) * 5 + j) by omega, this]
  simp only [rcell, List.getD_eq_getElem?_getD, List.getElem?_drop]
/-- a new slice of the call's own -/
def NewRests (l : List Rest) (w : World) (e : Ending) (w' : World) : Prop :=
  ∃ A' c', e = .returned (.slice A' l.length c') ∧ OwnS w' w.heap.size 5 A' l.length c' (rows l) ∧ Below w.heap.size w w'
theorem grown_none {w w' : World} (h : w.grownBy w' none) : Below w.heap.size w w' := ⟨h.os, h.tape, h.output, h.size, fun k hk => h.block k hk (by simp)⟩
theorem src_rests {w : World} {B c : Nat} {A : Option Addr} {l : List Rest} (h : Rd w B A l.length 5 (rcell l)) (hA : A = none → l.length = 0) : Src Try.prog 5 27 (.slice A l.length c) l.length (rows l) w :=
  src_rd h Try.underlying27 (rows_len l) (fun i j hi hj => rows_get hi hj) (rows_one l) hA
end Go.Proofs.Ytbnjkcgkdpildaa
