/- The contracts of the reference's In, Queue, Total, Without. The contract of the reference's Without. The contracts of the reference's Flat, Of. The contracts of the reference's Count, Twice, Ahead, Levels. The contracts of the reference's At, Find, Whole, Book, Comes. The contracts of the reference's Book, Comes, With, Out. The contracts of the reference's With, Out; what stays while some blocks turn. -/
import Derived.Test.YtiaofbkhnodbhaaGrpB
import Derived.Test.YtiaofbkhnodbhaaGrpD
import Derived.Test.YtiaofbkhnodbhaaGrpH
import Derived.IntWalk
import Derived.Test.YtiaofbkhnodbhaaGrpF
import Derived.Test.YtiaofbkhnodbhaaGrpG
namespace Go.Proofs.Ytiaofbkhnodbhaa
set_option linter.all false
open Go Go.RowKit
theorem rin_any (l : List Rest) (A : Option Addr) (c : Nat) (id : Int) (w : World) (hr : Rd w w.heap.size A l.length 5 (rcell l)) (hl : l.length ≤ maxLen) :
    Calls Try.prog 36 #[.slice A l.length c, .int .i64 id] w fun e w' => e = .returned (.int .i64 (findI l id)) ∧ w = w' := by
  have HR := Lib.hid hr
  unfold maxLen at hl
  clear hr
  go_enter Try.func36, Try.ntmps36
  go_wp2
  go_loop [5] (fun i => ∃ k : Nat, k ≤ l.length ∧ i = .int .i64 k ∧ Hid (∀ j, j < k → ∀ u, l[j]? = some u → u.id ≠ id)) (fun i => l.length - (intOf i).toNat)
  case atStart => exact ⟨0, by omega, rfl, Lib.hid fun j hj => absurd hj (by omega)⟩
  case round =>
    obtain ⟨k, hk, rfl, hno⟩ := hrel
    by_cases hlt : k < l.length
    · obtain ⟨b, off, t, rfl, hbl, ht, e0, e1, e2, e3, e4⟩ := rest_at HR.out hlt
      have HT := Lib.hid ht; clear ht
      have i0 : (0 : Int) ≤ (k : Int) := by omega
      have i1 : (k : Int) < (l.length : Int) := by omega
      by_cases h : t.id = id
      · have e : (t.id == id) = true := by simpa using h
        have H := Lib.hid (findI_hit HT.out h hno.out); clear h
        go_wp2
        go_ret
        exact ⟨by rw [H.out]; rfl, rfl⟩
      · have e : (t.id == id) = false := by simpa using h
        have H := Lib.hid h; clear h
        go_wp2
        go_round
        case rel =>
          refine ⟨k + 1, by omega, by go_num, Lib.hid fun j hj u hu => ?_⟩
          by_cases hjk : j < k
          · exact hno.out j hjk u hu
          · obtain rfl : j = k := by omega
            rw [HT.out] at hu
            cases hu
            exact H.out
        case measure => simp [intOf]; omega
    · obtain rfl : k = l.length := by omega
      go_wp2
      go_ret
      exact ⟨by rw [findI_none hno.out]; rfl, rfl⟩
theorem rretQ {l : List Rest} {k : Int} (h : qErr l = k) : Ending.returned (.int .i64 k) = .returned (.int .i64 (qErr l)) := by rw [h]
end Go.Proofs.Ytiaofbkhnodbhaa
namespace Go.Proofs.Ytiaofbkhnodbhaa
set_option linter.all false
open Go Go.RowKit
theorem Rd.drop {l : List Rest} {w : World} {B k c b off : Nat} (hr : Rd w B (some ⟨b, off, none⟩) l.length 5 (rcell l)) (hc : l.length ≤ c) : Rd w B (some (if c = k then ⟨b, off, none⟩ else ⟨b, off + k * 5, none⟩)) (l.drop k).length 5 (rcell (l.drop k)) := by
  intro hn
  rw [List.length_drop] at hn
  obtain ⟨b', off', e, hb, hx⟩ := hr (by omega)
  cases e
  rw [if_neg (by omega)]
  refine ⟨b, off + k * 5, rfl, hb, fun i hi j hj => ?_⟩
  rw [List.length_drop] at hi
  have := hx (k + i) (by omega) j hj
  rw [show off + k * 5 + (i * 5 + j) = off + ((k + i) * 5 + j) by omega, this]
  simp only [rcell, List.getD_eq_getElem?_getD, List.getElem?_drop]
/-- a new slice of the call's own -/
def NewRests (l : List Rest) (w : World) (e : Ending) (w' : World) : Prop :=
  ∃ A' c', e = .returned (.slice A' l.length c') ∧ OwnS w' w.heap.size 5 A' l.length c' (rows l) ∧ Below w.heap.size w w'
theorem grown_none {w w' : World} (h : w.grownBy w' none) : Below w.heap.size w w' := ⟨h.os, h.tape, h.output, h.size, fun k hk => h.block k hk (by simp)⟩
theorem src_rests {w : World} {B c : Nat} {A : Option Addr} {l : List Rest} (h : Rd w B A l.length 5 (rcell l)) (hA : A = none → l.length = 0) : Src Try.prog 5 24 (.slice A l.length c) l.length (rows l) w :=
  src_rd h Try.underlying24 (rows_len l) (fun i j hi hj => rows_get hi hj) (rows_one l) hA
end Go.Proofs.Ytiaofbkhnodbhaa
namespace Go.Proofs.Ytiaofbkhnodbhaa
set_option linter.all false
open Go Go.RowKit
theorem rof_any (v1 v2 : Value) (s : Int) (A1 A2 : Option Addr) (n1 n2 c1 c2 : Nat) (w : World) :
    Calls Try.prog 35 #[.agg #[.slice A1 n1 c1, .slice A2 n2 c2], .int .i64 s] w fun e w' => e = .returned (if s = 1 then .slice A1 n1 c1 else .slice A2 n2 c2) ∧ Below w.heap.size w w' := by
  by_cases h : s = 1
  · rw [if_pos h]
    subst h
    go_enter Try.func35, Try.ntmps35
    go_wp2
    go_ret
    exact ⟨rfl, (Below.refl _ _).alloc (Nat.le_refl _) _⟩
  · rw [if_neg h]
    have h1 : (s == 1) = false := by simpa using h
    clear h
    go_enter Try.func35, Try.ntmps35
    go_wp2
    go_ret
    exact ⟨rfl, (Below.refl _ _).alloc (Nat.le_refl _) _⟩
end Go.Proofs.Ytiaofbkhnodbhaa
namespace Go.Proofs.Ytiaofbkhnodbhaa
set_option linter.all false
open Go Go.RowKit
theorem tw_hit {l : List Rest} {k : Nat} {r : Rest} (h : l[k]? = some r) (hf : 0 ≤ findI (l.take k) r.id) : twice [] (l.map Rest.id) = true := by
  cases ht : twice [] (l.map Rest.id)
  · exfalso
    rw [twice_nil] at ht
    have hm : r.id ∈ (l.take k).map Rest.id := by
      by_cases h1 : r.id ∈ (l.take k).map Rest.id
      · exact h1
      · exact absurd hf (findI_neg.2 h1)
    have hk := (List.getElem?_eq_some_iff.1 h).1
    have e : l = l.take k ++ r :: l.drop (k + 1) := by
      rw [← (List.getElem?_eq_some_iff.1 h).2, ← List.drop_eq_getElem_cons hk, List.take_append_drop]
    rw [e, List.map_append, List.nodup_append] at ht
    exact ht.2.2 _ hm _ (by simp) rfl
  · rfl
theorem tw_none {l : List Rest} (h : ∀ k r, l[k]? = some r → findI (l.take k) r.id < 0) : twice [] (l.map Rest.id) = false := by
  rw [twice_nil, List.Nodup, List.pairwise_iff_getElem]
  intro i j hi hj hij e
  rw [List.length_map] at hi hj
  rw [List.getElem_map, List.getElem_map] at e
  have h1 := h j l[j] (List.getElem?_eq_getElem hj)
  have : ¬ 0 ≤ findI (l.take j) l[j].id := by omega
  rw [findI_neg] at this
  apply this
  rw [← e]
  exact List.mem_map.2 ⟨l[i], List.mem_of_getElem? (by rw [List.getElem?_take_of_lt hij]; exact List.getElem?_eq_getElem hi), rfl⟩
end Go.Proofs.Ytiaofbkhnodbhaa
namespace Go.Proofs.Ytiaofbkhnodbhaa
set_option linter.all false
open Go Go.RowKit
end Go.Proofs.Ytiaofbkhnodbhaa
namespace Go.Proofs.Ytiaofbkhnodbhaa
set_option linter.all false
open Go Go.RowKit
end Go.Proofs.Ytiaofbkhnodbhaa
namespace Go.Proofs.Ytiaofbkhnodbhaa
set_option linter.all false
open Go Go.RowKit
end Go.Proofs.Ytiaofbkhnodbhaa
