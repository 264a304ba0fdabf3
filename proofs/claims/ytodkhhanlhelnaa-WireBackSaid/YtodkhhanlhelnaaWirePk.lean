/- The contract of wire.Pack. -/
import Derived.Test.YtodkhhanlhelnaaCmds
namespace Go.Proofs.Ytodkhhanlhelnaa
set_option linter.all false
open Go Go.RowKit
/-- commands that are right, as bytes, each behind how long it is -/
def packB (l : List Cmd) : List UInt8 := l.flatMap fun c => UInt8.ofNat (enc c).size :: (enc c).data.toList
def packS (l : List Cmd) : ByteArray := ⟨(packB l).toArray⟩
def firstE (l : List Cmd) : Int := match l.find? (fun c => c.err != 0) with
  | none => 0
  | some c => c.err
def packE (l : List Cmd) : Int := if 400 < l.length then 4 else firstE l
theorem enc_len {c : Cmd} (h : c.err = 0) : 4 ≤ (enc c).size ∧ (enc c).size ≤ 18 := by
  have hl := enc_size c
  rw [body_len] at hl
  have hk := Cmd.kind0 h
  rcases hk with h1 | h1 | h1 | h1 | h1 <;> (rw [h1] at hl; simp at hl; omega)
theorem packB_app (a b : List Cmd) : packB (a ++ b) = packB a ++ packB b := List.flatMap_append
theorem ba_app (a b : List UInt8) : (⟨(a ++ b).toArray⟩ : ByteArray) = ⟨a.toArray⟩ ++ ⟨b.toArray⟩ := by
  apply ByteArray.ext
  simp
theorem ba_data (s : ByteArray) : (⟨s.data.toList.toArray⟩ : ByteArray) = s := by
  apply ByteArray.ext
  simp
theorem packS_snoc {l : List Cmd} {k : Nat} {c : Cmd} (hc : l[k]? = some c) (h : c.err = 0) : packS (l.take (k + 1)) = packS (l.take k) ++ (strOf [((enc c).size : Int)] ++ enc c) := by
  have e := enc_len h
  have ht : l.take (k + 1) = l.take k ++ [c] := by rw [List.take_add_one, hc]; rfl
  rw [ht, packS, packB_app, ba_app]
  congr 1
  have h1 : strOf [((enc c).size : Int)] = ⟨[UInt8.ofNat (enc c).size].toArray⟩ := by
    apply ByteArray.ext
    rw [← Array.toList_inj, strOf_data]
    simp
  rw [h1]
  conv => rhs; rw [← ba_data (enc c)]
  rw [← ba_app]
  simp [packB]
theorem packS_size {l : List Cmd} (h : ∀ c ∈ l, c.err = 0) : (packS l).size ≤ l.length * 19 := by
  induction l with
  | nil => exact Nat.zero_le _
  | cons c l ih =>
    have := ih (fun x hx => h x (List.mem_cons_of_mem _ hx))
    have := enc_len (h c (List.mem_cons_self ..))
    have e : (packS (c :: l)).size = (1 + (enc c).size) + (packS l).size := by
      simp only [packS, packB, List.flatMap_cons, ByteArray.size, List.size_toArray, List.length_append, List.length_cons, Array.length_toList]
      omega
    rw [e, List.length_cons]
    omega
theorem conv_one (x : Int) (w : World) : (convert 33 9 (.slice (some ⟨w.heap.size, 0, none⟩) 1 1)).run Try.prog (w.alloc (.cells #[.int .u8 x] 5)) = .ok (.string (strOf [x])) (w.alloc (.cells #[.int .u8 x] 5)) :=
  own_string (base := w.heap.size) (bs := [x]) (World.ownsRow_lit w _ 1 (Nat.le_refl _) (by decide) rfl) (by decide)
/-- how Pack ends -/
def PkPost (l : List Cmd) (w : World) (e : Ending) (w' : World) : Prop :=
  e = .returned (.tuple #[.string (if packE l = 0 then packS l else ⟨#[]⟩), errV (packE l)]) ∧ Below w.heap.size w w'
theorem firstE_at {l : List Cmd} {k : Nat} {c : Cmd} (hc : l[k]? = some c) (h : c.err ≠ 0) (hno : ∀ j, j < k → ∀ u, l[j]? = some u → u.err = 0) : firstE l = c.err := by
  have hk : k < l.length := (List.getElem?_eq_some_iff.1 hc).1
  have : l.find? (fun c => c.err != 0) = some c := by
    rw [List.find?_eq_some_iff_getElem]
    refine ⟨by simpa using h, k, hk, (List.getElem?_eq_some_iff.1 hc).2, fun j hj => ?_⟩
    have := hno j hj l[j] (List.getElem?_eq_getElem (by omega))
    simpa using this
  rw [firstE, this]
theorem firstE_none {l : List Cmd} (h : ∀ c ∈ l, c.err = 0) : firstE l = 0 := by
  have : l.find? (fun c => c.err != 0) = none := by
    rw [List.find?_eq_none]
    intro x hx
    simpa using h x hx
  rw [firstE, this]
theorem all_of {l : List Cmd} {k : Nat} (hno : ∀ j, j < k → ∀ u, l[j]? = some u → u.err = 0) : ∀ c ∈ l.take k, c.err = 0 := by
  intro c hc
  obtain ⟨j, hj⟩ := List.mem_iff_getElem?.1 hc
  rw [List.getElem?_take] at hj
  split at hj
  · exact hno j (by assumption) c hj
  · cases hj
set_option maxRecDepth 100000 in
set_option maxHeartbeats 4000000 in
theorem pack_any (l : List Cmd) (A : Option Addr) (c : Nat) (w : World) (hr : Rd w w.heap.size A l.length 11 (ccell l)) (hl : l.length ≤ maxLen) :
    Calls Try.prog 9 #[.slice A l.length c] w (PkPost l w) := by
  have HR := Lib.hid hr
  unfold maxLen at hl
  clear hr
  by_cases h4 : 400 < l.length
  · have HE := Lib.hid (show packE l = 4 from if_pos h4)
    have h4' : (400 : Int) < (l.length : Int) := by omega
    clear h4
    go_enter Try.func9, Try.ntmps9
    go_wp2
    go_ret2
    refine ⟨?_, Below.refl _ _⟩
    rw [HE.out]
    rfl
  have HE := Lib.hid (show packE l = firstE l from if_neg h4)
  have h4' : ¬ (400 : Int) < (l.length : Int) := by omega
  have h5 : (l.length : Int) ≤ 400 := by omega
  clear h4
  have cz := conv_one
  go_enter Try.func9, Try.ntmps9
  go_wp2
  go_loopw [4, 15] (fun s i wr => ∃ k : Nat, k ≤ l.length ∧ i = .int .i64 k ∧ s = .string (packS (l.take k)) ∧ Below w.heap.size w wr ∧ Hid (∀ j, j < k → ∀ u, l[j]? = some u → u.err = 0)) (fun _ i _ => l.length - (intOf i).toNat)
  case atStart => exact ⟨0, by omega, rfl, rfl, Below.refl _ _, Lib.hid (fun j hj => absurd hj (by omega))⟩
  case round =>
    obtain ⟨k, hk, rfl, rfl, hb, hno⟩ := hrel
    by_cases hlt : k < l.length
    · obtain ⟨b, off, t, rfl, hbl, ht, e0, e1, e2, e3, e4, e5, e6, e7, e8, e9, e10⟩ := cmd_at (HR.out.below hb) hlt
      have HT := Lib.hid ht
      have j0 : (0 : Int) ≤ (k : Int) := by omega
      have j1 : (k : Int) < (l.length : Int) := by omega
      clear ht
      by_cases hc : t.err = 0
      · have HN := Lib.hid (packS_snoc HT.out hc)
        have HC := Lib.hid hc
        have cK := Lib.hid (fun w => command_ok t hc w)
        change Hid (∀ w, Calls _ _ _ _ fun e w' => e = .returned (.tuple #[.string (enc t), .nilIface]) ∧ Below w.heap.size w w') at cK
        have hs1 := packS_size (all_of hno.out)
        have hs2 := (enc_len hc).2
        have hs3 : (l.take k).length ≤ 400 := by rw [List.length_take]; omega
        have hs4 : (packS (l.take k)).size ≤ 7600 := by omega
        have hs5 : ∀ x, (strOf [x]).size = 1 := fun x => strOf_size [x]
        generalize packS (l.take k) = S at *
        generalize enc t = E at *
        clear hs1 hs3 hc
        go_wp2_with (go_at_call 7; refine (cK.out _).mono ?_; rintro e w1 ⟨rfl, hb1⟩)
        go_roundw
        case rel =>
          refine ⟨k + 1, by omega, by go_num, by rw [HN.out], ?_, Lib.hid (fun j hj u hu => ?_)⟩
          · (repeat (first | exact Below.refl _ _ | assumption | (refine below_then (by assumption) ?_) | (refine below_then_alloc ?_) | (refine Below.drew ?_)))
          · rcases Nat.lt_or_ge j k with h | h
            · exact hno.out j h u hu
            · obtain rfl : j = k := by omega
              rw [HT.out] at hu
              cases hu
              exact HC.out
        case measure => simp [intOf]; omega
      · have HF := Lib.hid (show packE l = t.err by rw [HE.out]; exact firstE_at HT.out hc hno.out)
        have HC := Lib.hid hc
        have cK := Lib.hid (fun w => wcommand_bad t hc w)
        clear hc
        generalize hr : t.err = r at *
        clear hr
        go_wp2_with (go_at_call 7; refine (cK.out _).mono ?_; rintro e w1 ⟨rfl, hb1⟩)
        go_ret2
        refine ⟨by rw [HF.out, if_neg HC.out, errV, if_neg HC.out]; rfl, ?_⟩
        (repeat (first | exact Below.refl _ _ | assumption | (refine below_then (by assumption) ?_) | (refine below_then_alloc ?_) | (refine Below.drew ?_)))
    · obtain rfl : k = l.length := by omega
      have ha : ∀ c ∈ l, c.err = 0 := by have := all_of hno.out; rwa [List.take_length] at this
      have HF := Lib.hid (show packE l = 0 by rw [HE.out]; exact firstE_none ha)
      have HS := Lib.hid (show packS (l.take l.length) = packS l by rw [List.take_length])
      clear ha
      go_wp2
      go_ret2
      exact ⟨by rw [HF.out, HS.out]; rfl, hb⟩
end Go.Proofs.Ytodkhhanlhelnaa
