/- When a log has stopped it has stopped: plain. -/
import Derived.Test.YtkdgpdijbobmkaaGreatDoorLrPlain
namespace Go.Proofs.YtkdgpdijbobmkaaGreatDoor
set_option linter.all false
open Go Go.RowKit
abbrev lsC0 : Cmd := ⟨2, ⟨7, 0, 0, 0, 0, 0, 0, 0⟩, 0, 0⟩
abbrev lsC1 : Cmd := ⟨4, ⟨0, 0, 0, 0, 0, 0, 0, 0⟩, 1, 1⟩
abbrev lsC2 : Cmd := ⟨4, ⟨0, 0, 0, 0, 0, 0, 0, 0⟩, 2, 9⟩
def fP : Nat → FS
  | 0 => FS.new 0
  | k + 1 => (fP k).doS lsC1
def fpB (k : Nat) : Bool := (fP k).doE lsC0 == 5 && (fP k).doE lsC1 == 0 && (fP k).doE lsC2 == 0 && (((fP k).doS lsC2).S 2).cash == 9
theorem fp_all : ((List.range 22).all fpB) = true := by kernel_rfl
theorem fp_at {k : Nat} (h : k ≤ 21) : (fP k).doE lsC0 = 5 ∧ (fP k).doE lsC1 = 0 ∧ (fP k).doE lsC2 = 0 ∧ (((fP k).doS lsC2).S 2).cash = 9 := by
  have := List.all_eq_true.1 fp_all k (List.mem_range.2 (by omega))
  unfold fpB at this
  simp only [Bool.and_eq_true, beq_iff_eq] at this
  exact ⟨this.1.1.1, this.1.1.2, this.1.2, this.2⟩
theorem fP_ok : ∀ k, FSOk (fP k)
  | 0 => FSOk.new 0
  | k + 1 => (fP_ok k).do _
theorem c1_err : lsC1.err = 0 := by decide
theorem c1_size : (enc lsC1).size = 7 := by rw [enc_size, body_len]; decide
def repB (k : Nat) : List UInt8 := packB (List.replicate k lsC1)
theorem repB_succ (k : Nat) : repB (k + 1) = UInt8.ofNat (enc lsC1).size :: ((enc lsC1).data.toList ++ repB k) := by
  unfold repB packB
  rw [List.replicate_succ, List.flatMap_cons]
  simp
theorem repB_len (k : Nat) : (repB k).length = 8 * k := by
  induction k with
  | zero => rfl
  | succ k ih => rw [repB_succ, List.length_cons, List.length_append, ih, enc_data, c1_size]; omega
theorem repB_snoc (k : Nat) : repB (k + 1) = repB k ++ packB [lsC1] := by
  unfold repB
  rw [List.replicate_succ', packB_app]
theorem ext0 (l : List UInt8) (n : Nat) : (⟨l.toArray⟩ : ByteArray).extract 0 n = ⟨(l.take n).toArray⟩ := by
  rw [ByteArray.extract_mk]; simp
/-- bytes of k commands, so many of them -/
def U (k m : Nat) : ByteArray := ⟨((repB k).take m).toArray⟩
theorem U_size {k m : Nat} (h : m ≤ 8 * k) : (U k m).size = m := by rw [U, ba_size, List.length_take, repB_len]; omega
theorem nx_cons {c : Cmd} (r : List UInt8) (h : c.err = 0) : nxC ⟨(UInt8.ofNat (enc c).size :: ((enc c).data.toList ++ r)).toArray⟩ = some (c, ⟨r.toArray⟩) := by
  have he := enc_len h
  have hn : (UInt8.ofNat (enc c).size).toNat = (enc c).size := by rw [UInt8.toNat_ofNat']; omega
  have hx : nxE ⟨(UInt8.ofNat (enc c).size :: ((enc c).data.toList ++ r)).toArray⟩ = 1 + (enc c).size := by rw [nxE, byt_mk, hn]; simp
  have hs : (⟨(UInt8.ofNat (enc c).size :: ((enc c).data.toList ++ r)).toArray⟩ : ByteArray).size = 1 + ((enc c).size + r.length) := by rw [ba_size, List.length_cons, List.length_append, enc_data]; omega
  rw [nxC, if_neg (by rw [hs, hx]; omega), hx]
  have e1 : (⟨(UInt8.ofNat (enc c).size :: ((enc c).data.toList ++ r)).toArray⟩ : ByteArray).extract 1 (1 + (enc c).size) = enc c := by
    rw [ByteArray.extract_mk]
    conv => rhs; rw [enc_mk c]
    congr 2
    rw [List.drop_succ_cons, List.drop_zero, List.take_append_of_le_length (by rw [enc_data]; omega), List.take_of_length_le (by rw [enc_data]; omega)]
  have e2 : (⟨(UInt8.ofNat (enc c).size :: ((enc c).data.toList ++ r)).toArray⟩ : ByteArray).extract (1 + (enc c).size) (⟨(UInt8.ofNat (enc c).size :: ((enc c).data.toList ++ r)).toArray⟩ : ByteArray).size = ⟨r.toArray⟩ := by
    rw [hs, ByteArray.extract_mk]
    congr 2
    rw [show 1 + (enc c).size = (enc c).size + 1 by omega, List.drop_succ_cons, List.drop_append_of_le_length (by rw [enc_data]; exact Nat.le_refl _), List.drop_of_length_le (by rw [enc_data]; exact Nat.le_refl _), List.nil_append, List.take_of_length_le (by omega)]
  rw [e1, e2, rdC_iff.2 ⟨h, rfl⟩]
theorem nx_U {k m : Nat} (h : 8 ≤ m) : nxC (U (k + 1) m) = some (lsC1, U k (m - 8)) := by
  have e : U (k + 1) m = ⟨(UInt8.ofNat (enc lsC1).size :: ((enc lsC1).data.toList ++ (repB k).take (m - 8))).toArray⟩ := by
    unfold U
    obtain ⟨j, rfl⟩ : ∃ j, m = j + 8 := ⟨m - 8, by omega⟩
    rw [repB_succ, List.take_succ_cons, List.take_append, enc_data, c1_size, List.take_of_length_le (by rw [enc_data, c1_size]; omega), show j + 7 - 7 = j by omega, show j + 8 - 8 = j by omega]
  rw [e, nx_cons _ c1_err]
  rfl
theorem nx_short {k m : Nat} (h : m < 8) : nxC (U (k + 1) m) = none := by
  have hs : (U (k + 1) m).size = m := U_size (by omega)
  rcases Nat.eq_zero_or_pos m with h0 | h0
  · rw [nxC, if_pos (.inl (by rw [hs, h0]))]
  · have hx : nxE (U (k + 1) m) = 8 := by
      obtain ⟨j, rfl⟩ : ∃ j, m = j + 1 := ⟨m - 1, by omega⟩
      unfold U
      rw [repB_succ, List.take_succ_cons, nxE, byt_mk, c1_size]
      decide
    rw [nxC, if_pos (.inr (by rw [hs, hx]; exact h))]
theorem nx_none (m : Nat) : nxC (U 0 m) = none := by
  have hs : (U 0 m).size = 0 := by rw [U, ba_size, List.length_take, repB_len]; omega
  rw [nxC, if_pos (.inl hs)]
theorem redo_U : ∀ (k n i m : Nat), m ≤ 8 * k → i + k ≤ 21 → ∃ j, j ≤ 21 ∧ (redoF n (fP i) (U k m)).1 = fP j
  | _, 0, i, _, _, hi => ⟨i, by omega, rfl⟩
  | 0, n + 1, i, m, _, hi => ⟨i, by omega, by rw [redoF, nx_none]⟩
  | k + 1, n + 1, i, m, hm, hi => by
    by_cases h : m < 8
    · exact ⟨i, by omega, by rw [redoF, nx_short h]⟩
    · obtain ⟨j, hj, e⟩ := redo_U k n (i + 1) (m - 8) (by omega) (by omega)
      refine ⟨j, hj, ?_⟩
      rw [redoF, nx_U (by omega)]
      dsimp only
      rw [if_neg (by rw [(fp_at (k := i) (by omega)).2.1]; decide)]
      exact e
end Go.Proofs.YtkdgpdijbobmkaaGreatDoor
