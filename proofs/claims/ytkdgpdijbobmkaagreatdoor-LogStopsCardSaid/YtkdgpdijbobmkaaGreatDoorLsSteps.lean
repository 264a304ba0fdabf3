/- A log that goes, stops, crashes, and goes on: plain. -/
import Derived.Test.YtkdgpdijbobmkaaGreatDoorLsPlain
namespace Go.Proofs.YtkdgpdijbobmkaaGreatDoor
set_option linter.all false
open Go Go.RowKit
/-- behind so many steps it goes -/
structure LsGo (n t : Nat) (s : LgS) : Prop where
  mode : s.mode = 0
  at_ : ∃ k, k ≤ t ∧ s.f = fP k ∧ s.b = U k (8 * k)
  safe0 : 0 ≤ s.safe
  safe1 : s.safe ≤ s.b.size
  le : t ≤ n
  few : n ≤ 20
  left : s.left = (n : Int) - t
  run : s.stopped = false
/-- it has stopped -/
structure LsSt (s : LgS) : Prop where
  mode : s.mode = 0
  at_ : ∃ k m, k ≤ 21 ∧ m ≤ 8 * k ∧ s.b = U k m
  ok : FSOk s.f
  safe0 : 0 ≤ s.safe
  safe1 : s.safe ≤ s.b.size
  left0 : -1 ≤ s.left
  left1 : s.left ≤ 100
  run : s.stopped = true
theorem U_all (k : Nat) : U k (8 * k) = packS (List.replicate k lsC1) := by
  unfold U packS
  rw [List.take_of_length_le (by rw [repB_len]; exact Nat.le_refl _)]
  rfl
theorem U_le {k m : Nat} (h : k ≤ 21) (hm : m ≤ 8 * k) : (U k m).size ≤ 168 := by rw [U_size hm]; omega
theorem U_snoc (k : Nat) : U k (8 * k) ++ packS [lsC1] = U (k + 1) (8 * (k + 1)) := by
  rw [U_all, U_all, List.replicate_succ', packS, packS, packS, packB_app, ba_app]
theorem U_half (k : Nat) : U k (8 * k) ++ halfB (packS [lsC1]) = U (k + 1) (8 * k + 4) := by
  have hl : (packB [lsC1]).length = 8 := by
    have := repB_len 1
    unfold repB at this
    exact this
  have hs : (packS [lsC1]).size = 8 := by rw [packS, ba_size, hl]
  unfold halfB
  rw [hs, packS, ext0]
  unfold U
  rw [repB_snoc, List.take_of_length_le (show (repB k).length ≤ 8 * k by rw [repB_len]; exact Nat.le_refl _), ← ba_app]
  congr 2
  rw [List.take_append, repB_len, List.take_of_length_le (l := repB k) (by rw [repB_len]; omega), show 8 * k + 4 - 8 * k = 8 / 2 by omega]
variable {n t : Nat} {s : LgS}
theorem LsGo.good (h : LsGo n t s) : LgOk s := by
  obtain ⟨k, hk, e1, e2⟩ := h.at_
  have := h.le; have := h.few
  exact ⟨by rw [h.mode]; decide, by rw [e1]; exact fP_ok k, h.safe0, h.safe1, by rw [h.left]; omega, by rw [h.left]; omega⟩
theorem LsSt.good (h : LsSt s) : LgOk s := ⟨by rw [h.mode]; decide, h.ok, h.safe0, h.safe1, h.left0, by have := h.left1; omega⟩
theorem LsGo.size (h : LsGo n t s) : s.b.size ≤ 168 := by
  obtain ⟨k, hk, _, e2⟩ := h.at_
  have := h.le; have := h.few
  rw [e2]; exact U_le (by omega) (Nat.le_refl _)
theorem LsSt.size (h : LsSt s) : s.b.size ≤ 168 := by
  obtain ⟨k, m, h1, h2, e⟩ := h.at_
  rw [e]; exact U_le h1 h2
/-- what is none is none, as long as it goes -/
theorem LsGo.none (h : LsGo n t s) : s.doR lsC0 = (5, [], s) := by
  obtain ⟨k, hk, e1, e2⟩ := h.at_
  have := h.le; have := h.few
  have hE : s.f.doE lsC0 = 5 := by rw [e1]; exact (fp_at (k := k) (by omega)).1
  unfold LgS.doR
  rw [if_neg (by rw [h.run]; simp), if_neg (show ¬ (lsC0.err ≠ 0) by decide), if_pos (by rw [hE]; decide), hE]
theorem LsGo.pay (h : LsGo n t s) (ht : t < n) : ∃ V s', s.doR lsC1 = (0, V, s') ∧ LsGo n (t + 1) s' := by
  obtain ⟨k, hk, e1, e2⟩ := h.at_
  have := h.le; have := h.few
  have hE : s.f.doE lsC1 = 0 := by rw [e1]; exact (fp_at (k := k) (by omega)).2.1
  have hl := h.left
  refine ⟨s.f.doV lsC1, { s.step with f := s.f.doS lsC1, b := s.b ++ packS [lsC1] }, ?_, ?_⟩
  · unfold LgS.doR
    rw [if_neg (by rw [h.run]; simp), if_neg (show ¬ (lsC1.err ≠ 0) by decide), if_neg (by rw [hE]; decide), if_neg (by omega)]
  · have eb : s.b ++ packS [lsC1] = U (k + 1) (8 * (k + 1)) := by rw [e2, U_snoc]
    refine ⟨h.mode, ⟨k + 1, by omega, by show s.f.doS lsC1 = _; rw [e1]; rfl, eb⟩, h.safe0, ?_, by omega, h.few, ?_, ?_⟩
    · show s.safe ≤ ((s.b ++ packS [lsC1]).size : Int)
      have := h.safe1
      rw [ByteArray.size_append]; omega
    · show max (-1) (s.left - 1) = _
      omega
    · show decide (s.left = 0) = false
      exact decide_eq_false (by omega)
theorem LsGo.stop (h : LsGo n n s) : ∃ s', s.doR lsC1 = (6, [], s') ∧ LsSt s' := by
  obtain ⟨k, hk, e1, e2⟩ := h.at_
  have := h.le; have := h.few
  have hE : s.f.doE lsC1 = 0 := by rw [e1]; exact (fp_at (k := k) (by omega)).2.1
  have hl := h.left
  refine ⟨{ s.step with f := (redoR s.mode s.b).1, b := s.b ++ halfB (packS [lsC1]) }, ?_, ?_⟩
  · unfold LgS.doR
    rw [if_neg (by rw [h.run]; simp), if_neg (show ¬ (lsC1.err ≠ 0) by decide), if_neg (by rw [hE]; decide), if_pos (by omega)]
  · have eb : s.b ++ halfB (packS [lsC1]) = U (k + 1) (8 * k + 4) := by rw [e2, U_half]
    refine ⟨h.mode, ⟨k + 1, 8 * k + 4, by omega, by omega, eb⟩, redoF_ok _ _ _ (FSOk.new _), h.safe0, ?_, ?_, ?_, ?_⟩
    · show s.safe ≤ ((s.b ++ halfB (packS [lsC1])).size : Int)
      have := h.safe1
      rw [ByteArray.size_append]; omega
    · show -1 ≤ max (-1) (s.left - 1)
      omega
    · show max (-1) (s.left - 1) ≤ 100
      omega
    · show decide (s.left = 0) = true
      exact decide_eq_true (by omega)
theorem LsSt.do (h : LsSt s) (c : Cmd) : s.doR c = (6, [], s) := by unfold LgS.doR; rw [if_pos h.run]
theorem LsGo.sync (h : LsGo n t s) (ht : t < n) : ∃ s', s.syncR = (0, s') ∧ LsGo n (t + 1) s' := by
  obtain ⟨k, hk, e1, e2⟩ := h.at_
  have hl := h.left
  refine ⟨{ s.step with safe := s.b.size }, ?_, ?_⟩
  · unfold LgS.syncR
    rw [if_neg (by rw [h.run]; simp), if_neg (by omega)]
  · refine ⟨h.mode, ⟨k, by omega, e1, e2⟩, ?_, Int.le_refl _, by omega, h.few, ?_, ?_⟩
    · show (0 : Int) ≤ (s.b.size : Int); omega
    · show max (-1) (s.left - 1) = _
      omega
    · show decide (s.left = 0) = false
      exact decide_eq_false (by omega)
theorem LsGo.syncStop (h : LsGo n n s) : ∃ s', s.syncR = (6, s') ∧ LsSt s' := by
  obtain ⟨k, hk, e1, e2⟩ := h.at_
  have := h.few
  have hl := h.left
  refine ⟨s.step, ?_, ?_⟩
  · unfold LgS.syncR
    rw [if_neg (by rw [h.run]; simp), if_pos (by omega)]
  · refine ⟨h.mode, ⟨k, 8 * k, by omega, Nat.le_refl _, e2⟩, by show FSOk s.f; rw [e1]; exact fP_ok k, h.safe0, h.safe1, ?_, ?_, ?_⟩
    · show -1 ≤ max (-1) (s.left - 1)
      omega
    · show max (-1) (s.left - 1) ≤ 100
      omega
    · show decide (s.left = 0) = true
      exact decide_eq_true (by omega)
theorem LsSt.sync (h : LsSt s) : s.syncR = (6, s) := by unfold LgS.syncR; rw [if_pos h.run]
/-- behind a crash all goes on -/
theorem LsSt.crash (h : LsSt s) (keep : Int) : ∃ j, j ≤ 21 ∧ (s.crash keep).f = fP j ∧ (s.crash keep).b.size ≤ 168 ∧ LgOk (s.crash keep) ∧ (s.crash keep).left = -1 ∧ (s.crash keep).stopped = false := by
  obtain ⟨k, m, hk, hm, e⟩ := h.at_
  obtain ⟨N, hN⟩ : ∃ N, N = (s.safe + max 0 (min keep ((s.b.size : Int) - s.safe))).toNat := ⟨_, rfl⟩
  have hkp : s.kept keep = U k (min N m) := by
    unfold LgS.kept
    rw [← hN, e]
    unfold U
    rw [ext0, List.take_take]
  obtain ⟨j, hj, ej⟩ := redo_U k ((s.kept keep).size + 1) 0 (min N m) (by omega) (by omega)
  have hf : (redoR s.mode (s.kept keep)).1 = fP j := by
    unfold redoR
    rw [h.mode, hkp]
    rw [hkp] at ej
    exact ej
  have hs : ((s.kept keep).extract 0 ((s.kept keep).size - (redoR s.mode (s.kept keep)).2.size)).size ≤ 168 := by
    rw [ByteArray.size_extract]
    have := U_le (k := k) (m := min N m) hk (by omega)
    rw [← hkp] at this
    omega
  refine ⟨j, hj, hf, hs, ⟨by show inb s.mode 0 3 = true; rw [h.mode]; decide, by show FSOk (redoR s.mode (s.kept keep)).1; rw [hf]; exact fP_ok j, ?_, ?_, ?_, ?_⟩, rfl, rfl⟩
  · show (0 : Int) ≤ (((s.kept keep).size - (redoR s.mode (s.kept keep)).2.size : Nat) : Int)
    omega
  · show (((s.kept keep).size - (redoR s.mode (s.kept keep)).2.size : Nat) : Int) ≤ (((s.kept keep).extract 0 ((s.kept keep).size - (redoR s.mode (s.kept keep)).2.size)).size : Int)
    rw [ByteArray.size_extract]; omega
  · show (-1 : Int) ≤ -1; omega
  · show (-1 : Int) ≤ _; omega
theorem ls_after {j : Nat} (hj : j ≤ 21) (hf : s.f = fP j) (hl : s.left = -1) (hr : s.stopped = false) : ∃ V s', s.doR lsC2 = (0, V, s') ∧ s'.f = (fP j).doS lsC2 ∧ s'.left = -1 ∧ s'.stopped = false ∧ s'.mode = s.mode ∧ s'.safe = s.safe ∧ s'.b = s.b ++ packS [lsC2] := by
  have hE : s.f.doE lsC2 = 0 := by rw [hf]; exact (fp_at hj).2.2.1
  refine ⟨s.f.doV lsC2, { s.step with f := s.f.doS lsC2, b := s.b ++ packS [lsC2] }, ?_, by show s.f.doS lsC2 = _; rw [hf], ?_, ?_, rfl, rfl, rfl⟩
  · unfold LgS.doR
    rw [if_neg (by rw [hr]; simp), if_neg (show ¬ (lsC2.err ≠ 0) by decide), if_neg (by rw [hE]; decide), if_neg (by omega)]
  · show max (-1) (s.left - 1) = -1
    omega
  · show decide (s.left = 0) = false
    exact decide_eq_false (by omega)
theorem ls_sync (hl : s.left = -1) (hr : s.stopped = false) : ∃ s', s.syncR = (0, s') ∧ s'.f = s.f := by
  refine ⟨{ s.step with safe := s.b.size }, ?_, rfl⟩
  unfold LgS.syncR
  rw [if_neg (by rw [hr]; simp), if_neg (by omega)]
end Go.Proofs.YtkdgpdijbobmkaaGreatDoor
