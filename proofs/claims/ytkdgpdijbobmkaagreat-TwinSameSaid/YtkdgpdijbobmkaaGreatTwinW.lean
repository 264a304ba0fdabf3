/- A twin: the contract of Waits. -/
import Derived.Test.YtkdgpdijbobmkaaGreatTwinL
namespace Go.Proofs.YtkdgpdijbobmkaaGreat
set_option linter.all false
open Go Go.RowKit Go.Maps Go.Sort Go.Shelf
theorem wkeys_perm {w : World} {b n : Nat} {D : DataW Unit} {W : List (Int × Cmd)} (ho : w.ownsMap Tryz.prog 3 cmdElem b n D) (hr : WRep D W) : (wkeys W).Perm (intKeys D) :=
  (show CollectedI D (fun _ => false) (wkeys W) from ⟨hr.nd, fun x => by simp [hr.has x]⟩).perm ho i64_keyed Tryz.underlying3 (fun _ => rfl)
set_option maxHeartbeats 1000000 in
theorem tsorted_any (b nn : Nat) (D : DataW Unit) (w : World) (g gf : Nat) (n : Int) (hb : Bk w g 119 #[.pointer (some ⟨gf, 0, none⟩), .int .i64 n, .map (some b)]) (hown : w.ownsMap Tryz.prog 3 cmdElem b nn D) (hsz : Maps.size D ≤ 100) :
    Calls Tryz.prog 30 #[.pointer (some ⟨g, 0, none⟩)] w fun e w' => ∃ (v : Value) (ss : List Int), e = .returned v ∧ ss.Perm (intKeys D) ∧
      w'.ownsRow w.heap.size 3 1 v ss.length ((ss.mergeSort (fun x y => decide (x ≤ y))).map encZ) ∧ Below w.heap.size w w' := by
  obtain ⟨_, _, q2⟩ := tbox hb
  refine (callsIn_wide (n := 6)).1 ?_
  have hbl := hown.lt
  have hseq : SeqGives Fence.wide 2 Tryz.prog 90 #[.pointer (some ⟨w.heap.size, 0, none⟩)] encZ (fun ss => ss.Perm (intKeys D)) (Maps.size D) (w.alloc (.cells #[.map (some b)] 117)) :=
    AnyZI.keys_gives (ρ := tkeys_ren) { tkeys_lays with } Fence.wide _ trivial rfl (by omega) w.heap.size b nn D _ (by simp) (by simp) (by
      obtain ⟨es, clock, hb, Ft, hs, hD⟩ := hown
      exact ⟨es, clock, (Below.heap_alloc _ _ b hbl).trans hb, Ft, hs, hD⟩)
  have cK : ∀ mb W, CallsIn Fence.wide 5 Tryz.prog 61 #[.map mb] W fun e w' => e = .returned (.func (.func 90) #[] #[.pointer (some ⟨W.heap.size, 0, none⟩)]) ∧ w' = W.alloc (.cells #[.map mb] 117) := fun mb W => AnyZI.keys_in tkeys_lays Fence.wide 5 trivial rfl mb W
  have cS := AnyZI.sorted_in tsorted_lays Fence.wide 5 trivial trivial trivial trivial rfl (by omega) (tsorts _) (enters_of Tryz.func89 (by kernel_rfl) rfl) 90 #[.pointer (some ⟨w.heap.size, 0, none⟩)] trivial (enters_of Tryz.func90 (by kernel_rfl) rfl) _ _ (by unfold maxLen; omega) (by omega) _ hseq
  change CallsIn _ _ Tryz.prog 60 _ _ _ at cS
  have hfK : Fence.wide.fn 61 := trivial
  have hfS : Fence.wide.fn 60 := trivial
  clear hseq
  refine callsIn_of_wp Tryz.func30 rfl trivial ?_ rfl
  simp only [Tryz.ntmps30, List.size_toArray, List.length_cons, List.length_nil, Nat.reduceAdd, Nat.reduceSub, Array.replicate_succ, Array.replicate_zero, List.push_toArray, List.append_toArray, List.nil_append, List.cons_append]
  gi_wp2_with (first
    | (gi_at_call 61; refine (cK _ _).mono ?_; rintro e w' ⟨rfl, rfl⟩)
    | (gi_at_call 60; refine cS.mono ?_; rintro e w' ⟨v, ss, rfl, hS, hrow, hnil, hb⟩))
  go_ret
  exact ⟨v, ss, rfl, hS, ownsRow_base_a hrow (by simp), ((Below.refl _ w).alloc (Nat.le_refl _) _).trans (hb.mono (by simp))⟩
/-- the numbers of those that wait, in order -/
def wsort (W : List (Int × Cmd)) : List Int := (wkeys W).mergeSort fun x y => decide (x ≤ y)
theorem wsort_len (W : List (Int × Cmd)) : (wsort W).length = W.length := by unfold wsort; rw [List.length_mergeSort]; simp [wkeys]
def WaitsPost (W : List (Int × Cmd)) (w : World) (e : Ending) (w' : World) : Prop := ∃ A c, e = .returned (.slice A W.length c) ∧ Hid (OwnS w' w.heap.size 1 A W.length c ((wsort W).map (.int .i64))) ∧ Below w.heap.size w w'
theorem own_of_row {w : World} {base n : Nat} {e : TypeId} {v : Value} {xs : List Value} (h : w.ownsRow base e 1 v n xs) : ∃ A c, v = .slice A n c ∧ OwnS w base 1 A n c xs := by
  obtain ⟨hl, ⟨rfl, rfl⟩ | ⟨g, cap, cur, rfl, h1, h2, h3, h4, h5, h6⟩⟩ := h
  · have : xs = [] := List.eq_nil_of_length_eq_zero (by simpa using hl)
    subst this
    exact ⟨none, 0, rfl, OwnS.nil _ _ _ _⟩
  · refine ⟨some ⟨g, 0, none⟩, cap, rfl, ?_⟩
    have hb : Bk w g e cur := h2
    refine ⟨by rw [hl], h3, h4, fun hc => ⟨g, 0, rfl, h1, hb.lt, fun j hj => ?_, fun j hj => ⟨?_, hb.free _⟩⟩⟩
    · rw [Nat.zero_add, hb.cell, ← h6, List.getElem?_take_of_lt hj, Array.getElem?_toList]
    · rw [Nat.zero_add, hb.cell, Array.getElem?_eq_getElem (by omega)]; rfl
theorem twaits_any {w : World} {q r : Nat → Prop} {g : Nat} {s : TwS} (h : TwM w q r g s) (hok : TwOk s) : Calls Tryz.prog 30 #[.pointer (some ⟨g, 0, none⟩)] w (WaitsPost s.W w) := by
  obtain ⟨X, gf, b, hb, hf, hm, _⟩ := h
  obtain ⟨D, ho, hr⟩ := hm
  refine (tsorted_any b _ D w g gf s.next hb ho (by rw [hr.size]; have := hok.few; omega)).mono ?_
  rintro e w' ⟨v, ss, rfl, hp, hrow, hbl⟩
  have hpk := hp.trans (wkeys_perm ho hr).symm
  have hl : ss.length = s.W.length := by rw [hpk.length_eq]; simp [wkeys]
  rw [hl, mergeSort_of_perm_i hpk] at hrow
  obtain ⟨A, c, rfl, hO⟩ := own_of_row hrow
  exact ⟨A, c, rfl, Lib.hid hO, hbl⟩
end Go.Proofs.YtkdgpdijbobmkaaGreat
