/- The reference's Waits, Off. -/
import Derived.Test.YtiaofbkhnodbhaaDoorDelOrd
import Derived.IntWalk
namespace Go.Proofs.YtiaofbkhnodbhaaDoor
set_option linter.all false
open Go Go.RowKit
theorem Rd.takeO {l : List Order} {w : World} {B k : Nat} {A : Option Addr} (hr : Rd w B A l.length 8 (ocell l)) (hk : k ≤ l.length) : Rd w B A k 8 (ocell (l.take k)) := by
  intro hn
  obtain ⟨b, off, e, hb, hx⟩ := hr (by omega)
  refine ⟨b, off, e, hb, fun i hi j hj => ?_⟩
  rw [hx i (by omega) j hj]
  simp only [ocell, List.getD_eq_getElem?_getD, List.getElem?_take_of_lt hi]
theorem Rd.dropO {l : List Order} {w : World} {B k c b off : Nat} (hr : Rd w B (some ⟨b, off, none⟩) l.length 8 (ocell l)) (hc : l.length ≤ c) : Rd w B (some (if c = k then ⟨b, off, none⟩ else ⟨b, off + k * 8, none⟩)) (l.drop k).length 8 (ocell (l.drop k)) := by
  intro hn
  rw [List.length_drop] at hn
  obtain ⟨b', off', e, hb, hx⟩ := hr (by omega)
  cases e
  rw [if_neg (by omega)]
  refine ⟨b, off + k * 8, rfl, hb, fun i hi j hj => ?_⟩
  rw [List.length_drop] at hi
  have := hx (k + i) (by omega) j hj
  rw [show off + k * 8 + (i * 8 + j) = off + ((k + i) * 8 + j) by omega, this]
  simp only [ocell, List.getD_eq_getElem?_getD, List.getElem?_drop]
/-- a new slice of the call's own -/
def NewOrds (l : List Order) (w : World) (e : Ending) (w' : World) : Prop :=
  ∃ A' c', e = .returned (.slice A' l.length c') ∧ OwnS w' w.heap.size 8 A' l.length c' (ords l) ∧ Below w.heap.size w w'
theorem grown_noneO {w w' : World} (h : w.grownBy w' none) : Below w.heap.size w w' := ⟨h.os, h.tape, h.output, h.size, fun k hk => h.block k hk (by simp)⟩
theorem src_ords {w : World} {B c : Nat} {A : Option Addr} {l : List Order} (h : Rd w B A l.length 8 (ocell l)) (hA : A = none → l.length = 0) : Src Tryd.prog 8 52 (.slice A l.length c) l.length (ords l) w :=
  src_rd h Tryd.underlying52 (ords_len l) (fun i j hi hj => ords_get hi hj) (ords_one l) hA
theorem rwaits_any (l : List Order) (A : Option Addr) (c : Nat) (id : Int) (w : World) (hr : Rd w w.heap.size A l.length 8 (ocell l)) (hl : l.length ≤ maxLen) :
    Calls Tryd.prog 22 #[.slice A l.length c, .int .i64 id] w fun e w' => e = .returned (.int .i64 (whereI l id)) ∧ w = w' := by
  have HR := Lib.hid hr
  unfold maxLen at hl
  clear hr
  go_enter Tryd.func22, Tryd.ntmps22
  go_wp2
  go_loop [5] (fun i => ∃ k : Nat, k ≤ l.length ∧ i = .int .i64 k ∧ Hid (∀ j, j < k → ∀ u, l[j]? = some u → u.id ≠ id)) (fun i => l.length - (intOf i).toNat)
  case atStart => exact ⟨0, by omega, rfl, Lib.hid fun j hj => absurd hj (by omega)⟩
  case round =>
    obtain ⟨k, hk, rfl, hno⟩ := hrel
    by_cases hlt : k < l.length
    · obtain ⟨b, off, t, rfl, hbl, ht, e0, e1, e2, e3, e4, e5, e6, e7⟩ := ord_at HR.out hlt
      have HT := Lib.hid ht; clear ht
      have i0 : (0 : Int) ≤ (k : Int) := by omega
      have i1 : (k : Int) < (l.length : Int) := by omega
      by_cases h : t.id = id
      · have e : (t.id == id) = true := by simpa using h
        have H := Lib.hid (whereI_hit HT.out h hno.out); clear h
        go_wp2
        go_ret
        exact ⟨by rw [H.out]; rfl, rfl⟩
      · have e : (t.id == id) = false := by simpa using h
        have H := Lib.hid h; clear h
        go_wp2
        go_round
        case rel =>
          refine ⟨k + 1, by omega, by go_num, Lib.hid fun j hj u hu => ?_⟩
          by_cases hjk : j < k
          · exact hno.out j hjk u hu
          · obtain rfl : j = k := by omega
            rw [HT.out] at hu
            cases hu
            exact H.out
        case measure => simp [intOf]; omega
    · obtain rfl : k = l.length := by omega
      go_wp2
      go_ret
      exact ⟨by rw [whereI_none hno.out]; rfl, rfl⟩
set_option maxRecDepth 100000 in
set_option maxHeartbeats 1000000 in
theorem roff_any (l : List Order) (A : Option Addr) (c i m : Nat) (w : World) (hr : Rd w w.heap.size A l.length 8 (ocell l)) (hi : l.length = i + 1 + m) (hl : l.length ≤ 100) (hcap : l.length ≤ c) (hmx : c ≤ maxLen) :
    Calls Tryd.prog 23 #[.slice A l.length c, .int .i64 i] w (NewOrds (l.eraseIdx i) w) := by
  obtain ⟨b, off, t, rfl, hbb, _⟩ := ord_at hr (k := 0) (by omega)
  have ht := Rd.takeO hr (k := i) (by omega)
  have hd := Rd.dropO (k := i + 1) hr hcap
  have hlt : (l.take i).length = i := by rw [List.length_take]; omega
  have hld : (l.drop (i + 1)).length = m := by rw [List.length_drop]; omega
  have hle : (l.eraseIdx i).length = i + m := by rw [List.length_eraseIdx_of_lt (by omega)]; omega
  have HE := Lib.hid (show ords (l.eraseIdx i) = ords (l.take i) ++ ords (l.drop (i + 1)) by rw [ords_erase, ords_take, ords_drop])
  have s1 := fun w' (hb : Below w.heap.size w w') c' => src_ords (c := c') (l := l.take i) (by rw [hlt]; exact ht.below hb) (by intro h; cases h)
  have s2 := fun w' (hb : Below w.heap.size w w') c' => src_ords (c := c') (l := l.drop (i + 1)) (hd.below hb) (by intro h; split at h <;> cases h)
  rw [hlt] at s1
  rw [hld] at s2
  have HLE := Lib.hid hle
  have S1 := Lib.hid s1; have S2 := Lib.hid s2
  unfold maxLen at hmx
  rw [hi] at hl hcap ⊢
  obtain ⟨i0, hi0, hz0, hz1, hz2⟩ := info_parts info_ord
  have HI := Lib.hid hi0; have H0 := Lib.hid hz0; have H1 := Lib.hid hz1; have H2 := Lib.hid hz2
  have f1 : (0 : Int) ≤ (i : Int) := by omega
  have f2 : (i : Int) ≤ (c : Int) := by omega
  have f6 : (0 : Int) ≤ (i : Int) + 1 := by omega
  have f7 : (i : Int) + 1 ≤ (i : Int) + 1 + (m : Int) := by omega
  have f8 : (i : Int) ≤ (i : Int) + 1 := by omega
  clear hi hz0 hz1 hz2 hi0 ht hd hlt hld hle s1 s2 hr
  by_cases hjc : c = i + 1
  · obtain rfl : m = 0 := by omega
    subst hjc
    have S2' := S2.out
    rw [if_pos rfl] at S2'
    have S2 := Lib.hid S2'
    clear S2'
    go_enter Tryd.func23, Tryd.ntmps23
    go_wp2_with (at_builtin; go_loud (refine wpList_append_S (base := w.heap.size) (s := 8) (n := 0) (A := none) (cap := 0) (xs := []) rfl _ _ _ _ rfl 58 i0 _ 64 Tryd.underlying52 HI.out H0.out H1.out H2.out rfl rfl (OwnS.nil _ _ _ _) (Nat.le_refl _) _ rfl i (ords (l.take i)) (S1.out _ (Below.refl _ _) _) (by unfold maxLen; omega) (by omega) ?_); intro A1 c1 w1 gr1; (have hb1 := grown_noneO gr1.grown); (have own1 := gr1.own); simp only [Nat.zero_add, List.nil_append] at own1 ⊢; clear gr1; go_wp2_with (at_builtin; go_loud (refine wpList_append_S (base := w.heap.size) (s := 8) (n := i) rfl _ _ _ _ rfl 58 i0 _ 64 Tryd.underlying52 HI.out H0.out H1.out H2.out rfl rfl own1 hb1.size _ rfl 0 (ords (l.drop (i + 1))) (S2.out _ hb1 _) (by unfold maxLen; omega) (by omega) ?_); intro A2 c2 w2 gr2))
    go_ret
    refine ⟨A2, c2, by rw [HLE.out]; rfl, by rw [HLE.out, HE.out]; exact gr2.own, hb1.grown gr2.grown hb1.size (fun k hk => (own1.row_lt k hk).1)⟩
  · have hjc2 : (i : Int) + 1 < (c : Int) := by omega
    have S2' := S2.out
    rw [if_neg hjc] at S2'
    have S2 := Lib.hid S2'
    clear S2'
    go_enter Tryd.func23, Tryd.ntmps23
    go_wp2_with (at_builtin; go_loud (refine wpList_append_S (base := w.heap.size) (s := 8) (n := 0) (A := none) (cap := 0) (xs := []) rfl _ _ _ _ rfl 58 i0 _ 64 Tryd.underlying52 HI.out H0.out H1.out H2.out rfl rfl (OwnS.nil _ _ _ _) (Nat.le_refl _) _ rfl i (ords (l.take i)) (S1.out _ (Below.refl _ _) _) (by unfold maxLen; omega) (by omega) ?_); intro A1 c1 w1 gr1; (have hb1 := grown_noneO gr1.grown); (have own1 := gr1.own); simp only [Nat.zero_add, List.nil_append] at own1 ⊢; clear gr1; go_wp2_with (at_builtin; go_loud (refine wpList_append_S (base := w.heap.size) (s := 8) (n := i) rfl _ _ _ _ rfl 58 i0 _ 64 Tryd.underlying52 HI.out H0.out H1.out H2.out rfl rfl own1 hb1.size _ rfl m (ords (l.drop (i + 1))) (S2.out _ hb1 _) (by unfold maxLen; omega) (by omega) ?_); intro A2 c2 w2 gr2))
    go_ret
    refine ⟨A2, c2, by rw [HLE.out]; rfl, by rw [HLE.out, HE.out]; exact gr2.own, hb1.grown gr2.grown hb1.size (fun k hk => (own1.row_lt k hk).1)⟩
end Go.Proofs.YtiaofbkhnodbhaaDoor
