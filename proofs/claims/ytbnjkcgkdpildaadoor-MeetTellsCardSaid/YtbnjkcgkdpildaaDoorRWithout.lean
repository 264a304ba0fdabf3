/- The contract of the reference's Without. -/
import Derived.Test.YtbnjkcgkdpildaaDoorRQueue
namespace Go.Proofs.YtbnjkcgkdpildaaDoor
set_option linter.all false
open Go Go.RowKit
theorem Rd.drop {l : List Rest} {w : World} {B k c b off : Nat} (hr : Rd w B (some ⟨b, off, none⟩) l.length 5 (rcell l)) (hc : l.length ≤ c) : Rd w B (some (if c = k then ⟨b, off, none⟩ else ⟨b, off + k * 5, none⟩)) (l.drop k).length 5 (rcell (l.drop k)) := by
  intro hn
  rw [List.length_drop] at hn
  obtain ⟨b', off', e, hb, hx⟩ := hr (by omega)
  cases e
  rw [if_neg (by omega)]
  refine ⟨b, off + k * 5, rfl, hb, fun i hi j hj => ?_⟩
  rw [List.length_drop] at hi
  have := hx (k + i) (by omega) j hj
  rw [show off + k * 5 + (i * 5 + j) = off + ((k + i) * 5 + j) by omega, this]
  simp only [rcell, List.getD_eq_getElem?_getD, List.getElem?_drop]
/-- a new slice of the call's own -/
def NewRests (l : List Rest) (w : World) (e : Ending) (w' : World) : Prop :=
  ∃ A' c', e = .returned (.slice A' l.length c') ∧ OwnS w' w.heap.size 5 A' l.length c' (rows l) ∧ Below w.heap.size w w'
theorem grown_none {w w' : World} (h : w.grownBy w' none) : Below w.heap.size w w' := ⟨h.os, h.tape, h.output, h.size, fun k hk => h.block k hk (by simp)⟩
theorem src_rests {w : World} {B c : Nat} {A : Option Addr} {l : List Rest} (h : Rd w B A l.length 5 (rcell l)) (hA : A = none → l.length = 0) : Src Tryd.prog 5 24 (.slice A l.length c) l.length (rows l) w :=
  src_rd h Tryd.underlying24 (rows_len l) (fun i j hi hj => rows_get hi hj) (rows_one l) hA
set_option maxRecDepth 100000 in
set_option maxHeartbeats 1000000 in
theorem rwithout_any (l : List Rest) (A : Option Addr) (c i m : Nat) (w : World) (hr : Rd w w.heap.size A l.length 5 (rcell l)) (hi : l.length = i + 1 + m) (hl : l.length ≤ 100) (hcap : l.length ≤ c) (hmx : c ≤ maxLen) :
    Calls Tryd.prog 71 #[.slice A l.length c, .int .i64 i] w (NewRests (l.eraseIdx i) w) := by
  obtain ⟨b, off, t, rfl, hbb, _⟩ := rest_at hr (k := 0) (by omega)
  have ht := Rd.take hr (k := i) (by omega)
  have hd := Rd.drop (k := i + 1) hr hcap
  have hlt : (l.take i).length = i := by rw [List.length_take]; omega
  have hld : (l.drop (i + 1)).length = m := by rw [List.length_drop]; omega
  have hle : (l.eraseIdx i).length = i + m := by rw [List.length_eraseIdx_of_lt (by omega)]; omega
  have HE := Lib.hid (show rows (l.eraseIdx i) = rows (l.take i) ++ rows (l.drop (i + 1)) by rw [rows_erase, rows_take, rows_drop])
  have s1 := fun w' (hb : Below w.heap.size w w') c' => src_rests (c := c') (l := l.take i) (by rw [hlt]; exact ht.below hb) (by intro h; cases h)
  have s2 := fun w' (hb : Below w.heap.size w w') c' => src_rests (c := c') (l := l.drop (i + 1)) (hd.below hb) (by intro h; split at h <;> cases h)
  rw [hlt] at s1
  rw [hld] at s2
  have HLE := Lib.hid hle
  have S1 := Lib.hid s1; have S2 := Lib.hid s2
  unfold maxLen at hmx
  rw [hi] at hl hcap ⊢
  obtain ⟨i0, hi0, hz0, hz1, hz2⟩ := info_parts info_rest
  have HI := Lib.hid hi0; have H0 := Lib.hid hz0; have H1 := Lib.hid hz1; have H2 := Lib.hid hz2
  have f1 : (0 : Int) ≤ (i : Int) := by omega
  have f2 : (i : Int) ≤ (c : Int) := by omega
  have f6 : (0 : Int) ≤ (i : Int) + 1 := by omega
  have f7 : (i : Int) + 1 ≤ (i : Int) + 1 + (m : Int) := by omega
  have f8 : (i : Int) ≤ (i : Int) + 1 := by omega
  clear hi hz0 hz1 hz2 hi0 ht hd hlt hld hle s1 s2 hr
  by_cases hjc : c = i + 1
  · obtain rfl : m = 0 := by omega
    subst hjc
    have S2' := S2.out
    rw [if_pos rfl] at S2'
    have S2 := Lib.hid S2'
    clear S2'
    go_enter Tryd.func71, Tryd.ntmps71
    go_wp2_with (at_builtin; go_loud (refine wpList_append_S (base := w.heap.size) (s := 5) (n := 0) (A := none) (cap := 0) (xs := []) rfl _ _ _ _ rfl 23 i0 _ 40 Tryd.underlying24 HI.out H0.out H1.out H2.out rfl rfl (OwnS.nil _ _ _ _) (Nat.le_refl _) _ rfl i (rows (l.take i)) (S1.out _ (Below.refl _ _) _) (by unfold maxLen; omega) (by omega) ?_); intro A1 c1 w1 gr1; (have hb1 := grown_none gr1.grown); (have own1 := gr1.own); simp only [Nat.zero_add, List.nil_append] at own1 ⊢; clear gr1; go_wp2_with (at_builtin; go_loud (refine wpList_append_S (base := w.heap.size) (s := 5) (n := i) rfl _ _ _ _ rfl 23 i0 _ 40 Tryd.underlying24 HI.out H0.out H1.out H2.out rfl rfl own1 hb1.size _ rfl 0 (rows (l.drop (i + 1))) (S2.out _ hb1 _) (by unfold maxLen; omega) (by omega) ?_); intro A2 c2 w2 gr2))
    go_ret
    refine ⟨A2, c2, by rw [HLE.out]; rfl, by rw [HLE.out, HE.out]; exact gr2.own, hb1.grown gr2.grown hb1.size (fun k hk => (own1.row_lt k hk).1)⟩
  · have hjc2 : (i : Int) + 1 < (c : Int) := by omega
    have S2' := S2.out
    rw [if_neg hjc] at S2'
    have S2 := Lib.hid S2'
    clear S2'
    go_enter Tryd.func71, Tryd.ntmps71
    go_wp2_with (at_builtin; go_loud (refine wpList_append_S (base := w.heap.size) (s := 5) (n := 0) (A := none) (cap := 0) (xs := []) rfl _ _ _ _ rfl 23 i0 _ 40 Tryd.underlying24 HI.out H0.out H1.out H2.out rfl rfl (OwnS.nil _ _ _ _) (Nat.le_refl _) _ rfl i (rows (l.take i)) (S1.out _ (Below.refl _ _) _) (by unfold maxLen; omega) (by omega) ?_); intro A1 c1 w1 gr1; (have hb1 := grown_none gr1.grown); (have own1 := gr1.own); simp only [Nat.zero_add, List.nil_append] at own1 ⊢; clear gr1; go_wp2_with (at_builtin; go_loud (refine wpList_append_S (base := w.heap.size) (s := 5) (n := i) rfl _ _ _ _ rfl 23 i0 _ 40 Tryd.underlying24 HI.out H0.out H1.out H2.out rfl rfl own1 hb1.size _ rfl m (rows (l.drop (i + 1))) (S2.out _ hb1 _) (by unfold maxLen; omega) (by omega) ?_); intro A2 c2 w2 gr2))
    go_ret
    refine ⟨A2, c2, by rw [HLE.out]; rfl, by rw [HLE.out, HE.out]; exact gr2.own, hb1.grown gr2.grown hb1.size (fun k hk => (own1.row_lt k hk).1)⟩
end Go.Proofs.YtbnjkcgkdpildaaDoor
