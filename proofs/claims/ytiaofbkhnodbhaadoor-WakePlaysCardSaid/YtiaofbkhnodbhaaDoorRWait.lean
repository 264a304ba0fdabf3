/- The reference's Wait. -/
import Derived.Test.YtiaofbkhnodbhaaDoorROff
import Derived.Test.YtiaofbkhnodbhaaDoorGrpB
import Derived.Test.YtiaofbkhnodbhaaDoorWakePut
namespace Go.Proofs.YtiaofbkhnodbhaaDoor
set_option linter.all false
open Go Go.RowKit
/-- how Wait ends -/
def RWaitPost (l : List Order) (o : Order) (A : Option Addr) (w : World) (e : Ending) (w' : World) : Prop :=
  ∃ A' c', e = .returned (.tuple #[.slice A' (waitL l o).length c', .int .i64 (waitE l o)]) ∧ Hid (Rd w' w'.heap.size A' (waitL l o).length 8 (ocell (waitL l o)) ∧ (waitL l o).length ≤ c' ∧ c' ≤ maxLen ∧ ((A' = A ∧ waitL l o = l) ∨ ∀ (b off : Nat), A' = some ⟨b, off, none⟩ → w.heap.size ≤ b)) ∧ Below w.heap.size w w'
theorem rwait_bad {l : List Order} {o : Order} {A : Option Addr} {c : Nat} {k : Int} {w w' : World} (he : waitE l o = k) (h0 : k ≠ 0) (hr : Rd w w.heap.size A l.length 8 (ocell l)) (hc : l.length ≤ c ∧ c ≤ maxLen) (hb : Below w.heap.size w w') : RWaitPost l o A w (.returned (.tuple #[.slice A l.length c, .int .i64 k])) w' := by
  have e : waitL l o = l := by rw [waitL, if_neg (by rw [he]; exact h0)]
  exact ⟨A, c, by rw [e, he], Lib.hid (by rw [e]; exact ⟨(hr.below hb).more hb.size, hc.1, hc.2, .inl ⟨rfl, rfl⟩⟩), hb⟩
set_option maxRecDepth 100000 in
set_option maxHeartbeats 4000000 in
theorem rwait_any (l : List Order) (o : Order) (A : Option Addr) (c : Nat) (w : World) (hr : Rd w w.heap.size A l.length 8 (ocell l)) (hc : l.length ≤ c ∧ c ≤ maxLen) (hl : l.length ≤ 100) :
    Calls Tryd.prog 20 #[.slice A l.length c, .agg #[.int .i64 o.id, .int .i64 o.who, .int .i64 o.side, .int .i64 o.kind, .int .i64 o.price, .int .i64 o.qty, .int .i64 o.show_, .int .i64 o.stop]] w (RWaitPost l o A w) := by
  have HR := Lib.hid hr; have HC := Lib.hid hc
  have hb : Below w.heap.size w (w.alloc (.cells #[.int .i64 o.id, .int .i64 o.who, .int .i64 o.side, .int .i64 o.kind, .int .i64 o.price, .int .i64 o.qty, .int .i64 o.show_, .int .i64 o.stop] 58)) := (Below.refl _ _).alloc (Nat.le_refl _) _
  have bo := Bk.new w 58 #[.int .i64 o.id, .int .i64 o.who, .int .i64 o.side, .int .i64 o.kind, .int .i64 o.price, .int .i64 o.qty, .int .i64 o.show_, .int .i64 o.stop]
  have cO := Lib.hid (fun w => rorder_any o w)
  clear hr hc
  go_enter Tryd.func20, Tryd.ntmps20
  go_upto_region 1 with fail
  generalize w.alloc (.cells #[.int .i64 o.id, .int .i64 o.who, .int .i64 o.side, .int .i64 o.kind, .int .i64 o.price, .int .i64 o.qty, .int .i64 o.show_, .int .i64 o.stop] 58) = w1 at *
  obtain ⟨o0, o1, o2, o3, o4, o5, o6, o7⟩ := obox bo
  go_wp2_with fail
  go_at_call 66
  refine (cO.out _).mono ?_
  rintro e w2 ⟨rfl, hw2⟩
  have hba : Below w1.heap.size w1 w2 := by rw [hw2]; exact (Below.refl _ _).alloc (Nat.le_refl _) _
  replace bo := bo.keep hba; replace hb := below_then hba hb
  clear hw2 hba o0 o1 o2 o3 o4 o5 o6 o7 cO
  by_cases h1 : o.err = 0
  case neg =>
    have HE := Lib.hid (show waitE l o = o.err from if_pos h1)
    have HN := Lib.hid h1
    have e1 : (o.err == 0) = false := by simpa using h1
    have e2 : (o.err != 0) = true := by simpa using h1
    clear h1 bo
    generalize o.err = k at *
    go_wp2
    go_ret2
    exact rwait_bad HE.out HN.out HR.out HC.out hb
  have HE1 := Lib.hid (show waitE l o = if o.stop = 0 then 6 else if 0 ≤ whereI l o.id then 7 else if 20 ≤ l.length then 4 else 0 from if_neg (by simpa using h1))
  rw [h1]
  clear h1
  obtain ⟨o0, o1, o2, o3, o4, o5, o6, o7⟩ := obox bo
  by_cases h2 : o.stop = 0
  · have HE := Lib.hid (show waitE l o = 6 by rw [HE1.out, if_pos h2])
    have e2 : (o.stop == 0) = true := by simpa using h2
    clear h2 bo
    go_wp2
    go_ret2
    exact rwait_bad HE.out (by decide) HR.out HC.out hb
  have HE2 := Lib.hid (show waitE l o = if 0 ≤ whereI l o.id then 7 else if 20 ≤ l.length then 4 else 0 by rw [HE1.out, if_neg h2])
  have e2 : (o.stop == 0) = false := by simpa using h2
  have cW := Lib.hid (rwaits_any l A c o.id w2 ((HR.out.below hb).more hb.size) (by unfold maxLen; omega))
  clear h2 HE1
  go_wp2_with fail
  go_at_call 22
  refine cW.out.mono ?_
  rintro e w3 ⟨rfl, rfl⟩
  clear cW
  by_cases h3 : 0 ≤ whereI l o.id
  · have HE := Lib.hid (show waitE l o = 7 by rw [HE2.out, if_pos h3])
    clear bo
    generalize whereI l o.id = k at *
    go_wp2
    go_ret2
    exact rwait_bad HE.out (by decide) HR.out HC.out hb
  have HE3 := Lib.hid (show waitE l o = if 20 ≤ l.length then 4 else 0 by rw [HE2.out, if_neg h3])
  have e3 : decide (whereI l o.id ≥ 0) = false := decide_eq_false h3
  clear HE2
  generalize whereI l o.id = k at *
  by_cases h4 : 20 ≤ l.length
  · have HE := Lib.hid (show waitE l o = 4 by rw [HE3.out, if_pos h4])
    have e4 : decide ((l.length : Int) ≥ 20) = true := decide_eq_true (by omega)
    clear bo
    go_wp2
    go_ret2
    exact rwait_bad HE.out (by decide) HR.out HC.out hb
  have HE := Lib.hid (show waitE l o = 0 by rw [HE3.out, if_neg h4])
  have e4 : decide ((l.length : Int) ≥ 20) = false := decide_eq_false (by omega)
  have hz := hb.size
  have hsrc := Lib.hid (src_ords (c := c) ((HR.out.below hb)) (fun e => by
    rcases Nat.eq_zero_or_pos l.length with h | h
    · exact h
    · obtain ⟨b, off, e', _⟩ := HR.out h
      rw [e] at e'; cases e'))
  obtain ⟨i0, hi0, hz0, hz1, hz2⟩ := info_parts info_ord
  have HI := Lib.hid hi0; have H0 := Lib.hid hz0; have H1 := Lib.hid hz1; have H2 := Lib.hid hz2
  have BO := Lib.hid bo
  clear HE3 hz0 hz1 hz2 hi0 bo
  go_wp2_with (first | (at_builtin; go_loud (refine wpList_append_S (base := w.heap.size) (s := 8) (n := 0) (A := none) (cap := 0) (xs := []) rfl _ _ _ _ rfl 58 i0 _ 64 Tryd.underlying52 HI.out H0.out H1.out H2.out rfl rfl (OwnS.nil _ _ _ _) hz _ rfl l.length (ords l) hsrc.out (by unfold maxLen; omega) (by omega) ?_); intro A1 c1 w4 gr1; (have hb4 := hb.grown gr1.grown hz (fun k hk => by simp [rowOf] at hk)); (have own1 := gr1.own); simp only [Nat.zero_add, List.nil_append] at own1 ⊢; (have bo4 := BO.out.grown gr1.grown (by simp [rowOf])); obtain ⟨o0, o1, o2, o3, o4, o5, o6, o7⟩ := obox bo4; (have hz4 := hb4.size); clear gr1; go_wp2_with (at_builtin; go_loud (refine wpList_append_S (base := w.heap.size) (s := 8) (n := l.length) rfl _ _ _ _ rfl 58 i0 _ 64 Tryd.underlying52 HI.out H0.out H1.out H2.out rfl rfl (own1.alloc _) (by simp; omega) _ rfl 1 o.vals (src_block (m := 1) (Bk.new w4 58 #[.int .i64 o.id, .int .i64 o.who, .int .i64 o.side, .int .i64 o.kind, .int .i64 o.price, .int .i64 o.qty, .int .i64 o.show_, .int .i64 o.stop]) Tryd.underlying52 rfl o.vals_one 1) (by unfold maxLen; omega) (by omega) ?_); intro A2 c2 w5 gr2)))
  go_ret2
  have e : waitL l o = l ++ [o] := if_pos HE.out
  have hown : OwnS w5 w.heap.size 8 A2 (l ++ [o]).length c2 (ords (l ++ [o])) := by
    rw [List.length_append, ords_app, show ords [o] = o.vals by simp [ords]]; exact gr2.own
  exact ⟨A2, c2, by rw [e, HE.out, List.length_append]; rfl, Lib.hid (by rw [e]; exact ⟨hown.rdO, hown.le, hown.max, .inr (fun b off e' => by obtain ⟨g', o', e2, hg', _⟩ := hown.cell (by simp); rw [e'] at e2; cases e2; exact hg')⟩), (hb4.alloc hz4 _).grown gr2.grown (by simp; omega) (fun k hk => (own1.row_lt k hk).1)⟩
end Go.Proofs.YtiaofbkhnodbhaaDoor
