/- The contracts of slices.Clone over rests, queue.First in one, queue.All, queue.Total. queue.Take in plain words. Taking from a queue, in plain words. -/
import Derived.Test.YtkdgpdijbobmkaaGreatGrpC
namespace Go.Proofs.YtkdgpdijbobmkaaGreat
set_option linter.all false
open Go Go.RowKit
theorem err0 {r : Rest} (hr : r.err = 0) : 1 ≤ r.qty ∧ r.qty ≤ 10000 ∧ 0 ≤ r.hidden ∧ r.hidden ≤ 10000 ∧ 0 ≤ r.show_ ∧ r.show_ ≤ 10000 ∧ (r.show_ = 0 → r.hidden = 0) ∧ (r.show_ ≠ 0 → r.qty ≤ r.show_) ∧ inb r.id 1 9999 = true ∧ inb r.who 1 9 = true := by
  by_cases h1 : (inb r.id 1 9999 && inb r.who 1 9 && inb r.qty 1 10000 && inb r.hidden 0 10000 && inb r.show_ 0 10000) = true
  · simp only [Bool.and_eq_true] at h1
    obtain ⟨⟨⟨⟨a, b⟩, c⟩, d⟩, e⟩ := h1
    have hc := c; have hd := d; have he := e
    simp only [inb, decide_eq_true_eq] at hc hd he
    simp only [Rest.err, a, b, c, d, e] at hr
    refine ⟨by omega, by omega, by omega, by omega, by omega, by omega, fun h => ?_, fun h => ?_, a, b⟩
    · by_cases h0 : r.hidden = 0
      · exact h0
      · simp [h, h0] at hr
    · by_cases h0 : r.show_ < r.qty
      · simp [h, h0] at hr
      · omega
  · exfalso
    revert h1 hr
    unfold Rest.err
    cases inb r.id 1 9999 <;> cases inb r.who 1 9 <;> cases inb r.qty 1 10000 <;> cases inb r.hidden 0 10000 <;> cases inb r.show_ 0 10000 <;> simp
theorem first_any (r : Rest) (t : List Rest) (n : Int) (base : Nat) (A : Option Addr) (cap : Nat) (w : World) (h : OwnS w base 5 A (t.length + 1) cap (rows (r :: t))) (hb : base ≤ w.heap.size) (hn : 1 ≤ n) (hr : r.err = 0) (hl : t.length ≤ 100) :
    Calls Tryz.prog 137 #[.slice A (t.length + 1) cap, .int .i64 n] w (FirstPost r t n base A cap w) := by
  have hq := err0 hr
  by_cases h1 : n < r.qty
  · exact first_part r t n base A cap w h hn h1 (by omega) hl
  · by_cases h2 : r.hidden ≤ 0
    · exact first_whole r t n base A cap w h (by omega) (by omega) h2 hl
    · exact first_again r t n base A cap w h hb (by omega) (by omega) (by omega) (by omega) (by omega) hl
/-- how Clone ends -/
def ClonePost (s n : Nat) (xs : List Value) (w : World) (e : Ending) (w' : World) : Prop := ∃ A' c', e = .returned (.slice A' n c') ∧ OwnS w' w.heap.size s A' n c' xs ∧ Below w.heap.size w w' ∧ (A' = none → c' = 0)
set_option maxRecDepth 20000 in
theorem clone_rests (l : List Rest) (A : Option Addr) (c : Nat) (w : World) (hr : Rd w w.heap.size A l.length 5 (rcell l)) (hl : l.length ≤ 100) (hA : A = none → l.length = 0 ∧ c = 0) :
    Calls Tryz.prog 110 #[.slice A l.length c] w (ClonePost 5 l.length (rows l) w) := by
  cases A with
  | none =>
    obtain ⟨h0, rfl⟩ := hA rfl
    obtain rfl := List.eq_nil_of_length_eq_zero h0
    clear hr hA
    have hn := fun (w : World) (c : Nat) => Lib.run_eql_slice_nil (P := Tryz.prog) w 58 62 none 0 c 0 0 Tryz.underlying58
    go_enter Tryz.func110, Tryz.ntmps110
    go_wp2
    go_ret
    exact ⟨none, 0, rfl, OwnS.nil _ _ _ _, Below.refl _ _, fun _ => rfl⟩
  | some a =>
    obtain ⟨i0, hi, hz0, hz1, hz2⟩ := info_parts info_rest
    have HI := Lib.hid hi; have H0 := Lib.hid hz0; have H1 := Lib.hid hz1; have H2 := Lib.hid hz2; clear hi hz0 hz1 hz2 hA
    have HR := Lib.hid hr; clear hr
    have hn := fun (w : World) (n c : Nat) => Lib.run_eql_slice_nil (P := Tryz.prog) w 58 62 (some a) n c 0 0 Tryz.underlying58
    go_enter Tryz.func110, Tryz.ntmps110
    go_wp2_with (at_builtin; go_loud (refine wpList_append_S (base := w.heap.size) (s := 5) (n := 0) (cap := 0) (xs := []) rfl _ _ _ _ rfl 62 i0 _ 40 Tryz.underlying58 HI.out H0.out H1.out H2.out rfl rfl (OwnS.nil _ _ _ _) (by simp) _ rfl l.length (rows l) (src_rd (HR.out.below ((Below.refl _ _).alloc (Nat.le_refl _) _)) Tryz.underlying58 (rows_len l) (fun i j hi hj => rows_get hi hj) (rows_one l) (fun h => by cases h)) (by unfold maxLen; omega) (by omega) ?_); intro A' cap' w' gr)
    go_ret
    refine ⟨A', cap', by simp, by simpa using gr.own, Below.grown (((Below.refl _ _).alloc (Nat.le_refl _) _)) gr.grown (by simp) (fun k hk => by simp [rowOf] at hk), fun h => ?_⟩
    rcases Nat.eq_zero_or_pos cap' with h0 | h0
    · exact h0
    · obtain ⟨g, off, e, _⟩ := gr.own.lies h0
      rw [h] at e; cases e
theorem bodyBounds {l : List Rest} (h : qErr l = 0) : l.length ≤ 60 ∧ ∀ r ∈ l, r.err = 0 := by
  by_cases hl : 60 < l.length
  · rw [qErr, if_pos hl] at h; omega
  · refine ⟨by omega, fun r hr => ?_⟩
    rw [qErr, if_neg hl] at h
    obtain ⟨k, hk⟩ := List.mem_iff_getElem?.1 hr
    have hkl : k < l.length := (List.getElem?_eq_some_iff.1 hk).1
    by_cases he : r.err = 0
    · exact he
    · exfalso
      have hs : stepE l k ≠ 0 := by rw [stepE, hk]; dsimp only; rw [if_pos he]; exact he
      cases hf : (List.range l.length).find? (fun k => !(stepE l k == 0)) with
      | none =>
        rw [List.find?_eq_none] at hf
        have := hf k (List.mem_range.2 hkl)
        simp at this
        exact hs this
      | some j =>
        rw [hf] at h
        have := List.find?_some hf
        simp at this
        exact this h
/-- all of rests -/
def allQ (l : List Rest) : Int := (l.map fun r => r.qty + r.hidden).sum
theorem allQ_snoc (l : List Rest) (r : Rest) : allQ (l ++ [r]) = allQ l + (r.qty + r.hidden) := by simp [allQ]
theorem allQ_take {l : List Rest} {k : Nat} {r : Rest} (h : l[k]? = some r) : allQ (l.take (k + 1)) = allQ (l.take k) + (r.qty + r.hidden) := by
  rw [List.take_add_one, h]; simp [allQ]
theorem allQ_bounds {l : List Rest} (h : ∀ r ∈ l, r.err = 0) : 0 ≤ allQ l ∧ allQ l ≤ 20000 * l.length := by
  induction l with
  | nil => simp [allQ]
  | cons r l ih =>
    have h1 := err0 (h r (by simp))
    have h2 := ih (fun x hx => h x (by simp [hx]))
    simp only [allQ, List.map_cons, List.sum_cons, List.length_cons] at h2 ⊢
    omega
end Go.Proofs.YtkdgpdijbobmkaaGreat
namespace Go.Proofs.YtkdgpdijbobmkaaGreat
set_option linter.all false
open Go Go.RowKit
def Fill.ok (f : Fill) : Prop := 1 ≤ f.qty
/-- every one of them is right -/
def Sound (l : List Rest) : Prop := ∀ r ∈ l, r.err = 0
theorem Sound.tail {r : Rest} {t : List Rest} (h : Sound (r :: t)) : Sound t := fun x hx => h x (by simp [hx])
theorem err_mk {r : Rest} (h1 : inb r.id 1 9999 = true) (h2 : inb r.who 1 9 = true) (h3 : 1 ≤ r.qty) (h4 : r.qty ≤ 10000) (h5 : 0 ≤ r.hidden) (h6 : r.hidden ≤ 10000) (h7 : 0 ≤ r.show_) (h8 : r.show_ ≤ 10000) (h9 : r.show_ = 0 → r.hidden = 0) (h10 : r.show_ ≠ 0 → r.qty ≤ r.show_) : r.err = 0 := by
  have a : inb r.qty 1 10000 = true := by simp [inb]; omega
  have b : inb r.hidden 0 10000 = true := by simp [inb]; omega
  have c : inb r.show_ 0 10000 = true := by simp [inb]; omega
  simp only [Rest.err, h1, h2, a, b, c]
  by_cases h : r.show_ = 0
  · simp [h, h9 h]
  · have := h10 h
    simp [h]; omega
theorem first_sound {r : Rest} {t : List Rest} {n : Int} (h : Sound (r :: t)) (hn : 1 ≤ n) : Sound (qFirst r t n).2 ∧ 1 ≤ (qFirst r t n).1.qty ∧ (qFirst r t n).1.qty ≤ n ∧ (qFirst r t n).2.length ≤ t.length + 1 := by
  have hr := err0 (h r (by simp))
  obtain ⟨q1, q2, q3, q4, q5, q6, q7, q8, q9, q10⟩ := hr
  unfold qFirst
  by_cases h1 : n < r.qty
  · rw [if_pos h1]
    refine ⟨fun x hx => ?_, hn, Int.le_refl _, by simp⟩
    rcases List.mem_cons.1 hx with rfl | hx
    · exact err_mk q9 q10 (by dsimp only; omega) (by dsimp only; omega) q3 q4 q5 q6 q7 (fun h => by have := q8 h; dsimp only; omega)
    · exact h x (by simp [hx])
  · rw [if_neg h1]
    by_cases h2 : 0 < r.hidden
    · rw [if_pos h2]
      refine ⟨fun x hx => ?_, q1, by dsimp only; omega, by simp⟩
      rcases List.mem_append.1 hx with hx | hx
      · exact h x (by simp [hx])
      · simp only [List.mem_singleton] at hx
        subst hx
        have : r.show_ ≠ 0 := fun h => by have := q7 h; omega
        exact err_mk q9 q10 (by dsimp only; omega) (by dsimp only; omega) (by dsimp only; omega) (by dsimp only; omega) q5 q6 (fun h => absurd h this) (fun _ => by dsimp only; omega)
    · rw [if_neg h2]
      exact ⟨h.tail, q1, by dsimp only; omega, by simp⟩
def takeN : Nat → List Rest → Int → List Fill × List Rest
  | 0, l, _ => ([], l)
  | f + 1, l, n => match l with
    | [] => ([], [])
    | r :: t => if n ≤ 0 then ([], r :: t) else ((qFirst r t n).1 :: (takeN f (qFirst r t n).2 (n - (qFirst r t n).1.qty)).1, (takeN f (qFirst r t n).2 (n - (qFirst r t n).1.qty)).2)
theorem takeN_le0 {f : Nat} {l : List Rest} {n : Int} (h : n ≤ 0) : takeN f l n = ([], l) := by
  cases f with
  | zero => rfl
  | succ f => cases l with
    | nil => rfl
    | cons r t => rw [takeN, if_pos h]
theorem takeN_nil (f : Nat) (n : Int) : takeN f [] n = ([], []) := by cases f <;> rfl
theorem takeN_same : ∀ (f g : Nat) (l : List Rest) (n : Int), Sound l → n.toNat ≤ f → n.toNat ≤ g → takeN f l n = takeN g l n
  | 0, g, l, n, _, hf, _ => by rw [takeN_le0 (by omega), takeN_le0 (by omega)]
  | f + 1, 0, l, n, _, _, hg => by rw [takeN_le0 (by omega), takeN_le0 (by omega)]
  | f + 1, g + 1, [], n, _, _, _ => rfl
  | f + 1, g + 1, r :: t, n, hs, hf, hg => by
    by_cases h : n ≤ 0
    · rw [takeN_le0 h, takeN_le0 h]
    · have h1 := first_sound hs (show 1 ≤ n by omega)
      rw [takeN, takeN, if_neg h, if_neg h, takeN_same f g _ _ h1.1 (by omega) (by omega)]
/-- what Take gives -/
def qTake (l : List Rest) (n : Int) : List Fill × List Rest := takeN n.toNat l n
theorem qTake_le0 {l : List Rest} {n : Int} (h : n ≤ 0) : qTake l n = ([], l) := takeN_le0 h
theorem qTake_nil (n : Int) : qTake [] n = ([], []) := takeN_nil _ n
theorem qTake_cons {r : Rest} {t : List Rest} {n : Int} (hs : Sound (r :: t)) (hn : 1 ≤ n) : qTake (r :: t) n = ((qFirst r t n).1 :: (qTake (qFirst r t n).2 (n - (qFirst r t n).1.qty)).1, (qTake (qFirst r t n).2 (n - (qFirst r t n).1.qty)).2) := by
  have h1 := first_sound hs hn
  rw [qTake, show n.toNat = (n.toNat - 1) + 1 by omega, takeN, if_neg (by omega), qTake, takeN_same (n.toNat - 1) (n - (qFirst r t n).1.qty).toNat _ _ h1.1 (by omega) (by omega)]
def frows (l : List Fill) : List Value := l.flatMap Fill.vals
theorem frows_len (l : List Fill) : (frows l).length = l.length * 3 := flat_len (f := Fill.vals) (s := 3) (fun _ => rfl) l
theorem frows_app (a b : List Fill) : frows (a ++ b) = frows a ++ frows b := List.flatMap_append
/-- where the loop of Take stands -/
structure TakeRel (l0 : List Rest) (n0 : Int) (w : World) (wr : World) (l : List Rest) (n : Int) (fs : List Fill) (A : Option Addr) (c : Nat) (Ao : Option Addr) (co : Nat) : Prop where
  ownL : OwnS wr w.heap.size 5 A l.length c (rows l)
  ownF : OwnS wr w.heap.size 3 Ao fs.length co (frows fs)
  apart : rowOf A c = none ∨ rowOf A c ≠ rowOf Ao co
  below : Below w.heap.size w wr
  sound : Sound l
  len : l.length ≤ 60
  pos : 0 ≤ n
  bound : (fs.length : Int) + n ≤ 10000
  told : qTake l0 n0 = (fs ++ (qTake l n).1, (qTake l n).2)
theorem OwnS.none_cap {w : World} {base s n c : Nat} {A : Option Addr} {xs : List Value} (h : OwnS w base s A n c xs) (hA : A = none) : n = 0 ∧ c = 0 := by
  rcases Nat.eq_zero_or_pos c with h0 | h0
  · have := h.le; exact ⟨by omega, h0⟩
  · obtain ⟨g, off, e, _⟩ := h.lies h0
    rw [hA] at e; cases e
/-- how Take ends -/
def TakePost (fs : List Fill) (l : List Rest) (w : World) (e : Ending) (w' : World) : Prop :=
  ∃ Ao co A c, e = .returned (.tuple #[.slice Ao fs.length co, .slice A l.length c, .nilIface]) ∧ OwnS w' w.heap.size 3 Ao fs.length co (frows fs) ∧ OwnS w' w.heap.size 5 A l.length c (rows l) ∧ Below w.heap.size w w'
end Go.Proofs.YtkdgpdijbobmkaaGreat
namespace Go.Proofs.YtkdgpdijbobmkaaGreat
set_option linter.all false
open Go Go.RowKit
/-- a queue is right: not too long, each of it right, no id twice -/
theorem findI_neg {l : List Rest} {id : Int} : ¬ 0 ≤ findI l id ↔ id ∉ l.map Rest.id := by
  unfold findI
  cases h : l.findIdx? (fun r => r.id == id) with
  | none =>
    rw [List.findIdx?_eq_none_iff] at h
    simp only [List.mem_map, not_exists, not_and]
    constructor
    · intro _ x hx e
      have := h x hx
      simp [e] at this
    · intro _; omega
  | some i =>
    rw [List.findIdx?_eq_some_iff_getElem] at h
    obtain ⟨hi, h1, _⟩ := h
    constructor
    · intro h2; exact absurd (Int.natCast_nonneg i) h2
    · intro h2 _
      exact h2 (List.mem_map.2 ⟨l[i], List.getElem_mem hi, by simpa using h1⟩)
theorem qErr_iff {l : List Rest} : qErr l = 0 ↔ l.length ≤ 60 ∧ Sound l ∧ (l.map Rest.id).Nodup := by
  constructor
  · intro h
    have hb := bodyBounds h
    refine ⟨hb.1, hb.2, ?_⟩
    have hs : ∀ k, k < l.length → stepE l k = 0 := by
      intro k hk
      by_cases he : stepE l k = 0
      · exact he
      · exfalso
        rw [qErr, if_neg (by omega)] at h
        cases hf : (List.range l.length).find? (fun k => !(stepE l k == 0)) with
        | none =>
          rw [List.find?_eq_none] at hf
          have := hf k (List.mem_range.2 hk)
          simp at this
          exact he this
        | some j =>
          rw [hf] at h
          have := List.find?_some hf
          simp at this
          exact this h
    rw [List.nodup_iff_pairwise_ne, List.pairwise_iff_getElem]
    intro i j hi hj hij e
    simp only [List.length_map] at hi hj
    have h1 := hs j hj
    rw [stepE, List.getElem?_eq_getElem hj] at h1
    dsimp only at h1
    rw [if_neg (by rw [hb.2 _ (List.getElem_mem hj)]; omega)] at h1
    have h2 : ¬ 0 ≤ findI (l.take j) l[j].id := fun h3 => by rw [if_pos h3] at h1; omega
    rw [findI_neg] at h2
    apply h2
    simp only [List.getElem_map] at e
    exact List.mem_map.2 ⟨l[i], by rw [List.mem_take_iff_getElem]; exact ⟨i, by omega, rfl⟩, e⟩
  · rintro ⟨h1, h2, h3⟩
    refine qErr_none h1 fun k hk => ?_
    rw [stepE, List.getElem?_eq_getElem hk]
    dsimp only
    rw [if_neg (by rw [h2 _ (List.getElem_mem hk)]; omega), if_neg]
    rw [findI_neg]
    intro hm
    obtain ⟨r, hr, e⟩ := List.mem_map.1 hm
    obtain ⟨i, hi, rfl⟩ := List.mem_take_iff_getElem.1 hr
    rw [List.nodup_iff_pairwise_ne, List.pairwise_iff_getElem] at h3
    have := h3 i k (by simp; omega) (by simp; omega) (by omega)
    simp only [List.getElem_map] at this
    exact this e
theorem first_ids {r : Rest} {t : List Rest} {n : Int} (h : ((r :: t).map Rest.id).Nodup) : ((qFirst r t n).2.map Rest.id).Nodup := by
  unfold qFirst
  split
  · simpa using h
  · split
    · simp only [List.map_append, List.map_cons, List.map_nil]
      simp only [List.map_cons] at h
      exact ((List.perm_append_singleton r.id (t.map Rest.id)).nodup_iff).2 h
    · simp only [List.map_cons] at h
      exact (List.nodup_cons.1 h).2
theorem first_all (r : Rest) (t : List Rest) (n : Int) (h : r.hidden = 0 ∨ 0 < r.hidden) : (qFirst r t n).1.qty + allQ (qFirst r t n).2 = allQ (r :: t) := by
  have e : allQ (r :: t) = (r.qty + r.hidden) + allQ t := by simp [allQ]
  unfold qFirst
  split
  · simp [allQ]; omega
  · split
    · rw [e, allQ_snoc]; dsimp only; omega
    · rw [e]; dsimp only; omega
/-- all that was taken -/
def sumF (l : List Fill) : Int := (l.map Fill.qty).sum
/-- what Take does, all in one -/
structure Took (l : List Rest) (n : Int) (f : List Fill) (r : List Rest) : Prop where
  sound : Sound r
  ids : (r.map Rest.id).Nodup
  len : r.length ≤ l.length
  all : sumF f + allQ r = allQ l
  le : sumF f ≤ n
  rest : sumF f < n → r = []
  each : ∀ x ∈ f, 1 ≤ x.qty ∧ x.qty ≤ n
theorem took : ∀ (m : Nat) (l : List Rest) (n : Int), n.toNat ≤ m → 0 ≤ n → Sound l → (l.map Rest.id).Nodup → Took l n (qTake l n).1 (qTake l n).2
  | m, l, n, hm, hn, hs, hd => by
    by_cases h0 : n ≤ 0
    · rw [qTake_le0 h0]
      exact ⟨hs, hd, Nat.le_refl _, by simp [sumF], by simpa [sumF] using hn, fun h => by simp [sumF] at h; omega, fun x hx => by cases hx⟩
    · cases l with
      | nil =>
        rw [qTake_nil]
        exact ⟨hs, hd, Nat.le_refl _, by simp [sumF], by simpa [sumF] using hn, fun _ => rfl, fun x hx => by cases hx⟩
      | cons r t =>
        cases m with
        | zero => omega
        | succ m =>
          have h1 := first_sound hs (show 1 ≤ n by omega)
          have ih := took m (qFirst r t n).2 (n - (qFirst r t n).1.qty) (by omega) (by omega) h1.1 (first_ids hd)
          have hh := err0 (hs r (by simp))
          have ha := first_all r t n (by omega)
          rw [qTake_cons hs (by omega)]
          have e : ∀ (x : Fill) (f : List Fill), sumF (x :: f) = x.qty + sumF f := fun x f => by simp [sumF]
          dsimp only
          refine ⟨ih.sound, ih.ids, by have := ih.len; simp only [List.length_cons]; omega, ?_, ?_, fun h => ih.rest ?_, fun x hx => ?_⟩
          · rw [e]; have := ih.all; omega
          · rw [e]; have := ih.le; omega
          · rw [e] at h; omega
          · rcases List.mem_cons.1 hx with rfl | hx
            · exact ⟨h1.2.1, h1.2.2.1⟩
            · have := ih.each x hx; omega
theorem took_err {l : List Rest} {n : Int} (h : qErr l = 0) (hn : 0 ≤ n) : qErr (qTake l n).2 = 0 := by
  rw [qErr_iff] at h ⊢
  have t := took n.toNat l n (Nat.le_refl _) hn h.2.1 h.2.2
  exact ⟨Nat.le_trans t.len h.1, t.sound, t.ids⟩
/-- taken in two goes it comes to the same -/
theorem take_two : ∀ (m : Nat) (l : List Rest) (c n : Int), c.toNat ≤ m → 0 ≤ c → c ≤ n → Sound l → (qTake (qTake l c).2 (n - c)).2 = (qTake l n).2
  | m, l, c, n, hm, hc, hcn, hs => by
    by_cases h0 : c ≤ 0
    · rw [qTake_le0 h0, show n - c = n by omega]
    · cases l with
      | nil => rw [qTake_nil, qTake_nil, qTake_nil]
      | cons r t =>
        cases m with
        | zero => omega
        | succ m =>
          have h1 := first_sound hs (show 1 ≤ c by omega)
          have h2 := first_sound hs (show 1 ≤ n by omega)
          rw [qTake_cons hs (show 1 ≤ c by omega)]
          dsimp only
          by_cases hp : c < r.qty
          · have e1 : qFirst r t c = (⟨r.id, r.who, c⟩, { r with qty := r.qty - c } :: t) := by rw [qFirst, if_pos hp]
            rw [e1] at h1 ⊢
            dsimp only at h1 ⊢
            rw [show c - c = 0 by omega, qTake_le0 (Int.le_refl 0)]
            dsimp only
            by_cases hz : n - c ≤ 0
            · rw [show n = c by omega, show c - c = 0 by omega, qTake_le0 (Int.le_refl 0), qTake_cons hs (by omega), e1]
              dsimp only
              rw [show c - c = 0 by omega, qTake_le0 (Int.le_refl 0)]
            · rw [qTake_cons h1.1 (by omega), qTake_cons hs (by omega)]
              dsimp only
              by_cases hq : n < r.qty
              · have e2 : qFirst { r with qty := r.qty - c } t (n - c) = (⟨r.id, r.who, n - c⟩, { r with qty := r.qty - n } :: t) := by
                  rw [qFirst, if_pos (by dsimp only; omega)]
                  dsimp only
                  rw [show r.qty - c - (n - c) = r.qty - n by omega]
                have e3 : qFirst r t n = (⟨r.id, r.who, n⟩, { r with qty := r.qty - n } :: t) := by rw [qFirst, if_pos hq]
                rw [e2, e3]
                dsimp only
                rw [show n - c - (n - c) = 0 by omega, show n - n = 0 by omega]
              · have e2 : (qFirst { r with qty := r.qty - c } t (n - c)).2 = (qFirst r t n).2 ∧ (qFirst { r with qty := r.qty - c } t (n - c)).1.qty = r.qty - c ∧ (qFirst r t n).1.qty = r.qty := by
                  unfold qFirst
                  rw [if_neg (by dsimp only; omega), if_neg hq]
                  split <;> exact ⟨rfl, rfl, rfl⟩
                rw [e2.1, e2.2.1, e2.2.2, show n - c - (r.qty - c) = n - r.qty by omega]
          · have e : qFirst r t c = qFirst r t n := by
              unfold qFirst
              rw [if_neg hp, if_neg (show ¬ n < r.qty by omega)]
            rw [qTake_cons hs (show 1 ≤ n by omega), ← e]
            dsimp only
            have hq : (qFirst r t c).1.qty ≤ c := h1.2.2.1
            have ih := take_two m (qFirst r t c).2 (c - (qFirst r t c).1.qty) (n - (qFirst r t c).1.qty) (by omega) (by omega) (by omega) h1.1
            rw [← ih]
            congr 2
            omega
theorem take_head {r : Rest} {t : List Rest} {n : Int} (hs : Sound (r :: t)) (hn : 1 ≤ n) : ∃ f fs, (qTake (r :: t) n).1 = f :: fs ∧ f.id = r.id := by
  rw [qTake_cons hs hn]
  refine ⟨_, _, rfl, ?_⟩
  unfold qFirst
  split
  · rfl
  · split <;> rfl
theorem sumF_take {l : List Fill} {k : Nat} {f : Fill} (h : l[k]? = some f) : sumF (l.take (k + 1)) = sumF (l.take k) + f.qty := by
  rw [List.take_add_one, h]; simp [sumF]
end Go.Proofs.YtkdgpdijbobmkaaGreat
