/- What meet.Run computes: plain. -/
import Derived.Test.YtbnjkcgkdpildaaDoorMeetTrade
import Derived.Test.YtbnjkcgkdpildaaDoorLvOwn
namespace Go.Proofs.YtbnjkcgkdpildaaDoor
set_option linter.all false
open Go Go.RowKit
/-- how far a meeting has come -/
structure MSt where
  L : List Lv
  left : Int
  T : List Trade
  W : List Int
  ends : Bool
/-- does a meeting go on? -/
def mGo (o : Order) (s : MSt) : Bool := decide (0 < s.left) && !s.ends && (match s.L with | [] => false | x :: _ => may o x.price)
/-- levels, the first with other rests, or without it -/
def mCut (x : Lv) (rs : List Rest) (L : List Lv) : List Lv := if rs.length = 0 then L else ⟨x.price, rs⟩ :: L
/-- one round -/
def mStep (o : Order) (mode : Int) (s : MSt) : MSt :=
  match s.L with
  | [] => s
  | x :: L => match x.rs with
    | [] => s
    | r :: t =>
      if r.who = o.who ∧ mode ≠ 0 then
        if mode = 1 then { s with ends := true } else { s with ends := decide (mode ≠ 2), W := s.W ++ [r.id], L := mCut x t L }
      else { s with L := mCut x (qFirst r t s.left).2 L, T := s.T ++ [mTr o (qFirst r t s.left).1 x.price], left := s.left - (qFirst r t s.left).1.qty }
def mRun (o : Order) (mode : Int) : Nat → MSt → Option MSt
  | 0, s => some s
  | n + 1, s => if mGo o s then (if 400 < (mStep o mode s).T.length then none else mRun o mode n (mStep o mode s)) else some s
/-- all is right on the way -/
structure MOk (s : MSt) : Prop where
  some_ : ∀ x ∈ s.L, x.rs.length ≠ 0
  each : ∀ x ∈ s.L, ∀ r ∈ x.rs, r.err = 0
  few : cnt s.L ≤ 60
  left0 : 0 ≤ s.left
  left1 : s.left ≤ 10000
  went : s.W.length + cnt s.L ≤ 60
  trades : s.T.length ≤ 400
def mSize (s : MSt) : Nat := s.left.toNat + cnt s.L + (if s.ends then 0 else 1)
theorem cnt_cons (x : Lv) (L : List Lv) : cnt (x :: L) = x.rs.length + cnt L := by simp [cnt]
theorem full_len : ∀ {L : List Lv}, (∀ x ∈ L, x.rs.length ≠ 0) → L.length ≤ cnt L
  | [], _ => Nat.zero_le _
  | x :: L, h => by
    have := full_len (fun y hy => h y (List.mem_cons_of_mem _ hy))
    have := h x (by simp)
    rw [cnt_cons, List.length_cons]
    omega
theorem cnt_mCut (x : Lv) (rs : List Rest) (L : List Lv) : cnt (mCut x rs L) = rs.length + cnt L := by
  unfold mCut
  split
  · omega
  · rw [cnt_cons]
theorem qFirst_len (r : Rest) (t : List Rest) (n : Int) : (qFirst r t n).2.length ≤ t.length + 1 := by
  unfold qFirst
  split
  · simp
  · split <;> simp
theorem err_make {id who qty hidden show_ : Int} (h1 : inb id 1 9999 = true) (h2 : inb who 1 9 = true) (a : 1 ≤ qty) (b : qty ≤ 10000) (c : 0 ≤ hidden) (d : hidden ≤ 10000) (e : 0 ≤ show_) (f : show_ ≤ 10000) (g : show_ = 0 → hidden = 0) (i : show_ ≠ 0 → qty ≤ show_) : Rest.err ⟨id, who, qty, hidden, show_⟩ = 0 := by
  simp only [Rest.err, h1, h2, inb_y ⟨a, b⟩, inb_y ⟨c, d⟩, inb_y ⟨e, f⟩]
  by_cases hs : show_ = 0
  · simp [hs, g hs]
  · have := i hs
    simp [hs]
    omega
theorem qFirst_ok {r : Rest} {t : List Rest} {n : Int} (hr : r.err = 0) (ht : ∀ x ∈ t, x.err = 0) (hn : 1 ≤ n) : (∀ x ∈ (qFirst r t n).2, x.err = 0) ∧ 1 ≤ (qFirst r t n).1.qty ∧ (qFirst r t n).1.qty ≤ n ∧ (qFirst r t n).1.qty ≤ 10000 := by
  obtain ⟨q1, q2, q3, q4, q5, q6, q7, q8, q9, q10⟩ := err0 hr
  obtain ⟨id, who, qty, hidden, show_⟩ := r
  dsimp only at *
  unfold qFirst
  dsimp only
  by_cases h1 : n < qty
  · rw [if_pos h1]
    refine ⟨fun x hx => ?_, by dsimp only; omega, by dsimp only; omega, by dsimp only; omega⟩
    rcases List.mem_cons.1 hx with rfl | hx
    · exact err_make q9 q10 (by omega) (by omega) q3 q4 q5 q6 q7 (fun h => by have := q8 h; omega)
    · exact ht x hx
  · rw [if_neg h1]
    by_cases h2 : 0 < hidden
    · rw [if_pos h2]
      refine ⟨fun x hx => ?_, by dsimp only; omega, by dsimp only; omega, by dsimp only; omega⟩
      rcases List.mem_append.1 hx with hx | hx
      · exact ht x hx
      · rw [List.mem_singleton] at hx
        subst hx
        have hs : show_ ≠ 0 := fun h => by have := q7 h; omega
        have := q8 hs
        exact err_make q9 q10 (by omega) (by omega) (by omega) (by omega) q5 q6 (fun h => absurd h hs) (fun _ => by omega)
    · rw [if_neg h2]
      exact ⟨fun x hx => ht x hx, by dsimp only; omega, by dsimp only; omega, by dsimp only; omega⟩
theorem mCut_mem {x : Lv} {rs : List Rest} {L : List Lv} {y : Lv} (h : y ∈ mCut x rs L) : (y = ⟨x.price, rs⟩ ∧ rs.length ≠ 0) ∨ y ∈ L := by
  unfold mCut at h
  split at h
  · exact .inr h
  · rcases List.mem_cons.1 h with h | h
    · exact .inl ⟨h, by assumption⟩
    · exact .inr h
/-- what holds behind a round -/
theorem mStep_ok {o : Order} {mode : Int} {s : MSt} (h : MOk s) (hg : mGo o s = true) :
    (∀ x ∈ (mStep o mode s).L, x.rs.length ≠ 0) ∧ (∀ x ∈ (mStep o mode s).L, ∀ r ∈ x.rs, r.err = 0) ∧ cnt (mStep o mode s).L ≤ cnt s.L ∧ 0 ≤ (mStep o mode s).left ∧ (mStep o mode s).left ≤ s.left ∧ (mStep o mode s).W.length + cnt (mStep o mode s).L ≤ 60 ∧ (mStep o mode s).T.length ≤ s.T.length + 1 ∧ mSize (mStep o mode s) < mSize s := by
  obtain ⟨L, left, T, W, ends⟩ := s
  obtain ⟨h1, h2, h3, h4, h5, h6, h7⟩ := h
  dsimp only at *
  have hl : 0 < left := by
    by_cases h0 : 0 < left
    · exact h0
    · simp [mGo, h0] at hg
  have he : ends = false := by
    cases ends
    · rfl
    · simp [mGo] at hg
  subst he
  cases L with
  | nil => simp [mGo] at hg
  | cons x L =>
    obtain ⟨p, rs⟩ := x
    cases rs with
    | nil => exact absurd rfl (h1 _ (List.mem_cons_self ..))
    | cons r t =>
      have hr : r.err = 0 := h2 _ (List.mem_cons_self ..) r (List.mem_cons_self ..)
      have ht : ∀ x ∈ t, x.err = 0 := fun y hy => h2 _ (List.mem_cons_self ..) y (List.mem_cons_of_mem _ hy)
      have hL1 : ∀ x ∈ L, x.rs.length ≠ 0 := fun y hy => h1 y (List.mem_cons_of_mem _ hy)
      have hL2 : ∀ x ∈ L, ∀ r ∈ x.rs, r.err = 0 := fun y hy => h2 y (List.mem_cons_of_mem _ hy)
      rw [cnt_cons] at h3 h6
      simp only [List.length_cons] at h3 h6
      unfold mStep
      dsimp only
      by_cases hw : r.who = o.who ∧ mode ≠ 0
      · rw [if_pos hw]
        by_cases hm : mode = 1
        · rw [if_pos hm]
          dsimp only
          refine ⟨h1, h2, Nat.le_refl _, h4, Int.le_refl _, ?_, by omega, ?_⟩
          · rw [cnt_cons]; simp only [List.length_cons]; omega
          · simp [mSize]
        · rw [if_neg hm]
          dsimp only
          refine ⟨fun y hy => ?_, fun y hy => ?_, ?_, h4, Int.le_refl _, ?_, by omega, ?_⟩
          · rcases mCut_mem hy with ⟨rfl, h⟩ | hy
            · exact h
            · exact hL1 y hy
          · rcases mCut_mem hy with ⟨rfl, h⟩ | hy
            · exact ht
            · exact hL2 y hy
          · rw [cnt_mCut, cnt_cons]; simp only [List.length_cons]; omega
          · rw [cnt_mCut, List.length_append]; simp only [List.length_cons, List.length_nil]; omega
          · simp only [mSize, cnt_mCut, cnt_cons, List.length_cons]; split <;> simp <;> omega
      · rw [if_neg hw]
        dsimp only
        obtain ⟨k1, k2, k3, k4⟩ := qFirst_ok hr ht (n := left) (by omega)
        have kl := qFirst_len r t left
        refine ⟨fun y hy => ?_, fun y hy => ?_, ?_, by omega, by omega, ?_, by simp, ?_⟩
        · rcases mCut_mem hy with ⟨rfl, h⟩ | hy
          · exact h
          · exact hL1 y hy
        · rcases mCut_mem hy with ⟨rfl, h⟩ | hy
          · exact k1
          · exact hL2 y hy
        · rw [cnt_mCut, cnt_cons]; simp only [List.length_cons]; omega
        · rw [cnt_mCut]; omega
        · simp only [mSize, cnt_mCut, cnt_cons, List.length_cons]; simp; omega
theorem mStep_ok2 {o : Order} {mode : Int} {s : MSt} (h : MOk s) (hg : mGo o s = true) (ht : (mStep o mode s).T.length ≤ 400) : MOk (mStep o mode s) := by
  obtain ⟨a, b, c, d, e, f, g, i⟩ := mStep_ok (mode := mode) h hg
  exact ⟨a, b, Nat.le_trans c h.few, d, Int.le_trans e h.left1, f, ht⟩
theorem mRun_stop {o : Order} {mode : Int} {s : MSt} {n : Nat} (h : mGo o s = false) : mRun o mode n s = some s := by
  cases n with
  | zero => rfl
  | succ n => simp [mRun, h]
theorem mRun_go {o : Order} {mode : Int} {s : MSt} {n : Nat} (h : mGo o s = true) : mRun o mode (n + 1) s = if 400 < (mStep o mode s).T.length then none else mRun o mode n (mStep o mode s) := by
  simp [mRun, h]
/-- what holds at the start of a meeting, and is kept by each round, holds at its end; there it does not go on -/
theorem mRun_ind {o : Order} {mode : Int} (I : MSt → Prop) (hI : ∀ s, MOk s → I s → mGo o s = true → I (mStep o mode s)) : ∀ (n : Nat) (s : MSt) (e : MSt), MOk s → I s → mSize s < n → mRun o mode n s = some e → MOk e ∧ I e ∧ mGo o e = false := by
  intro n
  induction n with
  | zero => intro s e _ _ h; omega
  | succ n ih =>
    intro s e hs hi hz hr
    cases hg : mGo o s with
    | false =>
      rw [mRun_stop hg] at hr
      cases hr
      exact ⟨hs, hi, hg⟩
    | true =>
      rw [mRun_go hg] at hr
      by_cases ht : 400 < (mStep o mode s).T.length
      · rw [if_pos ht] at hr; cases hr
      · rw [if_neg ht] at hr
        have := (mStep_ok (mode := mode) hs hg).2.2.2.2.2.2.2
        exact ih _ e (mStep_ok2 hs hg (by omega)) (hI s hs hi hg) (by omega) hr
/-- who comes meets the other side -/
def met (L M : List Lv) (o : Order) (mode : Int) : Option MSt := mRun o mode (10000 + 60 + 2) ⟨if o.side = 1 then M else L, o.qty, [], [], false⟩
end Go.Proofs.YtbnjkcgkdpildaaDoor
