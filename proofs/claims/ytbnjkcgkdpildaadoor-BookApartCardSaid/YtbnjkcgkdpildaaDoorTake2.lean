/- queue.Take in plain words. -/
import Derived.Test.YtbnjkcgkdpildaaDoorTake
namespace Go.Proofs.YtbnjkcgkdpildaaDoor
set_option linter.all false
open Go Go.RowKit
def Fill.ok (f : Fill) : Prop := 1 ≤ f.qty
/-- every one of them is right -/
def Sound (l : List Rest) : Prop := ∀ r ∈ l, r.err = 0
theorem Sound.tail {r : Rest} {t : List Rest} (h : Sound (r :: t)) : Sound t := fun x hx => h x (by simp [hx])
theorem err_mk {r : Rest} (h1 : inb r.id 1 9999 = true) (h2 : inb r.who 1 9 = true) (h3 : 1 ≤ r.qty) (h4 : r.qty ≤ 10000) (h5 : 0 ≤ r.hidden) (h6 : r.hidden ≤ 10000) (h7 : 0 ≤ r.show_) (h8 : r.show_ ≤ 10000) (h9 : r.show_ = 0 → r.hidden = 0) (h10 : r.show_ ≠ 0 → r.qty ≤ r.show_) : r.err = 0 := by
  have a : inb r.qty 1 10000 = true := by simp [inb]; omega
  have b : inb r.hidden 0 10000 = true := by simp [inb]; omega
  have c : inb r.show_ 0 10000 = true := by simp [inb]; omega
  simp only [Rest.err, h1, h2, a, b, c]
  by_cases h : r.show_ = 0
  · simp [h, h9 h]
  · have := h10 h
    simp [h]; omega
theorem first_sound {r : Rest} {t : List Rest} {n : Int} (h : Sound (r :: t)) (hn : 1 ≤ n) : Sound (qFirst r t n).2 ∧ 1 ≤ (qFirst r t n).1.qty ∧ (qFirst r t n).1.qty ≤ n ∧ (qFirst r t n).2.length ≤ t.length + 1 := by
  have hr := err0 (h r (by simp))
  obtain ⟨q1, q2, q3, q4, q5, q6, q7, q8, q9, q10⟩ := hr
  unfold qFirst
  by_cases h1 : n < r.qty
  · rw [if_pos h1]
    refine ⟨fun x hx => ?_, hn, Int.le_refl _, by simp⟩
    rcases List.mem_cons.1 hx with rfl | hx
    · exact err_mk q9 q10 (by dsimp only; omega) (by dsimp only; omega) q3 q4 q5 q6 q7 (fun h => by have := q8 h; dsimp only; omega)
    · exact h x (by simp [hx])
  · rw [if_neg h1]
    by_cases h2 : 0 < r.hidden
    · rw [if_pos h2]
      refine ⟨fun x hx => ?_, q1, by dsimp only; omega, by simp⟩
      rcases List.mem_append.1 hx with hx | hx
      · exact h x (by simp [hx])
      · simp only [List.mem_singleton] at hx
        subst hx
        have : r.show_ ≠ 0 := fun h => by have := q7 h; omega
        exact err_mk q9 q10 (by dsimp only; omega) (by dsimp only; omega) (by dsimp only; omega) (by dsimp only; omega) q5 q6 (fun h => absurd h this) (fun _ => by dsimp only; omega)
    · rw [if_neg h2]
      exact ⟨h.tail, q1, by dsimp only; omega, by simp⟩
def takeN : Nat → List Rest → Int → List Fill × List Rest
  | 0, l, _ => ([], l)
  | f + 1, l, n => match l with
    | [] => ([], [])
    | r :: t => if n ≤ 0 then ([], r :: t) else ((qFirst r t n).1 :: (takeN f (qFirst r t n).2 (n - (qFirst r t n).1.qty)).1, (takeN f (qFirst r t n).2 (n - (qFirst r t n).1.qty)).2)
theorem takeN_le0 {f : Nat} {l : List Rest} {n : Int} (h : n ≤ 0) : takeN f l n = ([], l) := by
  cases f with
  | zero => rfl
  | succ f => cases l with
    | nil => rfl
    | cons r t => rw [takeN, if_pos h]
theorem takeN_nil (f : Nat) (n : Int) : takeN f [] n = ([], []) := by cases f <;> rfl
theorem takeN_same : ∀ (f g : Nat) (l : List Rest) (n : Int), Sound l → n.toNat ≤ f → n.toNat ≤ g → takeN f l n = takeN g l n
  | 0, g, l, n, _, hf, _ => by rw [takeN_le0 (by omega), takeN_le0 (by omega)]
  | f + 1, 0, l, n, _, _, hg => by rw [takeN_le0 (by omega), takeN_le0 (by omega)]
  | f + 1, g + 1, [], n, _, _, _ => rfl
  | f + 1, g + 1, r :: t, n, hs, hf, hg => by
    by_cases h : n ≤ 0
    · rw [takeN_le0 h, takeN_le0 h]
    · have h1 := first_sound hs (show 1 ≤ n by omega)
      rw [takeN, takeN, if_neg h, if_neg h, takeN_same f g _ _ h1.1 (by omega) (by omega)]
/-- what Take gives -/
def qTake (l : List Rest) (n : Int) : List Fill × List Rest := takeN n.toNat l n
theorem qTake_le0 {l : List Rest} {n : Int} (h : n ≤ 0) : qTake l n = ([], l) := takeN_le0 h
theorem qTake_nil (n : Int) : qTake [] n = ([], []) := takeN_nil _ n
theorem qTake_cons {r : Rest} {t : List Rest} {n : Int} (hs : Sound (r :: t)) (hn : 1 ≤ n) : qTake (r :: t) n = ((qFirst r t n).1 :: (qTake (qFirst r t n).2 (n - (qFirst r t n).1.qty)).1, (qTake (qFirst r t n).2 (n - (qFirst r t n).1.qty)).2) := by
  have h1 := first_sound hs hn
  rw [qTake, show n.toNat = (n.toNat - 1) + 1 by omega, takeN, if_neg (by omega), qTake, takeN_same (n.toNat - 1) (n - (qFirst r t n).1.qty).toNat _ _ h1.1 (by omega) (by omega)]
def frows (l : List Fill) : List Value := l.flatMap Fill.vals
theorem frows_len (l : List Fill) : (frows l).length = l.length * 3 := flat_len (f := Fill.vals) (s := 3) (fun _ => rfl) l
theorem frows_app (a b : List Fill) : frows (a ++ b) = frows a ++ frows b := List.flatMap_append
/-- where the loop of Take stands -/
structure TakeRel (l0 : List Rest) (n0 : Int) (w : World) (wr : World) (l : List Rest) (n : Int) (fs : List Fill) (A : Option Addr) (c : Nat) (Ao : Option Addr) (co : Nat) : Prop where
  ownL : OwnS wr w.heap.size 5 A l.length c (rows l)
  ownF : OwnS wr w.heap.size 3 Ao fs.length co (frows fs)
  apart : rowOf A c = none ∨ rowOf A c ≠ rowOf Ao co
  below : Below w.heap.size w wr
  sound : Sound l
  len : l.length ≤ 60
  pos : 0 ≤ n
  bound : (fs.length : Int) + n ≤ 10000
  told : qTake l0 n0 = (fs ++ (qTake l n).1, (qTake l n).2)
theorem OwnS.none_cap {w : World} {base s n c : Nat} {A : Option Addr} {xs : List Value} (h : OwnS w base s A n c xs) (hA : A = none) : n = 0 ∧ c = 0 := by
  rcases Nat.eq_zero_or_pos c with h0 | h0
  · have := h.le; exact ⟨by omega, h0⟩
  · obtain ⟨g, off, e, _⟩ := h.lies h0
    rw [hA] at e; cases e
/-- how Take ends -/
def TakePost (fs : List Fill) (l : List Rest) (w : World) (e : Ending) (w' : World) : Prop :=
  ∃ Ao co A c, e = .returned (.tuple #[.slice Ao fs.length co, .slice A l.length c, .nilIface]) ∧ OwnS w' w.heap.size 3 Ao fs.length co (frows fs) ∧ OwnS w' w.heap.size 5 A l.length c (rows l) ∧ Below w.heap.size w w'
end Go.Proofs.YtbnjkcgkdpildaaDoor
