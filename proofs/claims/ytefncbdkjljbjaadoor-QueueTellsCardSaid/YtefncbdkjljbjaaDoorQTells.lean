/- The contracts of Push, Drop, Take, whatever comes: what the walk of QueueTells meets. -/
import Derived.Test.YtefncbdkjljbjaaDoorQDrop
import Derived.Test.YtefncbdkjljbjaaDoorPush
import Derived.Test.YtefncbdkjljbjaaDoorRTake
import Derived.Test.YtefncbdkjljbjaaDoorFills
import Derived.Test.YtefncbdkjljbjaaDoorSame
import Derived.Test.YtefncbdkjljbjaaDoorLaid
import Derived.Test.YtefncbdkjljbjaaDoorStructArg
import Derived.Test.YtefncbdkjljbjaaDoorRestsArg
namespace Go.Proofs.YtefncbdkjljbjaaDoor
set_option linter.all false
open Go Go.RowKit
theorem rdm {w w' : World} {A : Option Addr} {n s : Nat} {c : Nat → Nat → Value} (h : Rd w w.heap.size A n s c) (hb : Below w.heap.size w w') : Rd w' w'.heap.size A n s c := (h.below hb).more hb.size
theorem same_told (E : Int) (w : World) (hl : Laid w) : Calls Tryd.prog 14 #[errV E, .int .i64 E] w fun e w' => e = .returned (.bool true) ∧ Below w.heap.size w w' := by
  by_cases h : E = 0
  · subst h
    refine (same_nil 0 w).mono ?_
    rintro e w' ⟨rfl, rfl⟩
    exact ⟨rfl, Below.refl _ _⟩
  · rw [errV, if_neg h]
    refine (same_er E E w hl).mono ?_
    rintro e w' ⟨rfl, hb⟩
    exact ⟨by simp, hb⟩
theorem errV_0 : errV 0 = .nilIface := rfl
theorem errV_n {k : Int} (h : k ≠ 0) : errV k = er k := if_neg h
/-- a slice of rests, and the fault -/
def RestsE (L : List Rest) (E : Int) (w : World) (e : Ending) (w' : World) : Prop := ∃ A' c', e = .returned (.tuple #[.slice A' L.length c', errV E]) ∧ Rd w' w'.heap.size A' L.length 5 (rcell L) ∧ Below w.heap.size w w'
def pushL (l : List Rest) (r : Rest) : List Rest := if pushE l r = 0 then l ++ [r] else []
theorem push_all (l : List Rest) (A : Option Addr) (c : Nat) (r : Rest) (w : World) (hr : Rd w w.heap.size A l.length 5 (rcell l)) (hcap : l.length ≤ c) (hA : A = none → l.length = 0 ∧ c = 0) :
    Calls Tryd.prog 40 #[.slice A l.length c, .agg #[.int .i64 r.id, .int .i64 r.who, .int .i64 r.qty, .int .i64 r.hidden, .int .i64 r.show_]] w (RestsE (pushL l r) (pushE l r) w) := by
  by_cases h : pushE l r = 0
  · refine (push_ok l A c r w hr hcap hA h).mono ?_
    rintro e w' ⟨A', c', he, ho, hb⟩
    refine ⟨A', c', ?_, ?_, hb⟩
    · rw [he, h, pushL, if_pos h]; simp [errV_0]
    · rw [pushL, if_pos h, List.length_append, List.length_singleton]
      exact ho.rd (fun i j hi hj => rows_get (by simpa using hi) hj)
  · refine (push_bad l A c r w hr hcap h).mono ?_
    rintro e w' ⟨he, hb⟩
    refine ⟨none, 0, ?_, ?_, hb⟩
    · rw [he, errV_n h, pushL, if_neg h]; rfl
    · rw [pushL, if_neg h]; exact Rd.nil
/-- a slice of rests, a rest, and the fault -/
def RestsX (L : List Rest) (x : Rest) (E : Int) (w : World) (e : Ending) (w' : World) : Prop := ∃ A' c', e = .returned (.tuple #[.slice A' L.length c', .agg #[.int .i64 x.id, .int .i64 x.who, .int .i64 x.qty, .int .i64 x.hidden, .int .i64 x.show_], errV E]) ∧ Rd w' w'.heap.size A' L.length 5 (rcell L) ∧ Below w.heap.size w w'
def dropL (l : List Rest) (id : Int) : List Rest := if dropE l id = 0 then l.eraseIdx (findI l id).toNat else []
def dropX (l : List Rest) (id : Int) : Rest := if dropE l id = 0 then l.getD (findI l id).toNat rest0 else rest0
theorem dropE_0 {l : List Rest} {id : Int} (h : dropE l id = 0) : qErr l = 0 ∧ ∃ k : Nat, findI l id = k := by
  by_cases h0 : qErr l = 0
  · rw [dropE, if_neg (by simpa using h0)] at h
    by_cases h1 : findI l id < 0
    · rw [if_pos h1] at h; omega
    · exact ⟨h0, (findI l id).toNat, by omega⟩
  · rw [dropE, if_pos h0] at h; exact absurd h h0
theorem drop_all (l : List Rest) (A : Option Addr) (c : Nat) (id : Int) (w : World) (hr : Rd w w.heap.size A l.length 5 (rcell l)) (hcap : l.length ≤ c) (hA : A = none → l.length = 0 ∧ c = 0) :
    Calls Tryd.prog 49 #[.slice A l.length c, .int .i64 id] w (RestsX (dropL l id) (dropX l id) (dropE l id) w) := by
  by_cases h : dropE l id = 0
  · obtain ⟨h0, k, hk⟩ := dropE_0 h
    have hkl := findI_lt hk
    have hg : l.getD k rest0 = l[k] := by simp [hkl]
    refine (drop_ok l A c id k l[k] w hr hcap hA h0 hk (List.getElem?_eq_getElem hkl)).mono ?_
    rintro e w' ⟨A', c', he, ho, hb⟩
    rw [dropL, dropX, if_pos h, if_pos h, hk, Int.toNat_natCast, hg, h]
    exact ⟨A', c', he, ho.rd (fun i j hi hj => rows_get hi hj), hb⟩
  · refine (drop_bad l A c id w hr hcap h).mono ?_
    rintro e w' ⟨he, hb⟩
    rw [dropL, dropX, if_neg h, if_neg h]
    exact ⟨none, 0, by rw [he, errV_n h]; rfl, Rd.nil, hb⟩
/-- fills, rests, and the fault -/
def TakeE (F : List Fill) (L : List Rest) (E : Int) (w : World) (e : Ending) (w' : World) : Prop := ∃ Ao co A' c', e = .returned (.tuple #[.slice Ao F.length co, .slice A' L.length c', errV E]) ∧ Rd w' w'.heap.size Ao F.length 3 (fcell F) ∧ Rd w' w'.heap.size A' L.length 5 (rcell L) ∧ Below w.heap.size w w'
def takeE (l : List Rest) (n : Int) : Int := if qErr l ≠ 0 then qErr l else if inb n 1 10000 then 0 else 1
def takeFL (l : List Rest) (n : Int) : List Fill × List Rest := if takeE l n = 0 then qTake l n else ([], [])
theorem takeE_0 {l : List Rest} {n : Int} (h : takeE l n = 0) : qErr l = 0 ∧ inb n 1 10000 = true := by
  by_cases h0 : qErr l = 0
  · rw [takeE, if_neg (by simpa using h0)] at h
    refine ⟨h0, ?_⟩
    cases hi : inb n 1 10000
    · rw [hi] at h; simp at h
    · rfl
  · rw [takeE, if_pos h0] at h; exact absurd h h0
theorem take_all (l : List Rest) (A : Option Addr) (c : Nat) (n : Int) (w : World) (hr : Rd w w.heap.size A l.length 5 (rcell l)) (hcap : l.length ≤ c) (hA : A = none → l.length = 0 ∧ c = 0) :
    Calls Tryd.prog 41 #[.slice A l.length c, .int .i64 n] w (TakeE (takeFL l n).1 (takeFL l n).2 (takeE l n) w) := by
  by_cases h : takeE l n = 0
  · obtain ⟨h0, h1⟩ := takeE_0 h
    refine (take_ok l A c n w hr hcap hA h0 h1).mono ?_
    rintro e w' ⟨Ao, co, A', c', he, hf, ho, hb⟩
    rw [takeFL, if_pos h, h]
    exact ⟨Ao, co, A', c', he, hf.rd (fun i j hi hj => frows_get hi hj), ho.rd (fun i j hi hj => rows_get hi hj), hb⟩
  · have hbad : qErr l ≠ 0 ∨ inb n 1 10000 = false := by
      by_cases h0 : qErr l = 0
      · right
        rw [takeE, if_neg (by simpa using h0)] at h
        cases hi : inb n 1 10000
        · rfl
        · rw [hi] at h; simp at h
      · exact .inl h0
    have hE : (if qErr l = 0 then 1 else qErr l) = takeE l n := by
      by_cases h0 : qErr l = 0
      · have h1 : inb n 1 10000 = false := by simpa [h0] using hbad
        rw [if_pos h0, takeE, if_neg (by simpa using h0), h1]; rfl
      · rw [if_neg h0, takeE, if_pos h0]
    refine (take_bad l A c n w hr hcap hbad).mono ?_
    rintro e w' ⟨he, hb⟩
    rw [takeFL, if_neg h]
    exact ⟨none, 0, none, 0, by rw [he, errV_n h, hE]; rfl, Rd.nil, Rd.nil, hb⟩
theorem take_lens (l : List Rest) (n : Int) (hl : qErr l = 0 → l.length ≤ 60) : (takeFL l n).1.length ≤ 10000 ∧ (takeFL l n).2.length ≤ 60 := by
  by_cases h : takeE l n = 0
  · obtain ⟨h0, h1⟩ := takeE_0 h
    have hn : 1 ≤ n ∧ n ≤ 10000 := by simpa [inb] using h1
    have hq := qErr_iff.1 h0
    have t := took n.toNat l n (Nat.le_refl _) (by omega) hq.2.1 hq.2.2
    rw [takeFL, if_pos h]
    refine ⟨?_, Nat.le_trans t.len (hl h0)⟩
    have h2 : ∀ (f : List Fill), (∀ x ∈ f, 1 ≤ x.qty) → (f.length : Int) ≤ sumF f := by
      intro f hf
      induction f with
      | nil => simp [sumF]
      | cons x f ih =>
        have := ih (fun y hy => hf y (by simp [hy]))
        have := hf x (by simp)
        simp only [sumF, List.map_cons, List.sum_cons, List.length_cons] at *
        omega
    have := h2 _ (fun x hx => (t.each x hx).1)
    have := t.le
    omega
  · rw [takeFL, if_neg h]; simp
end Go.Proofs.YtefncbdkjljbjaaDoor
