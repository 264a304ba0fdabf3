/- The walk of QueueFull. -/
import Derived.Test.YtefncbdkjljbjaaDoorPush
import Derived.Test.YtefncbdkjljbjaaDoorTakeLaw
import Derived.Test.YtefncbdkjljbjaaDoorTake3
import Derived.Test.YtefncbdkjljbjaaDoorSame
import Derived.Test.YtefncbdkjljbjaaDoorLaid
namespace Go.Proofs.YtefncbdkjljbjaaDoor
set_option linter.all false
open Go Go.RowKit
/-- m rests of two each -/
def row (m : Nat) : List Rest := (List.range m).map fun (i : Nat) => (⟨(i : Int) + 1, 1, 2, 0, 0⟩ : Rest)
theorem row_len (m : Nat) : (row m).length = m := by simp [row]
theorem row_succ (m : Nat) : row (m + 1) = row m ++ [⟨m + 1, 1, 2, 0, 0⟩] := by simp [row, List.range_succ]
theorem row_err {k : Int} (h1 : 1 ≤ k) (h2 : k ≤ 70) : Rest.err ⟨k, 1, 2, 0, 0⟩ = 0 := err_mk (by simp [inb]; omega) (by simp [inb]) (by simp) (by simp) (by simp) (by simp) (by simp) (by simp) (by simp) (by simp)
theorem row_sound {m : Nat} (hm : m ≤ 70) : Sound (row m) := by
  intro r hr
  obtain ⟨i, hi, rfl⟩ := List.mem_map.1 hr
  have := List.mem_range.1 hi
  exact row_err (by omega) (by omega)
theorem row_ids (m : Nat) : (row m).map Rest.id = (List.range m).map fun (i : Nat) => ((i : Int) + 1) := by simp [row, Function.comp_def]
theorem row_nodup (m : Nat) : ((row m).map Rest.id).Nodup := by
  rw [row_ids]
  refine List.Pairwise.map _ ?_ (List.nodup_range (n := m))
  intro a b hab
  simp only [ne_eq]; omega
theorem row_q {m : Nat} (hm : m ≤ 60) : qErr (row m) = 0 := qErr_iff.2 ⟨by rw [row_len]; omega, row_sound (by omega), row_nodup m⟩
theorem row_new {m : Nat} {k : Int} (hk : (m : Int) < k) : ¬ 0 ≤ findI (row m) k := by
  rw [findI_neg, row_ids]
  intro h
  obtain ⟨i, hi, e⟩ := List.mem_map.1 h
  have := List.mem_range.1 hi
  omega
theorem row_push {m : Nat} {k : Int} (hm : m ≤ 60) (hk : (m : Int) < k) (hk2 : k ≤ 70) : pushE (row m) ⟨k, 1, 2, 0, 0⟩ = if 60 ≤ m then 4 else 0 := by
  rw [pushE, row_q hm, if_neg (by simp), row_err (by omega) hk2, if_neg (by simp), if_neg (row_new hk), row_len]
theorem row_allQ (m : Nat) : allQ (row m) = 2 * m := by
  induction m with
  | zero => rfl
  | succ m ih => rw [row_succ, allQ_snoc, ih]; simp; omega
theorem all_first {r : Rest} {t : List Rest} {n : Int} (h0 : r.hidden = 0) (h1 : r.qty ≤ n) : qFirst r t n = (⟨r.id, r.who, r.qty⟩, t) := by
  rw [qFirst, if_neg (by omega), if_neg (by omega)]
theorem all_take : ∀ (l : List Rest) (n : Int), Sound l → (∀ r ∈ l, r.hidden = 0) → allQ l < n → (qTake l n).1.length = l.length ∧ (qTake l n).2 = []
  | [], n, _, _, _ => by rw [qTake_nil]; exact ⟨rfl, rfl⟩
  | r :: t, n, hs, h0, hn => by
    have hr := err0 (hs r (by simp))
    have hb := allQ_bounds (l := t) (fun x hx => hs x (by simp [hx]))
    have e : allQ (r :: t) = r.qty + r.hidden + allQ t := by simp [allQ]
    have hf := all_first (t := t) (n := n) (h0 r (by simp)) (by omega)
    rw [qTake_cons hs (by omega), hf]
    dsimp only
    have ih := all_take t (n - r.qty) (fun x hx => hs x (by simp [hx])) (fun x hx => h0 x (by simp [hx])) (by omega)
    exact ⟨by rw [List.length_cons, List.length_cons, ih.1], ih.2⟩
theorem row_take {m : Nat} (hm : m ≤ 60) : (qTake (row m) 10000).1.length = m ∧ (qTake (row m) 10000).2 = [] := by
  have := all_take (row m) 10000 (row_sound (by omega)) (fun r hr => by obtain ⟨i, _, rfl⟩ := List.mem_map.1 hr; rfl) (by rw [row_allQ]; omega)
  rwa [row_len] at this
/-- Take of the whole row -/
def FullPost (m : Nat) (w : World) (e : Ending) (w' : World) : Prop := ∃ Ao co A c, e = .returned (.tuple #[.slice Ao m co, .slice A 0 c, .nilIface]) ∧ Below w.heap.size w w'
theorem full_post {m : Nat} (hm : m ≤ 60) {w : World} {e : Ending} {w' : World} (h : TakePost (qTake (row m) 10000).1 (qTake (row m) 10000).2 w e w') : FullPost m w e w' := by
  obtain ⟨Ao, co, A, c, he, _, _, hb⟩ := h
  obtain ⟨h1, h2⟩ := row_take hm
  rw [h1, h2] at he
  exact ⟨Ao, co, A, c, he, hb⟩
theorem row_rd {m : Nat} {w : World} {A : Option Addr} {c base : Nat} (h : OwnS w base 5 A m c (rows (row m))) : Rd w w.heap.size A (row m).length 5 (rcell (row m)) := by
  rw [row_len]
  exact h.rd (fun i j hi hj => rows_get (by rw [row_len]; exact hi) hj)
def PushRow (m : Nat) (w : World) (e : Ending) (w' : World) : Prop := ∃ A' c', e = .returned (.tuple #[.slice A' (m + 1) c', .nilIface]) ∧ Hid (OwnS w' w.heap.size 5 A' (m + 1) c' (rows (row (m + 1)))) ∧ Below w.heap.size w w'
theorem push_row {m : Nat} {k : Int} {w : World} {A : Option Addr} {c base : Nat} (h : OwnS w base 5 A m c (rows (row m))) (hm : m < 60) (hk : k = m + 1) :
    Calls Tryd.prog 40 #[.slice A m c, .agg #[.int .i64 k, .int .i64 1, .int .i64 2, .int .i64 0, .int .i64 0]] w (PushRow m w) := by
  subst hk
  have := push_ok (row m) A c ⟨m + 1, 1, 2, 0, 0⟩ w (row_rd h) (by rw [row_len]; exact h.le) (by rw [row_len]; exact h.none_cap) (by rw [row_push (by omega) (by omega) (by omega), if_neg (by omega)])
  rw [row_len] at this
  refine this.mono fun e w' ⟨A', c', h1, h2, h3⟩ => ⟨A', c', ?_, Lib.hid ?_, h3⟩
  · rw [h1, row_len]
  · rw [row_len] at h2; rw [row_succ]; exact h2
theorem push_full {k : Int} {w : World} {A : Option Addr} {c base : Nat} (h : OwnS w base 5 A 60 c (rows (row 60))) (hk : 60 < k) (hk2 : k ≤ 70) :
    Calls Tryd.prog 40 #[.slice A 60 c, .agg #[.int .i64 k, .int .i64 1, .int .i64 2, .int .i64 0, .int .i64 0]] w fun e w' => e = .returned (.tuple #[.slice none 0 0, er 4]) ∧ Below w.heap.size w w' := by
  have e4 : pushE (row 60) ⟨k, 1, 2, 0, 0⟩ = 4 := by rw [row_push (by omega) (by omega) hk2, if_pos (by omega)]
  have := push_bad (row 60) A c ⟨k, 1, 2, 0, 0⟩ w (row_rd h) (by rw [row_len]; exact h.le) (by rw [e4]; decide)
  rw [row_len, e4] at this
  exact this
theorem take_row {m : Nat} {w : World} {A : Option Addr} {c base : Nat} (h : OwnS w base 5 A m c (rows (row m))) (hm : m ≤ 60) :
    Calls Tryd.prog 41 #[.slice A m c, .int .i64 10000] w (FullPost m w) := by
  have := take_ok (row m) A c 10000 w (row_rd h) (by rw [row_len]; exact h.le) (by rw [row_len]; exact h.none_cap) (row_q hm) (by decide)
  rw [row_len] at this
  exact this.mono fun e w' h => full_post hm h
set_option maxHeartbeats 2000000 in
set_option maxRecDepth 100000 in
theorem full_in (n : Nat) (w : World) (h1 : 1 ≤ n) (h2 : n ≤ 70) (hl : Laid w) :
    Calls Tryd.prog 7 #[.int .i64 n] w fun e w' => e = .returned (.bool true) ∧ Below w.heap.size w w' := by
  have HL := Lib.hid hl
  clear hl
  have hn1 : (1 : Int) ≤ (n : Int) := by omega
  have hn2 : (n : Int) ≤ 70 := by omega
  go_enter Tryd.func7, Tryd.ntmps7
  go_wp2_with fail
  go_loopw [3, 4] (fun l i wr => ∃ (k m : Nat) (A : Option Addr) (c : Nat), 1 ≤ k ∧ k ≤ n + 1 ∧ m ≤ 60 ∧ m < k ∧ (m + 1 = k ∨ m = 60) ∧ i = .int .i64 k ∧ l = .slice A m c ∧ (A = none → m = 0 ∧ c = 0) ∧ Hid (OwnS wr w.heap.size 5 A m c (rows (row m))) ∧ Below w.heap.size w wr) (fun _ i _ => 71 - (intOf i).toNat)
  case atStart => exact ⟨1, 0, none, 0, by omega, by omega, by omega, by omega, .inl rfl, rfl, rfl, fun _ => ⟨rfl, rfl⟩, Lib.hid (by exact OwnS.nil _ _ _ _), Below.refl _ _⟩
  case round =>
    obtain ⟨k, m, A, c, hk1, hk2, hm, hmk, hmm, rfl, rfl, hA, hO, hb⟩ := hrel
    have HA := Lib.hid hA
    have HMM := Lib.hid hmm
    clear hA hmm
    have hcap := hO.out.le
    have hbz := hb.size
    by_cases hkn : k ≤ n
    case pos =>
      by_cases h60 : m = 60
      · subst h60
        have k60 : (60 : Int) < (k : Int) := by omega
        have cP := push_full hO.out k60 (by omega)
        have CP := Lib.hid cP
        clear cP
        go_wp2_with fail
        go_at_call 40
        refine CP.out.mono ?_
        rintro e w1 ⟨rfl, hb1⟩
        have hb1' := below_then hb1 hb
        have HO := Lib.hid (hO.out.below hb1)
        clear hO CP
        go_wp2_with fail
        go_at_call 14
        refine (same_er 4 4 _ (Laid.below HL.out hb1')).mono ?_
        rintro e w2 ⟨rfl, hb2⟩
        go_wp2
        go_roundw
        case rel => exact ⟨k + 1, 60, A, c, by omega, by omega, by omega, by omega, .inr rfl, by go_num, rfl, HA.out, Lib.hid (HO.out.below hb2), below_then hb2 hb1'⟩
        case measure => simp [intOf]; omega
      · have hmk1 : m + 1 = k := by rcases HMM.out with h | h; exact h; exact absurd h h60
        have cP := push_row (k := k) hO.out (by omega) (by omega)
        have CP := Lib.hid cP
        have HMK := Lib.hid hmk1
        have k60 : (k : Int) ≤ 60 := by omega
        clear cP hmk1 h60
        go_wp2_with fail
        go_at_call 40
        refine CP.out.mono ?_
        rintro e w1 ⟨A1, c1, rfl, own1, hb1⟩
        have hb1' := below_then hb1 hb
        clear hO CP
        go_wp2_with fail
        go_at_call 14
        refine (same_nil _ _).mono ?_
        rintro e w2 ⟨rfl, rfl⟩
        go_wp2
        go_roundw
        case rel => exact ⟨k + 1, m + 1, A1, c1, by omega, by omega, by omega, by omega, .inl (by rw [HMK.out]), by go_num, rfl, fun h => own1.out.none_cap h, Lib.hid (own1.out.lower hbz), hb1'⟩
        case measure => simp [intOf]; omega
    case neg =>
      have cT := take_row hO.out hm
      have CT := Lib.hid cT
      clear cT
      go_wp2_with fail
      go_at_call 41
      refine CT.out.mono ?_
      rintro e w1 ⟨Ao, co, A1, c1, rfl, hb1⟩
      go_wp2
      go_ret
      exact ⟨rfl, below_then hb1 hb⟩
theorem queueFull_law {H : Type} {enc : TypeId × Value → H} {v0 : Value} {d0 : DataW H} {p0 : List MemPlace} {base : Nat} {W : World}
    (h0 : Arg enc W base 3 v0 d0 p0) (hl : Laid W) :
    Calls Tryd.prog 7 #[v0] W fun e w' => e = .returned (.bool true) ∧ Below W.heap.size W w' := by
  obtain ⟨n, rfl, _⟩ := h0.int
  by_cases hh : 1 ≤ n ∧ n ≤ 70
  · obtain ⟨m, rfl⟩ := Int.eq_ofNat_of_zero_le (show 0 ≤ n by omega)
    exact full_in m W (by omega) (by omega) hl
  · rcases (show n < 1 ∨ (1 ≤ n ∧ 70 < n) by omega) with a | ⟨a, b⟩
    all_goals
      clear hh hl
      go_enter Tryd.func7, Tryd.ntmps7
      go_wp2
      go_ret
      exact ⟨rfl, Below.refl _ _⟩
end Go.Proofs.YtefncbdkjljbjaaDoor
