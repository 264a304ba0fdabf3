/- The contracts of package bars. -/
import Derived.Test.YtefncbdkjljbjaaDoorOrder
import Derived.Test.YtefncbdkjljbjaaDoorWords
namespace Go.Proofs.YtefncbdkjljbjaaDoor
set_option linter.all false
open Go.RowKit
structure Trade where
  maker : Int
  taker : Int
  frm : Int
  to : Int
  price : Int
  qty : Int
def Trade.cell (t : Trade) : Nat → Value
  | 0 => .int .i64 t.maker
  | 1 => .int .i64 t.taker
  | 2 => .int .i64 t.frm
  | 3 => .int .i64 t.to
  | 4 => .int .i64 t.price
  | _ => .int .i64 t.qty
def tr0 : Trade := ⟨0, 0, 0, 0, 0, 0⟩
/-- cell j of trade i -/
def tcell (l : List Trade) (i j : Nat) : Value := (l.getD i tr0).cell j
def Trade.okB (t : Trade) : Bool := vp t.price && inb t.qty 1 10000
theorem tr_at {l : List Trade} {w : World} {B k : Nat} {A : Option Addr} (hr : Rd w B A l.length 6 (tcell l)) (hk : k < l.length) :
    ∃ b off t, A = some ⟨b, off, none⟩ ∧ b < B ∧ l[k]? = some t ∧ w.cell? ⟨b, off + k * 6, none⟩ = some (.int .i64 t.maker) ∧ w.cell? ⟨b, off + k * 6 + 1, none⟩ = some (.int .i64 t.taker) ∧ w.cell? ⟨b, off + k * 6 + 2, none⟩ = some (.int .i64 t.frm) ∧ w.cell? ⟨b, off + k * 6 + 3, none⟩ = some (.int .i64 t.to) ∧ w.cell? ⟨b, off + k * 6 + 4, none⟩ = some (.int .i64 t.price) ∧ w.cell? ⟨b, off + k * 6 + 5, none⟩ = some (.int .i64 t.qty) := by
  obtain ⟨b, off, e, hb, hc⟩ := hr (by omega)
  have hg : l.getD k tr0 = l[k] := by simp [hk]
  have h := hc k hk
  have h0 := h 0 (by omega); have h1 := h 1 (by omega); have h2 := h 2 (by omega); have h3 := h 3 (by omega); have h4 := h 4 (by omega); have h5 := h 5 (by omega)
  simp only [tcell, hg, Trade.cell] at h0 h1 h2 h3 h4 h5
  exact ⟨b, off, l[k], e, hb, List.getElem?_eq_getElem hk, h0, h1, h2, h3, h4, h5⟩
theorem all_take_succ {α : Type} {p : α → Bool} {l : List α} {k : Nat} {t : α} (h : l[k]? = some t) (ha : (l.take k).all p = true) (hp : p t = true) : (l.take (k + 1)).all p = true := by
  rw [List.take_add_one, h]
  simp only [Option.toList_some, List.all_append, ha, List.all_cons, hp, List.all_nil, Bool.and_self]
theorem all_not {α : Type} {p : α → Bool} {l : List α} {k : Nat} {t : α} (h : l[k]? = some t) (hp : p t = false) : l.all p = false := by
  rw [Bool.eq_false_iff]
  intro ha
  rw [List.all_eq_true] at ha
  rw [ha t (List.mem_of_getElem? h)] at hp
  cases hp
/-- what is wrong with trades -/
def trErr (l : List Trade) : Int := if 400 < l.length then 4 else if l.all Trade.okB then 0 else 1
theorem trErr_long {l : List Trade} (h : 400 < l.length) : trErr l = 4 := if_pos h
theorem trErr_bad {l : List Trade} {k : Nat} {t : Trade} (h : l.length ≤ 400) (ht : l[k]? = some t) (hp : t.okB = false) : trErr l = 1 := by
  rw [trErr, if_neg (by omega), all_not ht hp]; rfl
theorem trErr_ok {l : List Trade} (h : l.length ≤ 400) (ht : l.all Trade.okB = true) : trErr l = 0 := by
  rw [trErr, if_neg (by omega), ht]; rfl
theorem ret_err {k : Int} {l : List Trade} (h : trErr l = k) (h0 : k ≠ 0) : Ending.returned (er k) = .returned (errV (trErr l)) := by rw [h, errV, if_neg h0]
theorem ret_nil {l : List Trade} (h : trErr l = 0) : Ending.returned .nilIface = .returned (errV (trErr l)) := by rw [h]; rfl
theorem bars_check_any (l : List Trade) (A : Option Addr) (c : Nat) (w : World) (hr : Rd w w.heap.size A l.length 6 (tcell l)) :
    Calls Tryd.prog 65 #[.slice A l.length c] w fun e w' => e = .returned (errV (trErr l)) ∧ Below w.heap.size w w' := by
  by_cases hl : (400 : Int) < (l.length : Int)
  · go_enter Tryd.func65, Tryd.ntmps65
    go_wp2
    go_ret
    exact ⟨ret_err (trErr_long (by omega)) (by omega), Below.refl _ _⟩
  have hl' : (l.length : Int) ≤ 400 := by omega
  clear hl
  go_enter Tryd.func65, Tryd.ntmps65
  go_wp2
  go_loopw [11] (fun i wr => ∃ k : Nat, k ≤ l.length ∧ i = .int .i64 k ∧ Below w.heap.size w wr ∧ (l.take k).all Trade.okB = true) (fun i _ => l.length - (intOf i).toNat)
  case atStart => exact ⟨0, by omega, rfl, Below.refl _ _, rfl⟩
  case round =>
    obtain ⟨k, hk, rfl, hb, ha⟩ := hrel
    have HA := Lib.hid ha; clear ha
    by_cases hlt : k < l.length
    · obtain ⟨b, off, t, rfl, hbl, ht, e0, e1, e2, e3, e4, e5⟩ := tr_at (hr.below hb) hlt
      have HT := Lib.hid ht; clear ht hr
      cases h1 : vp t.price
      · go_wp2_with (go_at_call 70; refine (valid_any _ _).mono ?_; rintro e w' ⟨rfl, rfl⟩)
        go_ret
        exact ⟨ret_err (trErr_bad (by omega) HT.out (by simp [Trade.okB, h1])) (by omega), hb.alloc hb.size _⟩
      · cases h2 : inb t.qty 1 10000
        · go_wp2_with (first | (go_at_call 70; refine (valid_any _ _).mono ?_; rintro e w' ⟨rfl, rfl⟩) | (go_at_call 71; refine (qty_any _ _).mono ?_; rintro e w' ⟨rfl, rfl⟩))
          go_ret
          exact ⟨ret_err (trErr_bad (by omega) HT.out (by simp [Trade.okB, h2])) (by omega), hb.alloc hb.size _⟩
        · go_wp2_with (first | (go_at_call 70; refine (valid_any _ _).mono ?_; rintro e w' ⟨rfl, rfl⟩) | (go_at_call 71; refine (qty_any _ _).mono ?_; rintro e w' ⟨rfl, rfl⟩))
          go_roundw
          case rel => exact ⟨k + 1, by omega, by go_num, hb.alloc hb.size _, all_take_succ HT.out HA.out (by simp [Trade.okB, h1, h2])⟩
          case measure => simp [intOf]; omega
    · go_wp2
      go_ret
      exact ⟨ret_nil (trErr_ok (by omega) (by have := HA.out; rwa [List.take_of_length_le (by omega)] at this)), hb⟩
structure Bar where
  o : Int
  h : Int
  l : Int
  c : Int
  q : Int
def bar0 : Bar := ⟨0, 0, 0, 0, 0⟩
/-- two bars, one behind the other -/
def joinB (a b : Bar) : Bar := if a.q = 0 then b else ⟨a.o, max a.h b.h, min a.l b.l, b.c, a.q + b.q⟩
def tbar (t : Trade) : Bar := ⟨t.price, t.price, t.price, t.price, t.qty⟩
set_option maxHeartbeats 2000000 in
theorem join_any (a b : Bar) (w : World) (h1 : 0 ≤ a.q) (h2 : a.q ≤ 4000000000) (h3 : 0 ≤ b.q) (h4 : b.q ≤ 4000000000) :
    Calls Tryd.prog 66 #[.agg #[.int .i64 a.o, .int .i64 a.h, .int .i64 a.l, .int .i64 a.c, .int .i64 a.q], .agg #[.int .i64 b.o, .int .i64 b.h, .int .i64 b.l, .int .i64 b.c, .int .i64 b.q]] w fun e w' =>
      e = .returned (.agg #[.int .i64 (joinB a b).o, .int .i64 (joinB a b).h, .int .i64 (joinB a b).l, .int .i64 (joinB a b).c, .int .i64 (joinB a b).q]) ∧ Below w.heap.size w w' := by
  obtain ⟨ao, ah, al, ac, aq⟩ := a
  obtain ⟨bo, bh, bl, bc, bq⟩ := b
  simp only [] at h1 h2 h3 h4
  by_cases h : aq = 0
  · subst h
    go_enter Tryd.func66, Tryd.ntmps66
    go_wp2
    exact bodyPost_ret (v := .agg #[.int .i64 bo, .int .i64 bh, .int .i64 bl, .int .i64 bc, .int .i64 bq]) (by simp [results, Tryd.results66, go_sem]) rfl ⟨rfl, by (repeat (first | exact Below.refl _ _ | assumption | (refine below_then (by assumption) ?_) | (refine below_then_alloc ?_) | (refine Below.drew ?_)))⟩
  · have e : (aq == 0) = false := by simpa using h
    have hj : joinB ⟨ao, ah, al, ac, aq⟩ ⟨bo, bh, bl, bc, bq⟩ = ⟨ao, max ah bh, min al bl, bc, aq + bq⟩ := if_neg h
    rw [hj]
    clear hj h
    have c1 : ah < bh ∨ ah = bh ∨ bh < ah := by omega
    have c2 : al < bl ∨ al = bl ∨ bl < al := by omega
    rcases c1 with c1 | rfl | c1 <;> rcases c2 with c2 | rfl | c2
    case inl.inl =>
      simp only [show max ah bh = bh by omega, show min al bl = al by omega]
      go_enter Tryd.func66, Tryd.ntmps66
      go_wp2
      exact bodyPost_ret (v := .agg #[.int .i64 ao, .int .i64 bh, .int .i64 al, .int .i64 bc, .int .i64 (aq + bq)]) (by simp [results, Tryd.results66, go_sem]) rfl ⟨rfl, by (repeat (first | exact Below.refl _ _ | assumption | (refine below_then (by assumption) ?_) | (refine below_then_alloc ?_) | (refine Below.drew ?_)))⟩
    case inl.inr.inl =>
      simp only [show max ah bh = bh by omega, show min al al = al by omega]
      go_enter Tryd.func66, Tryd.ntmps66
      go_wp2
      exact bodyPost_ret (v := .agg #[.int .i64 ao, .int .i64 bh, .int .i64 al, .int .i64 bc, .int .i64 (aq + bq)]) (by simp [results, Tryd.results66, go_sem]) rfl ⟨rfl, by (repeat (first | exact Below.refl _ _ | assumption | (refine below_then (by assumption) ?_) | (refine below_then_alloc ?_) | (refine Below.drew ?_)))⟩
    case inl.inr.inr =>
      simp only [show max ah bh = bh by omega, show min al bl = bl by omega]
      go_enter Tryd.func66, Tryd.ntmps66
      go_wp2
      exact bodyPost_ret (v := .agg #[.int .i64 ao, .int .i64 bh, .int .i64 bl, .int .i64 bc, .int .i64 (aq + bq)]) (by simp [results, Tryd.results66, go_sem]) rfl ⟨rfl, by (repeat (first | exact Below.refl _ _ | assumption | (refine below_then (by assumption) ?_) | (refine below_then_alloc ?_) | (refine Below.drew ?_)))⟩
    case inr.inl.inl =>
      simp only [show max ah ah = ah by omega, show min al bl = al by omega]
      go_enter Tryd.func66, Tryd.ntmps66
      go_wp2
      exact bodyPost_ret (v := .agg #[.int .i64 ao, .int .i64 ah, .int .i64 al, .int .i64 bc, .int .i64 (aq + bq)]) (by simp [results, Tryd.results66, go_sem]) rfl ⟨rfl, by (repeat (first | exact Below.refl _ _ | assumption | (refine below_then (by assumption) ?_) | (refine below_then_alloc ?_) | (refine Below.drew ?_)))⟩
    case inr.inl.inr.inl =>
      simp only [show max ah ah = ah by omega, show min al al = al by omega]
      go_enter Tryd.func66, Tryd.ntmps66
      go_wp2
      exact bodyPost_ret (v := .agg #[.int .i64 ao, .int .i64 ah, .int .i64 al, .int .i64 bc, .int .i64 (aq + bq)]) (by simp [results, Tryd.results66, go_sem]) rfl ⟨rfl, by (repeat (first | exact Below.refl _ _ | assumption | (refine below_then (by assumption) ?_) | (refine below_then_alloc ?_) | (refine Below.drew ?_)))⟩
    case inr.inl.inr.inr =>
      simp only [show max ah ah = ah by omega, show min al bl = bl by omega]
      go_enter Tryd.func66, Tryd.ntmps66
      go_wp2
      exact bodyPost_ret (v := .agg #[.int .i64 ao, .int .i64 ah, .int .i64 bl, .int .i64 bc, .int .i64 (aq + bq)]) (by simp [results, Tryd.results66, go_sem]) rfl ⟨rfl, by (repeat (first | exact Below.refl _ _ | assumption | (refine below_then (by assumption) ?_) | (refine below_then_alloc ?_) | (refine Below.drew ?_)))⟩
    case inr.inr.inl =>
      simp only [show max ah bh = ah by omega, show min al bl = al by omega]
      go_enter Tryd.func66, Tryd.ntmps66
      go_wp2
      exact bodyPost_ret (v := .agg #[.int .i64 ao, .int .i64 ah, .int .i64 al, .int .i64 bc, .int .i64 (aq + bq)]) (by simp [results, Tryd.results66, go_sem]) rfl ⟨rfl, by (repeat (first | exact Below.refl _ _ | assumption | (refine below_then (by assumption) ?_) | (refine below_then_alloc ?_) | (refine Below.drew ?_)))⟩
    case inr.inr.inr.inl =>
      simp only [show max ah bh = ah by omega, show min al al = al by omega]
      go_enter Tryd.func66, Tryd.ntmps66
      go_wp2
      exact bodyPost_ret (v := .agg #[.int .i64 ao, .int .i64 ah, .int .i64 al, .int .i64 bc, .int .i64 (aq + bq)]) (by simp [results, Tryd.results66, go_sem]) rfl ⟨rfl, by (repeat (first | exact Below.refl _ _ | assumption | (refine below_then (by assumption) ?_) | (refine below_then_alloc ?_) | (refine Below.drew ?_)))⟩
    case inr.inr.inr.inr =>
      simp only [show max ah bh = ah by omega, show min al bl = bl by omega]
      go_enter Tryd.func66, Tryd.ntmps66
      go_wp2
      exact bodyPost_ret (v := .agg #[.int .i64 ao, .int .i64 ah, .int .i64 bl, .int .i64 bc, .int .i64 (aq + bq)]) (by simp [results, Tryd.results66, go_sem]) rfl ⟨rfl, by (repeat (first | exact Below.refl _ _ | assumption | (refine below_then (by assumption) ?_) | (refine below_then_alloc ?_) | (refine Below.drew ?_)))⟩
end Go.Proofs.YtefncbdkjljbjaaDoor
