/- The contracts of package queue: One, Find, Check. The contracts of queue.Find and queue.Check. The contract of queue.Check. The contracts of the reference's small functions: Price, Side, Ahead, Order, Rest, May; and of order.May. The contracts of the reference's Rest and May; and of order.May. -/
import Derived.Test.YtkdgpdijbobmkaaGreatGrpA
namespace Go.Proofs.YtkdgpdijbobmkaaGreat
set_option linter.all false
open Go.RowKit
structure Rest where
  id : Int
  who : Int
  qty : Int
  hidden : Int
  show_ : Int
  deriving DecidableEq
def rest0 : Rest := ⟨0, 0, 0, 0, 0⟩
def Rest.vals (r : Rest) : List Value := [.int .i64 r.id, .int .i64 r.who, .int .i64 r.qty, .int .i64 r.hidden, .int .i64 r.show_]
theorem Rest.vals_len (r : Rest) : r.vals.length = 5 := rfl
/-- what is wrong with a rest -/
def Rest.err (r : Rest) : Int :=
  if !inb r.id 1 9999 || !inb r.who 1 9 || !inb r.qty 1 10000 then 1
  else if !inb r.hidden 0 10000 || !inb r.show_ 0 10000 then 1
  else if r.show_ == 0 && !(r.hidden == 0) || !(r.show_ == 0) && decide (r.show_ < r.qty) then 3
  else 0
theorem Rest.err_eq {id who qty hidden show_ : Int} (h : inb id 1 9999 = true) (h1 : inb who 1 9 = true) (h2 : inb qty 1 10000 = true) :
    Rest.err ⟨id, who, qty, hidden, show_⟩ = if hidden < 0 ∨ 10000 < hidden ∨ show_ < 0 ∨ 10000 < show_ then 1 else if (show_ = 0 ∧ hidden ≠ 0) ∨ (show_ ≠ 0 ∧ show_ < qty) then 3 else 0 := by
  have hh : inb hidden 0 10000 = decide (¬ (hidden < 0 ∨ 10000 < hidden)) := by unfold inb; congr 1; rw [eq_iff_iff]; omega
  have hs : inb show_ 0 10000 = decide (¬ (show_ < 0 ∨ 10000 < show_)) := by unfold inb; congr 1; rw [eq_iff_iff]; omega
  simp only [Rest.err, h, h1, h2, hh, hs]
  by_cases a : hidden < 0 ∨ 10000 < hidden <;> by_cases b : show_ < 0 ∨ 10000 < show_ <;> simp [a, b] <;> omega
set_option maxHeartbeats 1000000 in
theorem one_any (r : Rest) (w : World) :
    Calls Tryz.prog 49 #[.agg #[.int .i64 r.id, .int .i64 r.who, .int .i64 r.qty, .int .i64 r.hidden, .int .i64 r.show_]] w fun e w' => e = .returned (errV r.err) ∧ w' = w.alloc (.cells #[.int .i64 r.id, .int .i64 r.who, .int .i64 r.qty, .int .i64 r.hidden, .int .i64 r.show_] 62) := by
  obtain ⟨id, who, qty, hidden, show_⟩ := r
  have hc : inb id 1 9999 = false ∨ (inb id 1 9999 = true ∧ inb who 1 9 = false) ∨ (inb id 1 9999 = true ∧ inb who 1 9 = true ∧ inb qty 1 10000 = false) ∨ (inb id 1 9999 = true ∧ inb who 1 9 = true ∧ inb qty 1 10000 = true) := by
    cases inb id 1 9999 <;> cases inb who 1 9 <;> cases inb qty 1 10000 <;> simp
  rcases hc with h | ⟨h, h1⟩ | ⟨h, h1, h2⟩ | ⟨h, h1, h2⟩
  case inr.inr.inr =>
    have hd : hidden < 0 ∨ (0 ≤ hidden ∧ 10000 < hidden) ∨ (0 ≤ hidden ∧ hidden ≤ 10000 ∧ show_ < 0) ∨ (0 ≤ hidden ∧ hidden ≤ 10000 ∧ 0 ≤ show_ ∧ 10000 < show_) ∨ (0 ≤ hidden ∧ hidden ≤ 10000 ∧ 0 = show_ ∧ 1 ≤ hidden) ∨ (0 = hidden ∧ 0 = show_) ∨ (0 ≤ hidden ∧ hidden ≤ 10000 ∧ 1 ≤ show_ ∧ show_ ≤ 10000 ∧ show_ < qty) ∨ (0 ≤ hidden ∧ hidden ≤ 10000 ∧ 1 ≤ show_ ∧ show_ ≤ 10000 ∧ qty ≤ show_) := by omega
    rcases hd with a | ⟨a, b⟩ | ⟨a, b, c⟩ | ⟨a, b, c, d⟩ | ⟨a, b, rfl, d⟩ | ⟨rfl, rfl⟩ | ⟨a, b, c, d, f⟩ | ⟨a, b, c, d, f⟩
    case inr.inr.inr.inr.inl =>
      rw [show Rest.err ⟨id, who, qty, hidden, 0⟩ = 3 by (rw [Rest.err_eq h h1 h2]; (repeat' split) <;> first | rfl | omega), show errV 3 = er 3 from rfl]
      have e1 : (hidden == 0) = false := by simp; omega
      go_enter Tryz.func49, Tryz.ntmps49
      go_wp2_with (first | (go_at_call 62; refine (id_any _ _).mono ?_; rintro e w' ⟨rfl, rfl⟩) | (go_at_call 64; refine (who_any _ _).mono ?_; rintro e w' ⟨rfl, rfl⟩) | (go_at_call 63; refine (qty_any _ _).mono ?_; rintro e w' ⟨rfl, rfl⟩))
      go_ret
      exact ⟨rfl, rfl⟩
    case inr.inr.inr.inr.inr.inl =>
      rw [show Rest.err ⟨id, who, qty, 0, 0⟩ = 0 by (rw [Rest.err_eq h h1 h2]; (repeat' split) <;> first | rfl | omega), show errV 0 = .nilIface from rfl]
      go_enter Tryz.func49, Tryz.ntmps49
      go_wp2_with (first | (go_at_call 62; refine (id_any _ _).mono ?_; rintro e w' ⟨rfl, rfl⟩) | (go_at_call 64; refine (who_any _ _).mono ?_; rintro e w' ⟨rfl, rfl⟩) | (go_at_call 63; refine (qty_any _ _).mono ?_; rintro e w' ⟨rfl, rfl⟩))
      go_ret
      exact ⟨rfl, rfl⟩
    case inr.inr.inr.inr.inr.inr.inl =>
      rw [show Rest.err ⟨id, who, qty, hidden, show_⟩ = 3 by (rw [Rest.err_eq h h1 h2]; (repeat' split) <;> first | rfl | omega), show errV 3 = er 3 from rfl]
      have e1 : (show_ == 0) = false := by simp; omega
      go_enter Tryz.func49, Tryz.ntmps49
      go_wp2_with (first | (go_at_call 62; refine (id_any _ _).mono ?_; rintro e w' ⟨rfl, rfl⟩) | (go_at_call 64; refine (who_any _ _).mono ?_; rintro e w' ⟨rfl, rfl⟩) | (go_at_call 63; refine (qty_any _ _).mono ?_; rintro e w' ⟨rfl, rfl⟩))
      go_ret
      exact ⟨rfl, rfl⟩
    case inr.inr.inr.inr.inr.inr.inr =>
      rw [show Rest.err ⟨id, who, qty, hidden, show_⟩ = 0 by (rw [Rest.err_eq h h1 h2]; (repeat' split) <;> first | rfl | omega), show errV 0 = .nilIface from rfl]
      have e1 : (show_ == 0) = false := by simp; omega
      go_enter Tryz.func49, Tryz.ntmps49
      go_wp2_with (first | (go_at_call 62; refine (id_any _ _).mono ?_; rintro e w' ⟨rfl, rfl⟩) | (go_at_call 64; refine (who_any _ _).mono ?_; rintro e w' ⟨rfl, rfl⟩) | (go_at_call 63; refine (qty_any _ _).mono ?_; rintro e w' ⟨rfl, rfl⟩))
      go_ret
      exact ⟨rfl, rfl⟩
    all_goals
      rw [show Rest.err ⟨id, who, qty, hidden, show_⟩ = 1 by (rw [Rest.err_eq h h1 h2]; (repeat' split) <;> first | rfl | omega), show errV 1 = er 1 from rfl]
      go_enter Tryz.func49, Tryz.ntmps49
      go_wp2_with (first | (go_at_call 62; refine (id_any _ _).mono ?_; rintro e w' ⟨rfl, rfl⟩) | (go_at_call 64; refine (who_any _ _).mono ?_; rintro e w' ⟨rfl, rfl⟩) | (go_at_call 63; refine (qty_any _ _).mono ?_; rintro e w' ⟨rfl, rfl⟩))
      go_ret
      exact ⟨rfl, rfl⟩
  all_goals
    rw [show Rest.err ⟨id, who, qty, hidden, show_⟩ = 1 by simp [Rest.err, *], show errV 1 = er 1 from rfl]
    go_enter Tryz.func49, Tryz.ntmps49
    go_wp2_with (first | (go_at_call 62; refine (id_any _ _).mono ?_; rintro e w' ⟨rfl, rfl⟩) | (go_at_call 64; refine (who_any _ _).mono ?_; rintro e w' ⟨rfl, rfl⟩) | (go_at_call 63; refine (qty_any _ _).mono ?_; rintro e w' ⟨rfl, rfl⟩))
    go_ret
    exact ⟨rfl, rfl⟩
end Go.Proofs.YtkdgpdijbobmkaaGreat
namespace Go.Proofs.YtkdgpdijbobmkaaGreat
set_option linter.all false
open Go.RowKit
/-- cell j of rest i -/
def rcell (l : List Rest) (i j : Nat) : Value := ((l.getD i rest0).vals)[j]?.getD undef
theorem rest_at {l : List Rest} {w : World} {B k : Nat} {A : Option Addr} (hr : Rd w B A l.length 5 (rcell l)) (hk : k < l.length) :
    ∃ b off t, A = some ⟨b, off, none⟩ ∧ b < B ∧ l[k]? = some t ∧ w.cell? ⟨b, off + k * 5, none⟩ = some (.int .i64 t.id) ∧ w.cell? ⟨b, off + k * 5 + 1, none⟩ = some (.int .i64 t.who) ∧ w.cell? ⟨b, off + k * 5 + 2, none⟩ = some (.int .i64 t.qty) ∧ w.cell? ⟨b, off + k * 5 + 3, none⟩ = some (.int .i64 t.hidden) ∧ w.cell? ⟨b, off + k * 5 + 4, none⟩ = some (.int .i64 t.show_) := by
  obtain ⟨b, off, e, hb, hc⟩ := hr (by omega)
  have hg : l.getD k rest0 = l[k] := by simp [hk]
  have h := hc k hk
  have h0 := h 0 (by omega); have h1 := h 1 (by omega); have h2 := h 2 (by omega); have h3 := h 3 (by omega); have h4 := h 4 (by omega)
  simp only [rcell, hg, Rest.vals] at h0 h1 h2 h3 h4
  exact ⟨b, off, l[k], e, hb, List.getElem?_eq_getElem hk, h0, h1, h2, h3, h4⟩
/-- where an id is; -1: nowhere -/
def findI (l : List Rest) (id : Int) : Int := match l.findIdx? (fun r => r.id == id) with
  | some i => i
  | none => -1
theorem findI_hit {l : List Rest} {id : Int} {k : Nat} {t : Rest} (h : l[k]? = some t) (ht : t.id = id) (hno : ∀ j, j < k → ∀ u, l[j]? = some u → u.id ≠ id) : findI l id = k := by
  have hk : k < l.length := (List.getElem?_eq_some_iff.1 h).1
  have : l.findIdx? (fun r => r.id == id) = some k := by
    rw [List.findIdx?_eq_some_iff_getElem]
    refine ⟨hk, ?_, fun j hj => ?_⟩
    · rw [(List.getElem?_eq_some_iff.1 h).2]; simpa using ht
    · have := hno j hj l[j] (List.getElem?_eq_getElem (by omega))
      simpa using this
  simp [findI, this]
theorem findI_none {l : List Rest} {id : Int} (hno : ∀ j, j < l.length → ∀ u, l[j]? = some u → u.id ≠ id) : findI l id = -1 := by
  have : l.findIdx? (fun r => r.id == id) = none := by
    rw [List.findIdx?_eq_none_iff]
    intro x hx
    obtain ⟨j, hj⟩ := List.mem_iff_getElem?.1 hx
    have hl : j < l.length := (List.getElem?_eq_some_iff.1 hj).1
    have := hno j hl x hj
    simpa using this
  simp [findI, this]
theorem find_fn (r : Rest) (id : Int) (p : Addr) (w : World) (hp : w.cell? p = some (.int .i64 id)) :
    Calls Tryz.prog 136 #[.agg #[.int .i64 r.id, .int .i64 r.who, .int .i64 r.qty, .int .i64 r.hidden, .int .i64 r.show_], .pointer (some p)] w fun e w' => e = .returned (.bool (r.id == id)) ∧ w' = w.alloc (.cells #[.int .i64 r.id, .int .i64 r.who, .int .i64 r.qty, .int .i64 r.hidden, .int .i64 r.show_] 62) := by
  have hp2 : (w.alloc (.cells #[.int .i64 r.id, .int .i64 r.who, .int .i64 r.qty, .int .i64 r.hidden, .int .i64 r.show_] 62)).cell? p = some (.int .i64 id) := cell_alloc hp _
  go_enter Tryz.func136, Tryz.ntmps136
  go_wp2
  go_ret
  exact ⟨rfl, rfl⟩
/-- how IndexFunc ends -/
def FindPost (l : List Rest) (id : Int) (w : World) (e : Ending) (w' : World) : Prop := e = .returned (.int .i64 (findI l id)) ∧ Below w.heap.size w w'
theorem index_any (l : List Rest) (A : Option Addr) (c : Nat) (id : Int) (g : Nat) (w : World) (hr : Rd w w.heap.size A l.length 5 (rcell l)) (hp : w.cell? ⟨g, 0, none⟩ = some (.int .i64 id)) (hl : l.length ≤ 100) :
    Calls Tryz.prog 135 #[.slice A l.length c, .func (Fn.func 136) #[] #[.pointer (some ⟨g, 0, none⟩)]] w (FindPost l id w) := by
  go_enter Tryz.func135, Tryz.ntmps135
  go_wp2
  go_loopw [8] (fun i wr => ∃ k : Nat, k ≤ l.length ∧ i = .int .i64 k ∧ Below w.heap.size w wr ∧ Hid (∀ j, j < k → ∀ u, l[j]? = some u → u.id ≠ id)) (fun i _ => l.length - (intOf i).toNat)
  case atStart => exact ⟨0, by omega, rfl, Below.refl _ _, fun j hj => absurd hj (by omega)⟩
  case round =>
    obtain ⟨k, hk, rfl, hb, hno⟩ := hrel
    by_cases hlt : k < l.length
    · obtain ⟨b, off, t, rfl, hbl, ht, e0, e1, e2, e3, e4⟩ := rest_at (hr.below hb) hlt
      have HT := Lib.hid ht; clear ht hr
      have hp2 : wr.cell? ⟨g, 0, none⟩ = some (.int .i64 id) := (hb.cell (p := ⟨g, 0, none⟩) (World.block_lt_of_cell? w _ hp)).trans hp
      have cF := find_fn t id ⟨g, 0, none⟩ wr hp2
      clear hp hp2
      by_cases h : t.id = id
      · have e : (t.id == id) = true := by simpa using h
        rw [e] at cF
        have H := Lib.hid h; clear h e
        go_wp2_with (go_at_call 136; refine cF.mono ?_; rintro e w' ⟨rfl, rfl⟩)
        go_ret
        exact ⟨by rw [findI_hit HT.out H.out hno]; rfl, hb.alloc hb.size _⟩
      · have e : (t.id == id) = false := by simpa using h
        rw [e] at cF
        have H := Lib.hid h; clear h e
        go_wp2_with (go_at_call 136; refine cF.mono ?_; rintro e w' ⟨rfl, rfl⟩)
        go_roundw
        case rel =>
          refine ⟨k + 1, by omega, by go_num, hb.alloc hb.size _, fun j hj u hu => ?_⟩
          by_cases hjk : j < k
          · exact hno j hjk u hu
          · obtain rfl : j = k := by omega
            rw [HT.out] at hu
            cases hu
            exact H.out
        case measure => simp [intOf]; omega
    · obtain rfl : k = l.length := by omega
      go_wp2
      go_ret
      exact ⟨by rw [findI_none hno]; rfl, hb⟩
theorem find_any (l : List Rest) (A : Option Addr) (c : Nat) (id : Int) (w : World) (hr : Rd w w.heap.size A l.length 5 (rcell l)) (hl : l.length ≤ 100) :
    Calls Tryz.prog 111 #[.slice A l.length c, .int .i64 id] w fun e w' => e = .returned (.int .i64 (findI l id)) ∧ Below w.heap.size w w' := by
  have hb : Below w.heap.size w (w.alloc (.cells #[.int .i64 id] 3)) := (Below.refl _ _).alloc (Nat.le_refl _) _
  have cI := index_any l A c id w.heap.size (w.alloc (.cells #[.int .i64 id] 3)) ((hr.below hb).more hb.size) (cell_of_row _ _ 0 _ _ (0, 0) (heap_alloc_new w _)) hl
  clear hr
  go_enter Tryz.func111, Tryz.ntmps111
  go_wp2_with (go_at_call 135; refine cI.mono ?_; rintro e w' ⟨rfl, hb2⟩)
  go_ret
  exact ⟨rfl, below_then hb2 hb⟩
end Go.Proofs.YtkdgpdijbobmkaaGreat
namespace Go.Proofs.YtkdgpdijbobmkaaGreat
set_option linter.all false
open Go.RowKit
/-- what is wrong at place k of a queue -/
def stepE (l : List Rest) (k : Nat) : Int := match l[k]? with
  | none => 0
  | some r => if r.err ≠ 0 then r.err else if 0 ≤ findI (l.take k) r.id then 7 else 0
/-- what is wrong with a queue -/
def qErr (l : List Rest) : Int := if 60 < l.length then 4 else match (List.range l.length).find? (fun k => !(stepE l k == 0)) with
  | some k => stepE l k
  | none => 0
theorem qErr_hit {l : List Rest} {k : Nat} (hl : l.length ≤ 60) (hk : k < l.length) (h0 : ∀ j, j < k → stepE l j = 0) (he : stepE l k ≠ 0) : qErr l = stepE l k := by
  have : (List.range l.length).find? (fun k => !(stepE l k == 0)) = some k := by
    rw [List.find?_range_eq_some]
    refine ⟨by simpa using he, List.mem_range.2 hk, fun j hj => ?_⟩
    simpa using h0 j hj
  rw [qErr, if_neg (by omega), this]
theorem qErr_none {l : List Rest} (hl : l.length ≤ 60) (h0 : ∀ j, j < l.length → stepE l j = 0) : qErr l = 0 := by
  have : (List.range l.length).find? (fun k => !(stepE l k == 0)) = none := by
    rw [List.find?_eq_none]
    intro x hx
    simpa using h0 x (List.mem_range.1 hx)
  rw [qErr, if_neg (by omega), this]
theorem Rd.take {l : List Rest} {w : World} {B k : Nat} {A : Option Addr} (hr : Rd w B A l.length 5 (rcell l)) (hk : k ≤ l.length) : Rd w B A k 5 (rcell (l.take k)) := by
  intro hn
  obtain ⟨b, off, e, hb, hc⟩ := hr (by omega)
  refine ⟨b, off, e, hb, fun i hi j hj => ?_⟩
  rw [hc i (by omega) j hj]
  simp only [rcell, List.getD_eq_getElem?_getD, List.getElem?_take_of_lt hi]
theorem retQ {l : List Rest} {k : Int} (h : qErr l = k) (h0 : k ≠ 0) : Ending.returned (er k) = .returned (errV (qErr l)) := by rw [h, errV, if_neg h0]
theorem retQ0 {l : List Rest} (h : qErr l = 0) : Ending.returned .nilIface = .returned (errV (qErr l)) := by rw [h]; rfl
set_option maxHeartbeats 1000000 in
theorem qcheck_any (l : List Rest) (A : Option Addr) (c : Nat) (w : World) (hr : Rd w w.heap.size A l.length 5 (rcell l)) (hcap : l.length ≤ c) :
    Calls Tryz.prog 80 #[.slice A l.length c] w fun e w' => e = .returned (errV (qErr l)) ∧ Below w.heap.size w w' := by
  by_cases hl : (60 : Int) < (l.length : Int)
  · have h4 : qErr l = 4 := if_pos (by omega)
    have H := Lib.hid h4; clear h4
    go_enter Tryz.func80, Tryz.ntmps80
    go_wp2
    go_ret
    exact ⟨retQ H.out (by omega), Below.refl _ _⟩
  have hl' : (l.length : Int) ≤ 60 := by omega
  clear hl
  go_enter Tryz.func80, Tryz.ntmps80
  go_wp2
  go_loopw [12] (fun i wr => ∃ k : Nat, k ≤ l.length ∧ i = .int .i64 k ∧ Below w.heap.size w wr ∧ Hid (∀ j, j < k → stepE l j = 0)) (fun i _ => l.length - (intOf i).toNat)
  case atStart => exact ⟨0, by omega, rfl, Below.refl _ _, fun j hj => absurd hj (by omega)⟩
  case round =>
    obtain ⟨k, hk, rfl, hb, hno⟩ := hrel
    by_cases hlt : k < l.length
    · have htk := Rd.take hr hk
      obtain ⟨b, off, t, rfl, hbl, ht, e0, e1, e2, e3, e4⟩ := rest_at (hr.below hb) hlt
      have hst : stepE l k = if t.err ≠ 0 then t.err else if 0 ≤ findI (l.take k) t.id then 7 else 0 := by simp [stepE, ht]
      have HS := Lib.hid hst
      clear ht hr hst
      have cO := fun w => one_any t w
      by_cases h : t.err = 0
      · rw [h, show errV 0 = .nilIface from rfl] at cO
        have HE := Lib.hid h; clear h
        have hlen : (l.take k).length = k := by rw [List.length_take]; omega
        have cF := fun w' hr' => find_any (l.take k) (some ⟨b, off, none⟩) c t.id w' hr' (by rw [hlen]; omega)
        rw [hlen] at cF
        clear hlen
        have hck : (k : Int) ≤ (c : Int) := by omega
        have hk0 : (0 : Int) ≤ (k : Int) := by omega
        generalize findI (l.take k) t.id = fi at *
        go_wp2_with (go_at_call 49; refine (cO _).mono ?_; rintro e w' ⟨rfl, rfl⟩)
        have hb2 := (hb.alloc hb.size (.cells #[.int .i64 t.id, .int .i64 t.who, .int .i64 t.qty, .int .i64 t.hidden, .int .i64 t.show_] 62)).alloc (by have := hb.size; simp; omega) (.cells #[.int .i64 t.id, .int .i64 t.who, .int .i64 t.qty, .int .i64 t.hidden, .int .i64 t.show_] 62)
        have hk2 := (Bk.new wr 62 #[.int .i64 t.id, .int .i64 t.who, .int .i64 t.qty, .int .i64 t.hidden, .int .i64 t.show_]).alloc (.cells #[.int .i64 t.id, .int .i64 t.who, .int .i64 t.qty, .int .i64 t.hidden, .int .i64 t.show_] 62)
        generalize (wr.alloc (.cells #[.int .i64 t.id, .int .i64 t.who, .int .i64 t.qty, .int .i64 t.hidden, .int .i64 t.show_] 62)).alloc (.cells #[.int .i64 t.id, .int .i64 t.who, .int .i64 t.qty, .int .i64 t.hidden, .int .i64 t.show_] 62) = W at *
        have q0 := hk2.cell 0
        simp at q0
        have k0 := cell_regrown q0
        have cG := fun d os => Calls.regrown_of (w := W) (d := d) (os := os) (cF _ (((htk.below hb2).more hb2.size |>.below (below_regrown W d os)).more (below_regrown W d os).size))
        have htk2 := htk.below hb2
        clear cF htk q0
        refine wp_region_quiet_below (by kernel_rfl) (by kernel_rfl) ?_
        repeat (quiet_step (exact cG _ _))
        refine wpQuiet_nil ?_
        intro w3 hw3
        have hb3 : Below W.heap.size W w3 := by obtain ⟨p, rfl⟩ := hw3; exact below_regrown _ _ _
        have hbx := hb2.trans (hb3.mono hb2.size)
        clear hw3 cG k0
        by_cases hfi : 0 ≤ fi
        · have hs : stepE l k = 7 := by rw [HS.out, if_neg (by rw [HE.out]; omega), if_pos hfi]
          have H7 := Lib.hid hs; clear hs
          go_wp2
          go_ret
          exact ⟨retQ (k := 7) (by rw [qErr_hit (by omega) hlt hno (by rw [H7.out]; omega), H7.out]) (by omega), hbx⟩
        · have hs : stepE l k = 0 := by rw [HS.out, if_neg (by rw [HE.out]; omega), if_neg hfi]
          have H0 := Lib.hid hs; clear hs
          have hfi' : fi < 0 := by omega
          clear hfi
          go_wp2
          go_roundw
          case rel =>
            refine ⟨k + 1, by omega, by go_num, hbx, fun j hj => ?_⟩
            by_cases hjk : j < k
            · exact hno j hjk
            · obtain rfl : j = k := by omega
              exact H0.out
          case measure => simp [intOf]; omega
      · rw [show errV t.err = er t.err by simp [errV, h]] at cO
        have hs : stepE l k = t.err := by rw [HS.out, if_pos h]
        have H7 := Lib.hid hs; clear hs
        have HN := Lib.hid h; clear h
        generalize t.err = te at *
        go_wp2_with (go_at_call 49; refine (cO _).mono ?_; rintro e w' ⟨rfl, rfl⟩)
        go_ret
        exact ⟨retQ (by rw [qErr_hit (by omega) hlt hno (by rw [H7.out]; exact HN.out), H7.out]) HN.out, (hb.alloc hb.size _).alloc (by have := hb.size; simp; omega) _⟩
    · obtain rfl : k = l.length := by omega
      go_wp2
      go_ret
      exact ⟨retQ0 (qErr_none (by omega) hno), hb⟩
end Go.Proofs.YtkdgpdijbobmkaaGreat
namespace Go.Proofs.YtkdgpdijbobmkaaGreat
set_option linter.all false
open Go.RowKit
end Go.Proofs.YtkdgpdijbobmkaaGreat
namespace Go.Proofs.YtkdgpdijbobmkaaGreat
set_option linter.all false
open Go.RowKit
def ahd' (s a b : Int) : Bool := if s = 1 then decide (a < b) else decide (b < a)
theorem ahead_any (s a b : Int) (w : World) : Calls Tryz.prog 112 #[.int .i64 s, .int .i64 a, .int .i64 b] w fun e w' => e = .returned (.bool (ahd' s a b)) ∧ w = w' := by
  by_cases h : s = 1
  · subst h
    go_enter Tryz.func112, Tryz.ntmps112
    go_wp2
    go_ret
    exact ⟨ret_bool (by simp [ahd']), rfl⟩
  · have e : (s == 1) = false := by simpa using h
    have e2 : ahd' s a b = decide (b < a) := by simp [ahd', h]
    rw [e2]
    clear h e2
    go_enter Tryz.func112, Tryz.ntmps112
    go_wp2
    go_ret
    exact ⟨rfl, rfl⟩
/-- may an order trade at a price? -/
def may (o : Order) (p : Int) : Bool := decide (o.kind = 2 ∨ (o.side = 1 ∧ p ≤ o.price) ∨ (o.side ≠ 1 ∧ o.price ≤ p))
set_option maxHeartbeats 1000000 in
theorem may_any (o : Order) (p : Int) (w : World) :
    Calls Tryz.prog 116 #[.agg #[.int .i64 o.id, .int .i64 o.who, .int .i64 o.side, .int .i64 o.kind, .int .i64 o.price, .int .i64 o.qty, .int .i64 o.show_, .int .i64 o.stop], .int .i64 p] w fun e w' => e = .returned (.bool (may o p)) ∧ w' = w.alloc (.cells #[.int .i64 o.id, .int .i64 o.who, .int .i64 o.side, .int .i64 o.kind, .int .i64 o.price, .int .i64 o.qty, .int .i64 o.show_, .int .i64 o.stop] 31) := by
  have H := Lib.hid (show may o p = decide (o.kind = 2 ∨ (o.side = 1 ∧ p ≤ o.price) ∨ (o.side ≠ 1 ∧ o.price ≤ p)) from rfl)
  obtain ⟨id, who, side, kind, price, qty, show_, stop⟩ := o
  generalize may ⟨id, who, side, kind, price, qty, show_, stop⟩ p = E at *
  dsimp only at *
  have cA := fun w => ahead_any side p price w
  rcases (show kind = 2 ∨ (kind ≠ 2 ∧ price = p) ∨ (kind ≠ 2 ∧ price ≠ p) by omega) with rfl | ⟨hk, rfl⟩ | ⟨hk, hp⟩
  · go_enter Tryz.func116, Tryz.ntmps116
    go_wp2
    go_ret
    refine ⟨ret_bool ?_, rfl⟩
    rw [H.out]
    simp
  · have e1 : (kind == 2) = false := by simpa using hk
    go_enter Tryz.func116, Tryz.ntmps116
    go_wp2
    go_ret
    refine ⟨ret_bool ?_, rfl⟩
    rw [H.out]
    simp
    try omega
  · have e1 : (kind == 2) = false := by simpa using hk
    have e2 : (price == p) = false := by simpa using hp
    have e3 : E = ahd' side p price := by
      rw [H.out]
      unfold ahd'
      by_cases hs : side = 1 <;> simp [hs, hk] <;> omega
    clear H
    subst e3
    generalize ahd' side p price = E at *
    go_enter Tryz.func116, Tryz.ntmps116
    go_wp2_with (go_at_call 112; ((with_reducible refine (cA _).mono ?_); rintro e w' ⟨rfl, rfl⟩))
    go_ret
    exact ⟨rfl, rfl⟩
end Go.Proofs.YtkdgpdijbobmkaaGreat
