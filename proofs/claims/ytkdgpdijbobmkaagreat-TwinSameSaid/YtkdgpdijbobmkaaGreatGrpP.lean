/- The contract of meet.Do. What rests of an order: plain. -/
import Derived.Test.YtkdgpdijbobmkaaGreatMeetRun
import Derived.Test.YtkdgpdijbobmkaaGreatGrpG
namespace Go.Proofs.YtkdgpdijbobmkaaGreat
set_option linter.all false
open Go Go.RowKit
theorem OwnLv.drew {w : World} {base cap : Nat} {A : Option Addr} {L : List Lv} {vs : List (Option Addr × Nat)} (h : OwnLv w base A cap L vs) : OwnLv w.drew base A cap L vs := h.below (Below.refl _ _).drew
/-- how Run ends: R what is met -/
def RunQ (R : Option MSt) (L M : List Lv) (sd : Int) (w : World) (e : Ending) (w' : World) : Prop :=
  (R = none ∧ e = .returned (.tuple #[.agg #[.slice none 0 0, .slice none 0 0, .slice none 0 0, .int .i64 0, .slice none 0 0, .bool false], er 4]) ∧ Below w.heap.size w w') ∨
  ∃ s A1 c1 v1 A2 c2 v2 AT cT AW cW, R = some s ∧ MOk s ∧ e = .returned (.tuple #[.agg #[.slice A1 (pick sd s.L L).length c1, .slice A2 (pick sd M s.L).length c2, .slice AT s.T.length cT, .int .i64 s.left, .slice AW s.W.length cW, .bool s.ends], .nilIface]) ∧
    OwnLv w' w.heap.size A1 c1 (pick sd s.L L) v1 ∧ OwnLv w' w.heap.size A2 c2 (pick sd M s.L) v2 ∧ OwnS w' w.heap.size 6 AT s.T.length cT (trows s.T) ∧ OwnS w' w.heap.size 1 AW s.W.length cW (irows s.W) ∧ Below w.heap.size w w'
theorem run_q {R : Option MSt} {L M : List Lv} {o : Order} {mode : Int} {w w' : World} {e : Ending} (hR : R = met L M o mode) (h : RunPost L M o mode w e w') : RunQ R L M o.side w e w' := by subst hR; exact h
/-- how Do ends: z what is wrong, R what is met -/
def MDoQ (z : Int) (R : Option MSt) (L M : List Lv) (sd : Int) (w : World) (e : Ending) (w' : World) : Prop :=
  (z ≠ 0 ∧ e = .returned (.tuple #[.agg #[.slice none 0 0, .slice none 0 0], .slice none 0 0, .int .i64 0, er z]) ∧ Below w.heap.size w w') ∨
  (z = 0 ∧ R = none ∧ e = .returned (.tuple #[.agg #[.slice none 0 0, .slice none 0 0], .slice none 0 0, .int .i64 0, er 4]) ∧ Below w.heap.size w w') ∨
  (z = 0 ∧ ∃ s A1 c1 v1 A2 c2 v2 AT cT, R = some s ∧ MOk s ∧ e = .returned (.tuple #[.agg #[.slice A1 (pick sd s.L L).length c1, .slice A2 (pick sd M s.L).length c2], .slice AT s.T.length cT, .int .i64 s.left, .nilIface]) ∧
    OwnLv w' w.heap.size A1 c1 (pick sd s.L L) v1 ∧ OwnLv w' w.heap.size A2 c2 (pick sd M s.L) v2 ∧ OwnS w' w.heap.size 6 AT s.T.length cT (trows s.T) ∧ Below w.heap.size w w')
end Go.Proofs.YtkdgpdijbobmkaaGreat
namespace Go.Proofs.YtkdgpdijbobmkaaGreat
set_option linter.all false
open Go Go.RowKit
/-- what rests of an order -/
def restOf (o : Order) (q : Int) : Rest := if 0 < o.show_ then ⟨o.id, o.who, min q o.show_, q - min q o.show_, o.show_⟩ else ⟨o.id, o.who, q, 0, o.show_⟩
/-- may it trade at the best price? -/
def mayTop (o : Order) (K : List Lv) : Bool := match K with
  | [] => false
  | x :: _ => may o x.price
/-- what becomes of what is left: 9, 8: refused; 0: nothing is; 1: it is gone; 2: it rests -/
def kOut (o : Order) (K : List Lv) (s : MSt) : Nat :=
  if o.kind = 4 ∧ 0 < s.left then 9 else if o.kind = 5 ∧ mayTop o K = true then 8 else if s.left = 0 then 0 else if s.ends = true ∨ (o.kind ≠ 1 ∧ o.kind ≠ 5) then 1 else 2
section
variable {o : Order} {K : List Lv} {s : MSt}
theorem kOut_9 (h : o.kind = 4 ∧ 0 < s.left) : kOut o K s = 9 := if_pos h
theorem kOut_8 (h : ¬ (o.kind = 4 ∧ 0 < s.left)) (h2 : o.kind = 5 ∧ mayTop o K = true) : kOut o K s = 8 := by unfold kOut; rw [if_neg h, if_pos h2]
theorem kOut_0 (h : ¬ (o.kind = 4 ∧ 0 < s.left)) (h2 : ¬ (o.kind = 5 ∧ mayTop o K = true)) (h3 : s.left = 0) : kOut o K s = 0 := by unfold kOut; rw [if_neg h, if_neg h2, if_pos h3]
theorem kOut_1 (h : ¬ (o.kind = 4 ∧ 0 < s.left)) (h2 : ¬ (o.kind = 5 ∧ mayTop o K = true)) (h3 : s.left ≠ 0) (h4 : s.ends = true ∨ (o.kind ≠ 1 ∧ o.kind ≠ 5)) : kOut o K s = 1 := by unfold kOut; rw [if_neg h, if_neg h2, if_neg h3, if_pos h4]
theorem kOut_2 (h : ¬ (o.kind = 4 ∧ 0 < s.left)) (h2 : ¬ (o.kind = 5 ∧ mayTop o K = true)) (h3 : s.left ≠ 0) (h4 : ¬ (s.ends = true ∨ (o.kind ≠ 1 ∧ o.kind ≠ 5))) : kOut o K s = 2 := by unfold kOut; rw [if_neg h, if_neg h2, if_neg h3, if_neg h4]
end
def RestPost (r : Rest) (w : World) (e : Ending) (w' : World) : Prop := e = .returned (.agg #[.int .i64 r.id, .int .i64 r.who, .int .i64 r.qty, .int .i64 r.hidden, .int .i64 r.show_]) ∧ Below w.heap.size w w'
set_option maxRecDepth 100000 in
set_option maxHeartbeats 1000000 in
theorem restOf_any (o : Order) (q : Int) (hq : 0 ≤ q) (hq2 : q ≤ 10000) (hs : 0 ≤ o.show_) (hs2 : o.show_ ≤ 10000) (w : World) :
    Calls Tryz.prog 118 #[.agg #[.int .i64 o.id, .int .i64 o.who, .int .i64 o.side, .int .i64 o.kind, .int .i64 o.price, .int .i64 o.qty, .int .i64 o.show_, .int .i64 o.stop], .int .i64 q] w (RestPost (restOf o q) w) := by
  rcases (show o.show_ = 0 ∨ (0 < o.show_ ∧ q ≤ o.show_) ∨ (0 < o.show_ ∧ o.show_ < q) by omega) with h | ⟨h, h2⟩ | ⟨h, h2⟩
  · have H := Lib.hid (show restOf o q = ⟨o.id, o.who, q, 0, o.show_⟩ from if_neg (by omega))
    have h' : ¬ (0 < o.show_) := by omega
    have h'' : o.show_ ≤ 0 := by omega
    clear h hs hs2
    go_enter Tryz.func118, Tryz.ntmps118
    go_wp2
    refine bodyPost_ret (v := .agg #[.int .i64 o.id, .int .i64 o.who, .int .i64 q, .int .i64 0, .int .i64 o.show_]) (by simp [results, Tryz.results118, go_sem]) rfl ⟨by rw [H.out], ?_⟩
    (repeat (first | exact Below.refl _ _ | assumption | (refine below_then (by assumption) ?_) | (refine below_then_alloc ?_) | (refine Below.drew ?_)))
  · have H := Lib.hid (show restOf o q = ⟨o.id, o.who, q, 0, o.show_⟩ by rw [restOf, if_pos h]; simp [show min q o.show_ = q by omega])
    have hm : min q o.show_ = q := by omega
    go_enter Tryz.func118, Tryz.ntmps118
    go_wp2
    refine bodyPost_ret (v := .agg #[.int .i64 o.id, .int .i64 o.who, .int .i64 q, .int .i64 0, .int .i64 o.show_]) (by simp [results, Tryz.results118, go_sem]) rfl ⟨by rw [H.out], ?_⟩
    (repeat (first | exact Below.refl _ _ | assumption | (refine below_then (by assumption) ?_) | (refine below_then_alloc ?_) | (refine Below.drew ?_)))
  · have H := Lib.hid (show restOf o q = ⟨o.id, o.who, o.show_, q - o.show_, o.show_⟩ by rw [restOf, if_pos h]; simp [show min q o.show_ = o.show_ by omega])
    have hm : min q o.show_ = o.show_ := by omega
    go_enter Tryz.func118, Tryz.ntmps118
    go_wp2
    refine bodyPost_ret (v := .agg #[.int .i64 o.id, .int .i64 o.who, .int .i64 o.show_, .int .i64 (q - o.show_), .int .i64 o.show_]) (by simp [results, Tryz.results118, go_sem]) rfl ⟨by rw [H.out], ?_⟩
    (repeat (first | exact Below.refl _ _ | assumption | (refine below_then (by assumption) ?_) | (refine below_then_alloc ?_) | (refine Below.drew ?_)))
end Go.Proofs.YtkdgpdijbobmkaaGreat
