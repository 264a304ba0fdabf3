/- The contract of meet.trade. -/
import Derived.Test.YtbnjkcgkdpildaaDoorReady
import Derived.Test.YtbnjkcgkdpildaaDoorTrade
import Derived.Test.YtbnjkcgkdpildaaDoorFirst
namespace Go.Proofs.YtbnjkcgkdpildaaDoor
set_option linter.all false
open Go Go.RowKit
/-- the trade of a fill -/
def mTr (o : Order) (f : Fill) (p : Int) : Trade := if o.side = 2 then ⟨f.id, o.id, o.who, f.who, p, f.qty⟩ else ⟨f.id, o.id, f.who, o.who, p, f.qty⟩
def mtPost (t : Trade) (w : World) (e : Ending) (w' : World) : Prop := e = .returned (.agg #[.int .i64 t.maker, .int .i64 t.taker, .int .i64 t.frm, .int .i64 t.to, .int .i64 t.price, .int .i64 t.qty]) ∧ Below w.heap.size w w'
set_option maxRecDepth 100000 in
set_option maxHeartbeats 1000000 in
theorem mtrade_any (o : Order) (f : Fill) (p : Int) (w : World) :
    Calls Tryd.prog 73 #[.agg #[.int .i64 o.id, .int .i64 o.who, .int .i64 o.side, .int .i64 o.kind, .int .i64 o.price, .int .i64 o.qty, .int .i64 o.show_, .int .i64 o.stop], .agg #[.int .i64 f.id, .int .i64 f.who, .int .i64 f.qty], .int .i64 p] w (mtPost (mTr o f p) w) := by
  by_cases h : o.side = 2
  · have hs : (o.side == 2) = true := by simpa using h
    have H := Lib.hid (show mTr o f p = ⟨f.id, o.id, o.who, f.who, p, f.qty⟩ from if_pos h)
    clear h
    go_enter Tryd.func73, Tryd.ntmps73
    go_wp2
    refine bodyPost_ret (v := .agg #[.int .i64 f.id, .int .i64 o.id, .int .i64 o.who, .int .i64 f.who, .int .i64 p, .int .i64 f.qty]) (by simp [results, Tryd.results73, go_sem]) rfl ⟨by rw [H.out], ?_⟩
    (repeat (first | exact Below.refl _ _ | assumption | (refine below_then (by assumption) ?_) | (refine below_then_alloc ?_) | (refine Below.drew ?_)))
  · have hs : (o.side == 2) = false := by simpa using h
    have H := Lib.hid (show mTr o f p = ⟨f.id, o.id, f.who, o.who, p, f.qty⟩ from if_neg h)
    clear h
    go_enter Tryd.func73, Tryd.ntmps73
    go_wp2
    refine bodyPost_ret (v := .agg #[.int .i64 f.id, .int .i64 o.id, .int .i64 f.who, .int .i64 o.who, .int .i64 p, .int .i64 f.qty]) (by simp [results, Tryd.results73, go_sem]) rfl ⟨by rw [H.out], ?_⟩
    (repeat (first | exact Below.refl _ _ | assumption | (refine below_then (by assumption) ?_) | (refine below_then_alloc ?_) | (refine Below.drew ?_)))
end Go.Proofs.YtbnjkcgkdpildaaDoor
