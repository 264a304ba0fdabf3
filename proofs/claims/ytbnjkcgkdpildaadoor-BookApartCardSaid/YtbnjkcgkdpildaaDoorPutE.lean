/- What Put computes: plain. -/
import Derived.Test.YtbnjkcgkdpildaaDoorSideLaw
import Derived.Test.YtbnjkcgkdpildaaDoorOwnBook
namespace Go.Proofs.YtbnjkcgkdpildaaDoor
set_option linter.all false
open Go Go.RowKit
/-- a rest more at a price of a side -/
def addL (s p : Int) (r : Rest) : List Lv → List Lv
  | [] => [⟨p, [r]⟩]
  | x :: L => if sAhd s x.price p then x :: addL s p r L else if x.price = p then ⟨x.price, x.rs ++ [r]⟩ :: L else ⟨p, [r]⟩ :: x :: L
/-- what is wrong with that -/
def addE (s : Int) (L : List Lv) (p : Int) (r : Rest) : Int := if sideE s L ≠ 0 then sideE s L else if vp p = false then 1 else if r.err ≠ 0 then r.err else if 0 ≤ (whereL L r.id).1 then 7 else if 60 ≤ cnt L then 4 else 0
/-- of a side -/
def sidL (s : Int) (L M : List Lv) : List Lv := if s = 1 then L else M
def putL (s p : Int) (r : Rest) (L : List Lv) : List Lv := if s = 1 then addL s p r L else L
def putM (s p : Int) (r : Rest) (M : List Lv) : List Lv := if s = 1 then M else addL s p r M
def putE (L M : List Lv) (s p : Int) (r : Rest) : Int := if bookE L M ≠ 0 then bookE L M else if vs s = false then 1 else if addE s (sidL s L M) p r ≠ 0 then addE s (sidL s L M) p r else wholeE (putL s p r L) (putM s p r M)
/-- how Put ends -/
def PutPost (z : Int) (L' M' : List Lv) (w : World) (e : Ending) (w' : World) : Prop :=
  (z ≠ 0 ∧ e = .returned (.tuple #[.agg #[.slice none 0 0, .slice none 0 0], er z]) ∧ Below w.heap.size w w') ∨
  (z = 0 ∧ ∃ A1 c1 v1 A2 c2 v2, e = .returned (.tuple #[.agg #[.slice A1 L'.length c1, .slice A2 M'.length c2], .nilIface]) ∧ OwnLv w' w.heap.size A1 c1 L' v1 ∧ OwnLv w' w.heap.size A2 c2 M' v2 ∧ Below w.heap.size w w')
/-- Put's contract -/
def PutCon : Prop := ∀ (L M : List Lv) (s p : Int) (r : Rest) (A1 A2 : Option Addr) (c1 c2 : Nat) (w : World), RdLv w w.heap.size A1 L → RdLv w w.heap.size A2 M → L.length ≤ maxLen → M.length ≤ maxLen → (A1 = none → c1 = 0) → (A2 = none → c2 = 0) →
    Calls Tryd.prog 9 #[.agg #[.slice A1 L.length c1, .slice A2 M.length c2], .int .i64 s, .int .i64 p, .agg #[.int .i64 r.id, .int .i64 r.who, .int .i64 r.qty, .int .i64 r.hidden, .int .i64 r.show_]] w (PutPost (putE L M s p r) (putL s p r L) (putM s p r M) w)
end Go.Proofs.YtbnjkcgkdpildaaDoor
