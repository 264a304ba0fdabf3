/- The walk of the reference's Back. -/
import Derived.Test.YtbnjkcgkdpildaaBack
import Derived.IntWalk
import Derived.Deep.DeepCutAuto
import Derived.Deep.CutBlock
namespace Go.Proofs.Ytbnjkcgkdpildaa
set_option linter.all false
open Go Go.RowKit
theorem backR_bad {o : Order} {l : List Trade} {g e : Int} (HB : backR o l g = if (backL o l (mcash o.side o.lim g)).1 ≠ 0 then ((backL o l (mcash o.side o.lim g)).1, 0, 0) else (0, (backL o l (mcash o.side o.lim g)).2, mstock o.side g))
    (h : backL o l (mcash o.side o.lim g) = (e, 0)) (he : e ≠ 0) : backR o l g = (e, 0, 0) := by
  rw [HB, h, if_pos he]
theorem backR_ok {o : Order} {l : List Trade} {g c : Int} (HB : backR o l g = if (backL o l (mcash o.side o.lim g)).1 ≠ 0 then ((backL o l (mcash o.side o.lim g)).1, 0, 0) else (0, (backL o l (mcash o.side o.lim g)).2, mstock o.side g))
    (h : backL o l (mcash o.side o.lim g) = (0, c)) : backR o l g = (0, c, mstock o.side g) := by
  rw [HB, h]; rfl
theorem bErr_1 {o : Order} {t : Trade} (h : t.okB = false) : bErr o t = 1 := if_pos h
theorem bErr_3 {o : Order} {t : Trade} (h : t.okB = true) (h2 : t.taker ≠ o.id ∨ may o t.price = false) : bErr o t = 3 := by
  rw [bErr, if_neg (by simp [h]), if_neg]
  rintro ⟨a, b⟩
  rcases h2 with h2 | h2
  · exact h2 a
  · rw [h2] at b; cases b
theorem bErr_0 {o : Order} {t : Trade} (h : t.okB = true) (h1 : t.taker = o.id) (h2 : may o t.price = true) : bErr o t = 0 := by
  rw [bErr, if_neg (by simp [h]), if_pos ⟨h1, h2⟩]
theorem sret {r : Int × Int × Int} {a b c : Int} (h : r = (c, a, b)) : Ending.returned (.tuple #[.int .i64 a, .int .i64 b, .int .i64 c]) = .returned (.tuple #[.int .i64 r.2.1, .int .i64 r.2.2, .int .i64 r.1]) := by rw [h]
end Go.Proofs.Ytbnjkcgkdpildaa
