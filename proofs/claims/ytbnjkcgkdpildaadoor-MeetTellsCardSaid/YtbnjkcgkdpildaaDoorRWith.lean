/- The contracts of the reference's With, Out; what stays while some blocks turn. -/
import Derived.Test.YtbnjkcgkdpildaaDoorRBook2
import Derived.Test.YtbnjkcgkdpildaaDoorGrpG
namespace Go.Proofs.YtbnjkcgkdpildaaDoor
set_option linter.all false
open Go Go.RowKit
theorem rwith_buy (A1 A2 A3 : Option Addr) (n1 n2 n3 c1 c2 c3 : Nat) (w : World) :
    Calls Tryd.prog 44 #[.agg #[.slice A1 n1 c1, .slice A2 n2 c2], .int .i64 1, .slice A3 n3 c3] w fun e w' => e = .returned (.agg #[.slice A3 n3 c3, .slice A2 n2 c2]) ∧ Below w.heap.size w w' := by
  have hb : Below w.heap.size w ((w.alloc (.cells #[.slice A1 n1 c1, .slice A2 n2 c2] 29)).alloc (.cells #[.slice none 0 0, .slice none 0 0] 29)) := below_then_alloc ((Below.refl _ _).alloc (Nat.le_refl _) _)
  have bb := (Bk.new w 29 #[.slice A1 n1 c1, .slice A2 n2 c2]).alloc (.cells #[.slice none 0 0, .slice none 0 0] 29)
  have br := Bk.at_ (w := w.alloc (.cells #[.slice A1 n1 c1, .slice A2 n2 c2] 29)) (g' := w.heap.size + 1) (by simp) 29 #[.slice none 0 0, .slice none 0 0]
  go_enter Tryd.func44, Tryd.ntmps44
  go_upto_region 1 with fail
  generalize (w.alloc (.cells #[.slice A1 n1 c1, .slice A2 n2 c2] 29)).alloc (.cells #[.slice none 0 0, .slice none 0 0] 29) = w0 at *
  obtain ⟨q0, q1⟩ := box2 bb
  obtain ⟨s0, s1⟩ := box2 br
  have y0 := br.free 0; have y1 := br.free 1
  have kx := box2 (br.set2 (.slice A3 n3 c3) (.slice A2 n2 c2))
  have hb3 := (hb.setCell (p := ⟨w.heap.size + 1, 0, none⟩) (by simp) (.slice A3 n3 c3)).setCell (p := ⟨w.heap.size + 1, 1, none⟩) (by simp) (.slice A2 n2 c2)
  go_wp2
  exact bodyPost_ret (v := .agg #[.slice A3 n3 c3, .slice A2 n2 c2]) (by simp [results, Tryd.results44, go_sem, kx]) rfl ⟨rfl, hb3⟩
theorem rwith_sell (A1 A2 A3 : Option Addr) (n1 n2 n3 c1 c2 c3 : Nat) (w : World) :
    Calls Tryd.prog 44 #[.agg #[.slice A1 n1 c1, .slice A2 n2 c2], .int .i64 2, .slice A3 n3 c3] w fun e w' => e = .returned (.agg #[.slice A1 n1 c1, .slice A3 n3 c3]) ∧ Below w.heap.size w w' := by
  have hb : Below w.heap.size w ((w.alloc (.cells #[.slice A1 n1 c1, .slice A2 n2 c2] 29)).alloc (.cells #[.slice none 0 0, .slice none 0 0] 29)) := below_then_alloc ((Below.refl _ _).alloc (Nat.le_refl _) _)
  have bb := (Bk.new w 29 #[.slice A1 n1 c1, .slice A2 n2 c2]).alloc (.cells #[.slice none 0 0, .slice none 0 0] 29)
  have br := Bk.at_ (w := w.alloc (.cells #[.slice A1 n1 c1, .slice A2 n2 c2] 29)) (g' := w.heap.size + 1) (by simp) 29 #[.slice none 0 0, .slice none 0 0]
  go_enter Tryd.func44, Tryd.ntmps44
  go_upto_region 1 with fail
  generalize (w.alloc (.cells #[.slice A1 n1 c1, .slice A2 n2 c2] 29)).alloc (.cells #[.slice none 0 0, .slice none 0 0] 29) = w0 at *
  obtain ⟨q0, q1⟩ := box2 bb
  obtain ⟨s0, s1⟩ := box2 br
  have y0 := br.free 0; have y1 := br.free 1
  have kx := box2 (br.set2 (.slice A1 n1 c1) (.slice A3 n3 c3))
  have hb3 := (hb.setCell (p := ⟨w.heap.size + 1, 0, none⟩) (by simp) (.slice A1 n1 c1)).setCell (p := ⟨w.heap.size + 1, 1, none⟩) (by simp) (.slice A3 n3 c3)
  go_wp2
  exact bodyPost_ret (v := .agg #[.slice A1 n1 c1, .slice A3 n3 c3]) (by simp [results, Tryd.results44, go_sem, kx]) rfl ⟨rfl, hb3⟩
end Go.Proofs.YtbnjkcgkdpildaaDoor
