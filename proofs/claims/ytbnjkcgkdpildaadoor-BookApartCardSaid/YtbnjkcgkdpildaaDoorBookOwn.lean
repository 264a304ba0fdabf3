/- The contracts of book.With, book.Own. -/
import Derived.Test.YtbnjkcgkdpildaaDoorReady
import Derived.Test.YtbnjkcgkdpildaaDoorLvOwn
namespace Go.Proofs.YtbnjkcgkdpildaaDoor
set_option linter.all false
open Go Go.RowKit
theorem box2 {w' : World} {v0 v1 : Value} {g : Nat} {t : TypeId} (h : Bk w' g t #[v0, v1]) : w'.cell? ⟨g, 0, none⟩ = some v0 ∧ w'.cell? ⟨g, 1, none⟩ = some v1 := ⟨h.cell 0, h.cell 1⟩
theorem Bk.set2 {w : World} {g : Nat} {t : TypeId} {x0 x1 : Value} (h : Bk w g t #[x0, x1]) (a b : Value) : Bk ((w.setCell ⟨g, 0, none⟩ a).setCell ⟨g, 1, none⟩ b) g t #[a, b] := (h.set_ 0 a).set_ 1 b
/-- With the levels to sell -/
theorem with_sell (A1 A2 A3 : Option Addr) (n1 n2 n3 c1 c2 c3 : Nat) (w : World) :
    Calls Tryd.prog 29 #[.agg #[.slice A1 n1 c1, .slice A2 n2 c2], .int .i64 2, .slice A3 n3 c3] w fun e w' => e = .returned (.agg #[.slice A1 n1 c1, .slice A3 n3 c3]) ∧ Below w.heap.size w w' := by
  have hb : Below w.heap.size w ((w.alloc (.cells #[.slice A1 n1 c1, .slice A2 n2 c2] 29)).alloc (.cells #[.slice none 0 0, .slice none 0 0] 29)) := below_then_alloc ((Below.refl _ _).alloc (Nat.le_refl _) _)
  have bb := (Bk.new w 29 #[.slice A1 n1 c1, .slice A2 n2 c2]).alloc (.cells #[.slice none 0 0, .slice none 0 0] 29)
  have br := Bk.at_ (w := w.alloc (.cells #[.slice A1 n1 c1, .slice A2 n2 c2] 29)) (g' := w.heap.size + 1) (by simp) 29 #[.slice none 0 0, .slice none 0 0]
  go_enter Tryd.func29, Tryd.ntmps29
  go_upto_region 1 with fail
  generalize (w.alloc (.cells #[.slice A1 n1 c1, .slice A2 n2 c2] 29)).alloc (.cells #[.slice none 0 0, .slice none 0 0] 29) = w0 at *
  have b2 := bb.set_ 1 (.slice A3 n3 c3)
  have r2 := br.far (p := ⟨w.heap.size, 1, none⟩) (by simp) (.slice A3 n3 c3)
  have hb2 := hb.setCell (p := ⟨w.heap.size, 1, none⟩) (Nat.le_refl _) (.slice A3 n3 c3)
  obtain ⟨q0, q1⟩ := box2 bb
  have z1 := bb.free 1
  obtain ⟨p0, p1⟩ := box2 b2
  obtain ⟨s0, s1⟩ := box2 r2
  have y0 := r2.free 0; have y1 := r2.free 1
  have kx := box2 (r2.set2 (.slice A1 n1 c1) (.slice A3 n3 c3))
  have hb3 := (hb2.setCell (p := ⟨w.heap.size + 1, 0, none⟩) (by simp) (.slice A1 n1 c1)).setCell (p := ⟨w.heap.size + 1, 1, none⟩) (by simp) (.slice A3 n3 c3)
  go_wp2
  exact bodyPost_ret (v := .agg #[.slice A1 n1 c1, .slice A3 n3 c3]) (by simp [results, Tryd.results29, go_sem, kx]) rfl ⟨rfl, hb3⟩
/-- With the levels to buy -/
theorem with_buy (A1 A2 A3 : Option Addr) (n1 n2 n3 c1 c2 c3 : Nat) (w : World) :
    Calls Tryd.prog 29 #[.agg #[.slice A1 n1 c1, .slice A2 n2 c2], .int .i64 1, .slice A3 n3 c3] w fun e w' => e = .returned (.agg #[.slice A3 n3 c3, .slice A2 n2 c2]) ∧ Below w.heap.size w w' := by
  have hb : Below w.heap.size w ((w.alloc (.cells #[.slice A1 n1 c1, .slice A2 n2 c2] 29)).alloc (.cells #[.slice none 0 0, .slice none 0 0] 29)) := below_then_alloc ((Below.refl _ _).alloc (Nat.le_refl _) _)
  have bb := (Bk.new w 29 #[.slice A1 n1 c1, .slice A2 n2 c2]).alloc (.cells #[.slice none 0 0, .slice none 0 0] 29)
  have br := Bk.at_ (w := w.alloc (.cells #[.slice A1 n1 c1, .slice A2 n2 c2] 29)) (g' := w.heap.size + 1) (by simp) 29 #[.slice none 0 0, .slice none 0 0]
  go_enter Tryd.func29, Tryd.ntmps29
  go_upto_region 1 with fail
  generalize (w.alloc (.cells #[.slice A1 n1 c1, .slice A2 n2 c2] 29)).alloc (.cells #[.slice none 0 0, .slice none 0 0] 29) = w0 at *
  have b2 := bb.set_ 0 (.slice A3 n3 c3)
  have r2 := br.far (p := ⟨w.heap.size, 0, none⟩) (by simp) (.slice A3 n3 c3)
  have hb2 := hb.setCell (p := ⟨w.heap.size, 0, none⟩) (Nat.le_refl _) (.slice A3 n3 c3)
  obtain ⟨q0, q1⟩ := box2 bb
  have z1 := bb.free 0
  obtain ⟨p0, p1⟩ := box2 b2
  obtain ⟨s0, s1⟩ := box2 r2
  have y0 := r2.free 0; have y1 := r2.free 1
  have kx := box2 (r2.set2 (.slice A3 n3 c3) (.slice A2 n2 c2))
  have hb3 := (hb2.setCell (p := ⟨w.heap.size + 1, 0, none⟩) (by simp) (.slice A3 n3 c3)).setCell (p := ⟨w.heap.size + 1, 1, none⟩) (by simp) (.slice A2 n2 c2)
  go_wp2
  exact bodyPost_ret (v := .agg #[.slice A3 n3 c3, .slice A2 n2 c2]) (by simp [results, Tryd.results29, go_sem, kx]) rfl ⟨rfl, hb3⟩
end Go.Proofs.YtbnjkcgkdpildaaDoor
