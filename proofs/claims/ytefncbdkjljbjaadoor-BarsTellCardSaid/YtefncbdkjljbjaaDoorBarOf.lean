/- The contract of the reference's BarOf. -/
import Derived.Test.YtefncbdkjljbjaaDoorSBars
import Derived.RegionTactic
import Derived.Deep.RegionHeld3
import Derived.Deep.DeepCutAuto
import Derived.Deep.CutBlock
import Derived.Test.YtefncbdkjljbjaaDoorBack
namespace Go.Proofs.YtefncbdkjljbjaaDoor
set_option linter.all false
open Go Go.RowKit
theorem box5b {w' : World} {v0 v1 v2 v3 v4 : Value} {g : Nat} {t : TypeId} (h : Bk w' g t #[v0, v1, v2, v3, v4]) : w'.cell? ⟨g, 0, none⟩ = some v0 ∧ w'.cell? ⟨g, 1, none⟩ = some v1 ∧ w'.cell? ⟨g, 2, none⟩ = some v2 ∧ w'.cell? ⟨g, 3, none⟩ = some v3 ∧ w'.cell? ⟨g, 4, none⟩ = some v4 :=
  ⟨h.cell 0, h.cell 1, h.cell 2, h.cell 3, h.cell 4⟩
/-- how BarOf ends -/
def BarOfPost (b : Bar) (w : World) (e : Ending) (w' : World) : Prop := e = .returned (.agg #[.int .i64 b.o, .int .i64 b.h, .int .i64 b.l, .int .i64 b.c, .int .i64 b.q]) ∧ Below w.heap.size w w'
set_option maxRecDepth 100000 in
set_option maxHeartbeats 4000000 in
theorem barof_any (l : List Trade) (A : Option Addr) (c m : Nat) (w : World) (hr : Rd w w.heap.size A l.length 6 (tcell l)) (hm : l.length = m + 1) (hl : l.length ≤ 400) (hok : okT4 l) :
    Calls Tryd.prog 18 #[.slice A l.length c] w (BarOfPost (allB l) w) := by
  obtain ⟨b0, off, t0, rfl, hbl, ht0, e0, e1, e2, e3, e4, e5⟩ := tr_at hr (k := 0) (by omega)
  obtain ⟨_, _, t1, he, _, ht1, g0, g1, g2, g3, g4, g5⟩ := tr_at hr (k := m) (by omega)
  cases he
  have HE := Lib.hid (bar_all hok hm ht0 ht1)
  have HQ := Lib.hid (sums_le hok)
  have HR := Lib.hid hr
  have HOK := Lib.hid hok
  have HM := Lib.hid hm
  simp only [Nat.zero_mul, Nat.add_zero] at e4
  rw [hm]
  have hm4 : m + 1 ≤ 400 := by omega
  have b2 := Bk.new w 38 #[.int .i64 0, .int .i64 0, .int .i64 0, .int .i64 0, .int .i64 0]
  have hb0 : Below w.heap.size w (w.alloc (.cells #[.int .i64 0, .int .i64 0, .int .i64 0, .int .i64 0, .int .i64 0] 38)) := (Below.refl _ _).alloc (Nat.le_refl _) _
  have d4 := keepc ((Below.refl w.heap.size w).alloc (Nat.le_refl _) (.cells #[.int .i64 0, .int .i64 0, .int .i64 0, .int .i64 0, .int .i64 0] 38)) e4
  have d5 := keepc ((Below.refl w.heap.size w).alloc (Nat.le_refl _) (.cells #[.int .i64 0, .int .i64 0, .int .i64 0, .int .i64 0, .int .i64 0] 38)) g4
  clear e0 e1 e2 e3 e4 e5 g0 g1 g2 g3 g4 g5 hr hok hm ht0 ht1 hl
  go_enter Tryd.func18, Tryd.ntmps18
  go_upto_region 1 with fail
  have hgW : w.heap.size < (w.alloc (.cells #[.int .i64 0, .int .i64 0, .int .i64 0, .int .i64 0, .int .i64 0] 38)).heap.size := by simp
  generalize w.alloc (.cells #[.int .i64 0, .int .i64 0, .int .i64 0, .int .i64 0, .int .i64 0] 38) = W at *
  have i0 : (0 : Int) < (m : Int) + 1 := by omega
  have i1 : (0 : Int) ≤ (m : Int) := by omega
  have i2 : (m : Int) < (m : Int) + 1 := by omega
  have x1 : IntKind.i64.wrap ((m : Int) + 1 - 1) = (m : Int) := by rw [show (m : Int) + 1 - 1 = (m : Int) by omega]; exact IntWalk.i64_in _ (by omega)
  have x2 : IntKind.i64.wrap (m : Int) = (m : Int) := IntWalk.i64_in _ (by omega)
  go_region_held3 (fun w' => w'.cell? ⟨b0, off + 4, none⟩ = some (.int .i64 t0.price) ∧ w'.cell? ⟨b0, off + m * 6 + 4, none⟩ = some (.int .i64 t1.price)) ((repeat' apply And.intro) <;> first | (with_reducible assumption) | (with_reducible exact cell_alloc_drew (by assumption) _) | (with_reducible exact cell_alloc (by assumption) _) | (with_reducible exact cell_drew (by assumption)) | (go_simp; done)) (fail)
  have bb := (Bk.new W 38 #[.int .i64 t0.price, .int .i64 t0.price, .int .i64 t0.price, .int .i64 t1.price, .int .i64 0]).drew
  have b2 := (b2.alloc (.cells #[.int .i64 t0.price, .int .i64 t0.price, .int .i64 t0.price, .int .i64 t1.price, .int .i64 0] 38)).drew
  have hb4 : Below w.heap.size w (W.alloc (.cells #[.int .i64 t0.price, .int .i64 t0.price, .int .i64 t0.price, .int .i64 t1.price, .int .i64 0] 38)).drew := (below_then_alloc hb0).drew
  have hgb : w.heap.size ≠ W.heap.size := by have := hb0.size; intro e; have h1 := bb.lt; have h2 := hgW; omega
  have hgb2 : w.heap.size ≤ W.heap.size := hb0.size
  generalize (W.alloc (.cells #[.int .i64 t0.price, .int .i64 t0.price, .int .i64 t0.price, .int .i64 t1.price, .int .i64 0] 38)).drew = W5 at *
  generalize W.heap.size = gb at *
  clear x1 x2 hb0 d4 d5
  go_wp2_with fail
  go_loopw [4] (fun i wr => ∃ k : Nat, k ≤ m + 1 ∧ i = .int .i64 k ∧ Bk wr gb 38 #[.int .i64 t0.price, .int .i64 (hiF t0.price (l.take k)), .int .i64 (loF t0.price (l.take k)), .int .i64 t1.price, .int .i64 (qtys (l.take k))] ∧ Bk wr w.heap.size 38 #[.int .i64 0, .int .i64 0, .int .i64 0, .int .i64 0, .int .i64 0] ∧ Below w.heap.size w wr) (fun i _ => m + 1 - (intOf i).toNat)
  case atStart => exact ⟨0, by omega, rfl, bb, b2, hb4⟩
  case round =>
    obtain ⟨k, hk, rfl, hbb, hb2, hb⟩ := hrel
    clear bb b2 hb4
    by_cases hlt : k < m + 1
    · obtain ⟨b, off', t, he, hbl', ht, e0, e1, e2, e3, e4, e5⟩ := tr_at (HR.out.below hb) (k := k) (by rw [HM.out]; exact hlt)
      cases he
      have hto := HOK.out t (List.mem_of_getElem? ht)
      obtain ⟨⟨p1, p2⟩, q1, q2⟩ := hto
      have hsl := HQ.out k (by rw [HM.out]; omega)
      have HH := Lib.hid (hiF_snoc (p := t0.price) ht)
      have HL := Lib.hid (loF_snoc (p := t0.price) ht)
      have HS := Lib.hid (qtys_snoc ht)
      have hq0 : 0 ≤ qtys (l.take k) ∧ qtys (l.take k) ≤ 4000000 := by omega
      obtain ⟨s1, s2⟩ := hq0
      have i3 : (0 : Int) ≤ (k : Int) := by omega
      have i4 : (k : Int) < (m : Int) + 1 := by omega
      obtain ⟨c0, c1, c2, c3, c4⟩ := box5b hbb
      have z1 := hbb.free 1; have z2 := hbb.free 2; have z4 := hbb.free 4
      clear ht hsl e0 e1 e2 e3
      generalize hiF t0.price (l.take k) = hi at *
      generalize loF t0.price (l.take k) = lo at *
      generalize qtys (l.take k) = qs at *
      have hbx := fun a b c => Lib.hid (((hbb.set_ 1 a).set_ 2 b).set_ 4 c)
      have HB := Lib.hid hbb
      have HB2 := Lib.hid hb2
      clear hbb hb2
      have x3 : IntKind.i64.wrap (qs + t.qty) = qs + t.qty := IntWalk.i64_in _ (by omega)
      have X3 := Lib.hid x3
      clear x3 hbx
      rcases (show hi < t.price ∨ t.price ≤ hi by omega) with a | a <;> rcases (show t.price < lo ∨ lo ≤ t.price by omega) with b | b
      · go_wp2
        go_quiet (fail)
        go_wp2
        go_quiet (fail)
        go_wp2
        go_region
        go_wp2
        go_roundw
        case rel =>
          refine ⟨k + 1, by omega, by go_num, ?_, ?_, ?_⟩
          · rw [HH.out, HL.out, HS.out, if_pos a, if_pos b]
            first | exact (((((HB.out.drewN _).set_ 1 _).drewN _).set_ 2 _).set_ 4 _).drew
          · repeat (first | exact HB2.out | refine Bk.drew ?_ | refine Bk.drewN ?_ _ | refine Bk.far ?_ (by simpa using hgb) _)
          · repeat (first | exact hb | refine Below.drew ?_ | refine below_drewN ?_ _ | refine Below.setCell ?_ (by simp; omega) _)
        case measure => simp [intOf]; omega
      · go_wp2
        go_quiet (fail)
        go_wp2
        go_quiet (fail)
        go_wp2
        go_region
        go_wp2
        go_roundw
        case rel =>
          refine ⟨k + 1, by omega, by go_num, ?_, ?_, ?_⟩
          · rw [HH.out, HL.out, HS.out, if_pos a, if_neg (by omega)]
            first | exact ((((HB.out.drewN _).set_ 1 _).drewN _).set_ 4 _).drew
          · repeat (first | exact HB2.out | refine Bk.drew ?_ | refine Bk.drewN ?_ _ | refine Bk.far ?_ (by simpa using hgb) _)
          · repeat (first | exact hb | refine Below.drew ?_ | refine below_drewN ?_ _ | refine Below.setCell ?_ (by simp; omega) _)
        case measure => simp [intOf]; omega
      · go_wp2
        go_quiet (fail)
        go_wp2
        go_quiet (fail)
        go_wp2
        go_region
        go_wp2
        go_roundw
        case rel =>
          refine ⟨k + 1, by omega, by go_num, ?_, ?_, ?_⟩
          · rw [HH.out, HL.out, HS.out, if_neg (by omega), if_pos b]
            first | exact (((HB.out.drewN _).set_ 2 _).set_ 4 _).drew | exact ((((HB.out.drewN _).drewN _).set_ 2 _).set_ 4 _).drew
          · repeat (first | exact HB2.out | refine Bk.drew ?_ | refine Bk.drewN ?_ _ | refine Bk.far ?_ (by simpa using hgb) _)
          · repeat (first | exact hb | refine Below.drew ?_ | refine below_drewN ?_ _ | refine Below.setCell ?_ (by simp; omega) _)
        case measure => simp [intOf]; omega
      · go_wp2
        go_quiet (fail)
        go_wp2
        go_quiet (fail)
        go_wp2
        go_region
        go_wp2
        go_roundw
        case rel =>
          refine ⟨k + 1, by omega, by go_num, ?_, ?_, ?_⟩
          · rw [HH.out, HL.out, HS.out, if_neg (by omega), if_neg (by omega)]
            first | exact ((HB.out.drewN _).set_ 4 _).drew | exact (((HB.out.drewN _).drewN _).set_ 4 _).drew
          · repeat (first | exact HB2.out | refine Bk.drew ?_ | refine Bk.drewN ?_ _ | refine Bk.far ?_ (by simpa using hgb) _)
          · repeat (first | exact hb | refine Below.drew ?_ | refine below_drewN ?_ _ | refine Below.setCell ?_ (by simp; omega) _)
        case measure => simp [intOf]; omega
    · obtain rfl : k = m + 1 := by omega
      have hEa := Lib.hid (show (⟨t0.price, hiF t0.price (l.take (m + 1)), loF t0.price (l.take (m + 1)), t1.price, qtys (l.take (m + 1))⟩ : Bar) = allB l by rw [List.take_of_length_le (by rw [HM.out]; omega)]; exact HE.out.symm)
      generalize hiF t0.price (l.take (m + 1)) = hi at *
      generalize loF t0.price (l.take (m + 1)) = lo at *
      generalize qtys (l.take (m + 1)) = qs at *
      obtain ⟨c0, c1, c2, c3, c4⟩ := box5b hbb
      obtain ⟨d0, d1, d2, d3, d4⟩ := box5b hb2
      have z0 := hb2.free 0; have z1 := hb2.free 1; have z2 := hb2.free 2; have z3 := hb2.free 3; have z4 := hb2.free 4
      have hkx := box5b (hb2.set5 (.int .i64 t0.price) (.int .i64 hi) (.int .i64 lo) (.int .i64 t1.price) (.int .i64 qs))
      go_wp2
      have hbx := ((((hb.setCell (p := ⟨w.heap.size, 0, none⟩) (Nat.le_refl _) (.int .i64 t0.price)).setCell (p := ⟨w.heap.size, 1, none⟩) (Nat.le_refl _) (.int .i64 hi)).setCell (p := ⟨w.heap.size, 2, none⟩) (Nat.le_refl _) (.int .i64 lo)).setCell (p := ⟨w.heap.size, 3, none⟩) (Nat.le_refl _) (.int .i64 t1.price)).setCell (p := ⟨w.heap.size, 4, none⟩) (Nat.le_refl _) (.int .i64 qs)
      rw [← hEa.out]
      exact bodyPost_ret (v := .agg #[.int .i64 t0.price, .int .i64 hi, .int .i64 lo, .int .i64 t1.price, .int .i64 qs]) (by simp [results, Tryd.results18, go_sem, hkx]) rfl ⟨rfl, hbx⟩
end Go.Proofs.YtefncbdkjljbjaaDoor
