/- The reference's purses: the contract of Trade. -/
import Derived.Test.YtefncbdkjljbjaaDoorSTrade
import Derived.Deep.DeepCutAuto
import Derived.Deep.CutBlock
import Derived.Test.YtefncbdkjljbjaaDoorPurse7
namespace Go.Proofs.YtefncbdkjljbjaaDoor
set_option linter.all false
open Go Go.RowKit
/-- where the stores of a trade stand -/
structure TR (w : World) (g a b : Nat) (bx : Array Value) (S : Nat → Pur) (A B : Pur) (wx : World) : Prop where
  pq : Pq wx g (upd (upd S b B) a A)
  bk : Bk wx w.heap.size 43 bx
  gr : w.grownBy wx (some g)
section
variable {w wx : World} {g a b : Nat} {bx : Array Value} {S : Nat → Pur} {A B : Pur}
theorem TR.fa (h : TR w g a b bx S A B wx) (ha : a < 10) : ∃ x : Int, wx.cell? ⟨g, a * 5, none⟩ = some (.int .i64 x) ∧ wx.cell? ⟨g, a * 5 + 1, none⟩ = some (.int .i64 A.cash) ∧ wx.cell? ⟨g, a * 5 + 2, none⟩ = some (.int .i64 A.held) ∧ wx.cell? ⟨g, a * 5 + 3, none⟩ = some (.int .i64 A.stock) ∧ wx.cell? ⟨g, a * 5 + 4, none⟩ = some (.int .i64 A.hstock) := by
  have := h.pq.five ha
  rwa [upd_same] at this
theorem TR.drewN (h : TR w g a b bx S A B wx) (n : Nat) : TR w g a b bx S A B (wx.drewN n) := ⟨h.pq.drewN n, h.bk.drewN n, grown_drewN h.gr n⟩
theorem TR.fb (h : TR w g a b bx S A B wx) (hb : b < 10) (hab : a ≠ b) : ∃ x : Int, wx.cell? ⟨g, b * 5, none⟩ = some (.int .i64 x) ∧ wx.cell? ⟨g, b * 5 + 1, none⟩ = some (.int .i64 B.cash) ∧ wx.cell? ⟨g, b * 5 + 2, none⟩ = some (.int .i64 B.held) ∧ wx.cell? ⟨g, b * 5 + 3, none⟩ = some (.int .i64 B.stock) ∧ wx.cell? ⟨g, b * 5 + 4, none⟩ = some (.int .i64 B.hstock) := by
  have := h.pq.five hb
  rwa [upd_other (Ne.symm hab), upd_same] at this
theorem TR.seta (h : TR w g a b bx S A B wx) (ha : a < 10) (hg : g < w.heap.size) {j : Nat} (hj0 : 0 < j) (hj : j < 5) {A' : Pur} {v : Value} (hv : ∀ i, 0 < i → i < 5 → A'.cell i = if i = j then v else A.cell i) : TR w g a b bx S A' B (wx.setCell ⟨g, a * 5 + j, none⟩ v).drew := by
  refine ⟨((h.pq.set ha hj0 hj (p := A') (by rw [upd_same]; exact hv)).congr fun i _ => upd_upd _ _ _ _ i).drew, (h.bk.far (by simp; omega) _).drew, grown_drew (grown_cell h.gr _ _)⟩
theorem TR.seta0 (h : TR w g a b bx S A B wx) (ha : a < 10) (hg : g < w.heap.size) {j : Nat} (hj0 : 0 < j) (hj : j < 5) {A' : Pur} {v : Value} (hv : ∀ i, 0 < i → i < 5 → A'.cell i = if i = j then v else A.cell i) : TR w g a b bx S A' B (wx.setCell ⟨g, a * 5 + j, none⟩ v) := by
  refine ⟨((h.pq.set ha hj0 hj (p := A') (by rw [upd_same]; exact hv)).congr fun i _ => upd_upd _ _ _ _ i), (h.bk.far (by simp; omega) _), (grown_cell h.gr _ _)⟩
theorem TR.setb (h : TR w g a b bx S A B wx) (hb : b < 10) (hab : a ≠ b) (hg : g < w.heap.size) {j : Nat} (hj0 : 0 < j) (hj : j < 5) {B' : Pur} {v : Value} (hv : ∀ i, 0 < i → i < 5 → B'.cell i = if i = j then v else B.cell i) : TR w g a b bx S A B' (wx.setCell ⟨g, b * 5 + j, none⟩ v).drew := by
  refine ⟨((h.pq.set hb hj0 hj (p := B') (by rw [upd_other (Ne.symm hab), upd_same]; exact hv)).congr fun i _ => ?_).drew, (h.bk.far (by simp; omega) _).drew, grown_drew (grown_cell h.gr _ _)⟩
  by_cases e : i = b
  · subst e; rw [upd_same, upd_other (Ne.symm hab), upd_same]
  · rw [upd_other e]
    by_cases e2 : i = a
    · subst e2; rw [upd_same, upd_same]
    · rw [upd_other e2, upd_other e, upd_other e2, upd_other e]
end
theorem box6 {w' : World} {v0 v1 v2 v3 v4 v5 : Value} {g : Nat} {t : TypeId} (h : Bk w' g t #[v0, v1, v2, v3, v4, v5]) : w'.cell? ⟨g, 0, none⟩ = some v0 ∧ w'.cell? ⟨g, 1, none⟩ = some v1 ∧ w'.cell? ⟨g, 2, none⟩ = some v2 ∧ w'.cell? ⟨g, 3, none⟩ = some v3 ∧ w'.cell? ⟨g, 4, none⟩ = some v4 ∧ w'.cell? ⟨g, 5, none⟩ = some v5 :=
  ⟨h.cell 0, h.cell 1, h.cell 2, h.cell 3, h.cell 4, h.cell 5⟩
set_option maxRecDepth 100000 in
set_option maxHeartbeats 4000000 in
theorem strade_far (S : Nat → Pur) (g a b : Nat) (mk tk p q : Int) (w : World) (hp : Pq w g S) (hs : PSound S) (ha2 : a < 10) (hb2 : b < 10) (hab : a ≠ b) (hp1 : inb p 1 10000 = true) (hq1 : inb q 1 10000 = true) (hA : inb a 1 9 = true) (hB : inb b 1 9 = true)
    (h1 : q ≤ (S a).hstock) (h2 : p * q ≤ (S b).held) (h3 : (S a).cash ≤ 1000000000 - p * q) (h4 : (S b).stock ≤ 1000000000 - q) :
    Calls Tryd.prog 26 #[.pointer (some ⟨g, 0, none⟩), .agg #[.int .i64 mk, .int .i64 tk, .int .i64 a, .int .i64 b, .int .i64 p, .int .i64 q]] w (QPost (0, moved S a b (p * q) q) g w) := by
  have HP := Lib.hid hp
  obtain ⟨xa, a0, a1, a2, a3, a4⟩ := hp.five ha2
  obtain ⟨xb, b0, b1, b2, b3, b4⟩ := hp.five hb2
  obtain ⟨s1, s2, s3, s4, s5, s6⟩ := hs a ha2
  obtain ⟨t1, t2, t3, t4, t5, t6⟩ := hs b hb2
  have hp2 : 1 ≤ p ∧ p ≤ 10000 := by simpa [inb] using hp1
  have hq2 : 1 ≤ q ∧ q ≤ 10000 := by simpa [inb] using hq1
  obtain ⟨p1, p2⟩ := hp2
  obtain ⟨q1, q2⟩ := hq2
  rw [← vp_inb] at hp1
  have m1 : 0 ≤ p * q := Int.mul_nonneg (by omega) (by omega)
  have m2 : p * q ≤ 10000 * 10000 := Int.mul_le_mul p2 q2 (by omega) (by omega)
  have i0 : (0 : Int) ≤ (a : Int) := by omega
  have i1 : (a : Int) < 10 := by omega
  have j0 : (0 : Int) ≤ (b : Int) := by omega
  have j1 : (b : Int) < 10 := by omega
  have hgl := hp.lt
  have g1 : decide ((S a).hstock < q) = false := by simp; omega
  have g2 : decide ((S b).held < p * q) = false := by simp; omega
  have g5 : ((a : Int) == (b : Int)) = false := by simp; omega
  have g6 : (a : Int) ≠ (b : Int) := by omega
  have g7 : ((a : Int) != (b : Int)) = true := bne_iff_ne.2 g6
  obtain ⟨Y, hY⟩ : ∃ Y : Int, Y = (S a).cash + p * q := ⟨_, rfl⟩
  obtain ⟨Z, hZ⟩ : ∃ Z : Int, Z = (S b).stock + q := ⟨_, rfl⟩
  have x1 : IntKind.i64.wrap ((S a).cash + p * q) = Y := by rw [hY]; exact IntWalk.i64_in _ (by omega)
  have x2 : IntKind.i64.wrap ((S b).stock + q) = Z := by rw [hZ]; exact IntWalk.i64_in _ (by omega)
  have y1 : decide (1000000000 < Y) = false := decide_eq_false (by omega)
  have y2 : decide (1000000000 < Z) = false := decide_eq_false (by omega)
  have y3 : Z ≤ 1000000000 := by omega
  clear hY hZ
  have X1 := Lib.hid x1; have X2 := Lib.hid x2; clear x1 x2
  have HAB := Lib.hid hab
  have hM := Lib.hid (fun i => moved_far hab (p * q) q (S := S) i)
  have T0 : TR w g a b #[.int .i64 mk, .int .i64 tk, .int .i64 a, .int .i64 b, .int .i64 p, .int .i64 q] S (S a) (S b) (w.alloc (.cells #[.int .i64 mk, .int .i64 tk, .int .i64 a, .int .i64 b, .int .i64 p, .int .i64 q] 43)) := by
    refine ⟨(hp.alloc _).congr fun i _ => ?_, Bk.new _ _ _, grown_alloc (grown_refl _ _) _⟩
    by_cases e2 : i = a
    · subst e2; rw [upd_same]
    · rw [upd_other e2]
      by_cases e : i = b
      · subst e; rw [upd_same]
      · rw [upd_other e]
  have T := Lib.hid T0
  clear T0
  clear hp hs hab
  go_enter Tryd.func26, Tryd.ntmps26
  go_wp2_with (first | (go_at_call 69; refine (swho_any _ _).mono ?_; rintro e w' ⟨rfl, rfl⟩) | (go_at_call 37; refine (rprice_any _ _).mono ?_; rintro e w' ⟨rfl, rfl⟩))
  go_quiet (fail)
  go_wp2
  have x1 := X1.out
  have x2 := X2.out
  go_quiet (fail)
  clear x1 x2
  go_wp2
  clear y1 y2 y3 X1 X2 g1 g2 g5 g6 g7 a0 a1 a2 a3 a4 b0 b1 b2 b3 b4
  go_cut [] (fun wx => TR w g a b #[.int .i64 mk, .int .i64 tk, .int .i64 a, .int .i64 b, .int .i64 p, .int .i64 q] S (⟨(S a).who, (S a).cash, (S a).held, (S a).stock, (S a).hstock - q⟩ : Pur) (⟨(S b).who, (S b).cash, (S b).held, (S b).stock, (S b).hstock⟩ : Pur) wx)
  case first =>
    have qb := box6 T.out.bk
    obtain ⟨xa, a0, a1, a2, a3, a4⟩ := T.out.fa ha2
    obtain ⟨xb, b0, b1, b2, b3, b4⟩ := T.out.fb hb2 HAB.out
    have z1 := fun i => T.out.pq.free i
    go_region
    go_wp2_with fail
    go_meet
    case rel => exact (T.out.drewN _).seta0 (j := 4) ha2 hgl (by omega) (by omega) (fun i _ hi => by match i, hi with | 0, _ => rfl | 1, _ => rfl | 2, _ => rfl | 3, _ => rfl | 4, _ => rfl)
  case rest =>
    clear T
    have T := Lib.hid hcut
    clear hcut
    go_wp2
    go_cut [] (fun wx => TR w g a b #[.int .i64 mk, .int .i64 tk, .int .i64 a, .int .i64 b, .int .i64 p, .int .i64 q] S (⟨(S a).who, (S a).cash, (S a).held, (S a).stock - q, (S a).hstock - q⟩ : Pur) (⟨(S b).who, (S b).cash, (S b).held, (S b).stock, (S b).hstock⟩ : Pur) wx)
    case first =>
      have qb := box6 T.out.bk
      obtain ⟨xa, a0, a1, a2, a3, a4⟩ := T.out.fa ha2
      obtain ⟨xb, b0, b1, b2, b3, b4⟩ := T.out.fb hb2 HAB.out
      have z1 := fun i => T.out.pq.free i
      go_region
      go_wp2_with fail
      go_meet
      case rel => exact T.out.seta (j := 3) ha2 hgl (by omega) (by omega) (fun i _ hi => by match i, hi with | 0, _ => rfl | 1, _ => rfl | 2, _ => rfl | 3, _ => rfl | 4, _ => rfl)
    case rest =>
      clear T
      have T := Lib.hid hcut
      clear hcut
      go_wp2
      go_cut [] (fun wx => TR w g a b #[.int .i64 mk, .int .i64 tk, .int .i64 a, .int .i64 b, .int .i64 p, .int .i64 q] S (⟨(S a).who, (S a).cash + p * q, (S a).held, (S a).stock - q, (S a).hstock - q⟩ : Pur) (⟨(S b).who, (S b).cash, (S b).held, (S b).stock, (S b).hstock⟩ : Pur) wx)
      case first =>
        have qb := box6 T.out.bk
        obtain ⟨xa, a0, a1, a2, a3, a4⟩ := T.out.fa ha2
        obtain ⟨xb, b0, b1, b2, b3, b4⟩ := T.out.fb hb2 HAB.out
        have z1 := fun i => T.out.pq.free i
        go_region
        go_wp2_with fail
        go_meet
        case rel => exact T.out.seta (j := 1) ha2 hgl (by omega) (by omega) (fun i _ hi => by match i, hi with | 0, _ => rfl | 1, _ => rfl | 2, _ => rfl | 3, _ => rfl | 4, _ => rfl)
      case rest =>
        clear T
        have T := Lib.hid hcut
        clear hcut
        go_wp2
        go_cut [] (fun wx => TR w g a b #[.int .i64 mk, .int .i64 tk, .int .i64 a, .int .i64 b, .int .i64 p, .int .i64 q] S (⟨(S a).who, (S a).cash + p * q, (S a).held, (S a).stock - q, (S a).hstock - q⟩ : Pur) (⟨(S b).who, (S b).cash, (S b).held - p * q, (S b).stock, (S b).hstock⟩ : Pur) wx)
        case first =>
          have qb := box6 T.out.bk
          obtain ⟨xa, a0, a1, a2, a3, a4⟩ := T.out.fa ha2
          obtain ⟨xb, b0, b1, b2, b3, b4⟩ := T.out.fb hb2 HAB.out
          have z1 := fun i => T.out.pq.free i
          go_region
          go_wp2_with fail
          go_meet
          case rel => exact T.out.setb (j := 2) hb2 HAB.out hgl (by omega) (by omega) (fun i _ hi => by match i, hi with | 0, _ => rfl | 1, _ => rfl | 2, _ => rfl | 3, _ => rfl | 4, _ => rfl)
        case rest =>
          clear T
          have T := Lib.hid hcut
          clear hcut
          go_wp2
          go_cut [] (fun wx => TR w g a b #[.int .i64 mk, .int .i64 tk, .int .i64 a, .int .i64 b, .int .i64 p, .int .i64 q] S (⟨(S a).who, (S a).cash + p * q, (S a).held, (S a).stock - q, (S a).hstock - q⟩ : Pur) (⟨(S b).who, (S b).cash - p * q, (S b).held - p * q, (S b).stock, (S b).hstock⟩ : Pur) wx)
          case first =>
            have qb := box6 T.out.bk
            obtain ⟨xa, a0, a1, a2, a3, a4⟩ := T.out.fa ha2
            obtain ⟨xb, b0, b1, b2, b3, b4⟩ := T.out.fb hb2 HAB.out
            have z1 := fun i => T.out.pq.free i
            go_region
            go_wp2_with fail
            go_meet
            case rel => exact T.out.setb (j := 1) hb2 HAB.out hgl (by omega) (by omega) (fun i _ hi => by match i, hi with | 0, _ => rfl | 1, _ => rfl | 2, _ => rfl | 3, _ => rfl | 4, _ => rfl)
          case rest =>
            clear T
            have T := Lib.hid hcut
            clear hcut
            go_wp2
            go_cut [] (fun wx => TR w g a b #[.int .i64 mk, .int .i64 tk, .int .i64 a, .int .i64 b, .int .i64 p, .int .i64 q] S (⟨(S a).who, (S a).cash + p * q, (S a).held, (S a).stock - q, (S a).hstock - q⟩ : Pur) (⟨(S b).who, (S b).cash - p * q, (S b).held - p * q, (S b).stock + q, (S b).hstock⟩ : Pur) wx)
            case first =>
              have qb := box6 T.out.bk
              obtain ⟨xa, a0, a1, a2, a3, a4⟩ := T.out.fa ha2
              obtain ⟨xb, b0, b1, b2, b3, b4⟩ := T.out.fb hb2 HAB.out
              have z1 := fun i => T.out.pq.free i
              go_region
              go_wp2_with fail
              go_meet
              case rel => exact T.out.setb (j := 3) hb2 HAB.out hgl (by omega) (by omega) (fun i _ hi => by match i, hi with | 0, _ => rfl | 1, _ => rfl | 2, _ => rfl | 3, _ => rfl | 4, _ => rfl)
            case rest =>
              clear T
              have T := Lib.hid hcut
              clear hcut
              go_wp2
              go_ret
              refine ⟨rfl, T.out.pq.congr fun i _ => ?_, T.out.gr⟩
              have hab := HAB.out
              show _ = moved S a b (p * q) q i
              rw [hM.out i]
              by_cases e1 : i = b
              · subst e1; simp [upd, Ne.symm hab]
              · by_cases e2 : i = a
                · subst e2; simp [upd, hab]
                · simp [upd, e1, e2]
end Go.Proofs.YtefncbdkjljbjaaDoor
