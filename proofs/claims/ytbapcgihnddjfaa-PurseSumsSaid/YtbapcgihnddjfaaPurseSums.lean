/- The walk of PurseSums. -/
import Derived.Test.YtbapcgihnddjfaaPurse7
import Derived.Test.YtbapcgihnddjfaaPurseLaw
import Derived.Test.YtbapcgihnddjfaaIntTab
import Derived.Deep.DeepCutAuto
import Derived.Deep.CutBlock
namespace Go.Proofs.Ytbapcgihnddjfaa
open Go Go.RowKit
def TS1 : Nat → Pur := (payP newP 1 100).2
def TS2 : Nat → Pur := (giveP TS1 2 5).2
def TS3 : Nat → Pur := (holdP TS2 1 60 0).2
def TS4 : Nat → Pur := (holdP TS3 2 0 3).2
def TS5 : Nat → Pur := (tradeP TS4 2 1 20 3).2
theorem inv1 : PInv TS1 := (pay_step new_inv 1 100).1
theorem inv2 : PInv TS2 := (give_step inv1 2 5).1
theorem inv3 : PInv TS3 := (hold_step inv2 1 60 0).1
theorem inv4 : PInv TS4 := (hold_step inv3 2 0 3).1
/-- a step that is not refused -/
def Fine (T : Nat → Pur) (g : Nat) (w : World) (e : Ending) (w' : World) : Prop := e = .returned .nilIface ∧ Pm w' g T ∧ w.grownBy w' (some g)
theorem fine_of {r : Int × (Nat → Pur)} (h : r.1 = 0) {g : Nat} {w : World} {e : Ending} {w' : World} (hp : PurPost r g w e w') : Fine r.2 g w e w' := by
  obtain ⟨h1, h2⟩ := hp
  exact ⟨by rw [h1, h]; rfl, h2⟩
theorem pre1 (g : Nat) (w : World) (hp : Pm w g newP) : Calls Try.prog 28 #[.pointer (some ⟨g, 0, none⟩), .int .i64 1, .int .i64 100] w (Fine TS1 g w) :=
  (pay_any newP g 1 100 w hp new_inv.sound).mono fun _ _ h => fine_of (by decide) h
theorem pre2 (g : Nat) (w : World) (hp : Pm w g TS1) : Calls Try.prog 29 #[.pointer (some ⟨g, 0, none⟩), .int .i64 2, .int .i64 5] w (Fine TS2 g w) :=
  (give_any TS1 g 2 5 w hp inv1.sound).mono fun _ _ h => fine_of (by decide) h
theorem pre3 (g : Nat) (w : World) (hp : Pm w g TS2) : Calls Try.prog 30 #[.pointer (some ⟨g, 0, none⟩), .int .i64 1, .int .i64 60, .int .i64 0] w (Fine TS3 g w) :=
  (hold_any TS2 g 1 60 0 w hp inv2.sound).mono fun _ _ h => fine_of (by decide) h
theorem pre4 (g : Nat) (w : World) (hp : Pm w g TS3) : Calls Try.prog 30 #[.pointer (some ⟨g, 0, none⟩), .int .i64 2, .int .i64 0, .int .i64 3] w (Fine TS4 g w) :=
  (hold_any TS3 g 2 0 3 w hp inv3.sound).mono fun _ _ h => fine_of (by decide) h
theorem pre5 (g : Nat) (w : World) (hp : Pm w g TS4) : Calls Try.prog 31 #[.pointer (some ⟨g, 0, none⟩), .agg #[.int .i64 0, .int .i64 0, .int .i64 2, .int .i64 1, .int .i64 20, .int .i64 3]] w (Fine TS5 g w) :=
  (trade_any TS4 g 0 0 2 1 20 3 w hp inv4.sound).mono fun _ _ h => fine_of (by decide) h
theorem pre6 (g : Nat) (w : World) (hp : Pm w g TS5) : Calls Try.prog 32 #[.pointer (some ⟨g, 0, none⟩), .int .i64 1] w fun e w' => e = .returned (.tuple #[.agg #[.int .i64 1, .int .i64 40, .int .i64 0, .int .i64 3, .int .i64 0], .nilIface]) ∧ Below w.heap.size w w' := by
  have h := get_any TS5 g 1 w hp
  rw [show getP TS5 1 = (0, ⟨1, 40, 0, 3, 0⟩) by decide] at h
  exact h
theorem below_row {w w1 w2 : World} {g : Nat} (h : Below w.heap.size w w1) (hg : w.heap.size ≤ g) (hr : w1.grownBy w2 (some g)) : Below w.heap.size w w2 := h.grown hr h.size (fun k hk => by cases hk; exact hg)
/-- a step that is refused -/
def Bad (T : Nat → Pur) (g : Nat) (w : World) (e : Ending) (w' : World) : Prop := ∃ k : Int, e = .returned (er k) ∧ Pm w' g T ∧ w.grownBy w' (some g)
theorem bad_of {r : Int × (Nat → Pur)} (h : r.1 ≠ 0) {g : Nat} {w : World} {e : Ending} {w' : World} (hp : PurPost r g w e w') : Bad r.2 g w e w' := by
  obtain ⟨h1, h2⟩ := hp
  exact ⟨r.1, by rw [h1, errV, if_neg h], h2⟩
/-- a step, whatever it says -/
def Done (T : Nat → Pur) (g : Nat) (w : World) (e : Ending) (w' : World) : Prop := ∃ v : Value, e = .returned v ∧ Pm w' g T ∧ w.grownBy w' (some g)
theorem done_of {r : Int × (Nat → Pur)} {g : Nat} {w : World} {e : Ending} {w' : World} (hp : PurPost r g w e w') : Done r.2 g w e w' := ⟨_, hp.1, hp.2⟩
theorem pay_fine {S : Nat → Pur} {who n : Int} (h : (payP S who n).1 = 0) : 1 ≤ n ∧ n ≤ 1000000000 := by
  unfold payP at h
  split at h
  · rename_i h1
    simp only [Bool.and_eq_true] at h1
    simpa [inb] using h1.2
  · simp at h
theorem give_fine {S : Nat → Pur} {who n : Int} (h : (giveP S who n).1 = 0) : 1 ≤ n ∧ n ≤ 1000000000 := by
  unfold giveP at h
  split at h
  · rename_i h1
    simp only [Bool.and_eq_true] at h1
    simpa [inb] using h1.2
  · simp at h
/-- where a round stands behind its step -/
def Stood (w : World) (g : Nat) (cs ss : Value) (w3 : World) : Prop := ∃ S : Nat → Pur, PInv S ∧ Pm w3 g S ∧ cs = .int .i64 (cashOf S 10) ∧ ss = .int .i64 (stockOf S 10) ∧ Below w.heap.size w w3
theorem stood_of {S T : Nat → Pur} {w wc w3 : World} {g : Nat} {c s : Int} (h : Step S T c s) (hp : Pm w3 g T) (hg : wc.grownBy w3 (some g)) (hb : Below w.heap.size w wc) (hgz : w.heap.size ≤ g) {cs ss : Value} (h1 : cs = .int .i64 (cashOf S 10 + c)) (h2 : ss = .int .i64 (stockOf S 10 + s)) : Stood w g cs ss w3 :=
  ⟨T, h.1, hp, by rw [h1, h.2.1], by rw [h2, h.2.2], below_row hb hgz hg⟩
/-- five numbers -/
def Five (cs : Array Value) : Prop := cs.size = 5 ∧ ∀ i, i < 5 → ∃ z : Int, cs[i]? = some (.int .i64 z)
theorem five_zero : Five #[.int .i64 0, .int .i64 0, .int .i64 0, .int .i64 0, .int .i64 0] := ⟨rfl, fun i hi => ⟨0, by match i, hi with | 0, _ => rfl | 1, _ => rfl | 2, _ => rfl | 3, _ => rfl | 4, _ => rfl⟩⟩
theorem five_set {cs : Array Value} (h : Five cs) (q : Nat) (z : Int) : Five (cs.setIfInBounds q (.int .i64 z)) := by
  refine ⟨by simpa using h.1, fun i hi => ?_⟩
  rw [Array.getElem?_setIfInBounds]
  split
  · split
    · exact ⟨z, rfl⟩
    · rename_i h1 h2; exact absurd (by rw [h.1]; omega) h2
  · exact h.2 i hi
theorem five_of {cs : Array Value} (h : Five cs) : ∃ v0 v1 v2 v3 v4 : Int, cs = #[.int .i64 v0, .int .i64 v1, .int .i64 v2, .int .i64 v3, .int .i64 v4] := by
  obtain ⟨a0, h0⟩ := h.2 0 (by omega); obtain ⟨a1, h1⟩ := h.2 1 (by omega); obtain ⟨a2, h2⟩ := h.2 2 (by omega); obtain ⟨a3, h3⟩ := h.2 3 (by omega); obtain ⟨a4, h4⟩ := h.2 4 (by omega)
  refine ⟨a0, a1, a2, a3, a4, Array.ext_getElem? fun i => ?_⟩
  match i with
  | 0 => exact h0
  | 1 => exact h1
  | 2 => exact h2
  | 3 => exact h3
  | 4 => exact h4
  | i + 5 => rw [Array.getElem?_eq_none (by have := h.1; omega), Array.getElem?_eq_none (by simp)]
set_option maxHeartbeats 8000000 in
set_option maxRecDepth 20000 in
theorem purseSums_walk (A : Option Addr) (n c : Nat) (w : World) (hr : RdRows w A n) :
    Calls Try.prog 11 #[.slice A n c] w fun e w' => e = .returned (.bool true) ∧ Below w.heap.size w w' := by
  have HR := Lib.hid hr
  have hmx := hr.1
  unfold maxLen at hmx
  clear hr
  go_enter Try.func11, Try.ntmps11
  go_wp2_with fail
  go_at_call 27
  refine (new_any _).mono ?_
  rintro e w1 ⟨rfl, hp0, hb1⟩
  go_wp2_with fail
  go_at_call 28
  refine (pre1 _ _ hp0).mono ?_
  rintro e w2 ⟨rfl, hp1, hg2⟩
  have hb2 := below_row hb1 (Nat.le_refl _) hg2
  clear hp0 hg2
  go_wp2_with fail
  go_at_call 29
  refine (pre2 _ _ hp1).mono ?_
  rintro e w3 ⟨rfl, hp2, hg3⟩
  have hb3 := below_row hb2 (Nat.le_refl _) hg3
  clear hp1 hg3
  go_wp2_with fail
  go_at_call 30
  refine (pre3 _ _ hp2).mono ?_
  rintro e w4 ⟨rfl, hp3, hg4⟩
  have hb4 := below_row hb3 (Nat.le_refl _) hg4
  clear hp2 hg4
  go_wp2_with fail
  go_at_call 30
  refine (pre4 _ _ hp3).mono ?_
  rintro e w5 ⟨rfl, hp4, hg5⟩
  have hb5 := below_row hb4 (Nat.le_refl _) hg5
  clear hp3 hg5
  go_wp2_with fail
  go_at_call 31
  refine (pre5 _ _ hp4).mono ?_
  rintro e w6 ⟨rfl, hp5, hg6⟩
  have hb6 := below_row hb5 (Nat.le_refl _) hg6
  clear hp4 hg6
  go_wp2_with fail
  go_at_call 32
  refine (pre6 _ _ hp5).mono ?_
  rintro e w7 ⟨rfl, hb7⟩
  have hb7' := below_then hb7 hb6
  clear hp5 hb7 hb6 hb5 hb4 hb3 hb2 hb1
  go_wp2_with fail
  go_at_call 27
  refine (new_any _).mono ?_
  rintro e w8 ⟨rfl, hp, hb8⟩
  have hb8' : Below w.heap.size w w8 := below_then hb8 (below_then_alloc hb7')
  have hgz : w.heap.size ≤ w7.heap.size + 1 := by have := hb7'.size; omega
  have hp' : Pm w8 (w7.heap.size + 1) newP := by simpa using hp
  clear hp hb8 hb7'
  go_wp2_with fail
  generalize w7.heap.size + 1 = g at *
  go_loopw [7, 8, 9] (fun cs ss i wr => ∃ (k : Nat) (S : Nat → Pur), k ≤ n ∧ k ≤ 60 ∧ i = .int .i64 k ∧ PInv S ∧ Pm wr g S ∧ cs = .int .i64 (cashOf S 10) ∧ ss = .int .i64 (stockOf S 10) ∧ Below w.heap.size w wr) (fun _ _ i _ => 60 - (intOf i).toNat)
  case atStart => exact ⟨0, newP, by omega, by omega, rfl, new_inv, hp', by rw [new_cash], by rw [new_stock], hb8'⟩
  case round =>
    obtain ⟨k, S, hk, hk60, rfl, hinv, hpm, rfl, rfl, hb⟩ := hrel
    obtain ⟨wo, rfl⟩ : ∃ wo : World, wo = wr := ⟨_, rfl⟩
    by_cases hkn : k < n
    case neg =>
      obtain rfl : k = n := by omega
      go_wp2
      go_ret
      exact ⟨rfl, hb⟩
    case pos =>
    by_cases hk6 : k < 60
    case neg =>
      obtain rfl : k = 60 := by omega
      go_wp2
      go_ret
      exact ⟨rfl, hb⟩
    case pos =>
      obtain ⟨bA, oA, rfl, hbA, hrow⟩ := HR.out.2 (by omega)
      obtain ⟨A', L, C, hc, hL, hin⟩ := hrow k hkn
      unfold maxLen at hL
      have HIN := Lib.hid hin
      have hcr : wo.cell? ⟨bA, oA + k, none⟩ = some (.slice A' L C) := (hb.cell (p := ⟨bA, oA + k, none⟩) hbA).trans hc
      have hbz := hb.size
      have i6 : (k : Int) < 60 := by omega
      have hbAl : bA < wo.heap.size := by omega
      have hbAl1 : bA < wo.heap.size + 1 := by omega
      clear hrow hc hin
      go_upto_block 2 with fail
      go_cut [] (fun w2 => ∃ v0 v1 v2 v3 v4 : Int, Bk w2 wo.heap.size 76 #[.int .i64 v0, .int .i64 v1, .int .i64 v2, .int .i64 v3, .int .i64 v4] ∧ Below wo.heap.size wo w2)
      case first =>
        go_wp2_with fail
        go_loopw [11] (fun j wr => ∃ (q : Nat) (cs : Array Value), q ≤ 5 ∧ j = .int .i64 q ∧ Five cs ∧ Bk wr wo.heap.size 76 cs ∧ Below wo.heap.size wo wr) (fun j _ => 5 - (intOf j).toNat)
        case atStart => exact ⟨0, _, by omega, rfl, five_zero, Bk.new _ _ _, (Below.refl _ _).alloc (Nat.le_refl _) _⟩
        case round =>
          obtain ⟨q, cs, hq5, rfl, hcs, hbk, hb2⟩ := hrel
          have hcr2 : wr.cell? ⟨bA, oA + k, none⟩ = some (.slice A' L C) := (hb2.cell (p := ⟨bA, oA + k, none⟩) hbAl).trans hcr
          have hbAl2 : bA < wr.heap.size := Nat.lt_of_lt_of_le hbAl hb2.size
          have i5 : (q : Int) ≤ 5 := by omega
          by_cases hqL : q < L
          case neg =>
            have HB := Lib.hid hbk; have HC := Lib.hid hcs
            clear hbk hcs
            go_wp2
            go_meet
            case rel =>
              obtain ⟨v0, v1, v2, v3, v4, rfl⟩ := five_of HC.out
              exact ⟨v0, v1, v2, v3, v4, HB.out, hb2⟩
          case pos =>
          by_cases hq6 : q < 5
          case neg =>
            have HB := Lib.hid hbk; have HC := Lib.hid hcs
            obtain rfl : q = 5 := by omega
            clear hbk hcs
            go_wp2
            go_meet
            case rel =>
              obtain ⟨v0, v1, v2, v3, v4, rfl⟩ := five_of HC.out
              exact ⟨v0, v1, v2, v3, v4, HB.out, hb2⟩
          case pos =>
            obtain ⟨b', o', rfl, hb', hz⟩ := HIN.out (by omega)
            obtain ⟨z, hz⟩ := hz q hqL
            have hz2 : wr.cell? ⟨b', o' + q, none⟩ = some (.int .i64 z) := (hb2.cell (p := ⟨b', o' + q, none⟩) (by show b' < _; omega)).trans ((hb.cell (p := ⟨b', o' + q, none⟩) hb').trans hz)
            obtain ⟨y, hy⟩ := hcs.2 q hq6
            have hy2 : wr.cell? ⟨wo.heap.size, q, none⟩ = some (.int .i64 y) := (hbk.cell q).trans hy
            have hfr := hbk.free q
            have i7 : (q : Int) < 5 := by omega
            have i8 : (q : Int) < (L : Int) := by omega
            have i9 : (0 : Int) ≤ (q : Int) := by omega
            have HB := Lib.hid (hbk.set_ q (.int .i64 z)); have HC := Lib.hid (five_set hcs q z)
            clear hbk hcs hy hz
            go_wp2
            go_roundw
            case rel => exact ⟨q + 1, _, by omega, by go_num, HC.out, HB.out, hb2.setCell (Nat.le_refl _) _⟩
            case measure => simp [intOf]; omega
      case rest =>
        obtain ⟨v0, v1, v2, v3, v4, hbk, hb2⟩ := hcut
        have x0 : wc.cell? ⟨wo.heap.size, 0, none⟩ = some (.int .i64 v0) := hbk.cell 0
        have x1 : wc.cell? ⟨wo.heap.size, 1, none⟩ = some (.int .i64 v1) := hbk.cell 1
        have x2 : wc.cell? ⟨wo.heap.size, 2, none⟩ = some (.int .i64 v2) := hbk.cell 2
        have x3 : wc.cell? ⟨wo.heap.size, 3, none⟩ = some (.int .i64 v3) := hbk.cell 3
        have x4 : wc.cell? ⟨wo.heap.size, 4, none⟩ = some (.int .i64 v4) := hbk.cell 4
        have hpc := hpm.below hb2
        have hbc : Below w.heap.size w wc := hb.trans (hb2.mono hbz)
        obtain ⟨c1, c2, c3, c4⟩ := sums_bounds hinv.sound 10 (by omega)
        have hsnd := Lib.hid hinv.sound
        have hblk : wo.heap.size < wc.heap.size := hbk.lt
        have hgne : some wo.heap.size ≠ some g := by have := hpm.lt; simp; omega
        clear hbk
        go_upto_block 4 with fail
        go_cut [7, 8] (fun cs ss w3 => Stood w g cs ss w3)
        case first =>
          rcases (show v0 = 0 ∨ v0 = 1 ∨ v0 = 2 ∨ v0 = 3 ∨ (v0 ≠ 0 ∧ v0 ≠ 1 ∧ v0 ≠ 2 ∧ v0 ≠ 3) by omega) with rfl | rfl | rfl | rfl | ⟨e0, e1, e2, e3⟩
          · have st := Lib.hid (pay_step hinv v1 v2)
            by_cases he : (payP S v1 v2).1 = 0
            · obtain ⟨y1, y2⟩ := pay_fine he
              have cP := Lib.hid ((pay_any S g v1 v2 wc hpc hsnd.out).mono fun _ _ h => fine_of he h)
              rw [if_pos he] at st
              clear he
              go_wp2_with (go_at_call 28; refine cP.out.mono ?_; rintro e w3 ⟨rfl, hp3, hg3⟩; have z2 : w3.cell? ⟨wo.heap.size, 2, none⟩ = some (.int .i64 v2) := (hg3.cell_far _ hblk hgne).trans x2)
              go_meet
              case rel => exact stood_of st.out hp3 hg3 hbc hgz (by first | rfl | go_num) (by simp)
            · have cP := Lib.hid ((pay_any S g v1 v2 wc hpc hsnd.out).mono fun _ _ h => bad_of he h)
              rw [if_neg he] at st
              clear he
              go_wp2_with (go_at_call 28; refine cP.out.mono ?_; rintro e w3 ⟨ke, rfl, hp3, hg3⟩)
              go_meet
              case rel => exact stood_of st.out hp3 hg3 hbc hgz (by simp) (by simp)
          · have st := Lib.hid (give_step hinv v1 v2)
            by_cases he : (giveP S v1 v2).1 = 0
            · obtain ⟨y1, y2⟩ := give_fine he
              have cP := Lib.hid ((give_any S g v1 v2 wc hpc hsnd.out).mono fun _ _ h => fine_of he h)
              rw [if_pos he] at st
              clear he
              go_wp2_with (go_at_call 29; refine cP.out.mono ?_; rintro e w3 ⟨rfl, hp3, hg3⟩; have z2 : w3.cell? ⟨wo.heap.size, 2, none⟩ = some (.int .i64 v2) := (hg3.cell_far _ hblk hgne).trans x2)
              go_meet
              case rel => exact stood_of st.out hp3 hg3 hbc hgz (by simp) (by first | rfl | go_num)
            · have cP := Lib.hid ((give_any S g v1 v2 wc hpc hsnd.out).mono fun _ _ h => bad_of he h)
              rw [if_neg he] at st
              clear he
              go_wp2_with (go_at_call 29; refine cP.out.mono ?_; rintro e w3 ⟨ke, rfl, hp3, hg3⟩)
              go_meet
              case rel => exact stood_of st.out hp3 hg3 hbc hgz (by simp) (by simp)
          · have st := Lib.hid (hold_step hinv v1 v2 v3)
            have cP := Lib.hid ((hold_any S g v1 v2 v3 wc hpc hsnd.out).mono fun _ _ h => done_of h)
            go_wp2_with (go_at_call 30; refine cP.out.mono ?_; rintro e w3 ⟨ve, rfl, hp3, hg3⟩)
            go_meet
            case rel => exact stood_of st.out hp3 hg3 hbc hgz (by simp) (by simp)
          · have st := Lib.hid (free_step hinv v1 v2 v3)
            have cP := Lib.hid ((free_any S g v1 v2 v3 wc hpc hsnd.out).mono fun _ _ h => done_of h)
            go_wp2_with (go_at_call 33; refine cP.out.mono ?_; rintro e w3 ⟨ve, rfl, hp3, hg3⟩)
            go_meet
            case rel => exact stood_of st.out hp3 hg3 hbc hgz (by simp) (by simp)
          · have st := Lib.hid (trade_step hinv v1 v2 v3 v4)
            have cP := Lib.hid ((trade_any S g 0 0 v1 v2 v3 v4 wc hpc hsnd.out).mono fun _ _ h => done_of h)
            have f0 : (v0 == 0) = false := beq_eq_false_iff_ne.2 e0
            have f1 : (v0 == 1) = false := beq_eq_false_iff_ne.2 e1
            have f2 : (v0 == 2) = false := beq_eq_false_iff_ne.2 e2
            have f3 : (v0 == 3) = false := beq_eq_false_iff_ne.2 e3
            clear e0 e1 e2 e3
            go_wp2_with (go_at_call 31; refine cP.out.mono ?_; rintro e w3 ⟨ve, rfl, hp3, hg3⟩)
            go_meet
            case rel => exact stood_of st.out hp3 hg3 hbc hgz (by simp) (by simp)
        case rest =>
          obtain ⟨S', hinv', hp4, rfl, rfl, hb4⟩ := hcut
          clear x0 x1 x2 x3 x4 hpc hbc hb2 hblk hgne c1 c2 c3 c4
          have cT := Lib.hid (total_any' S' g _ hp4 hinv'.sound)
          have HP4 := Lib.hid hp4
          clear hp4
          go_wp2_with fail
          go_at_call 34
          refine cT.out.mono ?_
          rintro e w5 ⟨rfl, hb5⟩
          have hp5 := Lib.hid (HP4.out.below hb5)
          have hb5' := below_then hb5 hb4
          clear hb4 hb5
          go_upto_block 5 with fail
          go_wp2_with fail
          go_loopw [14] (fun i wr => ∃ q : Nat, 1 ≤ q ∧ q ≤ 10 ∧ i = .int .i64 q ∧ Below w5.heap.size w5 wr) (fun i _ => 10 - (intOf i).toNat)
          case atStart => exact ⟨1, by omega, by omega, rfl, Below.refl _ _⟩
          case round =>
            obtain ⟨q, hq1, hq2, rfl, hb6⟩ := hrel
            by_cases hq : q < 10
            case neg =>
              obtain rfl : q = 10 := by omega
              have hbf := below_then hb6 hb5'
              go_wp2
              go_roundw
              case rel => exact ⟨k + 1, S', by omega, by omega, by go_num, hinv', hp5.out.below hb6, rfl, rfl, hbf⟩
              case measure => simp [intOf]; omega
            case pos =>
              have hge : getP S' (q : Int) = (0, S' q) := by
                have : inb (q : Int) 1 9 = true := by simp [inb]; omega
                rw [getP, if_pos this]; rfl
              have cG := get_any S' g q wr (hp5.out.below hb6)
              rw [hge, show errV (0, S' q).1 = Value.nilIface from rfl] at cG
              have CG := Lib.hid cG
              obtain ⟨p1, p2, p3, p4, p5, p6⟩ := hinv'.sound q hq
              have hwho := hinv'.who q hq
              have HW := Lib.hid hwho
              have i9 : (q : Int) ≤ 9 := by omega
              clear hge cG hwho
              dsimp only at CG
              generalize S' q = P at *
              obtain ⟨pw, pc, ph, ps, pk⟩ := P
              dsimp only at *
              obtain rfl := HW.out
              go_wp2_with (go_at_call 32; refine CG.out.mono ?_; rintro e w6 ⟨rfl, hb7⟩)
              go_roundw
              case rel => exact ⟨q + 1, by omega, by omega, by go_num, below_then_alloc (below_then hb7 hb6)⟩
              case measure => simp [intOf]; omega
theorem purseSums_law {H : Type} {enc : TypeId × Value → H} {v0 : Value} {d0 : DataW H} {p0 : List MemPlace} {base : Nat} {W : World}
    (h0 : Arg enc W base 66 v0 d0 p0) :
    Calls Try.prog 11 #[v0] W fun e w' => e = .returned (.bool true) ∧ Below W.heap.size W w' := by
  obtain ⟨A, n, c, rfl, hr⟩ := h0.introws
  exact purseSums_walk A n c W hr
end Go.Proofs.Ytbapcgihnddjfaa
