/- An argument that is a slice of integers. The contract of pitsame.Rests. The contracts of pitsame.Levels, Book. The contract of pitsame.Trades. Books, trades, numbers, that are the same, asked whether they are. -/
import Derived.Test.YtkdgpdijbobmkaaGreatGrpA
import Derived.Deep.Slices
import Derived.ChangeSlices
import Derived.Test.YtkdgpdijbobmkaaGreatGrpB
import Derived.Deep.QuietTactic
import Derived.BigQuiet
import Derived.Test.YtkdgpdijbobmkaaGreatGrpE
import Derived.Deep.DeepCutAuto
import Derived.Deep.RegionHeld3
import Derived.Test.YtkdgpdijbobmkaaGreatTrade
namespace Go.Proofs.YtkdgpdijbobmkaaGreat
set_option linter.all false
open Go.RowKit Go.ChangeShapes Go.WideShapes Go.Deep
/-- a slice of integers reads as l -/
def RdI (w : World) (B : Nat) (A : Option Addr) (l : List Int) : Prop :=
  0 < l.length → ∃ b off, A = some ⟨b, off, none⟩ ∧ b < B ∧ ∀ i p, l[i]? = some p → w.cell? ⟨b, off + i, none⟩ = some (.int .i64 p)
theorem RdI.below {w w' : World} {B : Nat} {A : Option Addr} {l : List Int} (h : RdI w B A l) (hb : Below B w w') : RdI w' B A l := fun hn => by
  obtain ⟨b, off, e, hbl, hc⟩ := h hn
  exact ⟨b, off, e, hbl, fun i p hi => (hb.cell (p := ⟨b, _, none⟩) hbl).trans (hc i p hi)⟩
theorem ri_at {w : World} {B k : Nat} {A : Option Addr} {l : List Int} (hr : RdI w B A l) (hk : k < l.length) : ∃ b off p, A = some ⟨b, off, none⟩ ∧ b < B ∧ l[k]? = some p ∧ w.cell? ⟨b, off + k, none⟩ = some (.int .i64 p) := by
  obtain ⟨b, off, e, hb, hc⟩ := hr (by omega)
  exact ⟨b, off, l[k], e, hb, List.getElem?_eq_getElem hk, hc k _ (List.getElem?_eq_getElem hk)⟩
theorem int_cells1 : Tryz.prog.cellsOf 3 = 1 := by kernel_rfl
set_option maxRecDepth 100000 in
theorem Arg.ints {H : Type} {enc : TypeId × Value → H} {w : World} {base : Nat} {v : Value} {d : DataW H} {p : List MemPlace} (h : Arg enc w base 84 v d p) :
    ∃ (A : Option Addr) (l : List Int) (c : Nat), v = .slice A l.length c ∧ l.length ≤ maxLen ∧ RdI w w.heap.size A l := by
  obtain ⟨A, n, cap, rfl⟩ := okWide_slice Tryz.underlying84 h.ok
  obtain ⟨fuel, hf⟩ := h.rd
  rcases open_ints Tryz.underlying84 Tryz.underlying3 int_cells1 hf with ⟨h0, _⟩ | ⟨a, len, cp, zs, hcs, _, hl, hm, hz, _, hx, _⟩
  · simp only [Value.cells, List.cons.injEq, Value.slice.injEq, and_true] at h0
    obtain ⟨rfl, rfl, rfl⟩ := h0
    exact ⟨none, [], 0, rfl, Nat.zero_le _, fun h => absurd h (by simp)⟩
  · simp only [Value.cells, List.cons.injEq, Value.slice.injEq, and_true] at hcs
    obtain ⟨rfl, rfl, rfl⟩ := hcs
    have hzl : n ≤ zs.length := by rw [hz]; split <;> omega
    refine ⟨some a, zs.take n, cap, by rw [List.length_take, Nat.min_eq_left hzl], by rw [List.length_take]; omega, fun hn => ?_⟩
    rw [List.length_take, Nat.min_eq_left hzl] at hn
    obtain ⟨b, off, spot⟩ := a
    have h0 := hx 0 (by omega)
    have hs : spot = none := by simpa [Addr.add] using World.cell?_spot h0
    subst hs
    have hadd : ∀ k, (⟨b, off, none⟩ : Addr).add k = ⟨b, off + k, none⟩ := fun k => by unfold Addr.add; split <;> simp_all
    have hb := World.block_lt_of_cell? w _ h0
    rw [hadd] at hb
    refine ⟨b, off, rfl, hb, fun i p hp => ?_⟩
    have hi : i < n := by have := (List.getElem?_eq_some_iff.1 hp).1; rw [List.length_take] at this; omega
    have h1 := hx i (by omega)
    rw [hadd] at h1
    rw [List.getElem?_take_of_lt hi] at hp
    rw [h1, List.getD_eq_getElem?_getD, hp]
    rfl
set_option maxRecDepth 100000 in
/-- a row of numbers, each of which is one -/
theorem Arg.intsB {H : Type} {enc : TypeId × Value → H} {w : World} {base : Nat} {v : Value} {d : DataW H} {p : List MemPlace} (h : Arg enc w base 84 v d p) :
    ∃ (A : Option Addr) (l : List Int) (c : Nat), v = .slice A l.length c ∧ l.length ≤ maxLen ∧ RdI w w.heap.size A l ∧ ∀ n ∈ l, -9223372036854775808 ≤ n ∧ n ≤ 9223372036854775807 := by
  obtain ⟨A, n, cap, rfl⟩ := okWide_slice Tryz.underlying84 h.ok
  obtain ⟨fuel, hf⟩ := h.rd
  rcases open_ints Tryz.underlying84 Tryz.underlying3 int_cells1 hf with ⟨h0, _⟩ | ⟨a, len, cp, zs, hcs, _, hl, hm, hz, _, hx, hw⟩
  · simp only [Value.cells, List.cons.injEq, Value.slice.injEq, and_true] at h0
    obtain ⟨rfl, rfl, rfl⟩ := h0
    exact ⟨none, [], 0, rfl, Nat.zero_le _, fun h => absurd h (by simp), fun n hn => by cases hn⟩
  · simp only [Value.cells, List.cons.injEq, Value.slice.injEq, and_true] at hcs
    obtain ⟨rfl, rfl, rfl⟩ := hcs
    have hzl : n ≤ zs.length := by rw [hz]; split <;> omega
    refine ⟨some a, zs.take n, cap, by rw [List.length_take, Nat.min_eq_left hzl], by rw [List.length_take]; omega, fun hn => ?_, fun z hz' => by have := hw z (List.mem_of_mem_take hz'); unfold Lit.wf at this; rw [Bool.and_eq_true] at this; exact ⟨of_decide_eq_true this.1, of_decide_eq_true this.2⟩⟩
    rw [List.length_take, Nat.min_eq_left hzl] at hn
    obtain ⟨b, off, spot⟩ := a
    have h0 := hx 0 (by omega)
    have hs : spot = none := by simpa [Addr.add] using World.cell?_spot h0
    subst hs
    have hadd : ∀ k, (⟨b, off, none⟩ : Addr).add k = ⟨b, off + k, none⟩ := fun k => by unfold Addr.add; split <;> simp_all
    have hb := World.block_lt_of_cell? w _ h0
    rw [hadd] at hb
    refine ⟨b, off, rfl, hb, fun i p hp => ?_⟩
    have hi : i < n := by have := (List.getElem?_eq_some_iff.1 hp).1; rw [List.length_take] at this; omega
    have h1 := hx i (by omega)
    rw [hadd] at h1
    rw [List.getElem?_take_of_lt hi] at hp
    rw [h1, List.getD_eq_getElem?_getD, hp]
    rfl
end Go.Proofs.YtkdgpdijbobmkaaGreat
namespace Go.Proofs.YtkdgpdijbobmkaaGreat
set_option linter.all false
open Go Go.RowKit
theorem take_eq_succ {α : Type} {l m : List α} {k : Nat} {x : α} (h : l.take k = m.take k) (h1 : l[k]? = some x) (h2 : m[k]? = some x) : l.take (k + 1) = m.take (k + 1) := by
  rw [List.take_add_one, List.take_add_one, h, h1, h2]
theorem ne_of_at {α : Type} {l m : List α} {k : Nat} {x y : α} (h1 : l[k]? = some x) (h2 : m[k]? = some y) (h : x ≠ y) : l ≠ m := by
  rintro rfl
  rw [h1] at h2
  exact h (Option.some.inj h2)
theorem ret_false {P : Prop} [Decidable P] (h : ¬ P) : Ending.returned (.bool false) = .returned (.bool (decide P)) := by simp [h]
theorem ret_true {P : Prop} [Decidable P] (h : P) : Ending.returned (.bool true) = .returned (.bool (decide P)) := by simp [h]
set_option maxHeartbeats 2000000 in
theorem rests_any (l m : List Rest) (A B : Option Addr) (c d : Nat) (w : World) (hr : Rd w w.heap.size A l.length 5 (rcell l)) (hs : Rd w w.heap.size B m.length 5 (rcell m)) (hl : l.length ≤ 1000) (hm : m.length ≤ 1000) :
    Calls Tryz.prog 122 #[.slice A l.length c, .slice B m.length d] w fun e w' => e = .returned (.bool (decide (l = m))) ∧ Below w.heap.size w w' := by
  by_cases hlen : l.length = m.length
  case neg =>
    have hne : l ≠ m := fun e => hlen (by rw [e])
    have H := Lib.hid hne
    have h2 : ((l.length : Int) == (m.length : Int)) = false := by simp; omega
    clear hne hr hs hlen
    go_enter Tryz.func122, Tryz.ntmps122
    go_wp2
    go_ret
    exact ⟨ret_false H.out, Below.refl _ _⟩
  case pos =>
    rw [← hlen] at hs ⊢
    have HL := Lib.hid hlen
    clear hlen hm
    have HR := Lib.hid hr
    have HS := Lib.hid hs
    clear hr hs
    go_enter Tryz.func122, Tryz.ntmps122
    go_wp2
    go_loopw [5] (fun i wr => ∃ k : Nat, k ≤ l.length ∧ i = .int .i64 k ∧ Below w.heap.size w wr ∧ Hid (l.take k = m.take k)) (fun i _ => l.length - (intOf i).toNat)
    case atStart => exact ⟨0, by omega, rfl, Below.refl _ _, Lib.hid (by simp)⟩
    case round =>
      obtain ⟨k, hk, rfl, hb, htk⟩ := hrel
      by_cases hlt : k < l.length
      · obtain ⟨b, off, t, rfl, hbl, ht, e0, e1, e2, e3, e4⟩ := rest_at (HR.out.below hb) hlt
        obtain ⟨b', off', u, rfl, hbl', hu, g0, g1, g2, g3, g4⟩ := rest_at (l := m) (by rw [← HL.out]; exact HS.out.below hb) (by rw [← HL.out]; exact hlt)
        have HT := Lib.hid ht; have HU := Lib.hid hu
        have j0 : (0 : Int) ≤ (k : Int) := by omega
        have j1 : (k : Int) < (l.length : Int) := by omega
        obtain ⟨a1, a2, a3, a4, a5⟩ := t
        obtain ⟨b1, b2, b3, b4, b5⟩ := u
        dsimp only at e0 e1 e2 e3 e4 g0 g1 g2 g3 g4
        clear ht hu
        by_cases e : (⟨a1, a2, a3, a4, a5⟩ : Rest) = ⟨b1, b2, b3, b4, b5⟩
        · cases e
          go_wp2
          go_quiet (fail)
          go_wp2
          go_roundw
          case rel => exact ⟨k + 1, by omega, by go_num, below_drewN hb _, take_eq_succ htk HT.out HU.out⟩
          case measure => simp [intOf]; omega
        · have HN := Lib.hid (ne_of_at HT.out HU.out e)
          have hc : a1 ≠ b1 ∨ (a1 = b1 ∧ a2 ≠ b2) ∨ (a1 = b1 ∧ a2 = b2 ∧ a3 ≠ b3) ∨ (a1 = b1 ∧ a2 = b2 ∧ a3 = b3 ∧ a4 ≠ b4) ∨ (a1 = b1 ∧ a2 = b2 ∧ a3 = b3 ∧ a4 = b4 ∧ a5 ≠ b5) := by
            simp only [Rest.mk.injEq, not_and] at e
            omega
          clear HT HU e
          rcases hc with h | ⟨rfl, h⟩ | ⟨rfl, rfl, h⟩ | ⟨rfl, rfl, rfl, h⟩ | ⟨rfl, rfl, rfl, rfl, h⟩
          all_goals
            have hb' := beq_eq_false_iff_ne.2 h
            go_wp2
            go_quiet (fail)
            go_wp2
            go_ret
            exact ⟨ret_false HN.out, below_drewN hb _⟩
      · obtain rfl : k = l.length := by omega
        go_wp2
        go_ret
        refine ⟨ret_true ?_, hb⟩
        have := htk.out
        rwa [List.take_length, HL.out, List.take_length] at this
end Go.Proofs.YtkdgpdijbobmkaaGreat
namespace Go.Proofs.YtkdgpdijbobmkaaGreat
set_option linter.all false
open Go Go.RowKit
theorem lv_ext {x y : Lv} (h : x ≠ y) : x.rs ≠ y.rs ∨ (x.rs = y.rs ∧ x.price ≠ y.price) := by
  obtain ⟨p, l⟩ := x
  obtain ⟨q, m⟩ := y
  by_cases e : l = m
  · refine .inr ⟨e, fun e2 => h ?_⟩
    dsimp only at e e2
    rw [e, e2]
  · exact .inl e
set_option maxRecDepth 100000 in
set_option maxHeartbeats 4000000 in
theorem levels_any (L M : List Lv) (A B : Option Addr) (c d : Nat) (w : World) (hr : RdLv w w.heap.size A L) (hs : RdLv w w.heap.size B M) (hL : L.length ≤ maxLen) (hM : M.length ≤ maxLen) (h1 : ∀ x ∈ L, x.rs.length ≤ 1000) (h2 : ∀ x ∈ M, x.rs.length ≤ 1000) :
    Calls Tryz.prog 91 #[.slice A L.length c, .slice B M.length d] w fun e w' => e = .returned (.bool (decide (L = M))) ∧ Below w.heap.size w w' := by
  unfold maxLen at hL hM
  by_cases hlen : L.length = M.length
  case neg =>
    have hne : L ≠ M := fun e => hlen (by rw [e])
    have H := Lib.hid hne
    have h3 : ((L.length : Int) == (M.length : Int)) = false := by simp; omega
    clear hne hr hs hlen h1 h2
    go_enter Tryz.func91, Tryz.ntmps91
    go_wp2
    go_ret
    exact ⟨ret_false H.out, Below.refl _ _⟩
  case pos =>
    have HL := Lib.hid hlen
    have HR := Lib.hid hr
    have HS := Lib.hid hs
    have H1 := Lib.hid h1; have H2 := Lib.hid h2
    rw [← hlen]
    clear hr hs h1 h2 hM hlen
    go_enter Tryz.func91, Tryz.ntmps91
    go_wp2
    go_loopw [5] (fun i wr => ∃ k : Nat, k ≤ L.length ∧ i = .int .i64 k ∧ Below w.heap.size w wr ∧ Hid (L.take k = M.take k)) (fun i _ => L.length - (intOf i).toNat)
    case atStart => exact ⟨0, by omega, rfl, Below.refl _ _, Lib.hid (by simp)⟩
    case round =>
      obtain ⟨k, hk, rfl, hb, htk⟩ := hrel
      by_cases hlt : k < L.length
      · have hbd := hb.drew
        obtain ⟨b, off, x, Ar, cr, rfl, hbl, hx, e0, e1, _, _, e2⟩ := lv_at (HR.out.below hbd) hlt
        obtain ⟨b', off', y, Br, dr, rfl, hbl', hy, g0, g1, _, _, g2⟩ := lv_at (HS.out.below hbd) (by rw [← HL.out]; exact hlt)
        have hxm := H1.out x (List.mem_of_getElem? hx)
        have hym := H2.out y (List.mem_of_getElem? hy)
        have cR := Lib.hid (rests_any x.rs y.rs Ar Br cr dr wr.drew (e2.more hbd.size) (g2.more hbd.size) hxm hym)
        have HT := Lib.hid hx; have HU := Lib.hid hy
        have j0 : (0 : Int) ≤ (k : Int) := by omega
        have j1 : (k : Int) < (L.length : Int) := by omega
        have hbw := hbd.size
        have y0 : wr.cell? ⟨b, off + k * 2 + 1, none⟩ = some (.slice Ar x.rs.length cr) := e1
        have y1 : wr.cell? ⟨b', off' + k * 2 + 1, none⟩ = some (.slice Br y.rs.length dr) := g1
        clear hx hy e2 g2 hxm hym
        go_upto_region 6 with fail
        go_region_held3 (fun w' => w'.cell? ⟨b, off + k * 2 + 1, none⟩ = some (.slice Ar x.rs.length cr) ∧ w'.cell? ⟨b', off' + k * 2 + 1, none⟩ = some (.slice Br y.rs.length dr)) ((repeat' apply And.intro) <;> first | (with_reducible assumption) | (with_reducible exact cell_drew (by assumption)))
          ((go_at_call 122; (with_reducible refine cR.out.mono ?_); rintro e w2 ⟨rfl, hb2⟩; have e1' : w2.cell? ⟨b, off + k * 2 + 1, none⟩ = some (.slice Ar x.rs.length cr) := (hb2.cell (p := ⟨b, off + k * 2 + 1, none⟩) (by show b < wr.drew.heap.size; omega)).trans e1; have g1' : w2.cell? ⟨b', off' + k * 2 + 1, none⟩ = some (.slice Br y.rs.length dr) := (hb2.cell (p := ⟨b', off' + k * 2 + 1, none⟩) (by show b' < wr.drew.heap.size; omega)).trans g1))
        have e0' : w2.cell? ⟨b, off + k * 2, none⟩ = some (.int .i64 x.price) := (hb2.cell (p := ⟨b, off + k * 2, none⟩) (by show b < wr.drew.heap.size; omega)).trans e0
        have g0' : w2.cell? ⟨b', off' + k * 2, none⟩ = some (.int .i64 y.price) := (hb2.cell (p := ⟨b', off' + k * 2, none⟩) (by show b' < wr.drew.heap.size; omega)).trans g0
        have hbf := below_then hb2 hbd
        clear e0 e1 g0 g1 e1' g1' y0 y1 hb2 hb hbd cR
        by_cases e : x.rs = y.rs
        · have hd : decide (x.rs = y.rs) = true := decide_eq_true e
          rw [hd]
          by_cases hp : x.price = y.price
          · have hxy : x = y := by cases x; cases y; dsimp only at e hp; rw [e, hp]
            have HXY := Lib.hid hxy
            have hp' : (x.price == y.price) = true := by simpa using hp
            have hpn : (x.price != y.price) = false := by simp [bne, hp']
            clear hxy e hd hp
            go_wp2
            go_quiet (fail)
            go_wp2
            go_roundw
            case rel => exact ⟨k + 1, by omega, by go_num, below_drewN hbf _, take_eq_succ htk HT.out (by rw [HXY.out]; exact HU.out)⟩
            case measure => simp [intOf]; omega
          · have HN := Lib.hid (ne_of_at HT.out HU.out (fun e => hp (by rw [e])))
            have hp' : (x.price == y.price) = false := by simpa using hp
            have hpn : (x.price != y.price) = true := by simp [bne, hp']
            clear HT HU e hd hp
            go_wp2
            go_quiet (fail)
            go_wp2
            go_ret
            exact ⟨ret_false HN.out, below_drewN hbf _⟩
        · have hd : decide (x.rs = y.rs) = false := decide_eq_false e
          rw [hd]
          have HN := Lib.hid (ne_of_at HT.out HU.out (fun e2 => e (by rw [e2])))
          clear HT HU e hd
          go_wp2
          go_quiet (fail)
          go_wp2
          go_ret
          exact ⟨ret_false HN.out, below_drewN hbf _⟩
      · obtain rfl : k = L.length := by omega
        go_wp2
        go_ret
        refine ⟨ret_true ?_, hb⟩
        have := htk.out
        rwa [List.take_length, HL.out, List.take_length] at this
def SameBook (L M L' M' : List Lv) (w : World) (e : Ending) (w' : World) : Prop := e = .returned (.bool (decide (L = L' ∧ M = M'))) ∧ Below w.heap.size w w'
set_option maxRecDepth 100000 in
set_option maxHeartbeats 2000000 in
theorem samebook_any (L M L' M' : List Lv) (A1 A2 B1 B2 : Option Addr) (c1 c2 d1 d2 : Nat) (w : World) (h1 : RdLv w w.heap.size A1 L) (h2 : RdLv w w.heap.size A2 M) (h3 : RdLv w w.heap.size B1 L') (h4 : RdLv w w.heap.size B2 M')
    (k1 : L.length ≤ maxLen ∧ ∀ x ∈ L, x.rs.length ≤ 1000) (k2 : M.length ≤ maxLen ∧ ∀ x ∈ M, x.rs.length ≤ 1000) (k3 : L'.length ≤ maxLen ∧ ∀ x ∈ L', x.rs.length ≤ 1000) (k4 : M'.length ≤ maxLen ∧ ∀ x ∈ M', x.rs.length ≤ 1000) :
    Calls Tryz.prog 65 #[.agg #[.slice A1 L.length c1, .slice A2 M.length c2], .agg #[.slice B1 L'.length d1, .slice B2 M'.length d2]] w (SameBook L M L' M' w) := by
  have H1 := Lib.hid h1; have H2 := Lib.hid h2; have H3 := Lib.hid h3; have H4 := Lib.hid h4
  have cX := Lib.hid (fun w' h h' => levels_any L L' A1 B1 c1 d1 w' h h' k1.1 k3.1 k1.2 k3.2)
  have cY := Lib.hid (fun w' h h' => levels_any M M' A2 B2 c2 d2 w' h h' k2.1 k4.1 k2.2 k4.2)
  have hb : Below w.heap.size w ((w.alloc (.cells #[.slice A1 L.length c1, .slice A2 M.length c2] 54)).alloc (.cells #[.slice B1 L'.length d1, .slice B2 M'.length d2] 54)) := below_then_alloc ((Below.refl _ _).alloc (Nat.le_refl _) _)
  have ba := (Bk.new w 54 #[.slice A1 L.length c1, .slice A2 M.length c2]).alloc (.cells #[.slice B1 L'.length d1, .slice B2 M'.length d2] 54)
  have bb := Bk.at_ (w := w.alloc (.cells #[.slice A1 L.length c1, .slice A2 M.length c2] 54)) (g' := w.heap.size + 1) (by simp) 54 #[.slice B1 L'.length d1, .slice B2 M'.length d2]
  clear h1 h2 h3 h4 k1 k2 k3 k4
  go_enter Tryz.func65, Tryz.ntmps65
  go_upto_region 1 with fail
  generalize (w.alloc (.cells #[.slice A1 L.length c1, .slice A2 M.length c2] 54)).alloc (.cells #[.slice B1 L'.length d1, .slice B2 M'.length d2] 54) = w0 at *
  have q0 := ba.cell 0; have q1 := ba.cell 1; have s0 := bb.cell 0; have s1 := bb.cell 1
  simp at q0 q1 s0 s1
  go_wp2_with fail
  go_at_call 91
  refine (cX.out _ (H1.out.on hb) (H3.out.on hb)).mono ?_
  rintro e w1 ⟨rfl, hb1⟩
  replace ba := ba.keep hb1; replace bb := bb.keep hb1; replace hb := below_then hb1 hb
  clear hb1 q0 q1 s0 s1 cX
  have q0 := ba.cell 0; have q1 := ba.cell 1; have s0 := bb.cell 0; have s1 := bb.cell 1
  simp at q0 q1 s0 s1
  go_wp2_with fail
  go_at_call 91
  refine (cY.out _ (H2.out.on hb) (H4.out.on hb)).mono ?_
  rintro e w2 ⟨rfl, hb1⟩
  replace hb := below_then hb1 hb
  clear hb1 q0 q1 s0 s1 cY ba bb
  by_cases e1 : L = L'
  · have d1 : decide (L = L') = true := decide_eq_true e1
    have HE := Lib.hid (show decide (L = L' ∧ M = M') = decide (M = M') by simp [e1])
    rw [d1]
    clear e1 d1
    generalize decide (M = M') = y at *
    go_wp2
    go_ret
    exact ⟨by rw [HE.out]; rfl, hb⟩
  · have d1 : decide (L = L') = false := decide_eq_false e1
    have HE := Lib.hid (show decide (L = L' ∧ M = M') = false by simp [e1])
    rw [d1]
    clear e1 d1
    generalize decide (M = M') = y at *
    go_wp2
    go_ret
    exact ⟨by rw [HE.out]; rfl, hb⟩
end Go.Proofs.YtkdgpdijbobmkaaGreat
namespace Go.Proofs.YtkdgpdijbobmkaaGreat
set_option linter.all false
open Go Go.RowKit
instance : DecidableEq Trade := fun a b =>
  if h : a.maker = b.maker ∧ a.taker = b.taker ∧ a.frm = b.frm ∧ a.to = b.to ∧ a.price = b.price ∧ a.qty = b.qty then isTrue (by cases a; cases b; simp_all)
  else isFalse (fun e => h (by rw [e]; exact ⟨rfl, rfl, rfl, rfl, rfl, rfl⟩))
end Go.Proofs.YtkdgpdijbobmkaaGreat
namespace Go.Proofs.YtkdgpdijbobmkaaGreat
set_option linter.all false
open Go Go.RowKit
theorem same_book (L M : List Lv) (A1 A2 B1 B2 : Option Addr) (c1 c2 d1 d2 : Nat) (w : World) (h1 : RdLv w w.heap.size A1 L) (h2 : RdLv w w.heap.size A2 M) (h3 : RdLv w w.heap.size B1 L) (h4 : RdLv w w.heap.size B2 M)
    (k1 : L.length ≤ 100 ∧ ∀ x ∈ L, x.rs.length ≤ 100) (k2 : M.length ≤ 100 ∧ ∀ x ∈ M, x.rs.length ≤ 100) :
    Calls Tryz.prog 65 #[.agg #[.slice A1 L.length c1, .slice A2 M.length c2], .agg #[.slice B1 L.length d1, .slice B2 M.length d2]] w fun e w' => e = .returned (.bool true) ∧ Below w.heap.size w w' := by
  have j1 : L.length ≤ maxLen ∧ ∀ x ∈ L, x.rs.length ≤ 1000 := ⟨by unfold maxLen; omega, fun x hx => by have := k1.2 x hx; omega⟩
  have j2 : M.length ≤ maxLen ∧ ∀ x ∈ M, x.rs.length ≤ 1000 := ⟨by unfold maxLen; omega, fun x hx => by have := k2.2 x hx; omega⟩
  refine (samebook_any L M L M A1 A2 B1 B2 c1 c2 d1 d2 w h1 h2 h3 h4 j1 j2 j1 j2).mono ?_
  rintro e w' ⟨rfl, hb⟩
  exact ⟨by simp, hb⟩
end Go.Proofs.YtkdgpdijbobmkaaGreat
