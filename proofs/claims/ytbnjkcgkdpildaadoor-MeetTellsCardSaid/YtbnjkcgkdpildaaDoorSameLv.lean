/- The contracts of pitsame.Levels, Book. -/
import Derived.Test.YtbnjkcgkdpildaaDoorRests
import Derived.Test.YtbnjkcgkdpildaaDoorGrpE
import Derived.Test.YtbnjkcgkdpildaaDoorGrpA
import Derived.Deep.DeepCutAuto
import Derived.Deep.RegionHeld3
namespace Go.Proofs.YtbnjkcgkdpildaaDoor
set_option linter.all false
open Go Go.RowKit
theorem lv_ext {x y : Lv} (h : x ≠ y) : x.rs ≠ y.rs ∨ (x.rs = y.rs ∧ x.price ≠ y.price) := by
  obtain ⟨p, l⟩ := x
  obtain ⟨q, m⟩ := y
  by_cases e : l = m
  · refine .inr ⟨e, fun e2 => h ?_⟩
    dsimp only at e e2
    rw [e, e2]
  · exact .inl e
set_option maxRecDepth 100000 in
set_option maxHeartbeats 4000000 in
theorem levels_any (L M : List Lv) (A B : Option Addr) (c d : Nat) (w : World) (hr : RdLv w w.heap.size A L) (hs : RdLv w w.heap.size B M) (hL : L.length ≤ maxLen) (hM : M.length ≤ maxLen) (h1 : ∀ x ∈ L, x.rs.length ≤ 1000) (h2 : ∀ x ∈ M, x.rs.length ≤ 1000) :
    Calls Tryd.prog 48 #[.slice A L.length c, .slice B M.length d] w fun e w' => e = .returned (.bool (decide (L = M))) ∧ Below w.heap.size w w' := by
  unfold maxLen at hL hM
  by_cases hlen : L.length = M.length
  case neg =>
    have hne : L ≠ M := fun e => hlen (by rw [e])
    have H := Lib.hid hne
    have h3 : ((L.length : Int) == (M.length : Int)) = false := by simp; omega
    clear hne hr hs hlen h1 h2
    go_enter Tryd.func48, Tryd.ntmps48
    go_wp2
    go_ret
    exact ⟨ret_false H.out, Below.refl _ _⟩
  case pos =>
    have HL := Lib.hid hlen
    have HR := Lib.hid hr
    have HS := Lib.hid hs
    have H1 := Lib.hid h1; have H2 := Lib.hid h2
    rw [← hlen]
    clear hr hs h1 h2 hM hlen
    go_enter Tryd.func48, Tryd.ntmps48
    go_wp2
    go_loopw [5] (fun i wr => ∃ k : Nat, k ≤ L.length ∧ i = .int .i64 k ∧ Below w.heap.size w wr ∧ Hid (L.take k = M.take k)) (fun i _ => L.length - (intOf i).toNat)
    case atStart => exact ⟨0, by omega, rfl, Below.refl _ _, Lib.hid (by simp)⟩
    case round =>
      obtain ⟨k, hk, rfl, hb, htk⟩ := hrel
      by_cases hlt : k < L.length
      · have hbd := hb.drew
        obtain ⟨b, off, x, Ar, cr, rfl, hbl, hx, e0, e1, _, _, e2⟩ := lv_at (HR.out.below hbd) hlt
        obtain ⟨b', off', y, Br, dr, rfl, hbl', hy, g0, g1, _, _, g2⟩ := lv_at (HS.out.below hbd) (by rw [← HL.out]; exact hlt)
        have hxm := H1.out x (List.mem_of_getElem? hx)
        have hym := H2.out y (List.mem_of_getElem? hy)
        have cR := Lib.hid (rests_any x.rs y.rs Ar Br cr dr wr.drew (e2.more hbd.size) (g2.more hbd.size) hxm hym)
        have HT := Lib.hid hx; have HU := Lib.hid hy
        have j0 : (0 : Int) ≤ (k : Int) := by omega
        have j1 : (k : Int) < (L.length : Int) := by omega
        have hbw := hbd.size
        have y0 : wr.cell? ⟨b, off + k * 2 + 1, none⟩ = some (.slice Ar x.rs.length cr) := e1
        have y1 : wr.cell? ⟨b', off' + k * 2 + 1, none⟩ = some (.slice Br y.rs.length dr) := g1
        clear hx hy e2 g2 hxm hym
        go_upto_region 6 with fail
        go_region_held3 (fun w' => w'.cell? ⟨b, off + k * 2 + 1, none⟩ = some (.slice Ar x.rs.length cr) ∧ w'.cell? ⟨b', off' + k * 2 + 1, none⟩ = some (.slice Br y.rs.length dr)) ((repeat' apply And.intro) <;> first | (with_reducible assumption) | (with_reducible exact cell_drew (by assumption)))
          ((go_at_call 74; (with_reducible refine cR.out.mono ?_); rintro e w2 ⟨rfl, hb2⟩; have e1' : w2.cell? ⟨b, off + k * 2 + 1, none⟩ = some (.slice Ar x.rs.length cr) := (hb2.cell (p := ⟨b, off + k * 2 + 1, none⟩) (by show b < wr.drew.heap.size; omega)).trans e1; have g1' : w2.cell? ⟨b', off' + k * 2 + 1, none⟩ = some (.slice Br y.rs.length dr) := (hb2.cell (p := ⟨b', off' + k * 2 + 1, none⟩) (by show b' < wr.drew.heap.size; omega)).trans g1))
        have e0' : w2.cell? ⟨b, off + k * 2, none⟩ = some (.int .i64 x.price) := (hb2.cell (p := ⟨b, off + k * 2, none⟩) (by show b < wr.drew.heap.size; omega)).trans e0
        have g0' : w2.cell? ⟨b', off' + k * 2, none⟩ = some (.int .i64 y.price) := (hb2.cell (p := ⟨b', off' + k * 2, none⟩) (by show b' < wr.drew.heap.size; omega)).trans g0
        have hbf := below_then hb2 hbd
        clear e0 e1 g0 g1 e1' g1' y0 y1 hb2 hb hbd cR
        by_cases e : x.rs = y.rs
        · have hd : decide (x.rs = y.rs) = true := decide_eq_true e
          rw [hd]
          by_cases hp : x.price = y.price
          · have hxy : x = y := by cases x; cases y; dsimp only at e hp; rw [e, hp]
            have HXY := Lib.hid hxy
            have hp' : (x.price == y.price) = true := by simpa using hp
            have hpn : (x.price != y.price) = false := by simp [bne, hp']
            clear hxy e hd hp
            go_wp2
            go_quiet (fail)
            go_wp2
            go_roundw
            case rel => exact ⟨k + 1, by omega, by go_num, below_drewN hbf _, take_eq_succ htk HT.out (by rw [HXY.out]; exact HU.out)⟩
            case measure => simp [intOf]; omega
          · have HN := Lib.hid (ne_of_at HT.out HU.out (fun e => hp (by rw [e])))
            have hp' : (x.price == y.price) = false := by simpa using hp
            have hpn : (x.price != y.price) = true := by simp [bne, hp']
            clear HT HU e hd hp
            go_wp2
            go_quiet (fail)
            go_wp2
            go_ret
            exact ⟨ret_false HN.out, below_drewN hbf _⟩
        · have hd : decide (x.rs = y.rs) = false := decide_eq_false e
          rw [hd]
          have HN := Lib.hid (ne_of_at HT.out HU.out (fun e2 => e (by rw [e2])))
          clear HT HU e hd
          go_wp2
          go_quiet (fail)
          go_wp2
          go_ret
          exact ⟨ret_false HN.out, below_drewN hbf _⟩
      · obtain rfl : k = L.length := by omega
        go_wp2
        go_ret
        refine ⟨ret_true ?_, hb⟩
        have := htk.out
        rwa [List.take_length, HL.out, List.take_length] at this
def SameBook (L M L' M' : List Lv) (w : World) (e : Ending) (w' : World) : Prop := e = .returned (.bool (decide (L = L' ∧ M = M'))) ∧ Below w.heap.size w w'
set_option maxRecDepth 100000 in
set_option maxHeartbeats 2000000 in
theorem samebook_any (L M L' M' : List Lv) (A1 A2 B1 B2 : Option Addr) (c1 c2 d1 d2 : Nat) (w : World) (h1 : RdLv w w.heap.size A1 L) (h2 : RdLv w w.heap.size A2 M) (h3 : RdLv w w.heap.size B1 L') (h4 : RdLv w w.heap.size B2 M')
    (k1 : L.length ≤ maxLen ∧ ∀ x ∈ L, x.rs.length ≤ 1000) (k2 : M.length ≤ maxLen ∧ ∀ x ∈ M, x.rs.length ≤ 1000) (k3 : L'.length ≤ maxLen ∧ ∀ x ∈ L', x.rs.length ≤ 1000) (k4 : M'.length ≤ maxLen ∧ ∀ x ∈ M', x.rs.length ≤ 1000) :
    Calls Tryd.prog 16 #[.agg #[.slice A1 L.length c1, .slice A2 M.length c2], .agg #[.slice B1 L'.length d1, .slice B2 M'.length d2]] w (SameBook L M L' M' w) := by
  have H1 := Lib.hid h1; have H2 := Lib.hid h2; have H3 := Lib.hid h3; have H4 := Lib.hid h4
  have cX := Lib.hid (fun w' h h' => levels_any L L' A1 B1 c1 d1 w' h h' k1.1 k3.1 k1.2 k3.2)
  have cY := Lib.hid (fun w' h h' => levels_any M M' A2 B2 c2 d2 w' h h' k2.1 k4.1 k2.2 k4.2)
  have hb : Below w.heap.size w ((w.alloc (.cells #[.slice A1 L.length c1, .slice A2 M.length c2] 29)).alloc (.cells #[.slice B1 L'.length d1, .slice B2 M'.length d2] 29)) := below_then_alloc ((Below.refl _ _).alloc (Nat.le_refl _) _)
  have ba := (Bk.new w 29 #[.slice A1 L.length c1, .slice A2 M.length c2]).alloc (.cells #[.slice B1 L'.length d1, .slice B2 M'.length d2] 29)
  have bb := Bk.at_ (w := w.alloc (.cells #[.slice A1 L.length c1, .slice A2 M.length c2] 29)) (g' := w.heap.size + 1) (by simp) 29 #[.slice B1 L'.length d1, .slice B2 M'.length d2]
  clear h1 h2 h3 h4 k1 k2 k3 k4
  go_enter Tryd.func16, Tryd.ntmps16
  go_upto_region 1 with fail
  generalize (w.alloc (.cells #[.slice A1 L.length c1, .slice A2 M.length c2] 29)).alloc (.cells #[.slice B1 L'.length d1, .slice B2 M'.length d2] 29) = w0 at *
  have q0 := ba.cell 0; have q1 := ba.cell 1; have s0 := bb.cell 0; have s1 := bb.cell 1
  simp at q0 q1 s0 s1
  go_wp2_with fail
  go_at_call 48
  refine (cX.out _ (H1.out.on hb) (H3.out.on hb)).mono ?_
  rintro e w1 ⟨rfl, hb1⟩
  replace ba := ba.keep hb1; replace bb := bb.keep hb1; replace hb := below_then hb1 hb
  clear hb1 q0 q1 s0 s1 cX
  have q0 := ba.cell 0; have q1 := ba.cell 1; have s0 := bb.cell 0; have s1 := bb.cell 1
  simp at q0 q1 s0 s1
  go_wp2_with fail
  go_at_call 48
  refine (cY.out _ (H2.out.on hb) (H4.out.on hb)).mono ?_
  rintro e w2 ⟨rfl, hb1⟩
  replace hb := below_then hb1 hb
  clear hb1 q0 q1 s0 s1 cY ba bb
  by_cases e1 : L = L'
  · have d1 : decide (L = L') = true := decide_eq_true e1
    have HE := Lib.hid (show decide (L = L' ∧ M = M') = decide (M = M') by simp [e1])
    rw [d1]
    clear e1 d1
    generalize decide (M = M') = y at *
    go_wp2
    go_ret
    exact ⟨by rw [HE.out]; rfl, hb⟩
  · have d1 : decide (L = L') = false := decide_eq_false e1
    have HE := Lib.hid (show decide (L = L' ∧ M = M') = false by simp [e1])
    rw [d1]
    clear e1 d1
    generalize decide (M = M') = y at *
    go_wp2
    go_ret
    exact ⟨by rw [HE.out]; rfl, hb⟩
end Go.Proofs.YtbnjkcgkdpildaaDoor
