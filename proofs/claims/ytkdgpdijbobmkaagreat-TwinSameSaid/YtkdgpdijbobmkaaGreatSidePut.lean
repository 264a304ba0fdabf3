/- The contract of side.Put. -/
import Derived.Test.YtkdgpdijbobmkaaGreatGrpI
namespace Go.Proofs.YtkdgpdijbobmkaaGreat
set_option linter.all false
open Go Go.RowKit
theorem pbox5 {w' : World} {v0 v1 v2 v3 v4 : Value} {g : Nat} {t : TypeId} (h : Bk w' g t #[v0, v1, v2, v3, v4]) : w'.cell? ⟨g, 0, none⟩ = some v0 ∧ w'.cell? ⟨g, 1, none⟩ = some v1 ∧ w'.cell? ⟨g, 2, none⟩ = some v2 ∧ w'.cell? ⟨g, 3, none⟩ = some v3 ∧ w'.cell? ⟨g, 4, none⟩ = some v4 := ⟨h.cell 0, h.cell 1, h.cell 2, h.cell 3, h.cell 4⟩
/-- what is there ahead of the append -/
structure PutRel (s p : Int) (r : Rest) (L : List Lv) (base g0 k : Nat) (w0 wx : World) (A : Option Addr) (c : Nat) (L2 : List Lv) (vs : List (Option Addr × Nat)) (x : Lv) : Prop where
  own : OwnLv wx base A c L2 vs
  at_ : L2[k]? = some x
  add : addL s p r L = L2.set k ⟨x.price, x.rs ++ [r]⟩
  len : x.rs.length ≤ 1000
  few : L2.length ≤ 1001
  box : Bk wx g0 62 #[.int .i64 r.id, .int .i64 r.who, .int .i64 r.qty, .int .i64 r.hidden, .int .i64 r.show_]
  gA : Ap (rowOf A c) (some g0)
  gv : ∀ (i : Nat) u, vs[i]? = some u → Ap (rowOf u.1 u.2) (some g0)
  below : Below base w0 wx
/-- is there no level of the price at k? -/
def isNew (L : List Lv) (k : Nat) (p : Int) : Bool := match L[k]? with
  | none => true
  | some x => decide (x.price ≠ p)
set_option maxRecDepth 100000 in
set_option maxHeartbeats 4000000 in
theorem sput_any (s p : Int) (r : Rest) (hs : vs s = true) (L : List Lv) (us : List (Option Addr × Nat)) (A : Option Addr) (c base : Nat) (w : World) (h : OwnLv w base A c L us) (hb : base ≤ w.heap.size) (hn : L.length ≤ 1000) (hl : ∀ x ∈ L, x.rs.length ≤ 1000) :
    Calls Tryz.prog 155 #[.int .i64 s, .slice A L.length c, .int .i64 p, .agg #[.int .i64 r.id, .int .i64 r.who, .int .i64 r.qty, .int .i64 r.hidden, .int .i64 r.show_]] w fun e w' => ∃ A' c' us', e = .returned (.slice A' (addL s p r L).length c') ∧ OwnLv w' base A' c' (addL s p r L) us' ∧ Below base w w' := by
  have cA := Lib.hid (fun a b w => sahead_any s a b hs w)
  have hbw : Below base w (w.alloc (.cells #[.int .i64 r.id, .int .i64 r.who, .int .i64 r.qty, .int .i64 r.hidden, .int .i64 r.show_] 62)) := (Below.refl _ _).alloc hb _
  have hba : Below w.heap.size w (w.alloc (.cells #[.int .i64 r.id, .int .i64 r.who, .int .i64 r.qty, .int .i64 r.hidden, .int .i64 r.show_] 62)) := (Below.refl _ _).alloc (Nat.le_refl _) _
  have B0 := Lib.hid (Bk.new w 62 #[.int .i64 r.id, .int .i64 r.who, .int .i64 r.qty, .int .i64 r.hidden, .int .i64 r.show_])
  have H0 := Lib.hid (h.below hba)
  have HGA := Lib.hid (show Ap (rowOf A c) (some w.heap.size) from (Ap.new (n := w.heap.size) (fun k hk => by cases hk; exact Nat.le_refl _) (fun k hk => (h.row_lt k hk).2)).symm)
  have HGV := Lib.hid (show ∀ (i : Nat) u, us[i]? = some u → Ap (rowOf u.1 u.2) (some w.heap.size) from fun i u hu => (Ap.new (n := w.heap.size) (fun k hk => by cases hk; exact Nat.le_refl _) (fun k hk => (h.each_lt hu k hk).2)).symm)
  have HLL := Lib.hid hl
  clear h hl hba hs
  go_enter Tryz.func155, Tryz.ntmps155
  go_upto_region 1 with fail
  obtain ⟨w0, hw0⟩ : ∃ w0, w0 = w.alloc (.cells #[.int .i64 r.id, .int .i64 r.who, .int .i64 r.qty, .int .i64 r.hidden, .int .i64 r.show_] 62) := ⟨_, rfl⟩
  rw [← hw0] at hbw B0 H0
  rw [← hw0]
  have hsz : w0.heap.size = w.heap.size + 1 := by rw [hw0]; simp
  have HSZ := Lib.hid hsz
  clear hw0 hsz
  go_upto_block 0 with fail
  go_cut [9] (fun iv wx => ∃ k : Nat, k ≤ L.length ∧ iv = .int .i64 k ∧ wx = w0 ∧ Hid ((∀ j y, j < k → L[j]? = some y → sAhd s y.price p = true) ∧ ∀ x, L[k]? = some x → sAhd s x.price p = false))
  case first =>
    go_wp2_with fail
    go_loopw [9] (fun iv wr => ∃ k : Nat, k ≤ L.length ∧ iv = .int .i64 k ∧ wr = w0 ∧ Hid (∀ j y, j < k → L[j]? = some y → sAhd s y.price p = true)) (fun iv _ => L.length - (intOf iv).toNat)
    case atStart => exact ⟨0, by omega, rfl, rfl, Lib.hid (fun j y hj => by omega)⟩
    case round =>
      obtain ⟨k, hk, rfl, rfl, hall⟩ := hrel
      by_cases hlt : k < L.length
      · have hx := lv_get hlt
        generalize hxx : L[k] = x at hx
        clear hxx
        obtain ⟨g, off, rfl, _, _, hcell, _⟩ := H0.out.own.cell (by omega)
        have d0 : wr.cell? ⟨g, off + k * 2, none⟩ = some (.int .i64 x.price) := by
          rw [hcell _ (by omega)]
          have hv : us[k]? = some (us[k]'(by rw [H0.out.len]; exact hlt)) := List.getElem?_eq_getElem (by rw [H0.out.len]; exact hlt)
          exact (lvCells_get hx hv).1
        have hlt' : (k : Int) < (L.length : Int) := by omega
        have HX := Lib.hid hx
        clear hcell hx
        cases hA : sAhd s x.price p
        · have hc := cA.out x.price p
          rw [hA] at hc
          have HA := Lib.hid hA
          clear hA
          go_wp2_with (go_at_call 81; refine (hc _).mono ?_; rintro e w' ⟨rfl, rfl⟩)
          go_meet
          case rel => exact ⟨k, hk, rfl, by trivial, Lib.hid ⟨hall.out, fun y hy => by rw [HX.out] at hy; cases hy; exact HA.out⟩⟩
        · have hc := cA.out x.price p
          rw [hA] at hc
          have HA := Lib.hid hA
          clear hA
          go_wp2_with (go_at_call 81; refine (hc _).mono ?_; rintro e w' ⟨rfl, rfl⟩)
          go_roundw
          case rel =>
            refine ⟨k + 1, by omega, by go_num, by trivial, Lib.hid (fun j y hj hy => ?_)⟩
            rcases Nat.lt_or_ge j k with h | h
            · exact hall.out j y h hy
            · obtain rfl : j = k := by omega
              rw [HX.out] at hy; cases hy; exact HA.out
          case measure => simp [intOf]; omega
      · obtain rfl : k = L.length := by omega
        go_wp2
        go_meet
        case rel => exact ⟨L.length, Nat.le_refl _, rfl, rfl, Lib.hid ⟨hall.out, fun y hy => by rw [List.getElem?_eq_none (Nat.le_refl _)] at hy; cases hy⟩⟩
  case rest =>
    obtain ⟨k, hk, rfl, rfl, hall⟩ := hcut
    obtain ⟨wd, rfl⟩ : ∃ wd : World, wd = wc := ⟨_, rfl⟩
    obtain ⟨nb, hnb⟩ : ∃ nb, nb = isNew L k p := ⟨_, rfl⟩
    have HNB := Lib.hid hnb
    clear hnb
    go_upto_region 4 with fail
    go_cut [38] (fun v wx => v = .bool nb ∧ wx = wd)
    case first =>
      by_cases hlt : k < L.length
      · have hx := lv_get hlt
        generalize hxx : L[k] = x at hx
        clear hxx
        obtain ⟨g, off, rfl, _, _, hcell, _⟩ := H0.out.own.cell (by omega)
        have d0 : wd.cell? ⟨g, off + k * 2, none⟩ = some (.int .i64 x.price) := by
          rw [hcell _ (by omega)]
          have hv : us[k]? = some (us[k]'(by rw [H0.out.len]; exact hlt)) := List.getElem?_eq_getElem (by rw [H0.out.len]; exact hlt)
          exact (lvCells_get hx hv).1
        have hlt' : (k : Int) < (L.length : Int) := by omega
        have hne : ((k : Int) == (L.length : Int)) = false := by rw [beq_eq_false_iff_ne]; omega
        by_cases hp : x.price = p
        · have HE := Lib.hid (show nb = false by rw [HNB.out, isNew, hx]; simp [hp])
          have e1 : (x.price != p) = false := by simp [hp]
          clear hp hx hcell
          go_wp2
          go_meet
          case rel => exact ⟨by rw [HE.out], rfl⟩
        · have HE := Lib.hid (show nb = true by rw [HNB.out, isNew, hx]; simp [hp])
          have e1 : (x.price != p) = true := by simp [hp]
          clear hp hx hcell
          go_wp2
          go_meet
          case rel => exact ⟨by rw [HE.out], rfl⟩
      · obtain rfl : k = L.length := by omega
        have HE := Lib.hid (show nb = true by rw [HNB.out, isNew, List.getElem?_eq_none (Nat.le_refl _)])
        go_wp2
        go_meet
        case rel => exact ⟨by rw [HE.out], rfl⟩
    case rest =>
      obtain ⟨rfl, rfl⟩ := hcut
      obtain ⟨wd, rfl⟩ : ∃ wd : World, wd = wc := ⟨_, rfl⟩
      go_upto_if 38 with fail
      go_cut [1] (fun lv wx => ∃ A2 c2 L2 vs x, lv = .slice A2 (L2 : List Lv).length c2 ∧ PutRel s p r L base w.heap.size k w wx A2 c2 L2 vs x)
      case first =>
        cases nb
        case false =>
          have hR : ∃ x, PutRel s p r L base w.heap.size k w wd A c L us x := by
            have hq := HNB.out
            unfold isNew at hq
            cases hx : L[k]? with
            | none => rw [hx] at hq; cases hq
            | some x =>
              rw [hx] at hq
              have hp : x.price = p := by simpa using hq
              exact ⟨x, H0.out, hx, addL_at hx hall.out.1 (hall.out.2 x hx) hp, HLL.out x (List.mem_of_getElem? hx), by omega, B0.out, HGA.out, HGV.out, hbw⟩
          have HR := Lib.hid hR
          clear hR
          go_wp2
          go_meet
          case rel => obtain ⟨x, hx⟩ := HR.out; exact ⟨A, c, L, us, x, rfl, hx⟩
        case true =>
          have hba : Below wd.heap.size wd (wd.alloc (.cells #[.int .i64 p, .slice none 0 0] 60)) := (Below.refl _ _).alloc (Nat.le_refl _) _
          have hbb : base ≤ wd.heap.size := by have := HSZ.out; omega
          have BL := Bk.new wd 60 #[.int .i64 p, .slice none 0 0]
          have cI := Lib.hid (insert_lv (L := L) (vs := us) k p A c base wd.heap.size _ (H0.out.below hba) (Nat.le_trans hbb hba.size) BL (fun e => by have := (H0.out.row_lt _ e.symm).2; omega) hk hn)
          clear BL
          go_wp2_with fail
          go_at_call 162
          refine cI.out.mono ?_
          rintro e w3 ⟨A2, c2, rfl, o2, hg2, hr2⟩
          have hR : PutRel s p r L base w.heap.size k w w3 A2 c2 (insAt L k ⟨p, []⟩) (insAt us k (none, 0)) ⟨p, []⟩ := by
            have hlen := H0.out.len
            have hnew : ∀ x, L[k]? = some x → sAhd s x.price p = false ∧ x.price ≠ p := fun x hx => by
              refine ⟨hall.out.2 x hx, ?_⟩
              have hq := HNB.out
              unfold isNew at hq
              rw [hx] at hq
              simpa using hq
            have hne0 : rowOf A c ≠ some w.heap.size ∨ rowOf A c = none := by
              rcases HGA.out with e | e
              · exact .inr e
              · exact .inl e
            have hg0 : some w.heap.size ≠ rowOf A c := by
              rcases hne0 with e | e
              · exact Ne.symm e
              · rw [e]; simp
            refine ⟨o2, insAt_eq hk, addL_new hk hall.out.1 hnew, by simp, by rw [insAt_len hk]; omega, (B0.out.keep hba).grown hg2 hg0, ?_, fun i u hu => ?_, ?_⟩
            · rcases hr2 with e | e
              · rw [e]; exact HGA.out
              · rw [e]; exact .inr (by have := HSZ.out; simp; omega)
            · rcases Nat.lt_trichotomy i k with hj | rfl | hj
              · rw [insAt_lt (by omega) hj] at hu; exact HGV.out i u hu
              · rw [insAt_eq (by omega)] at hu; cases hu; exact .inl rfl
              · rw [insAt_gt (by omega) hj] at hu; exact HGV.out _ u hu
            · exact (hbw.trans (hba.mono hbb)).grown hg2 (Nat.le_trans hbb hba.size) (fun q hq => (H0.out.row_lt q hq).1)
          have HR := Lib.hid hR
          clear hR o2 hg2 hr2 hba cI
          go_wp2
          go_meet
          case rel => exact ⟨A2, c2, _, _, _, rfl, HR.out⟩
      case rest =>
        obtain ⟨A2, c2, L2, vs, x, rfl, hR⟩ := hcut
        have HR := Lib.hid hR
        have hk2 : k < L2.length := (List.getElem?_eq_some_iff.1 hR.at_).1
        obtain ⟨g, off, rfl, hgb, hgl, hcell, hfree⟩ := hR.own.own.cell (by omega)
        have hv : vs[k]? = some (vs[k]'(by rw [hR.own.len]; exact hk2)) := List.getElem?_eq_getElem (by rw [hR.own.len]; exact hk2)
        generalize vs[k]'(by rw [hR.own.len]; exact hk2) = v at hv
        have HV := Lib.hid hv
        have d1 : wc.cell? ⟨g, off + k * 2 + 1, none⟩ = some (.slice v.1 x.rs.length v.2) := by
          rw [Nat.add_assoc, hcell _ (by omega)]
          exact (lvCells_get hR.at_ hv).2
        have df : wc.frozen? ⟨g, off + k * 2 + 1, none⟩ = false := by
          rw [Nat.add_assoc]
          exact (hfree _ (by have := hR.own.own.le; omega)).2
        have ho := (hR.own.each k x v hR.at_ hv).1
        have hrow : rowOf (some (⟨g, off, none⟩ : Addr)) c2 = some g := by rw [rowOf, if_neg (by have := hR.own.own.le; omega)]; rfl
        have hgv : some g ≠ rowOf v.1 v.2 := by
          rcases (hR.own.each k x v hR.at_ hv).2 with e | e
          · rw [e]; simp
          · rw [hrow] at e; exact Ne.symm e
        have hg0v : some w.heap.size ≠ rowOf v.1 v.2 := by
          rcases hR.gv k v hv with e | e
          · rw [e]; simp
          · exact Ne.symm e
        have hg0g : w.heap.size ≠ g := by
          rcases hR.gA with e | e
          · rw [hrow] at e; cases e
          · rw [hrow] at e; exact fun e2 => e (by rw [e2])
        have HGV2 := Lib.hid hgv; have HG0V := Lib.hid hg0v
        have hbx := hR.box
        have hx0 : w.heap.size < wc.heap.size := hbx.lt
        obtain ⟨b0, b1, b2, b3, b4⟩ := pbox5 hbx
        have HO := Lib.hid ho
        have hbase : base ≤ wc.heap.size := by omega
        have hlen := hR.len
        have i0' : (0 : Int) ≤ (k : Int) := by omega
        have i1' : (k : Int) < (L2.length : Int) := by omega
        obtain ⟨i0, hi0, hz1, hz2, hz3⟩ := info_parts info_rest
        have HI := Lib.hid hi0; have H0' := Lib.hid hz1; have H1 := Lib.hid hz2; have H2 := Lib.hid hz3
        have BX := Lib.hid hbx
        clear hi0 hz1 hz2 hz3 hcell hfree hv ho hgv hg0v hR hbx
        obtain ⟨Av, cv⟩ := v
        dsimp only at d1 HO HGV2 HG0V HV
        obtain ⟨wd, rfl⟩ : ∃ wd : World, wd = wc := ⟨_, rfl⟩
        go_upto_region 6 with fail
        go_cut [] (fun wx => ∃ A3 c3 w6, Grew (wd.drew.alloc (.cells #[.int .i64 r.id, .int .i64 r.who, .int .i64 r.qty, .int .i64 r.hidden, .int .i64 r.show_] 62)) base 5 Av cv (x.rs.length + 1) (rows x.rs ++ r.vals) A3 c3 w6 ∧ wx = w6.setCell ⟨g, off + k * 2 + 1, none⟩ (.slice A3 (x.rs.length + 1) c3))
        case first =>
          refine wp_region_noPanic ?_
          refine wp_region_held_drew (S := fun w' => w'.cell? ⟨w.heap.size, 0, none⟩ = some (.int .i64 r.id) ∧ w'.cell? ⟨w.heap.size, 1, none⟩ = some (.int .i64 r.who) ∧ w'.cell? ⟨w.heap.size, 2, none⟩ = some (.int .i64 r.qty) ∧ w'.cell? ⟨w.heap.size, 3, none⟩ = some (.int .i64 r.hidden) ∧ w'.cell? ⟨w.heap.size, 4, none⟩ = some (.int .i64 r.show_)) (by kernel_rfl) ?_ (fun hHeld => ?_)
          · (try dsimp only); ((repeat' apply And.intro) <;> (first | (with_reducible assumption) | (with_reducible exact cell_drew (by assumption)) | (with_reducible exact cell_alloc (by assumption) _) | (with_reducible exact cell_alloc_drew (by assumption) _) | (with_reducible exact cell_alloc (cell_drew (by assumption)) _) | (with_reducible exact cell_far1 (by assumption) (by simp; omega))))
          (refine wpAnyH_take (i := 0) (v := ?_) rfl (by kernel_rfl) (by kernel_rfl) (by kernel_rfl) (fun _ _ _ h => h) (Or.inl ⟨by rfl, ?_⟩) (by assumption) ?_); rotate_left; (focus (intro w hSw; (try dsimp only at hSw); go_simp; try (with_reducible rfl))); (try simp only [Act.put, List.setIfInBounds_toArray, List.set_cons_zero, List.set_cons_succ])
          (refine wpAnyH_take (i := 1) (v := ?_) rfl (by kernel_rfl) (by kernel_rfl) (by kernel_rfl) (fun _ _ _ h => h) (Or.inl ⟨by rfl, ?_⟩) (by assumption) ?_); rotate_left; (focus (intro w hSw; (try dsimp only at hSw); go_simp; try (with_reducible rfl))); (try simp only [Act.put, List.setIfInBounds_toArray, List.set_cons_zero, List.set_cons_succ])
          (refine wpAnyH_take (i := 2) (v := ?_) rfl (by kernel_rfl) (by kernel_rfl) (by kernel_rfl) (fun _ _ _ h => h) (Or.inl ⟨by rfl, ?_⟩) (by assumption) ?_); rotate_left; (focus (intro w hSw; (try dsimp only at hSw); go_simp; try (with_reducible rfl))); (try simp only [Act.put, List.setIfInBounds_toArray, List.set_cons_zero, List.set_cons_succ])
          (refine wpAnyH_take (i := 3) (v := ?_) rfl (by kernel_rfl) (by kernel_rfl) (by kernel_rfl) (fun _ _ _ h => h) (Or.inl ⟨by rfl, ?_⟩) (by assumption) ?_); rotate_left; (focus (intro w hSw; (try dsimp only at hSw); go_simp; try (with_reducible rfl))); (try simp only [Act.put, List.setIfInBounds_toArray, List.set_cons_zero, List.set_cons_succ])
          (refine wpAnyH_take (i := 4) (v := ?_) rfl (by kernel_rfl) (by kernel_rfl) (by kernel_rfl) (fun _ _ _ h => h) (Or.inl ⟨by rfl, ?_⟩) (by assumption) ?_); rotate_left; (focus (intro w hSw; (try dsimp only at hSw); go_simp; try (with_reducible rfl))); (try simp only [Act.put, List.setIfInBounds_toArray, List.set_cons_zero, List.set_cons_succ])
          (refine wpAnyH_take (i := 5) (v := ?_) rfl (by kernel_rfl) (by kernel_rfl) (by kernel_rfl) (fun _ _ _ h => h) (Or.inl ⟨by rfl, ?_⟩) (by assumption) ?_); rotate_left; (focus (intro w hSw; (try dsimp only at hSw); go_simp; try (with_reducible rfl))); (try simp only [Act.put, List.setIfInBounds_toArray, List.set_cons_zero, List.set_cons_succ])
          (refine wpAnyH_take (i := 7) (v := ?_) rfl (by kernel_rfl) (by kernel_rfl) (by kernel_rfl) (fun _ _ _ h => h) (Or.inl ⟨by rfl, ?_⟩) (by assumption) ?_); rotate_left; (focus (intro w hSw; (try dsimp only at hSw); go_simp; try (with_reducible rfl))); (try simp only [Act.put, List.setIfInBounds_toArray, List.set_cons_zero, List.set_cons_succ])
          have d1a := cell_alloc d1 (.cells #[.int .i64 r.id, .int .i64 r.who, .int .i64 r.qty, .int .i64 r.hidden, .int .i64 r.show_] 62)
          refine wpAnyH_ready (rs := [6, 8]) (by kernel_rfl) (by simp) ?_
          refine AllReadyH.cons rfl (fun KK KH => ?_) (AllReadyH.cons rfl (fun KK KH => ?_) AllReadyH.nil)
          · go_simp
            (refine KH.out _ _ (by (try dsimp only); ((repeat' apply And.intro) <;> (first | (with_reducible assumption) | (with_reducible exact cell_drew (by assumption)) | (with_reducible exact cell_alloc (by assumption) _) | (with_reducible exact cell_alloc_drew (by assumption) _) | (with_reducible exact cell_alloc (cell_drew (by assumption)) _) | (with_reducible exact cell_far1 (by assumption) (by simp; omega))))) (fun hHeld => ?_); clear KH KK; (try simp only [Act.put, List.setIfInBounds_toArray, List.set_cons_zero, List.set_cons_succ]))
            (refine wpAnyH_ready (rs := [8]) (by kernel_rfl) (by simp) ?_; refine AllReadyH.cons rfl (fun KK KH => ?_) AllReadyH.nil)
            go_simp
            (refine KH.out _ _ (by (try dsimp only); ((repeat' apply And.intro) <;> (first | (with_reducible assumption) | (with_reducible exact cell_drew (by assumption)) | (with_reducible exact cell_alloc (by assumption) _) | (with_reducible exact cell_alloc_drew (by assumption) _) | (with_reducible exact cell_alloc (cell_drew (by assumption)) _) | (with_reducible exact cell_far1 (by assumption) (by simp; omega))))) (fun hHeld => ?_); clear KH KK; (try simp only [Act.put, List.setIfInBounds_toArray, List.set_cons_zero, List.set_cons_succ]))
            ((refine wpAnyH_ready (rs := [9]) (by kernel_rfl) (by simp) ?_; refine AllReadyH.cons rfl (fun KK KH => ?_) AllReadyH.nil); refine step_append_S (base := base) (s := 5) (n := x.rs.length) (xs := rows x.rs) (by rfl) _ _ _ _ (by rfl) 62 i0 _ 40 Tryz.underlying58 HI.out H0'.out H1.out H2.out rfl (by rfl) (HO.out.drew.alloc _) (Nat.le_trans hbase (by simp)) _ (by rfl) 1 r.vals (src_block (m := 1) (Bk.at_ (w := wd.drew) (g' := wd.heap.size) rfl 62 #[.int .i64 r.id, .int .i64 r.who, .int .i64 r.qty, .int .i64 r.hidden, .int .i64 r.show_]) Tryz.underlying58 rfl (rest_one _ _ _ _ _) 1) (by unfold maxLen; omega) (by omega) ?_; intro A3 c3 w6 gr; have t6 := (gr.grown.cell_far ⟨g, off + k * 2 + 1, none⟩ (by simp; omega) HGV2.out).trans (cell_alloc (cell_drew d1) _); have f6 : w6.frozen? ⟨g, off + k * 2 + 1, none⟩ = false := (by rw [World.frozen?_of_block (gr.grown.block g (by simp; omega) HGV2.out)]; exact (World.frozen?_of_block (Below.heap_alloc wd.drew _ g hgl)).trans df); have bx6 := (BX.out.drew.alloc _).grown gr.grown HG0V.out; obtain ⟨b0, b1, b2, b3, b4⟩ := pbox5 bx6; (refine KH.out _ _ (by (try dsimp only); ((repeat' apply And.intro) <;> (first | (with_reducible assumption) | (with_reducible exact cell_drew (by assumption)) | (with_reducible exact cell_alloc (by assumption) _) | (with_reducible exact cell_alloc_drew (by assumption) _) | (with_reducible exact cell_alloc (cell_drew (by assumption)) _) | (with_reducible exact cell_far1 (by assumption) (by simp; omega))))) (fun hHeld => ?_); clear KH KK; (try simp only [Act.put, List.setIfInBounds_toArray, List.set_cons_zero, List.set_cons_succ])))
            ((refine wpAnyH_take (i := 10) (v := ?_) rfl (by kernel_rfl) (by kernel_rfl) (by kernel_rfl) (fun _ _ _ h => h) (Or.inl ⟨by rfl, ?_⟩) (by assumption) ?_); rotate_left; (focus (intro w hSw; (try dsimp only at hSw); go_simp; try (with_reducible rfl))); (try simp only [Act.put, List.setIfInBounds_toArray, List.set_cons_zero, List.set_cons_succ]); (refine wpAnyH_take (i := 11) (v := ?_) rfl (by kernel_rfl) (by kernel_rfl) (by kernel_rfl) (fun _ _ _ h => h) (Or.inl ⟨by rfl, ?_⟩) (by assumption) ?_); rotate_left; (focus (intro w hSw; (try dsimp only at hSw); go_simp; try (with_reducible rfl))); (try simp only [Act.put, List.setIfInBounds_toArray, List.set_cons_zero, List.set_cons_succ]); (refine wpAnyH_ready (rs := [12]) (by kernel_rfl) (by simp) ?_; refine AllReadyH.cons rfl (fun KK KH => ?_) AllReadyH.nil); go_simp; (refine KH.out _ _ (by (try dsimp only); ((repeat' apply And.intro) <;> (first | (with_reducible assumption) | (with_reducible exact cell_drew (by assumption)) | (with_reducible exact cell_alloc (by assumption) _) | (with_reducible exact cell_alloc_drew (by assumption) _) | (with_reducible exact cell_alloc (cell_drew (by assumption)) _) | (with_reducible exact cell_far1 (by assumption) (by simp; omega))))) (fun hHeld => ?_); clear KH KK; (try simp only [Act.put, List.setIfInBounds_toArray, List.set_cons_zero, List.set_cons_succ])); refine wpAnyH_done (by kernel_rfl) ?_ _; refine NoPanic.normal ?_; have GR := Lib.hid gr; clear gr bx6 b0 b1 b2 b3 b4 t6 f6; go_wp2; go_meet; (case rel => exact ⟨A3, c3, w6, GR.out, rfl⟩))
          · go_simp
            (refine KH.out _ _ (by (try dsimp only); ((repeat' apply And.intro) <;> (first | (with_reducible assumption) | (with_reducible exact cell_drew (by assumption)) | (with_reducible exact cell_alloc (by assumption) _) | (with_reducible exact cell_alloc_drew (by assumption) _) | (with_reducible exact cell_alloc (cell_drew (by assumption)) _) | (with_reducible exact cell_far1 (by assumption) (by simp; omega))))) (fun hHeld => ?_); clear KH KK; (try simp only [Act.put, List.setIfInBounds_toArray, List.set_cons_zero, List.set_cons_succ]))
            (refine wpAnyH_ready (rs := [6]) (by kernel_rfl) (by simp) ?_; refine AllReadyH.cons rfl (fun KK KH => ?_) AllReadyH.nil)
            go_simp
            (refine KH.out _ _ (by (try dsimp only); ((repeat' apply And.intro) <;> (first | (with_reducible assumption) | (with_reducible exact cell_drew (by assumption)) | (with_reducible exact cell_alloc (by assumption) _) | (with_reducible exact cell_alloc_drew (by assumption) _) | (with_reducible exact cell_alloc (cell_drew (by assumption)) _) | (with_reducible exact cell_far1 (by assumption) (by simp; omega))))) (fun hHeld => ?_); clear KH KK; (try simp only [Act.put, List.setIfInBounds_toArray, List.set_cons_zero, List.set_cons_succ]))
            ((refine wpAnyH_ready (rs := [9]) (by kernel_rfl) (by simp) ?_; refine AllReadyH.cons rfl (fun KK KH => ?_) AllReadyH.nil); refine step_append_S (base := base) (s := 5) (n := x.rs.length) (xs := rows x.rs) (by rfl) _ _ _ _ (by rfl) 62 i0 _ 40 Tryz.underlying58 HI.out H0'.out H1.out H2.out rfl (by rfl) (HO.out.drew.alloc _) (Nat.le_trans hbase (by simp)) _ (by rfl) 1 r.vals (src_block (m := 1) (Bk.at_ (w := wd.drew) (g' := wd.heap.size) rfl 62 #[.int .i64 r.id, .int .i64 r.who, .int .i64 r.qty, .int .i64 r.hidden, .int .i64 r.show_]) Tryz.underlying58 rfl (rest_one _ _ _ _ _) 1) (by unfold maxLen; omega) (by omega) ?_; intro A3 c3 w6 gr; have t6 := (gr.grown.cell_far ⟨g, off + k * 2 + 1, none⟩ (by simp; omega) HGV2.out).trans (cell_alloc (cell_drew d1) _); have f6 : w6.frozen? ⟨g, off + k * 2 + 1, none⟩ = false := (by rw [World.frozen?_of_block (gr.grown.block g (by simp; omega) HGV2.out)]; exact (World.frozen?_of_block (Below.heap_alloc wd.drew _ g hgl)).trans df); have bx6 := (BX.out.drew.alloc _).grown gr.grown HG0V.out; obtain ⟨b0, b1, b2, b3, b4⟩ := pbox5 bx6; (refine KH.out _ _ (by (try dsimp only); ((repeat' apply And.intro) <;> (first | (with_reducible assumption) | (with_reducible exact cell_drew (by assumption)) | (with_reducible exact cell_alloc (by assumption) _) | (with_reducible exact cell_alloc_drew (by assumption) _) | (with_reducible exact cell_alloc (cell_drew (by assumption)) _) | (with_reducible exact cell_far1 (by assumption) (by simp; omega))))) (fun hHeld => ?_); clear KH KK; (try simp only [Act.put, List.setIfInBounds_toArray, List.set_cons_zero, List.set_cons_succ])))
            ((refine wpAnyH_take (i := 10) (v := ?_) rfl (by kernel_rfl) (by kernel_rfl) (by kernel_rfl) (fun _ _ _ h => h) (Or.inl ⟨by rfl, ?_⟩) (by assumption) ?_); rotate_left; (focus (intro w hSw; (try dsimp only at hSw); go_simp; try (with_reducible rfl))); (try simp only [Act.put, List.setIfInBounds_toArray, List.set_cons_zero, List.set_cons_succ]); (refine wpAnyH_take (i := 11) (v := ?_) rfl (by kernel_rfl) (by kernel_rfl) (by kernel_rfl) (fun _ _ _ h => h) (Or.inl ⟨by rfl, ?_⟩) (by assumption) ?_); rotate_left; (focus (intro w hSw; (try dsimp only at hSw); go_simp; try (with_reducible rfl))); (try simp only [Act.put, List.setIfInBounds_toArray, List.set_cons_zero, List.set_cons_succ]); (refine wpAnyH_ready (rs := [12]) (by kernel_rfl) (by simp) ?_; refine AllReadyH.cons rfl (fun KK KH => ?_) AllReadyH.nil); go_simp; (refine KH.out _ _ (by (try dsimp only); ((repeat' apply And.intro) <;> (first | (with_reducible assumption) | (with_reducible exact cell_drew (by assumption)) | (with_reducible exact cell_alloc (by assumption) _) | (with_reducible exact cell_alloc_drew (by assumption) _) | (with_reducible exact cell_alloc (cell_drew (by assumption)) _) | (with_reducible exact cell_far1 (by assumption) (by simp; omega))))) (fun hHeld => ?_); clear KH KK; (try simp only [Act.put, List.setIfInBounds_toArray, List.set_cons_zero, List.set_cons_succ])); refine wpAnyH_done (by kernel_rfl) ?_ _; refine NoPanic.normal ?_; have GR := Lib.hid gr; clear gr bx6 b0 b1 b2 b3 b4 t6 f6; go_wp2; go_meet; (case rel => exact ⟨A3, c3, w6, GR.out, rfl⟩))
        case rest =>
          obtain ⟨A3, c3, w6, gr, rfl⟩ := hcut
          have hgr : wd.grownBy w6 (rowOf Av cv) := (show wd.grownBy (wd.drew.alloc (.cells #[.int .i64 r.id, .int .i64 r.who, .int .i64 r.qty, .int .i64 r.hidden, .int .i64 r.show_] 62)) (rowOf Av cv) from ⟨rfl, rfl, rfl, by simp, fun k hk _ => Below.heap_alloc wd.drew _ k hk⟩).trans gr.grown
          have o3 : OwnS w6 base 5 A3 (x.rs ++ [r]).length c3 (rows (x.rs ++ [r])) := by
            have := gr.own
            rw [rows_app, List.length_append]
            exact this
          have hfin := HR.out.own.setAt HR.out.at_ HV.out hgr o3 (by
            rcases gr.row with e | e
            · exact .inr (.inl e)
            · exact .inr (.inr ⟨_, e, by simp⟩))
          rw [← HR.out.add, List.length_append, ← Nat.add_assoc] at hfin
          have HFIN := Lib.hid hfin
          have HBF := Lib.hid (((HR.out.below.grown hgr hbase (fun q hq => (HO.out.row_lt q hq).1)).setCell (p := ⟨g, off + k * 2 + 1, none⟩) hgb (.slice A3 (x.rs.length + 1) c3)))
          have hll : (addL s p r L).length = L2.length := by rw [HR.out.add, List.length_set]
          have HLL2 := Lib.hid hll
          clear hfin gr hgr o3 hll d1 df b0 b1 b2 b3 b4
          go_wp2
          go_ret
          exact ⟨some ⟨g, off, none⟩, c2, _, by rw [HLL2.out]; first | rfl | simp, HFIN.out, HBF.out⟩
end Go.Proofs.YtkdgpdijbobmkaaGreat
