/- The contract of wake.Wake. -/
import Derived.Test.YtiaofbkhnodbhaaDoorWakePut
import Derived.Test.YtiaofbkhnodbhaaDoorWakeCmp
import Derived.Test.YtiaofbkhnodbhaaDoorGrpE
namespace Go.Proofs.YtiaofbkhnodbhaaDoor
set_option linter.all false
open Go Go.RowKit Go.Sort
/-- does an order wake at a price? -/
def wakesB (p : Int) (o : Order) : Bool := decide (o.stop = p) || ahd' o.side o.stop p
theorem wakes_any (o : Order) (p : Int) (w : World) : Calls Tryd.prog 70 #[.agg #[.int .i64 o.id, .int .i64 o.who, .int .i64 o.side, .int .i64 o.kind, .int .i64 o.price, .int .i64 o.qty, .int .i64 o.show_, .int .i64 o.stop], .int .i64 p] w fun e w' => e = .returned (.bool (wakesB p o)) ∧ w' = w.alloc (.cells #[.int .i64 o.id, .int .i64 o.who, .int .i64 o.side, .int .i64 o.kind, .int .i64 o.price, .int .i64 o.qty, .int .i64 o.show_, .int .i64 o.stop] 58) := by
  have cA := Lib.hid (fun s a b w => ahead_any s a b w)
  by_cases h : o.stop = p
  · have e1 : (o.stop == p) = true := by simpa using h
    have HE := Lib.hid (show wakesB p o = true by simp [wakesB, h])
    clear h
    go_enter Tryd.func70, Tryd.ntmps70
    go_wp2
    go_ret
    exact ⟨by rw [HE.out]; rfl, rfl⟩
  · have e1 : (o.stop == p) = false := by simpa using h
    have HE := Lib.hid (show wakesB p o = ahd' o.side o.stop p by simp [wakesB, h])
    clear h
    go_enter Tryd.func70, Tryd.ntmps70
    go_wp2_with (go_at_call 91; refine (cA.out _ _ _ _).mono ?_; rintro e w' ⟨rfl, rfl⟩)
    go_ret
    exact ⟨by rw [HE.out]; rfl, rfl⟩
def wokenL (p : Int) (l : List Order) : List Order := l.filter (wakesB p)
def leftS (p : Int) (l : List Order) : List Order := l.filter fun o => !wakesB p o
def stop0 (o : Order) : Order := ⟨o.id, o.who, o.side, o.kind, o.price, o.qty, o.show_, 0⟩
/-- who wakes, in order -/
def wakeL (p : Int) (l : List Order) : List Order := (isort (ltOf wcf) (wokenL p l)).map stop0
theorem wokenL_take {p : Int} {l : List Order} {k : Nat} {o : Order} (h : l[k]? = some o) : wokenL p (l.take (k + 1)) = if wakesB p o = true then wokenL p (l.take k) ++ [o] else wokenL p (l.take k) := by
  rw [wokenL, List.take_add_one, h, List.filter_append]
  by_cases e : wakesB p o = true
  · rw [if_pos e]; simp [wokenL, e]
  · rw [if_neg e]; simp [wokenL, e]
theorem leftS_take {p : Int} {l : List Order} {k : Nat} {o : Order} (h : l[k]? = some o) : leftS p (l.take (k + 1)) = if wakesB p o = true then leftS p (l.take k) else leftS p (l.take k) ++ [o] := by
  rw [leftS, List.take_add_one, h, List.filter_append]
  by_cases e : wakesB p o = true
  · rw [if_pos e]; simp [leftS, e]
  · rw [if_neg e]; simp [leftS, e]
theorem wokenL_len (p : Int) (l : List Order) : (wokenL p l).length ≤ l.length := List.length_filter_le _ _
theorem leftS_len (p : Int) (l : List Order) : (leftS p l).length ≤ l.length := List.length_filter_le _ _
/-- how Wake ends, at a price -/
def WakeS (p : Int) (l : List Order) (g base : Nat) (w : World) (e : Ending) (w' : World) : Prop :=
  ∃ AO cO A' c', e = .returned (.tuple #[.slice AO (wakeL p l).length cO, .nilIface]) ∧ Hid (OwnS w' w.heap.size 8 AO (wakeL p l).length cO (ords (wakeL p l))) ∧ Hid (StM w' g base A' c' (leftS p l)) ∧ Hid (Kb [some g] w w') ∧ (∀ k, rowOf A' c' = some k → w.heap.size ≤ k) ∧ (rowOf AO cO = none ∨ rowOf AO cO ≠ rowOf A' c')
theorem wwake_bad (p : Int) (g : Nat) (w : World) (hp : vp p = false) : Calls Tryd.prog 27 #[.pointer (some ⟨g, 0, none⟩), .int .i64 p] w fun e w' => e = .returned (.tuple #[.slice none 0 0, er 1]) ∧ w = w' := by
  have cP := Lib.hid (fun w => sprice_any p w)
  rw [show (if vp p = true then (0 : Int) else 1) = 1 by simp [hp], show errV 1 = er 1 from rfl] at cP
  clear hp
  go_enter Tryd.func27, Tryd.ntmps27
  go_wp2_with fail
  go_at_call 51
  refine (cP.out _).mono ?_
  rintro e w1 ⟨rfl, rfl⟩
  clear cP
  go_wp2
  go_ret2
  exact ⟨rfl, rfl⟩
theorem ords_stop0 (a : List Order) (o : Order) (b : List Order) : (ords (a ++ o :: b)).set (a.length * 8 + 7) (.int .i64 0) = ords (a ++ stop0 o :: b) := by
  rw [ords_app, ords_app, ords_cons, ords_cons, List.set_append_right _ _ (by rw [ords_len]; omega), ords_len, show a.length * 8 + 7 - a.length * 8 = 7 by omega]
  rfl
theorem OwnS.apart0 {w w' : World} {base s n c : Nat} {B : Option Addr} {xs : List Value} {row : Option Nat} (o : OwnS w base s B n c xs) (hg : w.grownBy w' row) (hp : rowOf B c = none ∨ rowOf B c ≠ row) : OwnS w' base s B n c xs := by
  rcases hp with e | e
  · refine ⟨o.len, o.le, o.max, fun hc => ?_⟩
    obtain ⟨g, off, e', _⟩ := o.lies hc
    rw [rowOf, if_neg (by omega), e'] at e; cases e
  · exact o.keep hg (.inr e)
set_option maxRecDepth 100000 in
set_option maxHeartbeats 8000000 in
theorem wwake_any (p : Int) (l : List Order) (g base : Nat) (A : Option Addr) (c : Nat) (w : World) (h : StM w g base A c l) (hl : l.length ≤ 20) (hp : vp p = true) (hbw : base ≤ w.heap.size) :
    Calls Tryd.prog 27 #[.pointer (some ⟨g, 0, none⟩), .int .i64 p] w (WakeS p l g base w) := by
  have hgl : g < w.heap.size := h.b.lt
  have c0 : w.cell? ⟨g, 0, none⟩ = some (.slice A l.length c) := by simpa using h.b.cell 0
  have cP := Lib.hid (fun w => sprice_any p w)
  rw [show (if vp p = true then (0 : Int) else 1) = 0 by simp [hp], show errV 0 = .nilIface from rfl] at cP
  have HR := Lib.hid h.own.rdO
  have HB := Lib.hid h.b
  have cW := Lib.hid (fun o w => wakes_any o p w)
  obtain ⟨i0, hi, hz0, hz1, hz2⟩ := info_parts info_ord
  have HI := Lib.hid hi; have H0 := Lib.hid hz0; have H1 := Lib.hid hz1; have H2 := Lib.hid hz2
  clear hi hz0 hz1 hz2 hp h
  go_enter Tryd.func27, Tryd.ntmps27
  go_wp2_with fail
  go_at_call 51
  refine (cP.out _).mono ?_
  rintro e w1 ⟨rfl, rfl⟩
  clear cP
  go_wp2
  go_loopw [7, 8, 22] (fun o s i wr => ∃ (k : Nat) (AO AL : Option Addr) (nO nL cO cL : Nat), k ≤ l.length ∧ i = .int .i64 k ∧ o = .slice AO nO cO ∧ s = .slice AL nL cL ∧ nO ≤ k ∧ nL ≤ k ∧
      Hid (nO = (wokenL p (l.take k)).length ∧ nL = (leftS p (l.take k)).length ∧ OwnS wr w.heap.size 8 AO nO cO (ords (wokenL p (l.take k))) ∧ OwnS wr w.heap.size 8 AL nL cL (ords (leftS p (l.take k))) ∧ (rowOf AO cO = none ∨ rowOf AO cO ≠ rowOf AL cL)) ∧ Below w.heap.size w wr) (fun _ _ i _ => l.length - (intOf i).toNat)
  case atStart => exact ⟨0, none, none, 0, 0, 0, 0, by omega, rfl, rfl, rfl, by omega, by omega, Lib.hid ⟨rfl, rfl, OwnS.nil _ _ _ _, OwnS.nil _ _ _ _, .inl rfl⟩, Below.refl _ _⟩
  case round =>
    obtain ⟨k, AO, AL, nO, nL, cO, cL, hk, rfl, rfl, rfl, hnO, hnL, HO, hb⟩ := hrel
    by_cases hlt : k < l.length
    · obtain ⟨b, off, o, rfl, hbl, ht, e0, e1, e2, e3, e4, e5, e6, e7⟩ := ord_at (HR.out.below hb) hlt
      have j0 : (0 : Int) ≤ (k : Int) := by omega
      have j1 : (k : Int) < (l.length : Int) := by omega
      have HT := Lib.hid ht
      clear ht c0
      have bx := Bk.new wr 58 #[.int .i64 o.id, .int .i64 o.who, .int .i64 o.side, .int .i64 o.kind, .int .i64 o.price, .int .i64 o.qty, .int .i64 o.show_, .int .i64 o.stop]
      have hba : Below wr.heap.size wr (wr.alloc (.cells #[.int .i64 o.id, .int .i64 o.who, .int .i64 o.side, .int .i64 o.kind, .int .i64 o.price, .int .i64 o.qty, .int .i64 o.show_, .int .i64 o.stop] 58)) := (Below.refl _ _).alloc (Nat.le_refl _) _
      have HO2 := Lib.hid (And.intro (HO.out.2.2.1.below hba) (HO.out.2.2.2.1.below hba))
      replace hb := below_then hba hb
      have HSZ := Lib.hid (show (wr.alloc (.cells #[.int .i64 o.id, .int .i64 o.who, .int .i64 o.side, .int .i64 o.kind, .int .i64 o.price, .int .i64 o.qty, .int .i64 o.show_, .int .i64 o.stop] 58)).heap.size = wr.heap.size + 1 by simp)
      clear hba
      go_upto_region 8 with fail
      generalize wr.alloc (.cells #[.int .i64 o.id, .int .i64 o.who, .int .i64 o.side, .int .i64 o.kind, .int .i64 o.price, .int .i64 o.qty, .int .i64 o.show_, .int .i64 o.stop] 58) = w2 at *
      obtain ⟨o0, o1, o2, o3, o4, o5, o6, o7⟩ := obox bx
      go_wp2_with fail
      go_at_call 70
      refine (cW.out _ _).mono ?_
      rintro e w3 ⟨rfl, hw3⟩
      have hba : Below w2.heap.size w2 w3 := by rw [hw3]; exact (Below.refl _ _).alloc (Nat.le_refl _) _
      replace bx := bx.keep hba; replace hb := below_then hba hb
      have HO3 := Lib.hid (And.intro (HO2.out.1.below hba) (HO2.out.2.below hba))
      clear hw3 hba o0 o1 o2 o3 o4 o5 o6 o7 HO2 HSZ e0 e1 e2 e3 e4 e5 e6 e7
      obtain ⟨o0, o1, o2, o3, o4, o5, o6, o7⟩ := obox bx
      have hz := hb.size
      rcases (show wakesB p o = true ∨ wakesB p o = false by cases wakesB p o <;> simp) with hwk | hwk
      · rw [hwk]
        have HK := Lib.hid hwk
        clear hwk
        go_wp2_with (at_builtin; go_loud (refine wpList_append_S (base := w.heap.size) (s := 8) (n := nO) (cap := cO) rfl _ _ _ _ rfl 58 i0 _ 64 Tryd.underlying52 HI.out H0.out H1.out H2.out rfl rfl (HO3.out.1.alloc _) (by simp; omega) _ rfl 1 o.vals (src_block (m := 1) (Bk.new w3 58 #[.int .i64 o.id, .int .i64 o.who, .int .i64 o.side, .int .i64 o.kind, .int .i64 o.price, .int .i64 o.qty, .int .i64 o.show_, .int .i64 o.stop]) Tryd.underlying52 rfl o.vals_one 1) (by unfold maxLen; omega) (by omega) ?_); intro A' cap' w' gr)
        have hb4 := hb.alloc hz (.cells #[.int .i64 o.id, .int .i64 o.who, .int .i64 o.side, .int .i64 o.kind, .int .i64 o.price, .int .i64 o.qty, .int .i64 o.show_, .int .i64 o.stop] 58)
        have hrow := fun k hk => (HO3.out.1.row_lt k hk).1
        have hbf := Below.grown hb4 gr.grown (by simp; omega) hrow
        have hap := HO.out.2.2.2.2
        have hrowL := HO3.out.2.row_lt
        have oL : OwnS w' w.heap.size 8 AL nL cL (ords (leftS p (l.take k))) := (HO3.out.2.alloc _).keep gr.grown (by
          rcases hap with e | e
          · exact .inl e
          · exact .inr (Ne.symm e))
        have HN := Lib.hid (show nO + 1 = (wokenL p (l.take (k + 1))).length ∧ nL = (leftS p (l.take (k + 1))).length ∧ OwnS w' w.heap.size 8 A' (nO + 1) cap' (ords (wokenL p (l.take (k + 1)))) ∧ OwnS w' w.heap.size 8 AL nL cL (ords (leftS p (l.take (k + 1)))) ∧ (rowOf A' cap' = none ∨ rowOf A' cap' ≠ rowOf AL cL) from by
          rw [wokenL_take HT.out, if_pos HK.out, leftS_take HT.out, if_pos HK.out, List.length_append, ords_app, show ords [o] = o.vals by simp [ords]]
          refine ⟨by rw [HO.out.1]; rfl, HO.out.2.1, gr.own, oL, ?_⟩
          rcases gr.row with e | e
          · rw [e]; exact hap
          · rw [e]; right; intro e2; have := (hrowL _ e2.symm).2; simp at this; omega)
        clear gr oL hap hrow hrowL hb4 hz
        go_roundw
        case rel => exact ⟨k + 1, A', AL, nO + 1, nL, cap', cL, by omega, by go_num, by simp, rfl, by omega, by omega, HN, hbf⟩
        case measure => simp [intOf]; omega
      · rw [hwk]
        have HK := Lib.hid hwk
        clear hwk
        go_wp2_with (at_builtin; go_loud (refine wpList_append_S (base := w.heap.size) (s := 8) (n := nL) (cap := cL) rfl _ _ _ _ rfl 58 i0 _ 64 Tryd.underlying52 HI.out H0.out H1.out H2.out rfl rfl (HO3.out.2.alloc _) (by simp; omega) _ rfl 1 o.vals (src_block (m := 1) (Bk.new w3 58 #[.int .i64 o.id, .int .i64 o.who, .int .i64 o.side, .int .i64 o.kind, .int .i64 o.price, .int .i64 o.qty, .int .i64 o.show_, .int .i64 o.stop]) Tryd.underlying52 rfl o.vals_one 1) (by unfold maxLen; omega) (by omega) ?_); intro A' cap' w' gr)
        have hb4 := hb.alloc hz (.cells #[.int .i64 o.id, .int .i64 o.who, .int .i64 o.side, .int .i64 o.kind, .int .i64 o.price, .int .i64 o.qty, .int .i64 o.show_, .int .i64 o.stop] 58)
        have hrow := fun k hk => (HO3.out.2.row_lt k hk).1
        have hbf := Below.grown hb4 gr.grown (by simp; omega) hrow
        have hap := HO.out.2.2.2.2
        have hrowO := HO3.out.1.row_lt
        have oO : OwnS w' w.heap.size 8 AO nO cO (ords (wokenL p (l.take k))) := (HO3.out.1.alloc _).apart0 gr.grown hap
        have HN := Lib.hid (show nO = (wokenL p (l.take (k + 1))).length ∧ nL + 1 = (leftS p (l.take (k + 1))).length ∧ OwnS w' w.heap.size 8 AO nO cO (ords (wokenL p (l.take (k + 1)))) ∧ OwnS w' w.heap.size 8 A' (nL + 1) cap' (ords (leftS p (l.take (k + 1)))) ∧ (rowOf AO cO = none ∨ rowOf AO cO ≠ rowOf A' cap') from by
          have hk : ¬ wakesB p o = true := by rw [HK.out]; decide
          rw [wokenL_take HT.out, if_neg hk, leftS_take HT.out, if_neg hk, List.length_append, ords_app, show ords [o] = o.vals by simp [ords]]
          refine ⟨HO.out.1, by rw [HO.out.2.1]; rfl, oO, gr.own, ?_⟩
          rcases gr.row with e | e
          · rw [e]; exact hap
          · rw [e]; right; intro e2; have := (hrowO _ e2).2; simp at this; omega)
        clear gr oO hap hrow hrowO hb4 hz
        go_roundw
        case rel => exact ⟨k + 1, AO, A', nO, nL + 1, cO, cap', by omega, by go_num, rfl, by simp, by omega, by omega, HN, hbf⟩
        case measure => simp [intOf]; omega
    · obtain rfl : k = l.length := by omega
      rw [List.take_length] at HO
      have stb := HB.out.below hb hgl
      have d0 : wr.cell? ⟨g, 0, none⟩ = some (.slice A l.length c) := by simpa using stb.cell 0
      have f0 := stb.free 0
      obtain ⟨hO1, hL1, oO, oL, hap⟩ := HO.out
      have hO20 := wokenL_len p l
      have hrowO := fun k hk => (oO.row_lt k hk).1
      have hrowL := fun k hk => (oL.row_lt k hk).1
      have hzr := hb.size
      have hgO : rowOf AO cO ≠ some g := fun e => by have := hrowO g e; omega
      have hgL : rowOf AL cL ≠ some g := fun e => by have := hrowL g e; omega
      have oO2 := oO.far (p := ⟨g, 0, none⟩) hgO (.slice AL nL cL)
      have oL2 := oL.far (p := ⟨g, 0, none⟩) hgL (.slice AL nL cL)
      have sb2 : Bk (wr.setCell ⟨g, 0, none⟩ (.slice AL nL cL)) g 121 #[.slice AL nL cL] := by simpa using stb.set_ 0 (.slice AL nL cL)
      have kb2 : Kb [some g] w (wr.setCell ⟨g, 0, none⟩ (.slice AL nL cL)) := (Kb.of_below hb).set (.inl (by simp)) _
      rw [hO1] at oO2
      have cS := Lib.hid (sortst_any wcf 72 (enters_of Tryd.func72 (by kernel_rfl) rfl) wcf_any (wokenL p l) w.heap.size AO cO _ oO2 (by omega))
      have HALL := Lib.hid (And.intro oL2 (And.intro sb2 (And.intro kb2 (And.intro hL1 (And.intro hap (And.intro hrowO (And.intro hrowL (And.intro hgO hgL))))))))
      have hsl : (isort (ltOf wcf) (wokenL p l)).length = nO := by rw [isort_size, hO1]
      rw [← hO1] at cS
      clear oO oL oO2 oL2 sb2 kb2 hL1 hap hrowO hrowL hgO hgL HO stb HR hlt hk hO20 hnL hO1
      obtain ⟨sl, hs⟩ : ∃ s, s = isort (ltOf wcf) (wokenL p l) := ⟨_, rfl⟩
      rw [← hs] at cS hsl
      have HS := Lib.hid hs
      clear hs
      go_wp2_with fail
      go_at_call 71
      refine cS.out.mono ?_
      rintro e w4 ⟨rfl, ho4, hg4⟩
      rw [hsl] at ho4
      have hL4 := HALL.out.1.keep hg4 (by
        rcases HALL.out.2.2.2.2.1 with e | e
        · exact .inl e
        · exact .inr (Ne.symm e))
      obtain ⟨_, sb2, kb2, hL1, hap, hrowO, hrowL, hgO, hgL⟩ := HALL.out
      have sb4 := sb2.grown hg4 (Ne.symm hgO)
      rw [hL1] at sb4
      have hst : StM w4 g base AL cL (leftS p l) := ⟨sb4, by rw [hL1] at hL4; exact hL4.lower hbw, .inr hgL, fun e => by
        rcases Nat.eq_zero_or_pos cL with h0 | h0
        · exact h0
        · obtain ⟨b, off, e', _⟩ := hL4.lies h0
          rw [e] at e'; cases e'⟩
      have hkb : Kb [some g] w w4 := kb2.grown hg4 (by
        cases hr : rowOf AO cO with
        | none => exact .inr (.inl rfl)
        | some k => exact .inr (.inr ⟨k, rfl, hrowO k hr⟩))
      have HC := Lib.hid (And.intro hap (And.intro hrowO (And.intro hrowL (And.intro hgO hgL))))
      have HST := Lib.hid hst; have HKB := Lib.hid hkb; have HO4 := Lib.hid ho4
      clear hL4 sb2 sb4 kb2 hL1 hap hrowO hrowL hgO hgL hst hkb ho4 hg4 HALL cS d0 f0 hb hzr
      go_wp2
      go_loopw [11, 46] (fun _ i wr => ∃ k : Nat, k ≤ nO ∧ i = .int .i64 k ∧ Hid (OwnS wr w.heap.size 8 AO nO cO (ords ((sl.take k).map stop0 ++ sl.drop k))) ∧ Hid (StM wr g base AL cL (leftS p l)) ∧ Hid (Kb [some g] w wr)) (fun _ i _ => nO - (intOf i).toNat)
      case atStart => exact ⟨0, by omega, rfl, by simpa using HO4, HST, HKB⟩
      case round =>
        obtain ⟨k, hk, rfl, HO5, HS5, HK5⟩ := hrel
        clear HST HKB HO4
        by_cases hlt : k < nO
        · obtain ⟨b, off, rfl, hbb, hbl, hc1, hc2⟩ := HO5.out.cell (by omega)
          have hle := HO5.out.le
          have hr : rowOf (some (⟨b, off, none⟩ : Addr)) cO = some b := by rw [rowOf, if_neg (by omega)]; rfl
          obtain ⟨o, ho⟩ : ∃ o, sl[k]? = some o := ⟨sl[k]'(by omega), List.getElem?_eq_getElem (by omega)⟩
          have hd : sl.drop k = o :: sl.drop (k + 1) := by
            have := List.getElem?_eq_some_iff.1 ho
            rw [List.drop_eq_getElem_cons this.1, this.2]
          have htk : sl.take (k + 1) = sl.take k ++ [o] := by rw [List.take_add_one, ho]; rfl
          have hkl : ((sl.take k).map stop0).length = k := by rw [List.length_map, List.length_take]; omega
          have c7 := (hc2 (k * 8 + 7) (by omega)).1
          have f7 := (hc2 (k * 8 + 7) (by omega)).2
          rw [← Nat.add_assoc] at c7 f7
          obtain ⟨v7, c7⟩ := Option.isSome_iff_exists.1 c7
          have hnext := HO5.out.set (j := k * 8 + 7) (by omega) (.int .i64 0)
          have hset : (ords ((sl.take k).map stop0 ++ sl.drop k)).set (k * 8 + 7) (.int .i64 0) = ords ((sl.take (k + 1)).map stop0 ++ sl.drop (k + 1)) := by
            rw [hd]
            have := ords_stop0 ((sl.take k).map stop0) o (sl.drop (k + 1))
            rw [hkl] at this
            rw [this, htk, List.map_append]
            simp
          rw [hset, ← Nat.add_assoc] at hnext
          have hgb : g ≠ b := by omega
          have hLb : rowOf AL cL ≠ some b := by
            rcases HC.out.1 with e | e
            · rw [hr] at e; cases e
            · rw [hr] at e; exact Ne.symm e
          have HN := Lib.hid (And.intro hnext (And.intro (show StM _ g base AL cL (leftS p l) from ⟨HS5.out.b.far (p := ⟨b, off + k * 8 + 7, none⟩) hgb (.int .i64 0), HS5.out.own.far (p := ⟨b, off + k * 8 + 7, none⟩) hLb (.int .i64 0), HS5.out.apart, HS5.out.z⟩) (HK5.out.set (p := ⟨b, off + k * 8 + 7, none⟩) (.inr hbb) (.int .i64 0))))
          have j0 : (0 : Int) ≤ (k : Int) := by omega
          have j1 : (k : Int) < (nO : Int) := by omega
          clear hc1 hc2 hnext hset hd htk ho hgb hLb hr hkl hbl
          go_wp2
          go_roundw
          case rel => exact ⟨k + 1, by omega, by go_num, Lib.hid HN.out.1, Lib.hid HN.out.2.1, Lib.hid HN.out.2.2⟩
          case measure => simp [intOf]; omega
        · have hkn : k = nO := by omega
          subst k
          have hfin : (sl.take nO).map stop0 ++ sl.drop nO = wakeL p l := by
            rw [← hsl, List.take_length, List.drop_length, List.append_nil, HS.out]; rfl
          have hlen : (wakeL p l).length = nO := by rw [wakeL, List.length_map, ← HS.out]; exact hsl
          rw [hfin, ← hlen] at HO5
          rw [← hlen]
          have HC2 := Lib.hid (And.intro HC.out.2.2.1 HC.out.1)
          clear hfin hlen hsl HC
          go_wp2
          go_ret2
          exact ⟨AO, cO, AL, cL, rfl, HO5, HS5, HK5, HC2.out.1, HC2.out.2⟩
end Go.Proofs.YtiaofbkhnodbhaaDoor
