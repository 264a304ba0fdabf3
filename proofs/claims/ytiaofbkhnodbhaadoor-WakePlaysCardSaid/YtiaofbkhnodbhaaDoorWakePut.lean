/- The contracts of wake.New, Put, All. -/
import Derived.Test.YtiaofbkhnodbhaaDoorKb
import Derived.Deep.RegionHeld3
namespace Go.Proofs.YtiaofbkhnodbhaaDoor
set_option linter.all false
open Go Go.RowKit
/-- what is wrong with an order that comes to wait -/
def waitE (l : List Order) (o : Order) : Int := if o.err ≠ 0 then o.err else if o.stop = 0 then 6 else if 0 ≤ whereI l o.id then 7 else if 20 ≤ l.length then 4 else 0
def waitL (l : List Order) (o : Order) : List Order := if waitE l o = 0 then l ++ [o] else l
theorem wnew_any (w : World) : Calls Tryd.prog 19 #[] w fun e w' => e = .returned (.pointer (some ⟨w.heap.size, 0, none⟩)) ∧ w' = w.alloc (.cells #[.slice none 0 0] 121) := by
  go_enter Tryd.func19, Tryd.ntmps19
  go_wp2
  go_ret
  exact ⟨rfl, rfl⟩
theorem StM.new (w : World) (base : Nat) : StM (w.alloc (.cells #[.slice none 0 0] 121)) w.heap.size base none 0 [] := ⟨Bk.new w _ _, OwnS.nil _ _ _ _, .inr (by simp [rowOf]), fun _ => rfl⟩
def AllPost (l : List Order) (w : World) (e : Ending) (w' : World) : Prop := ∃ A c, e = .returned (.slice A l.length c) ∧ OwnS w' w.heap.size 8 A l.length c (ords l) ∧ Below w.heap.size w w'
theorem wall_any (l : List Order) (g base : Nat) (A : Option Addr) (c : Nat) (w : World) (h : StM w g base A c l) (hl : l.length ≤ 1000) :
    Calls Tryd.prog 29 #[.pointer (some ⟨g, 0, none⟩)] w (AllPost l w) := by
  have hz := h.z
  have hn : A = none → l.length = 0 := fun e => by have := h.own.le; rw [hz e] at this; omega
  have c0 : w.cell? ⟨g, 0, none⟩ = some (.slice A l.length c) := by simpa using h.b.cell 0
  have cC := Lib.hid (clone_ords l A c w h.own.rdO (by omega) (fun e => ⟨hn e, hz e⟩))
  clear h hz hn
  go_enter Tryd.func29, Tryd.ntmps29
  go_wp2_with fail
  go_at_call 75
  refine cC.out.mono ?_
  rintro e w1 ⟨A', c', rfl, ho, hb, _⟩
  have HO := Lib.hid ho
  clear ho c0
  go_wp2
  go_ret
  exact ⟨A', c', rfl, HO.out, hb⟩
/-- how Put ends -/
def PutS (l : List Order) (o : Order) (g base : Nat) (A : Option Addr) (c : Nat) (w : World) (e : Ending) (w' : World) : Prop :=
  e = .returned (errV (waitE l o)) ∧ ∃ A' c', Hid (StM w' g base A' c' (waitL l o)) ∧ Hid (Kb [some g, rowOf A c] w w') ∧ (rowOf A' c' = rowOf A c ∨ ∀ k, rowOf A' c' = some k → w.heap.size ≤ k)
theorem putS_bad {l : List Order} {o : Order} {g base c : Nat} {A : Option Addr} {w w' : World} {k : Int} (h : StM w g base A c l) (he : waitE l o = k) (h0 : k ≠ 0) (hb : Below w.heap.size w w') : PutS l o g base A c w (.returned (er k)) w' :=
  ⟨by rw [he, errV, if_neg h0], A, c, Lib.hid (by rw [waitL, if_neg (by rw [he]; exact h0)]; exact h.below hb), Lib.hid (Kb.of_below hb), .inl rfl⟩
theorem putS_ok {l : List Order} {o : Order} {g base c c' : Nat} {A A' : Option Addr} {w w3 w6 : World} (h : StM w g base A c l) (he : waitE l o = 0) (hb : Below w.heap.size w w3) {cs : Obj} (gr : Grew (w3.alloc cs).drew base 8 A c (l.length + 1) (ords l ++ o.vals) A' c' w6) (hbw : base ≤ w.heap.size) :
    PutS l o g base A c w (.returned .nilIface) (w6.setCell ⟨g, 0, none⟩ (.slice A' (l.length + 1) c')) := by
  have hgl : g < w.heap.size := h.b.lt
  have hz3 : w.heap.size ≤ w3.heap.size := hb.size
  have hz : w.heap.size ≤ (w3.alloc cs).drew.heap.size := by simp; omega
  have hba : Below w.heap.size w (w3.alloc cs).drew := (hb.alloc hz3 cs).drew
  have hgA : some g ≠ rowOf A c := fun e => by
    rcases h.apart with h1 | h1
    · have := (h.own.row_lt g e.symm).1; omega
    · exact h1 e.symm
  have hrow : rowOf A' c' = rowOf A c ∨ ∀ k, rowOf A' c' = some k → w.heap.size ≤ k := by
    rcases gr.row with e | e
    · exact .inl e
    · exact .inr (fun k hk => by rw [e] at hk; cases hk; exact hz)
  have hgA' : rowOf A' c' ≠ some g := fun e => by
    rcases hrow with h1 | h1
    · exact hgA (e.symm.trans h1)
    · have := h1 g e; omega
  have hb6 : Bk w6 g 121 #[.slice A l.length c] := ((h.b.below hba hgl)).grown gr.grown hgA
  refine ⟨by rw [he]; rfl, A', c', Lib.hid ⟨?_, ?_, .inr hgA', ?_⟩, Lib.hid ?_, hrow⟩
  · have := hb6.set_ 0 (.slice A' (l.length + 1) c')
    rw [waitL, if_pos he]
    simpa using this
  · rw [waitL, if_pos he, ords_app, List.length_append, show ords [o] = o.vals from by simp [ords]]
    exact gr.own.far (p := ⟨g, 0, none⟩) hgA' _
  · intro e
    rcases Nat.eq_zero_or_pos c' with h0 | h0
    · exact h0
    · obtain ⟨b, off, e', _⟩ := gr.own.lies h0
      rw [e] at e'; cases e'
  · exact ((Kb.of_below hba).grown gr.grown (.inl (by simp))).set (.inl (by simp)) _
theorem cell_far0 {w : World} {p q : Addr} {v a : Value} (h : w.cell? p = some v) (hg : p.block ≠ q.block) : (w.setCell q a).cell? p = some v := by
  rw [World.cell?_setCell_other w _ _ a (fun e => hg (by rw [e]))]; exact h
set_option maxRecDepth 100000 in
set_option maxHeartbeats 4000000 in
theorem wput_any (l : List Order) (o : Order) (g base : Nat) (A : Option Addr) (c : Nat) (w : World) (h : StM w g base A c l) (hl : l.length ≤ 100) (hbw : base ≤ w.heap.size) (hgb : g < base ∨ base ≤ g) :
    Calls Tryd.prog 21 #[.pointer (some ⟨g, 0, none⟩), .agg #[.int .i64 o.id, .int .i64 o.who, .int .i64 o.side, .int .i64 o.kind, .int .i64 o.price, .int .i64 o.qty, .int .i64 o.show_, .int .i64 o.stop]] w (PutS l o g base A c w) := by
  have H := Lib.hid h
  have hgl : g < w.heap.size := h.b.lt
  have hb : Below w.heap.size w (w.alloc (.cells #[.int .i64 o.id, .int .i64 o.who, .int .i64 o.side, .int .i64 o.kind, .int .i64 o.price, .int .i64 o.qty, .int .i64 o.show_, .int .i64 o.stop] 58)) := (Below.refl _ _).alloc (Nat.le_refl _) _
  have bo := Bk.new w 58 #[.int .i64 o.id, .int .i64 o.who, .int .i64 o.side, .int .i64 o.kind, .int .i64 o.price, .int .i64 o.qty, .int .i64 o.show_, .int .i64 o.stop]
  have cC := Lib.hid (fun w => check_any o w)
  clear h
  go_enter Tryd.func21, Tryd.ntmps21
  go_upto_region 1 with fail
  generalize w.alloc (.cells #[.int .i64 o.id, .int .i64 o.who, .int .i64 o.side, .int .i64 o.kind, .int .i64 o.price, .int .i64 o.qty, .int .i64 o.show_, .int .i64 o.stop] 58) = w1 at *
  obtain ⟨o0, o1, o2, o3, o4, o5, o6, o7⟩ := obox bo
  go_wp2_with fail
  go_at_call 67
  refine (cC.out _).mono ?_
  rintro e w2 ⟨rfl, hw2⟩
  have hba : Below w1.heap.size w1 w2 := by rw [hw2]; exact (Below.refl _ _).alloc (Nat.le_refl _) _
  replace bo := bo.keep hba; replace hb := below_then hba hb
  clear hw2 hba o0 o1 o2 o3 o4 o5 o6 o7 cC
  by_cases h1 : o.err = 0
  case neg => as_aux_lemma =>
    have HE := Lib.hid (show waitE l o = o.err from if_pos h1)
    have HN := Lib.hid h1
    rw [show errV o.err = er o.err by rw [errV, if_neg h1]]
    clear h1 bo
    generalize o.err = k at *
    go_wp2
    go_ret
    exact putS_bad H.out HE.out HN.out hb
  have HE1 := Lib.hid (show waitE l o = if o.stop = 0 then 6 else if 0 ≤ whereI l o.id then 7 else if 20 ≤ l.length then 4 else 0 from if_neg (by simpa using h1))
  rw [h1, show errV 0 = .nilIface from rfl]
  clear h1
  obtain ⟨o0, o1, o2, o3, o4, o5, o6, o7⟩ := obox bo
  by_cases h2 : o.stop = 0
  · as_aux_lemma =>
    have HE := Lib.hid (show waitE l o = 6 by rw [HE1.out, if_pos h2])
    have e2 : (o.stop == 0) = true := by simpa using h2
    clear h2 bo
    go_wp2
    go_ret
    exact putS_bad H.out HE.out (by decide) hb
  have HE2 := Lib.hid (show waitE l o = if 0 ≤ whereI l o.id then 7 else if 20 ≤ l.length then 4 else 0 by rw [HE1.out, if_neg h2])
  have e2 : (o.stop == 0) = false := by simpa using h2
  have cW := Lib.hid (wwhere_any l g base A c o.id w2 (H.out.below hb) hl)
  clear h2 HE1
  go_wp2_with fail
  go_at_call 68
  refine cW.out.mono ?_
  rintro e w3 ⟨rfl, hb3⟩
  replace bo := bo.keep hb3; replace hb := below_then hb3 hb
  clear hb3 cW o0 o1 o2 o3 o4 o5 o6 o7 e2
  by_cases h3 : 0 ≤ whereI l o.id
  · as_aux_lemma =>
    have HE := Lib.hid (show waitE l o = 7 by rw [HE2.out, if_pos h3])
    clear bo
    generalize whereI l o.id = k at *
    go_wp2
    go_ret
    exact putS_bad H.out HE.out (by decide) hb
  have HE3 := Lib.hid (show waitE l o = if 20 ≤ l.length then 4 else 0 by rw [HE2.out, if_neg h3])
  have e3 : decide (whereI l o.id ≥ 0) = false := decide_eq_false h3
  clear HE2
  generalize whereI l o.id = k at *
  have st := H.out.below hb
  have c0 : w3.cell? ⟨g, 0, none⟩ = some (.slice A l.length c) := by simpa using st.b.cell 0
  have ST := Lib.hid st
  clear st
  by_cases h4 : 20 ≤ l.length
  · as_aux_lemma =>
    have HE := Lib.hid (show waitE l o = 4 by rw [HE3.out, if_pos h4])
    have e4 : decide ((l.length : Int) ≥ 20) = true := decide_eq_true (by omega)
    clear bo
    go_wp2
    go_ret
    exact putS_bad H.out HE.out (by decide) hb
  have HE := Lib.hid (show waitE l o = 0 by rw [HE3.out, if_neg h4])
  have e4 : decide ((l.length : Int) ≥ 20) = false := decide_eq_false (by omega)
  clear HE3
  go_upto_region 10 with fail
  obtain ⟨o0, o1, o2, o3, o4, o5, o6, o7⟩ := obox bo
  have f0 := ST.out.b.free 0
  obtain ⟨i0, hi, hz0, hz1, hz2⟩ := info_parts info_ord
  have HI := Lib.hid hi; have H0 := Lib.hid hz0; have H1 := Lib.hid hz1; have H2 := Lib.hid hz2; clear hi hz0 hz1 hz2
  have hgA : some g ≠ rowOf A c := fun e => by
    rcases ST.out.apart with h | h
    · have := (ST.out.own.row_lt g e.symm).1; omega
    · exact h e.symm
  have hoA : some w.heap.size ≠ rowOf A c := fun e => by have := (H.out.own.row_lt _ e.symm).2; omega
  have hgo : g ≠ w.heap.size := by omega
  have hgz : base ≤ w3.heap.size := by have := hb.size; omega
  have BO := Lib.hid bo
  have d0 := cell_drew c0
  have a0 := cell_alloc c0 (.cells #[.int .i64 o.id, .int .i64 o.who, .int .i64 o.side, .int .i64 o.kind, .int .i64 o.price, .int .i64 o.qty, .int .i64 o.show_, .int .i64 o.stop] 58)
  refine wp_region_noPanic ?_
  refine wp_region_held_drew (S := (fun w' => w'.cell? ⟨w.heap.size, 0, none⟩ = some (.int .i64 o.id) ∧ w'.cell? ⟨w.heap.size, 1, none⟩ = some (.int .i64 o.who) ∧ w'.cell? ⟨w.heap.size, 2, none⟩ = some (.int .i64 o.side) ∧ w'.cell? ⟨w.heap.size, 3, none⟩ = some (.int .i64 o.kind) ∧ w'.cell? ⟨w.heap.size, 4, none⟩ = some (.int .i64 o.price) ∧ w'.cell? ⟨w.heap.size, 5, none⟩ = some (.int .i64 o.qty) ∧ w'.cell? ⟨w.heap.size, 6, none⟩ = some (.int .i64 o.show_) ∧ w'.cell? ⟨w.heap.size, 7, none⟩ = some (.int .i64 o.stop))) (by kernel_rfl) ?_ (fun hHeld => ?_)
  · (try dsimp only); ((repeat' apply And.intro) <;> (first | (with_reducible assumption) | (with_reducible exact cell_drew (by assumption)) | (with_reducible exact cell_alloc (by assumption) _) | (with_reducible exact cell_alloc_drew (by assumption) _) | (with_reducible exact cell_far0 (by assumption) (by simp; omega))))
  (refine wpAnyH_take (i := 0) (v := ?_) rfl (by kernel_rfl) (by kernel_rfl) (by kernel_rfl) (fun _ _ _ h => h) (Or.inl ⟨by rfl, ?_⟩) (by assumption) ?_); rotate_left; (focus (intro w hSw; (try dsimp only at hSw); go_simp; try (with_reducible rfl))); (try simp only [Act.put, List.setIfInBounds_toArray, List.set_cons_zero, List.set_cons_succ])
  (refine wpAnyH_take (i := 1) (v := ?_) rfl (by kernel_rfl) (by kernel_rfl) (by kernel_rfl) (fun _ _ _ h => h) (Or.inl ⟨by rfl, ?_⟩) (by assumption) ?_); rotate_left; (focus (intro w hSw; (try dsimp only at hSw); go_simp; try (with_reducible rfl))); (try simp only [Act.put, List.setIfInBounds_toArray, List.set_cons_zero, List.set_cons_succ])
  (refine wpAnyH_take (i := 2) (v := ?_) rfl (by kernel_rfl) (by kernel_rfl) (by kernel_rfl) (fun _ _ _ h => h) (Or.inl ⟨by rfl, ?_⟩) (by assumption) ?_); rotate_left; (focus (intro w hSw; (try dsimp only at hSw); go_simp; try (with_reducible rfl))); (try simp only [Act.put, List.setIfInBounds_toArray, List.set_cons_zero, List.set_cons_succ])
  (refine wpAnyH_take (i := 3) (v := ?_) rfl (by kernel_rfl) (by kernel_rfl) (by kernel_rfl) (fun _ _ _ h => h) (Or.inl ⟨by rfl, ?_⟩) (by assumption) ?_); rotate_left; (focus (intro w hSw; (try dsimp only at hSw); go_simp; try (with_reducible rfl))); (try simp only [Act.put, List.setIfInBounds_toArray, List.set_cons_zero, List.set_cons_succ])
  (refine wpAnyH_take (i := 5) (v := ?_) rfl (by kernel_rfl) (by kernel_rfl) (by kernel_rfl) (fun _ _ _ h => h) (Or.inl ⟨by rfl, ?_⟩) (by assumption) ?_); rotate_left; (focus (intro w hSw; (try dsimp only at hSw); go_simp; try (with_reducible rfl))); (try simp only [Act.put, List.setIfInBounds_toArray, List.set_cons_zero, List.set_cons_succ])
  refine wpAnyH_ready (rs := [4, 6]) (by kernel_rfl) (by simp) ?_
  refine AllReadyH.cons rfl (fun KK KH => ?_) (AllReadyH.cons rfl (fun KK KH => ?_) AllReadyH.nil)
  · go_simp
    (refine KH.out _ _ (by (try dsimp only); ((repeat' apply And.intro) <;> (first | (with_reducible assumption) | (with_reducible exact cell_drew (by assumption)) | (with_reducible exact cell_alloc (by assumption) _) | (with_reducible exact cell_alloc_drew (by assumption) _) | (with_reducible exact cell_far0 (by assumption) (by simp; omega))))) (fun hHeld => ?_); clear KH KK; (try simp only [Act.put, List.setIfInBounds_toArray, List.set_cons_zero, List.set_cons_succ]))
    (refine wpAnyH_ready (rs := [6]) (by kernel_rfl) (by simp) ?_; refine AllReadyH.cons rfl (fun KK KH => ?_) AllReadyH.nil)
    go_simp
    (refine KH.out _ _ (by (try dsimp only); ((repeat' apply And.intro) <;> (first | (with_reducible assumption) | (with_reducible exact cell_drew (by assumption)) | (with_reducible exact cell_alloc (by assumption) _) | (with_reducible exact cell_alloc_drew (by assumption) _) | (with_reducible exact cell_far0 (by assumption) (by simp; omega))))) (fun hHeld => ?_); clear KH KK; (try simp only [Act.put, List.setIfInBounds_toArray, List.set_cons_zero, List.set_cons_succ]))
    ((refine wpAnyH_ready (rs := [7]) (by kernel_rfl) (by simp) ?_; refine AllReadyH.cons rfl (fun KK KH => ?_) AllReadyH.nil); refine step_append_S (base := base) (s := 8) (n := l.length) (xs := ords l) (by rfl) _ _ _ _ (by rfl) 58 i0 _ 64 Tryd.underlying52 HI.out H0.out H1.out H2.out rfl (by rfl) ((ST.out.own.alloc _).drew) (by simp; omega) _ (by rfl) 1 o.vals (src_block (m := 1) (Bk.new w3 58 #[.int .i64 o.id, .int .i64 o.who, .int .i64 o.side, .int .i64 o.kind, .int .i64 o.price, .int .i64 o.qty, .int .i64 o.show_, .int .i64 o.stop]).drew Tryd.underlying52 rfl o.vals_one 1) (by unfold maxLen; omega) (by omega) ?_; intro A' c' w6 gr; have b6 := ((BO.out.alloc _).drew).grown gr.grown hoA; obtain ⟨o0, o1, o2, o3, o4, o5, o6, o7⟩ := obox b6; have s6 := ((ST.out.b.alloc _).drew).grown gr.grown hgA; have c6 := s6.cell 0; (simp at c6); have f6 := s6.free 0; (refine KH.out _ _ (by (try dsimp only); ((repeat' apply And.intro) <;> (first | (with_reducible assumption) | (with_reducible exact cell_drew (by assumption)) | (with_reducible exact cell_alloc (by assumption) _) | (with_reducible exact cell_alloc_drew (by assumption) _) | (with_reducible exact cell_far0 (by assumption) (by simp; omega))))) (fun hHeld => ?_); clear KH KK; (try simp only [Act.put, List.setIfInBounds_toArray, List.set_cons_zero, List.set_cons_succ])))
    ((refine wpAnyH_take (i := 8) (v := ?_) rfl (by kernel_rfl) (by kernel_rfl) (by kernel_rfl) (fun _ _ _ h => h) (Or.inl ⟨by rfl, ?_⟩) (by assumption) ?_); rotate_left; (focus (intro w hSw; (try dsimp only at hSw); go_simp; try (with_reducible rfl))); (try simp only [Act.put, List.setIfInBounds_toArray, List.set_cons_zero, List.set_cons_succ]); (refine wpAnyH_take (i := 9) (v := ?_) rfl (by kernel_rfl) (by kernel_rfl) (by kernel_rfl) (fun _ _ _ h => h) (Or.inl ⟨by rfl, ?_⟩) (by assumption) ?_); rotate_left; (focus (intro w hSw; (try dsimp only at hSw); go_simp; try (with_reducible rfl))); (try simp only [Act.put, List.setIfInBounds_toArray, List.set_cons_zero, List.set_cons_succ]); (refine wpAnyH_ready (rs := [10]) (by kernel_rfl) (by simp) ?_; refine AllReadyH.cons rfl (fun KK KH => ?_) AllReadyH.nil); go_simp; (refine KH.out _ _ (by (try dsimp only); ((repeat' apply And.intro) <;> (first | (with_reducible assumption) | (with_reducible exact cell_drew (by assumption)) | (with_reducible exact cell_alloc (by assumption) _) | (with_reducible exact cell_alloc_drew (by assumption) _) | (with_reducible exact cell_far0 (by assumption) (by simp; omega))))) (fun hHeld => ?_); clear KH KK; (try simp only [Act.put, List.setIfInBounds_toArray, List.set_cons_zero, List.set_cons_succ])); refine wpAnyH_done (by kernel_rfl) ?_ _; refine NoPanic.normal ?_; have GR := Lib.hid gr; clear gr b6 s6 o0 o1 o2 o3 o4 o5 o6 o7 c6 f6 d0 a0; go_wp2; go_ret; exact putS_ok H.out HE.out hb GR.out hbw)
  · go_simp
    (refine KH.out _ _ (by (try dsimp only); ((repeat' apply And.intro) <;> (first | (with_reducible assumption) | (with_reducible exact cell_drew (by assumption)) | (with_reducible exact cell_alloc (by assumption) _) | (with_reducible exact cell_alloc_drew (by assumption) _) | (with_reducible exact cell_far0 (by assumption) (by simp; omega))))) (fun hHeld => ?_); clear KH KK; (try simp only [Act.put, List.setIfInBounds_toArray, List.set_cons_zero, List.set_cons_succ]))
    (refine wpAnyH_ready (rs := [4]) (by kernel_rfl) (by simp) ?_; refine AllReadyH.cons rfl (fun KK KH => ?_) AllReadyH.nil)
    go_simp
    (refine KH.out _ _ (by (try dsimp only); ((repeat' apply And.intro) <;> (first | (with_reducible assumption) | (with_reducible exact cell_drew (by assumption)) | (with_reducible exact cell_alloc (by assumption) _) | (with_reducible exact cell_alloc_drew (by assumption) _) | (with_reducible exact cell_far0 (by assumption) (by simp; omega))))) (fun hHeld => ?_); clear KH KK; (try simp only [Act.put, List.setIfInBounds_toArray, List.set_cons_zero, List.set_cons_succ]))
    ((refine wpAnyH_ready (rs := [7]) (by kernel_rfl) (by simp) ?_; refine AllReadyH.cons rfl (fun KK KH => ?_) AllReadyH.nil); refine step_append_S (base := base) (s := 8) (n := l.length) (xs := ords l) (by rfl) _ _ _ _ (by rfl) 58 i0 _ 64 Tryd.underlying52 HI.out H0.out H1.out H2.out rfl (by rfl) ((ST.out.own.alloc _).drew) (by simp; omega) _ (by rfl) 1 o.vals (src_block (m := 1) (Bk.new w3 58 #[.int .i64 o.id, .int .i64 o.who, .int .i64 o.side, .int .i64 o.kind, .int .i64 o.price, .int .i64 o.qty, .int .i64 o.show_, .int .i64 o.stop]).drew Tryd.underlying52 rfl o.vals_one 1) (by unfold maxLen; omega) (by omega) ?_; intro A' c' w6 gr; have b6 := ((BO.out.alloc _).drew).grown gr.grown hoA; obtain ⟨o0, o1, o2, o3, o4, o5, o6, o7⟩ := obox b6; have s6 := ((ST.out.b.alloc _).drew).grown gr.grown hgA; have c6 := s6.cell 0; (simp at c6); have f6 := s6.free 0; (refine KH.out _ _ (by (try dsimp only); ((repeat' apply And.intro) <;> (first | (with_reducible assumption) | (with_reducible exact cell_drew (by assumption)) | (with_reducible exact cell_alloc (by assumption) _) | (with_reducible exact cell_alloc_drew (by assumption) _) | (with_reducible exact cell_far0 (by assumption) (by simp; omega))))) (fun hHeld => ?_); clear KH KK; (try simp only [Act.put, List.setIfInBounds_toArray, List.set_cons_zero, List.set_cons_succ])))
    ((refine wpAnyH_take (i := 8) (v := ?_) rfl (by kernel_rfl) (by kernel_rfl) (by kernel_rfl) (fun _ _ _ h => h) (Or.inl ⟨by rfl, ?_⟩) (by assumption) ?_); rotate_left; (focus (intro w hSw; (try dsimp only at hSw); go_simp; try (with_reducible rfl))); (try simp only [Act.put, List.setIfInBounds_toArray, List.set_cons_zero, List.set_cons_succ]); (refine wpAnyH_take (i := 9) (v := ?_) rfl (by kernel_rfl) (by kernel_rfl) (by kernel_rfl) (fun _ _ _ h => h) (Or.inl ⟨by rfl, ?_⟩) (by assumption) ?_); rotate_left; (focus (intro w hSw; (try dsimp only at hSw); go_simp; try (with_reducible rfl))); (try simp only [Act.put, List.setIfInBounds_toArray, List.set_cons_zero, List.set_cons_succ]); (refine wpAnyH_ready (rs := [10]) (by kernel_rfl) (by simp) ?_; refine AllReadyH.cons rfl (fun KK KH => ?_) AllReadyH.nil); go_simp; (refine KH.out _ _ (by (try dsimp only); ((repeat' apply And.intro) <;> (first | (with_reducible assumption) | (with_reducible exact cell_drew (by assumption)) | (with_reducible exact cell_alloc (by assumption) _) | (with_reducible exact cell_alloc_drew (by assumption) _) | (with_reducible exact cell_far0 (by assumption) (by simp; omega))))) (fun hHeld => ?_); clear KH KK; (try simp only [Act.put, List.setIfInBounds_toArray, List.set_cons_zero, List.set_cons_succ])); refine wpAnyH_done (by kernel_rfl) ?_ _; refine NoPanic.normal ?_; have GR := Lib.hid gr; clear gr b6 s6 o0 o1 o2 o3 o4 o5 o6 o7 c6 f6 d0 a0; go_wp2; go_ret; exact putS_ok H.out HE.out hb GR.out hbw)
end Go.Proofs.YtiaofbkhnodbhaaDoor
