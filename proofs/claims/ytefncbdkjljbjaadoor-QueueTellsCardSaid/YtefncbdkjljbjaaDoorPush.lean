/- The contract of queue.Push. -/
import Derived.Test.YtefncbdkjljbjaaDoorTake
import Derived.Deep.DeepCutAuto
namespace Go.Proofs.YtefncbdkjljbjaaDoor
set_option linter.all false
open Go Go.RowKit
/-- what is wrong with one more -/
def pushE (l : List Rest) (r : Rest) : Int := if qErr l ≠ 0 then qErr l else if r.err ≠ 0 then r.err else if 0 ≤ findI l r.id then 7 else if 60 ≤ l.length then 4 else 0
/-- how Push ends where nothing is wrong -/
def PushPost (l : List Rest) (r : Rest) (w : World) (e : Ending) (w' : World) : Prop :=
  ∃ A' c', e = .returned (.tuple #[.slice A' (l.length + 1) c', .nilIface]) ∧ OwnS w' w.heap.size 5 A' (l.length + 1) c' (rows (l ++ [r])) ∧ Below w.heap.size w w'
set_option maxHeartbeats 2000000 in
theorem push_bad (l : List Rest) (A : Option Addr) (c : Nat) (r : Rest) (w : World) (hr : Rd w w.heap.size A l.length 5 (rcell l)) (hcap : l.length ≤ c) (h : pushE l r ≠ 0) :
    Calls Tryd.prog 40 #[.slice A l.length c, .agg #[.int .i64 r.id, .int .i64 r.who, .int .i64 r.qty, .int .i64 r.hidden, .int .i64 r.show_]] w fun e w' => e = .returned (.tuple #[.slice none 0 0, er (pushE l r)]) ∧ Below w.heap.size w w' := by
  have cC := Lib.hid fun w' hr' => qcheck_any l A c w' hr' hcap
  have cO := fun w' => one_any r w'
  have HR := Lib.hid hr
  clear hr
  have hb0 : Below w.heap.size w (w.alloc (.cells #[.int .i64 r.id, .int .i64 r.who, .int .i64 r.qty, .int .i64 r.hidden, .int .i64 r.show_] 70)) := (Below.refl _ _).alloc (Nat.le_refl _) _
  by_cases h0 : qErr l = 0
  case neg =>
    rw [show pushE l r = qErr l by rw [pushE, if_pos h0]]
    rw [show errV (qErr l) = er (qErr l) by simp [errV, h0]] at cC
    clear h cO h0
    generalize qErr l = k at *
    go_enter Tryd.func40, Tryd.ntmps40
    go_wp2_with fail
    go_at_call 43
    refine (cC.out _ ((HR.out.below hb0).more hb0.size)).mono ?_
    rintro e w1 ⟨rfl, hb1⟩
    go_wp2
    go_ret2
    exact ⟨rfl, below_then hb1 hb0⟩
  case pos =>
    rw [h0, show errV 0 = .nilIface from rfl] at cC
    have hl := (bodyBounds h0).1
    have cF := Lib.hid fun w' hr' => find_any l A c r.id w' hr' (by omega)
    by_cases h1 : r.err = 0
    case neg =>
      rw [show pushE l r = r.err by rw [pushE, if_neg (by simpa using h0), if_pos h1]]
      rw [show errV r.err = er r.err by simp [errV, h1]] at cO
      have CO := Lib.hid cO
      clear h cO h0 h1 cF
      generalize r.err = k at *
      obtain ⟨id, who, qty, hidden, show_⟩ := r
      dsimp only at *
      go_enter Tryd.func40, Tryd.ntmps40
      go_wp2_with fail
      go_at_call 43
      refine (cC.out _ ((HR.out.below hb0).more hb0.size)).mono ?_
      rintro e w1 ⟨rfl, hb1⟩
      have bx := (Bk.new w 70 #[.int .i64 id, .int .i64 who, .int .i64 qty, .int .i64 hidden, .int .i64 show_]).keep hb1
      have q0 := bx.cell 0; have q1 := bx.cell 1; have q2 := bx.cell 2; have q3 := bx.cell 3; have q4 := bx.cell 4
      go_wp2_with fail
      go_at_call 77
      refine (CO.out _).mono ?_
      rintro e w2 ⟨rfl, rfl⟩
      go_wp2
      go_ret2
      exact ⟨rfl, below_then_alloc (below_then hb1 hb0)⟩
    case pos =>
      rw [h1, show errV 0 = .nilIface from rfl] at cO
      have CO := Lib.hid cO
      have hE : pushE l r = if 0 ≤ findI l r.id then 7 else 4 := by
        rw [pushE, if_neg (by simpa using h0), if_neg (by simpa using h1)] at h ⊢
        by_cases hf : 0 ≤ findI l r.id
        · rw [if_pos hf, if_pos hf]
        · rw [if_neg hf] at h ⊢
          rw [if_neg hf]
          by_cases hl2 : 60 ≤ l.length
          · rw [if_pos hl2]
          · rw [if_neg hl2] at h; omega
      have hL : ¬ 0 ≤ findI l r.id → 60 ≤ l.length := by
        intro hf
        rw [pushE, if_neg (by simpa using h0), if_neg (by simpa using h1), if_neg hf] at h
        by_cases hl2 : 60 ≤ l.length
        · exact hl2
        · rw [if_neg hl2] at h; omega
      by_cases hf : 0 ≤ findI l r.id
      all_goals
        first
          | rw [hE, if_pos hf]
          | (rw [hE, if_neg hf]; have hl60 := hL hf; have hl6 : (60 : Int) ≤ (l.length : Int) := (by omega))
        clear h cO h0 h1 hE hL
        generalize hfi : findI l r.id = fi at *
        clear hfi
        obtain ⟨id, who, qty, hidden, show_⟩ := r
        dsimp only at *
        go_enter Tryd.func40, Tryd.ntmps40
        go_wp2_with fail
        go_at_call 43
        refine (cC.out _ ((HR.out.below hb0).more hb0.size)).mono ?_
        rintro e w1 ⟨rfl, hb1⟩
        have bx := (Bk.new w 70 #[.int .i64 id, .int .i64 who, .int .i64 qty, .int .i64 hidden, .int .i64 show_]).keep hb1
        have q0 := bx.cell 0; have q1 := bx.cell 1; have q2 := bx.cell 2; have q3 := bx.cell 3; have q4 := bx.cell 4
        have hb1' := below_then hb1 hb0
        go_wp2_with fail
        go_at_call 77
        refine (CO.out _).mono ?_
        rintro e w2 ⟨rfl, rfl⟩
        have hb2' : Below w.heap.size w (w1.alloc (.cells #[.int .i64 id, .int .i64 who, .int .i64 qty, .int .i64 hidden, .int .i64 show_] 70)) := below_then_alloc hb1'
        have c0 := (bx.alloc (.cells #[.int .i64 id, .int .i64 who, .int .i64 qty, .int .i64 hidden, .int .i64 show_] 70)).cell 0
        go_wp2_with fail
        go_at_call 79
        refine (cF.out _ ((HR.out.below hb2').more hb2'.size)).mono ?_
        rintro e w3 ⟨rfl, hb3⟩
        go_wp2
        go_ret2
        exact ⟨rfl, below_then hb3 hb2'⟩
theorem Below.drew_keep {w w' : World} (h : Below w.drew.heap.size w.drew w') : Below w.heap.size w w' := ⟨h.os, h.tape, h.output, h.size, h.block⟩
theorem Below.alloc_keep {w w' : World} {o : Obj} (h : Below (w.alloc o).drew.heap.size (w.alloc o).drew w') : Below w.heap.size w w' := ((Below.refl _ _).alloc (Nat.le_refl _) o).drew.trans (h.mono (by simp))
set_option maxRecDepth 20000 in
set_option maxHeartbeats 4000000 in
theorem push_ok (l : List Rest) (A : Option Addr) (c : Nat) (r : Rest) (w : World) (hr : Rd w w.heap.size A l.length 5 (rcell l)) (hcap : l.length ≤ c) (hA : A = none → l.length = 0 ∧ c = 0) (h : pushE l r = 0) :
    Calls Tryd.prog 40 #[.slice A l.length c, .agg #[.int .i64 r.id, .int .i64 r.who, .int .i64 r.qty, .int .i64 r.hidden, .int .i64 r.show_]] w (PushPost l r w) := by
  have h0 : qErr l = 0 := by
    by_cases h0 : qErr l = 0
    · exact h0
    · rw [pushE, if_pos h0] at h; exact absurd h h0
  have h1 : r.err = 0 := by
    by_cases h1 : r.err = 0
    · exact h1
    · rw [pushE, if_neg (by simpa using h0), if_pos h1] at h; exact absurd h h1
  have h2 : findI l r.id < 0 := by
    by_cases h2 : 0 ≤ findI l r.id
    · rw [pushE, if_neg (by simpa using h0), if_neg (by simpa using h1), if_pos h2] at h; omega
    · omega
  have h3 : l.length < 60 := by
    by_cases h3 : 60 ≤ l.length
    · rw [pushE, if_neg (by simpa using h0), if_neg (by simpa using h1), if_neg (by omega), if_pos h3] at h; omega
    · omega
  have cC := fun w' hr' => qcheck_any l A c w' hr' hcap
  have cO := fun w' => one_any r w'
  rw [h0, show errV 0 = .nilIface from rfl] at cC
  rw [h1, show errV 0 = .nilIface from rfl] at cO
  have CC := Lib.hid cC
  have CO := Lib.hid cO
  have cF := Lib.hid fun w' hr' => find_any l A c r.id w' hr' (by omega)
  have HR := Lib.hid hr
  have hb0 : Below w.heap.size w (w.alloc (.cells #[.int .i64 r.id, .int .i64 r.who, .int .i64 r.qty, .int .i64 r.hidden, .int .i64 r.show_] 70)) := (Below.refl _ _).alloc (Nat.le_refl _) _
  obtain ⟨i0, hi, hz0, hz1, hz2⟩ := info_parts info_rest
  have HI := Lib.hid hi; have H0 := Lib.hid hz0; have H1 := Lib.hid hz1; have H2 := Lib.hid hz2; clear hi hz0 hz1 hz2
  have h6 : (l.length : Int) < 60 := by omega
  clear h h0 h1 cC cO hr
  generalize findI l r.id = fi at *
  obtain ⟨id, who, qty, hidden, show_⟩ := r
  dsimp only at *
  go_enter Tryd.func40, Tryd.ntmps40
  go_wp2_with fail
  go_at_call 43
  refine (CC.out _ ((HR.out.below hb0).more hb0.size)).mono ?_
  rintro e w1 ⟨rfl, hb1⟩
  have bx := (Bk.new w 70 #[.int .i64 id, .int .i64 who, .int .i64 qty, .int .i64 hidden, .int .i64 show_]).keep hb1
  have q0 := bx.cell 0; have q1 := bx.cell 1; have q2 := bx.cell 2; have q3 := bx.cell 3; have q4 := bx.cell 4
  have hb1' := below_then hb1 hb0
  go_wp2_with fail
  go_at_call 77
  refine (CO.out _).mono ?_
  rintro e w2 ⟨rfl, rfl⟩
  have hb2' : Below w.heap.size w (w1.alloc (.cells #[.int .i64 id, .int .i64 who, .int .i64 qty, .int .i64 hidden, .int .i64 show_] 70)) := below_then_alloc hb1'
  have bx2 := bx.alloc (.cells #[.int .i64 id, .int .i64 who, .int .i64 qty, .int .i64 hidden, .int .i64 show_] 70)
  have c0 := bx2.cell 0
  clear q0 q1 q2 q3 q4
  go_wp2_with fail
  go_at_call 79
  refine (cF.out _ ((HR.out.below hb2').more hb2'.size)).mono ?_
  rintro e w3 ⟨rfl, hb3⟩
  have bx3 := bx2.keep hb3
  have hb3' := below_then hb3 hb2'
  have hRW := Lib.hid ((HR.out.below hb3').more hb3'.size)
  clear c0 hb1 hb2' hb3 hb1' hb0
  have s0 := bx3.cell 0; have s1 := bx3.cell 1; have s2 := bx3.cell 2; have s3 := bx3.cell 3; have s4 := bx3.cell 4
  simp only [List.getElem?_toArray, List.getElem?_cons_zero, List.getElem?_cons_succ] at s0 s1 s2 s3 s4
  have hsz := hb3'.size
  go_upto_region 11 with fail
  go_region_held3 (fun w' => w'.cell? ⟨w.heap.size, 0, none⟩ = some (.int .i64 id) ∧ w'.cell? ⟨w.heap.size, 1, none⟩ = some (.int .i64 who) ∧ w'.cell? ⟨w.heap.size, 2, none⟩ = some (.int .i64 qty) ∧ w'.cell? ⟨w.heap.size, 3, none⟩ = some (.int .i64 hidden) ∧ w'.cell? ⟨w.heap.size, 4, none⟩ = some (.int .i64 show_)) ((repeat' apply And.intro) <;> first | assumption | (exact cell_alloc_drew (by assumption) _) | (exact cell_alloc (by assumption) _) | (exact cell_drew (by assumption)) | (exact below_alloc_drew (by assumption) (Nat.le_refl _) _) | (exact below_alloc (by assumption) (Nat.le_refl _) _) | (exact Below.drew (by assumption))) (first | (go_at_call 80; go_loud (refine (clone_rests l A c _ (by first | exact hRW.out | exact (hRW.out.below ((Below.refl _ _).alloc (Nat.le_refl _) _)).more (by simp)) (by omega) hA).mono ?_); rintro e w4 ⟨A4, c4, rfl, own4, hb4, _⟩; go_loud (have bx4 : Bk w4 w.heap.size 70 #[.int .i64 id, .int .i64 who, .int .i64 qty, .int .i64 hidden, .int .i64 show_] := by first | exact bx3.drew.keep hb4 | exact (bx3.drew.alloc _).keep hb4 | exact ((bx3.alloc _).drew).keep hb4); have s0 := bx4.cell 0; have s1 := bx4.cell 1; have s2 := bx4.cell 2; have s3 := bx4.cell 3; have s4 := bx4.cell 4; go_loud (have hne : some w.heap.size ≠ rowOf A4 c4 := fun e => by have h1 := (own4.row_lt _ e.symm).1; have h2 := bx3.lt; simp at h1; omega)) | (refine step_append_S (base := w.heap.size) (s := 5) (n := l.length) (xs := rows l) (by rfl) _ _ _ _ (by rfl) 70 i0 _ 40 Tryd.underlying82 HI.out H0.out H1.out H2.out rfl (by rfl) (by first | exact own4.lower (by simp; omega) | exact (own4.lower (by simp; omega)).alloc _ | exact ((own4.lower (by simp; omega)).alloc _).drew) (by have := hb4.size; simp at this ⊢; omega) _ (by rfl) 1 (Rest.vals ⟨id, who, qty, hidden, show_⟩) (by first | exact src_block (m := 1) (Bk.at_ (by simp) 70 #[.int .i64 id, .int .i64 who, .int .i64 qty, .int .i64 hidden, .int .i64 show_]) Tryd.underlying82 rfl (rest_one _ _ _ _ _) 1 | exact src_block (m := 1) ((Bk.new w3 70 #[.int .i64 id, .int .i64 who, .int .i64 qty, .int .i64 hidden, .int .i64 show_]).drew.keep hb4) Tryd.underlying82 rfl (rest_one _ _ _ _ _) 1) (by unfold maxLen; omega) (by omega) ?_; intro A6 c6 w6 gr; go_loud (have bx6 : Bk w6 w.heap.size 70 #[.int .i64 id, .int .i64 who, .int .i64 qty, .int .i64 hidden, .int .i64 show_] := by first | exact bx4.grown gr.grown hne | exact (bx4.alloc _).grown gr.grown hne | exact ((bx4.alloc _).drew).grown gr.grown hne); have s0 := bx6.cell 0; have s1 := bx6.cell 1; have s2 := bx6.cell 2; have s3 := bx6.cell 3; have s4 := bx6.cell 4))
  all_goals
    go_wp2
    go_ret2
    refine ⟨A6, c6, rfl, ?_, ?_⟩
    · rw [rows_app]; exact gr.own
    · have hb5 : Below w.heap.size w w4 := by first | exact hb3'.trans ((Below.drew_keep hb4).mono hsz) | exact hb3'.trans ((Below.alloc_keep hb4).mono hsz)
      first | exact hb5.grown gr.grown hb5.size (fun k hk => Nat.le_trans hsz (by have := (own4.row_lt k hk).1; simp at this; omega)) | exact (hb5.alloc hb5.size _).grown gr.grown (by have := hb5.size; simp; omega) (fun k hk => Nat.le_trans hsz (by have := (own4.row_lt k hk).1; simp at this; omega))
end Go.Proofs.YtefncbdkjljbjaaDoor
