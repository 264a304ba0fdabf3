/- The contract of queue.Take. -/
import Derived.Test.YtefncbdkjljbjaaDoorTake2
import Derived.IntWalk
namespace Go.Proofs.YtefncbdkjljbjaaDoor
set_option linter.all false
open Go Go.RowKit
theorem info_fill : (Tryd.prog.info? 135).map (fun i => (i.zero, i.size, i.bytes)) = some (some (.agg #[.int .i64 0, .int .i64 0, .int .i64 0]), 3, 24) := by kernel_rfl
theorem fill_one (a b c : Int) : ∀ u ∈ (#[Value.int .i64 a, .int .i64 b, .int .i64 c] : Array Value).toList, u.oneCell' = true := by
  intro u hu
  simp only [List.mem_cons, List.not_mem_nil, or_false] at hu
  rcases hu with rfl | rfl | rfl <;> rfl
theorem take_bad (l : List Rest) (A : Option Addr) (c : Nat) (n : Int) (w : World) (hr : Rd w w.heap.size A l.length 5 (rcell l)) (hcap : l.length ≤ c) (h : qErr l ≠ 0 ∨ inb n 1 10000 = false) :
    Calls Tryd.prog 41 #[.slice A l.length c, .int .i64 n] w fun e w' => e = .returned (.tuple #[.slice none 0 0, .slice none 0 0, er (if qErr l = 0 then 1 else qErr l)]) ∧ Below w.heap.size w w' := by
  have cC := qcheck_any l A c w hr hcap
  by_cases h0 : qErr l = 0
  · have h1 : inb n 1 10000 = false := by simpa [h0] using h
    rw [h0, show errV 0 = .nilIface from rfl] at cC
    rw [if_pos h0]
    clear h0 h hr
    go_enter Tryd.func41, Tryd.ntmps41
    go_wp2_with (first | (go_at_call 43; refine cC.mono ?_; rintro e w1 ⟨rfl, hb1⟩) | (go_at_call 71; refine (qty_any _ _).mono ?_; rintro e w' ⟨rfl, rfl⟩))
    go_ret3
    exact ⟨rfl, hb1⟩
  · rw [show errV (qErr l) = er (qErr l) by simp [errV, h0]] at cC
    rw [if_neg h0]
    clear h h0 hr
    generalize qErr l = k at *
    go_enter Tryd.func41, Tryd.ntmps41
    go_wp2_with (first | (go_at_call 43; refine cC.mono ?_; rintro e w1 ⟨rfl, hb1⟩))
    go_ret3
    exact ⟨rfl, hb1⟩
theorem apart_nil (A : Option Addr) (c : Nat) : rowOf A c = none ∨ rowOf A c ≠ rowOf none 0 := by
  cases h : rowOf A c
  · exact .inl rfl
  · exact .inr (by simp [rowOf])
theorem take_step {l0 : List Rest} {n0 n : Int} {w wr w1 w2 w3 : World} {r : Rest} {t : List Rest} {fs : List Fill} {A A1 Ao Ao' : Option Addr} {c c1 co co' : Nat} (R : TakeRel l0 n0 w wr (r :: t) n fs A c Ao co) (hn : 1 ≤ n)
    (h1 : OwnS w1 w.heap.size 5 A1 (qFirst r t n).2.length c1 (rows (qFirst r t n).2)) (h2 : wr.grownBy w1 (rowOf A c)) (h3 : rowOf A1 c1 = none ∨ rowOf A1 c1 = rowOf A c ∨ ∃ k, rowOf A1 c1 = some k ∧ wr.heap.size ≤ k) (h4 : Below w1.heap.size w1 w2)
    (gr : Grew w2 w.heap.size 3 Ao co (fs.length + 1) (frows fs ++ (qFirst r t n).1.vals) Ao' co' w3) : TakeRel l0 n0 w w3 (qFirst r t n).2 (n - (qFirst r t n).1.qty) (fs ++ [(qFirst r t n).1]) A1 c1 Ao' co' := by
  have hs := first_sound R.sound hn
  have hne : rowOf A1 c1 = none ∨ rowOf A1 c1 ≠ rowOf Ao co := by
    rcases h3 with h3 | h3 | ⟨k, h3, hk⟩
    · exact .inl h3
    · rw [h3]; exact R.apart
    · refine .inr fun e => ?_
      have := (R.ownF.row_lt k (by rw [← e, h3])).2
      omega
  have hw : w.heap.size ≤ wr.heap.size := R.below.size
  refine ⟨?_, ?_, ?_, ?_, hs.1, by have := R.len; simp only [List.length_cons] at this; omega, by omega, ?_, ?_⟩
  · refine ((h1.below h4).keep gr.grown ?_)
    rcases hne with h | h
    · cases hro : rowOf Ao co
      · exact .inl rfl
      · exact .inr (by rw [h]; simp)
    · exact .inr h
  · rw [frows_app, List.length_append]
    exact gr.own
  · rcases hne with h | h
    · exact .inl h
    · right
      rcases gr.row with h5 | h5
      · rw [h5]; exact h
      · rw [h5]
        intro e
        have := (h1.row_lt _ e).2
        have := h4.size
        omega
  · have b1 : Below w.heap.size w w1 := R.below.grown h2 hw (fun k hk => (R.ownL.row_lt k hk).1)
    have b2 : Below w.heap.size w w2 := b1.trans (h4.mono b1.size)
    exact b2.grown gr.grown b2.size (fun k hk => (R.ownF.row_lt k hk).1)
  · have := R.bound
    rw [List.length_append]
    simp only [List.length_cons, List.length_nil]
    omega
  · rw [R.told, qTake_cons R.sound hn]
    simp
set_option maxRecDepth 20000 in
set_option maxHeartbeats 4000000 in
theorem take_ok (l : List Rest) (A : Option Addr) (c : Nat) (n : Int) (w : World) (hr : Rd w w.heap.size A l.length 5 (rcell l)) (hcap : l.length ≤ c) (hA : A = none → l.length = 0 ∧ c = 0) (h : qErr l = 0) (h1 : inb n 1 10000 = true) :
    Calls Tryd.prog 41 #[.slice A l.length c, .int .i64 n] w (TakePost (qTake l n).1 (qTake l n).2 w) := by
  have cC := qcheck_any l A c w hr hcap
  have hb := bodyBounds h
  have cK := fun w' hr' => clone_rests l A c w' hr' (by omega) hA
  have hn1 : 1 ≤ n ∧ n ≤ 10000 := by simpa [inb] using h1
  obtain ⟨hn1, hn2⟩ := hn1
  rw [h, show errV 0 = .nilIface from rfl] at cC
  have HR := Lib.hid hr
  have HB := Lib.hid hb
  clear hr h hA hb
  obtain ⟨i0, hi, hz0, hz1, hz2⟩ := info_parts info_fill
  have HI := Lib.hid hi; have H0 := Lib.hid hz0; have H1 := Lib.hid hz1; have H2 := Lib.hid hz2; clear hi hz0 hz1 hz2
  go_enter Tryd.func41, Tryd.ntmps41
  go_wp2_with (first | (go_at_call 43; refine cC.mono ?_; rintro e w1 ⟨rfl, hb1⟩) | (go_at_call 71; refine (qty_any _ _).mono ?_; rintro e w' ⟨rfl, rfl⟩) | (go_at_call 80; refine (cK _ ((HR.out.below hb1).more hb1.size)).mono ?_; rintro e w2 ⟨A2, c2, rfl, own2, hb2, hnone2⟩))
  go_loopw [0, 1, 8] (fun ls ns out wr => ∃ (l' : List Rest) (n' : Int) (fs : List Fill) (A' : Option Addr) (c' : Nat) (Ao : Option Addr) (co : Nat), ls = .slice A' l'.length c' ∧ ns = .int .i64 n' ∧ out = .slice Ao fs.length co ∧ TakeRel l n w wr l' n' fs A' c' Ao co) (fun _ ns _ _ => (intOf ns).toNat)
  case atStart => exact ⟨l, n, [], A2, c2, none, 0, rfl, rfl, rfl, own2.lower hb1.size, OwnS.nil _ _ _ _, apart_nil _ _, below_then hb2 hb1, HB.out.2, HB.out.1, by omega, by simp; omega, by simp⟩
  case round =>
    obtain ⟨l', n', fs, A', c', Ao, co, rfl, rfl, rfl, R⟩ := hrel
    clear cK cC
    have hnb := R.bound
    have hn0 := R.pos
    have hlb := R.len
    have hbz := R.below.size
    by_cases hn : n' ≤ 0
    · have hT := R.told
      rw [qTake_le0 hn] at hT
      have cK := fun hr' => clone_rests l' A' c' wr hr' (by omega) (fun e => (R.ownL.none_cap e))
      have KK := Lib.hid (cK (R.ownL.rd (fun i j hi hj => rows_get hi hj)))
      have HT := Lib.hid hT
      have HN := Lib.hid R
      clear R hT cK
      go_wp2_with (go_at_call 80; refine KK.out.mono ?_; rintro e w3 ⟨A3, c3, rfl, own3, hb3, _⟩)
      go_ret3
      rw [HT.out]
      refine ⟨Ao, co, A3, c3, by simp, ?_, own3.lower hbz, below_then hb3 HN.out.below⟩
      simpa using HN.out.ownF.below hb3
    · cases l' with
      | nil =>
        have hT := R.told
        rw [qTake_nil] at hT
        have cK := fun hr' => clone_rests [] A' c' wr hr' (by simp) (fun e => (R.ownL.none_cap e))
        have KK := Lib.hid (cK Rd.nil)
        have HT := Lib.hid hT
        have HN := Lib.hid R
        clear R hT cK
        dsimp only [List.length_nil] at *
        go_wp2_with (go_at_call 80; refine KK.out.mono ?_; rintro e w3 ⟨A3, c3, rfl, own3, hb3, _⟩)
        go_ret3
        rw [HT.out]
        refine ⟨Ao, co, A3, c3, by simp, ?_, own3.lower hbz, below_then hb3 HN.out.below⟩
        simpa using HN.out.ownF.below hb3
      | cons r t =>
        have hs := first_sound R.sound (show 1 ≤ n' by omega)
        obtain ⟨_, hf1, hf2, _⟩ := hs
        have cF := first_any r t n' w.heap.size A' c' wr R.ownL hbz (by omega) (R.sound r (by simp)) (by simp only [List.length_cons] at hlb; omega)
        have KF := Lib.hid cF; clear cF
        have HN := Lib.hid R
        have hn1' : 1 ≤ n' := by omega
        have hlt : (0 : Int) < ((t.length + 1 : Nat) : Int) := by omega
        clear R hn
        simp only [List.length_cons] at *
        go_wp2_with (go_at_call 81; refine KF.out.mono ?_; rintro e w3 ⟨A3, c3, rfl, own3, hg3, hrow3⟩)
        have R := HN.out
        have oF3 : OwnS w3 w.heap.size 3 Ao fs.length co (frows fs) := R.ownF.keep hg3 (by
          rcases R.apart with h | h
          · exact .inl h
          · exact .inr (Ne.symm h))
        have hbz3 := hg3.size
        have TS := Lib.hid (fun (w4 : World) (Ao' : Option Addr) (co' : Nat) gr => take_step (w2 := ((w3.alloc (.cells #[.int .i64 (qFirst r t n').1.id, .int .i64 (qFirst r t n').1.who, .int .i64 (qFirst r t n').1.qty] 135)).alloc (.cells #[.int .i64 (qFirst r t n').1.id, .int .i64 (qFirst r t n').1.who, .int .i64 (qFirst r t n').1.qty] 135)).drew) (w3 := w4) (Ao' := Ao') (co' := co') R hn1' own3 hg3 hrow3 ((((Below.refl _ _).alloc (Nat.le_refl _) _).alloc (by simp) _).drew) gr)
        clear R hrow3 own3 HN
        generalize qFirst r t n' = X at *
        obtain ⟨⟨fid, fwho, fq⟩, l3⟩ := X
        dsimp only at *
        have q0 : (w3.alloc (.cells #[.int .i64 fid, .int .i64 fwho, .int .i64 fq] 135)).cell? ⟨w3.heap.size, 0, none⟩ = some (.int .i64 fid) := by simp
        have q1 : (w3.alloc (.cells #[.int .i64 fid, .int .i64 fwho, .int .i64 fq] 135)).cell? ⟨w3.heap.size, 1, none⟩ = some (.int .i64 fwho) := by simp
        have q2 : (w3.alloc (.cells #[.int .i64 fid, .int .i64 fwho, .int .i64 fq] 135)).cell? ⟨w3.heap.size, 2, none⟩ = some (.int .i64 fq) := by simp
        go_region_held3 (fun w' => w'.cell? ⟨w3.heap.size, 0, none⟩ = some (.int .i64 fid) ∧ w'.cell? ⟨w3.heap.size, 1, none⟩ = some (.int .i64 fwho) ∧ w'.cell? ⟨w3.heap.size, 2, none⟩ = some (.int .i64 fq)) ((repeat' apply And.intro) <;> first | assumption | (exact cell_alloc_drew (by assumption) _) | (exact cell_alloc (by assumption) _) | (exact cell_drew (by assumption)) | (exact below_alloc_drew (by assumption) (Nat.le_refl _) _) | (exact below_alloc (by assumption) (Nat.le_refl _) _) | (exact Below.drew (by assumption))) ((refine step_append_S (base := w.heap.size) (s := 3) (n := fs.length) (xs := frows fs) (by rfl) _ _ _ _ (by rfl) 135 i0 _ 24 Tryd.underlying85 HI.out H0.out H1.out H2.out rfl (by rfl) ((oF3.alloc _).alloc _).drew (by simp; omega) _ (by rfl) 1 (Fill.vals ⟨fid, fwho, fq⟩) (src_block (m := 1) (Bk.drew (Bk.at_ (by simp) 135 #[.int .i64 fid, .int .i64 fwho, .int .i64 fq])) Tryd.underlying85 rfl (fill_one _ _ _) 1) (by unfold maxLen; omega) (by omega) ?_; intro Ao' co' w4 gr; go_loud (have bF : Bk w4 w3.heap.size 135 #[.int .i64 fid, .int .i64 fwho, .int .i64 fq] := Bk.grown (Bk.drew ((Bk.at_ rfl _ _).alloc _)) gr.grown (row_ne oF3 (Nat.le_refl _))); have q0 := bF.cell 0; have q1 := bF.cell 1; have q2 := bF.cell 2; have T4 := Lib.hid (TS.out _ _ _ gr)))
        have hwr : IntKind.i64.wrap (n' - fq) = n' - fq := IntWalk.i64_in _ (by omega)
        have HW := Lib.hid hwr; clear hwr
        go_wp2
        go_roundw
        case rel => exact ⟨l3, n' - fq, _, A3, c3, Ao', co', rfl, by rw [HW.out], by simp, T4.out⟩
        case measure =>
          rw [HW.out]
          simp [intOf]
          omega
end Go.Proofs.YtefncbdkjljbjaaDoor
