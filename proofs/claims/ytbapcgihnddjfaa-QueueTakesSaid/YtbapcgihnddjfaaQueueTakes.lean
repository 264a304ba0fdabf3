/- The walk of QueueTakes. -/
import Derived.Test.YtbapcgihnddjfaaTake3
import Derived.Test.YtbapcgihnddjfaaTakeLaw
import Derived.Test.YtbapcgihnddjfaaRests
import Derived.Test.YtbapcgihnddjfaaRestsArg
import Derived.Deep.DeepCutAuto
namespace Go.Proofs.Ytbapcgihnddjfaa
open Go Go.RowKit
def qOne : List Rest := [⟨1, 1, 5, 3, 5⟩, ⟨2, 2, 4, 0, 0⟩]
theorem qOne_err : qErr qOne = 0 := by decide
theorem qOne_take : qTake qOne 6 = ([⟨1, 1, 5⟩, ⟨2, 2, 1⟩], [⟨2, 2, 3, 0, 0⟩, ⟨1, 1, 3, 0, 5⟩]) := by decide
def OnePost (w : World) (e : Ending) (w' : World) : Prop :=
  ∃ g off co A c, e = .returned (.tuple #[.slice (some ⟨g, off, none⟩) 2 co, .slice A 2 c, .nilIface]) ∧ w'.cell? ⟨g, off + 2, none⟩ = some (.int .i64 5) ∧ w'.cell? ⟨g, off + 3, none⟩ = some (.int .i64 2) ∧ Below w.heap.size w w'
theorem one_take (w : World) {g : Nat} (hk : Bk w g 49 #[.int .i64 1, .int .i64 1, .int .i64 5, .int .i64 3, .int .i64 5, .int .i64 2, .int .i64 2, .int .i64 4, .int .i64 0, .int .i64 0]) :
    Calls Try.prog 22 #[.slice (some ⟨g, 0, none⟩) 2 2, .int .i64 6] w (OnePost w) := by
  have hr : Rd w w.heap.size (some ⟨g, 0, none⟩) 2 5 (rcell qOne) := fun _ => ⟨g, 0, rfl, hk.lt, fun i hi j hj => by
    rw [hk.cell]
    match i, hi with
    | 0, _ => match j, hj with
      | 0, _ => rfl
      | 1, _ => rfl
      | 2, _ => rfl
      | 3, _ => rfl
      | 4, _ => rfl
    | 1, _ => match j, hj with
      | 0, _ => rfl
      | 1, _ => rfl
      | 2, _ => rfl
      | 3, _ => rfl
      | 4, _ => rfl⟩
  have := take_ok qOne (some ⟨g, 0, none⟩) 2 6 w hr (by decide) (fun h => by cases h) qOne_err (by decide)
  rw [qOne_take] at this
  refine this.mono fun e w' h => ?_
  obtain ⟨Ao, co, A, c, rfl, oF, _, hb⟩ := h
  obtain ⟨b, off, rfl, _, _, hc, _⟩ := oF.cell (by decide)
  exact ⟨b, off, co, A, c, rfl, hc 2 (by decide), hc 3 (by decide), hb⟩
set_option maxRecDepth 100000 in
set_option maxHeartbeats 4000000 in
theorem takes_bad (l : List Rest) (A : Option Addr) (c : Nat) (n cut : Int) (w : World) (hr : Rd w w.heap.size A l.length 5 (rcell l)) (hcap : l.length ≤ c) (h : qErr l ≠ 0 ∨ inb n 1 10000 = false) :
    Calls Try.prog 12 #[.slice A l.length c, .int .i64 n, .int .i64 cut] w fun e w' => e = .returned (.bool true) ∧ Below w.heap.size w w' := by
  have HR := Lib.hid hr
  have cT := Lib.hid (fun w' hr' => total_any l A c w' hr' hcap)
  have cK := Lib.hid (fun w' hr' => take_bad l A c n w' hr' hcap h)
  have cO := Lib.hid (fun w' g hk => one_take w' (g := g) hk)
  clear hr h
  generalize (if qErr l = 0 then allQ l else 0) = S at *
  generalize errV (qErr l) = E at *
  generalize (if qErr l = 0 then 1 else qErr l) = K at *
  go_enter Try.func12, Try.ntmps12
  go_wp2_with fail
  go_at_call 22
  refine (cO.out _ _ (Bk.at_ (by simp) _ _)).mono ?_
  rintro e w1 ⟨g, off, co, A1, c1, rfl, q0, q1, hb1⟩
  have hb1' : Below w.heap.size w w1 := below_then hb1 ((Below.refl _ _).alloc (Nat.le_refl _) _)
  go_wp2_with fail
  go_at_call 35
  refine (cT.out _ ((HR.out.below hb1').more hb1'.size)).mono ?_
  rintro e w2 ⟨rfl, hb2⟩
  have hb2' := below_then hb2 hb1'
  go_wp2_with fail
  go_at_call 22
  refine (cK.out _ ((HR.out.below hb2').more hb2'.size)).mono ?_
  rintro e w3 ⟨rfl, hb3⟩
  have hb3' := below_then hb3 hb2'
  go_wp2
  go_ret
  exact ⟨rfl, hb3'⟩
theorem fill_at {w : World} {base co k : Nat} {Ao : Option Addr} {fs : List Fill} (h : OwnS w base 3 Ao fs.length co (frows fs)) (hk : k < fs.length) :
    ∃ g off f, Ao = some ⟨g, off, none⟩ ∧ base ≤ g ∧ g < w.heap.size ∧ fs[k]? = some f ∧ w.cell? ⟨g, off + k * 3, none⟩ = some (.int .i64 f.id) ∧ w.cell? ⟨g, off + k * 3 + 1, none⟩ = some (.int .i64 f.who) ∧ w.cell? ⟨g, off + k * 3 + 2, none⟩ = some (.int .i64 f.qty) := by
  obtain ⟨g, off, rfl, hb, hl, hc, _⟩ := h.cell (by omega)
  have hf : fs[k]? = some fs[k] := List.getElem?_eq_getElem hk
  have hg := fun j (hj : j < 3) => flat_get (f := Fill.vals) (s := 3) (fun _ => rfl) hf hj
  refine ⟨g, off, fs[k], rfl, hb, hl, hf, ?_, ?_, ?_⟩
  · exact (hc (k * 3) (by omega)).trans (hg 0 (by omega))
  · rw [Nat.add_assoc]; exact (hc (k * 3 + 1) (by omega)).trans (hg 1 (by omega))
  · rw [Nat.add_assoc]; exact (hc (k * 3 + 2) (by omega)).trans (hg 2 (by omega))
theorem sumF_bounds {fs : List Fill} {n : Int} (h : ∀ x ∈ fs, 1 ≤ x.qty ∧ x.qty ≤ n) : ∀ k, 0 ≤ sumF (fs.take k) ∧ sumF (fs.take k) ≤ sumF fs := by
  intro k
  have e : sumF fs = sumF (fs.take k) + sumF (fs.drop k) := by
    simp only [sumF]
    rw [← List.sum_append, ← List.map_append, List.take_append_drop]
  have pos : ∀ l : List Fill, (∀ x ∈ l, 1 ≤ x.qty ∧ x.qty ≤ n) → 0 ≤ sumF l := by
    intro l
    induction l with
    | nil => intro _; simp [sumF]
    | cons x l ih =>
      intro h
      have h1 := h x (by simp)
      have h2 := ih (fun y hy => h y (by simp [hy]))
      simp only [sumF, List.map_cons, List.sum_cons] at h2 ⊢
      omega
  have h1 := pos (fs.take k) (fun x hx => h x (List.mem_of_mem_take hx))
  have h2 := pos (fs.drop k) (fun x hx => h x (List.mem_of_mem_drop hx))
  omega
theorem len_le_sum : ∀ {fs : List Fill} {n : Int}, (∀ x ∈ fs, 1 ≤ x.qty ∧ x.qty ≤ n) → (fs.length : Int) ≤ sumF fs
  | [], _, _ => by simp [sumF]
  | x :: fs, n, h => by
    have h1 := h x (by simp)
    have h2 := len_le_sum (fs := fs) (n := n) (fun y hy => h y (by simp [hy]))
    simp only [sumF, List.map_cons, List.sum_cons, List.length_cons] at h2 ⊢
    omega
set_option maxRecDepth 100000 in
set_option maxHeartbeats 8000000 in
theorem takes_ok (l : List Rest) (A : Option Addr) (c : Nat) (n cut : Int) (w : World) (hr : Rd w w.heap.size A l.length 5 (rcell l)) (hcap : l.length ≤ c) (hA : A = none → l.length = 0 ∧ c = 0) (h : qErr l = 0) (h1 : inb n 1 10000 = true) :
    Calls Try.prog 12 #[.slice A l.length c, .int .i64 n, .int .i64 cut] w fun e w' => e = .returned (.bool true) ∧ Below w.heap.size w w' := by
  have HR := Lib.hid hr
  have cT := fun w' hr' => total_any l A c w' hr' hcap
  have cK := Lib.hid (fun w' hr' m hm => take_ok l A c m w' hr' hcap hA h hm)
  have cO := Lib.hid (fun w' g hk => one_take w' (g := g) hk)
  have hq := qErr_iff.1 h
  have hn : 1 ≤ n ∧ n ≤ 10000 := by simpa [inb] using h1
  obtain ⟨n1, n2⟩ := hn
  have HK := Lib.hid (took n.toNat l n (Nat.le_refl _) (by omega) hq.2.1 hq.2.2)
  have HE := Lib.hid (took_err (n := n) h (by omega))
  have hl60 := hq.1
  rw [h] at cT
  rw [if_pos rfl, show errV 0 = .nilIface from rfl] at cT
  have HB := Lib.hid (allQ_bounds hq.2.1)
  have hd : ∀ r t, l = r :: t → ∃ f fs', (qTake l n).1 = f :: fs' ∧ f.id = r.id := fun r t e => by
    have := hq.2.1
    rw [e] at this ⊢
    exact take_head this n1
  have HD := Lib.hid hd; clear hd
  have HS := Lib.hid hq.2.1
  have HQ := Lib.hid h
  have H1 := Lib.hid h1
  have HT := Lib.hid cT
  clear hr h hq h1 cT
  have hX : ∃ X, qTake l n = X := ⟨_, rfl⟩
  obtain ⟨⟨fs, rs⟩, hX⟩ := hX
  have HX := Lib.hid hX
  rw [hX] at HK HE HD
  dsimp only at HK HE HD
  clear hX
  go_enter Try.func12, Try.ntmps12
  go_wp2_with fail
  go_at_call 22
  refine (cO.out _ _ (Bk.at_ (by simp) _ _)).mono ?_
  rintro e w1 ⟨g, off, co, A1, c1, rfl, q0, q1, hb1⟩
  have hb1' : Below w.heap.size w w1 := below_then hb1 ((Below.refl _ _).alloc (Nat.le_refl _) _)
  go_wp2_with fail
  go_at_call 35
  refine (HT.out _ ((HR.out.below hb1').more hb1'.size)).mono ?_
  rintro e w2 ⟨rfl, hb2⟩
  have hb2' := below_then hb2 hb1'
  clear q0 q1
  go_wp2_with fail
  go_at_call 22
  refine (cK.out _ ((HR.out.below hb2').more hb2'.size) _ H1.out).mono ?_
  rw [HX.out]
  rintro e w3 ⟨Ao, cf, A', c', rfl, oF, oR, hb3⟩
  dsimp only at oF oR
  dsimp only
  have hb3' := below_then hb3 hb2'
  have cR := Lib.hid (fun w' hr' => total_any rs A' c' w' hr' oR.le)
  rw [HE.out, if_pos rfl, show errV 0 = .nilIface from rfl] at cR
  have rd3 := oR.rd (c := rcell rs) (fun i j hi hj => rows_get hi hj)
  have RD3 := Lib.hid rd3; clear rd3
  have OR := Lib.hid oR; have OF := Lib.hid oF
  clear oR oF
  go_wp2_with fail
  go_at_call 35
  refine (cR.out _ RD3.out).mono ?_
  rintro e w4 ⟨rfl, hb4⟩
  have hb4' := below_then hb4 hb3'
  have of4 := Lib.hid (OF.out.below hb4)
  have hfl := len_le_sum HK.out.each
  have hfn := HK.out.le
  have hlen : (fs.length : Int) ≤ 10000 := by omega
  have HF := Lib.hid (sumF_bounds HK.out.each)
  have hT := HK.out.all
  have HT2 := Lib.hid hT
  obtain ⟨b1, b2⟩ := HB.out
  obtain ⟨b3, b4⟩ := allQ_bounds HK.out.sound
  have hrl := HK.out.len
  clear hT
  go_wp2_with fail
  go_loop [18, 19] (fun s i => ∃ k : Nat, k ≤ fs.length ∧ i = .int .i64 k ∧ s = .int .i64 (sumF (fs.take k))) (fun _ i => fs.length - (intOf i).toNat)
  case atStart => exact ⟨0, by omega, rfl, by simp [sumF]⟩
  case round =>
    obtain ⟨k, hk, rfl, rfl⟩ := hrel
    obtain ⟨s1, s2⟩ := HF.out k
    by_cases hlt : k < fs.length
    · obtain ⟨g2, of2, f, rfl, _, _, hf, x0, x1, x2⟩ := fill_at of4.out hlt
      obtain ⟨f1, f2⟩ := HK.out.each f (List.mem_of_getElem? hf)
      have hst := sumF_take hf
      obtain ⟨s3, s4⟩ := HF.out (k + 1)
      rw [hst] at s3 s4
      have HST := Lib.hid hst
      clear hst hf
      go_wp2
      go_round
      case rel => exact ⟨k + 1, by omega, by go_num, by rw [HST.out]⟩
      case measure => simp [intOf]; omega
    · obtain rfl : k = fs.length := by omega
      rw [List.take_length]
      have hS0 := (HF.out fs.length).1
      rw [List.take_length] at hS0
      have hNr : sumF fs < n → allQ rs = 0 := fun h => by rw [HK.out.rest h]; rfl
      have HN := Lib.hid hNr
      clear hNr s1 s2
      rw [← HT2.out]
      have hTl := HT2.out
      have HL0 := Lib.hid (show l.length = 0 → sumF fs + allQ rs = 0 from fun h => by rw [hTl, List.eq_nil_of_length_eq_zero h]; rfl)
      clear hTl
      generalize sumF fs = S at *
      generalize allQ rs = N at *
      have x1 : IntKind.i64.wrap (S + N) = S + N := IntWalk.i64_in _ (by omega)
      have X1 := Lib.hid x1; clear x1
      have g1 : decide (n < S) = false := by simp; omega
      by_cases hl0 : l.length = 0
      · have h0 := HL0.out hl0
        have g2 : decide (S < n) = true := by simp; omega
        have g3 : (N == 0) = true := by simp; omega
        have g5 : (N != 0) = false := by simp; omega
        have g4 : decide (0 < l.length) = false := decide_eq_false (by omega)
        have hlz : (l.length : Int) ≤ 0 := by omega
        clear h0 hl0
        go_upto_region 17 with fail
        have x1 := X1.out
        go_quiet (fail)
        clear x1
        rcases (show cut < 1 ∨ (1 ≤ cut ∧ n ≤ cut) ∨ (1 ≤ cut ∧ cut < n) by omega) with hc | ⟨hc, hc2⟩ | ⟨hc, hc2⟩
        · go_wp2
          go_ret
          exact ⟨rfl, below_drewN hb4' _⟩
        · go_wp2
          go_ret
          exact ⟨rfl, below_drewN hb4' _⟩
        · have hb5 := below_drewN hb4' nq
          have oR5 := Lib.hid ((OR.out.below hb4).drewN nq)
          generalize hW : w4.drewN nq = W5 at *
          clear hW
          go_wp2_with fail
          go_at_call 22
          refine (cK.out _ ((HR.out.below hb5).more hb5.size) cut (by simp [inb]; omega)).mono ?_
          rintro e w6 ⟨Ao6, c6, A6, d6, rfl, oF6, oR6, hb6⟩
          have hb6' := below_then hb6 hb5
          have two := take_two cut.toNat l cut n (Nat.le_refl _) (by omega) (by omega) HS.out
          have te6 := took_err (n := cut) HQ.out (by omega)
          have cH := take_ok (qTake l cut).2 A6 d6 (n - cut) w6 (oR6.rd (fun i j hi hj => rows_get hi hj)) oR6.le (fun e => oR6.none_cap e) te6 (by simp [inb]; omega)
          rw [HX.out] at two
          have CH := Lib.hid cH
          have TWO := Lib.hid two
          clear cH two te6 oF6 oR6
          generalize qTake l cut = X6 at *
          go_wp2_with fail
          go_at_call 22
          refine CH.out.mono ?_
          rw [TWO.out]
          rintro e w7 ⟨Ao7, c7, A7, d7, rfl, oF7, oR7, hb7⟩
          have hb7' := below_then hb7 hb6'
          have cS := rests_any rs rs A7 A' d7 c' w7 (oR7.rd (fun i j hi hj => rows_get hi hj)) (((oR5.out.below hb6).below hb7).rd (fun i j hi hj => rows_get hi hj)) (by omega) (by omega)
          rw [show decide (rs = rs) = true by simp] at cS
          have CS := Lib.hid cS
          clear cS oF7 oR7
          go_wp2_with fail
          go_at_call 36
          refine CS.out.mono ?_
          rintro e w8 ⟨rfl, hb8⟩
          have hb8' := below_then hb8 hb7'
          go_wp2
          go_ret
          exact ⟨rfl, hb8'⟩
      · obtain ⟨g2, of2, f, rfl, _, _, hf, y0, _, _⟩ := fill_at of4.out (k := 0) (by
          obtain ⟨r, t, e⟩ := List.exists_cons_of_length_pos (Nat.pos_of_ne_zero hl0)
          obtain ⟨f, fs', e2, _⟩ := HD.out r t e
          rw [e2]; simp)
        obtain ⟨b3', of3, r, rfl, _, hr0, z0, _, _, _, _⟩ := rest_at ((HR.out.below hb4').more hb4'.size) (k := 0) (by omega)
        have hfr : f.id = r.id := by
          obtain ⟨r', t, e⟩ := List.exists_cons_of_length_pos (Nat.pos_of_ne_zero hl0)
          obtain ⟨f', fs', e2, e3⟩ := HD.out r' t e
          rw [e2] at hf
          rw [e] at hr0
          simp only [List.getElem?_cons_zero, Option.some.injEq] at hf hr0
          rw [← hf, ← hr0, e3]
        rw [Nat.zero_mul, Nat.add_zero] at y0 z0
        rw [hfr] at y0
        have hflp : 0 < fs.length := (List.getElem?_eq_some_iff.1 hf).1
        have g4 : decide (0 < l.length) = true := decide_eq_true (by omega)
        have g6 : ((fs.length : Int) == 0) = false := beq_eq_false_iff_ne.2 (by omega)
        have g7 : (0 : Int) < (fs.length : Int) := by omega
        have g8 : (0 : Int) < (l.length : Int) := by omega
        have g9 : 0 < l.length := by omega
        clear hf hr0 hfr
        by_cases hSn : S < n
        · have hN0 := HN.out hSn
          have g2 : decide (S < n) = true := by simp; omega
          have g3 : (N == 0) = true := by simp; omega
          have g5 : (N != 0) = false := by simp; omega
          clear hN0
          go_upto_region 17 with fail
          have x1 := X1.out
          go_quiet (fail)
          clear x1
          rcases (show cut < 1 ∨ (1 ≤ cut ∧ n ≤ cut) ∨ (1 ≤ cut ∧ cut < n) by omega) with hc | ⟨hc, hc2⟩ | ⟨hc, hc2⟩
          · go_wp2
            go_ret
            exact ⟨rfl, below_drewN hb4' _⟩
          · go_wp2
            go_ret
            exact ⟨rfl, below_drewN hb4' _⟩
          · have hb5 := below_drewN hb4' nq
            have oR5 := Lib.hid ((OR.out.below hb4).drewN nq)
            generalize hW : w4.drewN nq = W5 at *
            clear hW
            go_wp2_with fail
            go_at_call 22
            refine (cK.out _ ((HR.out.below hb5).more hb5.size) cut (by simp [inb]; omega)).mono ?_
            rintro e w6 ⟨Ao6, c6, A6, d6, rfl, oF6, oR6, hb6⟩
            have hb6' := below_then hb6 hb5
            have two := take_two cut.toNat l cut n (Nat.le_refl _) (by omega) (by omega) HS.out
            have te6 := took_err (n := cut) HQ.out (by omega)
            have cH := take_ok (qTake l cut).2 A6 d6 (n - cut) w6 (oR6.rd (fun i j hi hj => rows_get hi hj)) oR6.le (fun e => oR6.none_cap e) te6 (by simp [inb]; omega)
            rw [HX.out] at two
            have CH := Lib.hid cH
            have TWO := Lib.hid two
            clear cH two te6 oF6 oR6
            generalize qTake l cut = X6 at *
            go_wp2_with fail
            go_at_call 22
            refine CH.out.mono ?_
            rw [TWO.out]
            rintro e w7 ⟨Ao7, c7, A7, d7, rfl, oF7, oR7, hb7⟩
            have hb7' := below_then hb7 hb6'
            have cS := rests_any rs rs A7 A' d7 c' w7 (oR7.rd (fun i j hi hj => rows_get hi hj)) (((oR5.out.below hb6).below hb7).rd (fun i j hi hj => rows_get hi hj)) (by omega) (by omega)
            rw [show decide (rs = rs) = true by simp] at cS
            have CS := Lib.hid cS
            clear cS oF7 oR7
            go_wp2_with fail
            go_at_call 36
            refine CS.out.mono ?_
            rintro e w8 ⟨rfl, hb8⟩
            have hb8' := below_then hb8 hb7'
            go_wp2
            go_ret
            exact ⟨rfl, hb8'⟩
        · have g2 : decide (S < n) = false := by simp; omega
          clear hSn
          go_upto_region 17 with fail
          have x1 := X1.out
          go_quiet (fail)
          clear x1
          rcases (show cut < 1 ∨ (1 ≤ cut ∧ n ≤ cut) ∨ (1 ≤ cut ∧ cut < n) by omega) with hc | ⟨hc, hc2⟩ | ⟨hc, hc2⟩
          · go_wp2
            go_ret
            exact ⟨rfl, below_drewN hb4' _⟩
          · go_wp2
            go_ret
            exact ⟨rfl, below_drewN hb4' _⟩
          · have hb5 := below_drewN hb4' nq
            have oR5 := Lib.hid ((OR.out.below hb4).drewN nq)
            generalize hW : w4.drewN nq = W5 at *
            clear hW
            go_wp2_with fail
            go_at_call 22
            refine (cK.out _ ((HR.out.below hb5).more hb5.size) cut (by simp [inb]; omega)).mono ?_
            rintro e w6 ⟨Ao6, c6, A6, d6, rfl, oF6, oR6, hb6⟩
            have hb6' := below_then hb6 hb5
            have two := take_two cut.toNat l cut n (Nat.le_refl _) (by omega) (by omega) HS.out
            have te6 := took_err (n := cut) HQ.out (by omega)
            have cH := take_ok (qTake l cut).2 A6 d6 (n - cut) w6 (oR6.rd (fun i j hi hj => rows_get hi hj)) oR6.le (fun e => oR6.none_cap e) te6 (by simp [inb]; omega)
            rw [HX.out] at two
            have CH := Lib.hid cH
            have TWO := Lib.hid two
            clear cH two te6 oF6 oR6
            generalize qTake l cut = X6 at *
            go_wp2_with fail
            go_at_call 22
            refine CH.out.mono ?_
            rw [TWO.out]
            rintro e w7 ⟨Ao7, c7, A7, d7, rfl, oF7, oR7, hb7⟩
            have hb7' := below_then hb7 hb6'
            have cS := rests_any rs rs A7 A' d7 c' w7 (oR7.rd (fun i j hi hj => rows_get hi hj)) (((oR5.out.below hb6).below hb7).rd (fun i j hi hj => rows_get hi hj)) (by omega) (by omega)
            rw [show decide (rs = rs) = true by simp] at cS
            have CS := Lib.hid cS
            clear cS oF7 oR7
            go_wp2_with fail
            go_at_call 36
            refine CS.out.mono ?_
            rintro e w8 ⟨rfl, hb8⟩
            have hb8' := below_then hb8 hb7'
            go_wp2
            go_ret
            exact ⟨rfl, hb8'⟩
theorem queueTakes_law {H : Type} {enc : TypeId × Value → H} {v0 v1 v2 : Value} {d0 d1 d2 : DataW H} {p0 p1 p2 : List MemPlace} {base : Nat} {W : World}
    (h0 : Arg enc W base 50 v0 d0 p0) (h1 : Arg enc W base 3 v1 d1 p1) (h2 : Arg enc W base 3 v2 d2 p2) :
    Calls Try.prog 12 #[v0, v1, v2] W fun e w' => e = .returned (.bool true) ∧ Below W.heap.size W w' := by
  obtain ⟨A, l, c, rfl, hcap, hA, hr⟩ := h0.rests
  obtain ⟨n, rfl, _⟩ := h1.int
  obtain ⟨cut, rfl, _⟩ := h2.int
  by_cases h : qErr l = 0 ∧ inb n 1 10000 = true
  · exact takes_ok l A c n cut W hr hcap hA h.1 h.2
  · exact takes_bad l A c n cut W hr hcap (by
      by_cases h3 : qErr l = 0
      · right; simpa [h3] using h
      · exact .inl h3)
end Go.Proofs.Ytbapcgihnddjfaa
