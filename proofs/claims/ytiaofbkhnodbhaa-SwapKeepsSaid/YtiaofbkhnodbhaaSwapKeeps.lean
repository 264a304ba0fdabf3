/- SwapKeeps holds: for all arguments the law's function returns true. No condition. -/
import Derived.Test.YtiaofbkhnodbhaaSwapLess
import Derived.Test.YtiaofbkhnodbhaaPlace
import Derived.Test.YtiaofbkhnodbhaaGrpK
import Derived.Test.YtiaofbkhnodbhaaBookCancel
import Derived.Test.YtiaofbkhnodbhaaGrpS
namespace Go.Proofs.Ytiaofbkhnodbhaa
set_option linter.all false
open Go Go.RowKit Go.ChangeShapes Go.WideShapes
theorem bfind_at {L M : List Lv} {id s : Int} {i k : Nat} {x : Lv} {r : Rest} (hb : BookOk L M) (ha : BAt L M id s i k x r) (A1 A2 : Option Addr) (c1 c2 : Nat) (w : World) (h1 : RdLv w w.heap.size A1 L) (h2 : RdLv w w.heap.size A2 M) :
    Calls Try.prog 10 #[.agg #[.slice A1 L.length c1, .slice A2 M.length c2], .int .i64 id] w fun e w' => e = .returned (.tuple #[.int .i64 s, .int .i64 x.price, .agg #[.int .i64 r.id, .int .i64 r.who, .int .i64 r.qty, .int .i64 r.hidden, .int .i64 r.show_], .nilIface]) ∧ Below w.heap.size w w' := by
  have hz : (0 : Int) = bfE L M id := by rw [bfE, if_neg (by simp [bookE_iff.2 hb]), if_neg (by rw [ha.where_]; have := vs_t ha.side; dsimp only; omega)]
  have hs := hb.sizes
  refine (bfind_any L M A1 A2 c1 c2 id w h1 h2 hs.1.1 hs.2.1 0 hz).mono ?_
  rintro e w' ⟨a, p, r0, r1, r2, r3, r4, ev, rfl, hk, hb⟩
  rcases hk.out with ⟨h0, _⟩ | ⟨_, rfl, s', i, k, x, r, hat, rfl, rfl, hr⟩
  · exact absurd rfl h0
  · obtain ⟨rfl, rfl, rfl, rfl, rfl⟩ := hat.uniq ha
    subst hr
    exact ⟨rfl, hb⟩
def CutAt (C1 C2 : List Lv) (r : Rest) (w : World) (e : Ending) (w' : World) : Prop :=
  ∃ A1 c1 A2 c2, e = .returned (.tuple #[.agg #[.slice A1 C1.length c1, .slice A2 C2.length c2], .agg #[.int .i64 r.id, .int .i64 r.who, .int .i64 r.qty, .int .i64 r.hidden, .int .i64 r.show_], .nilIface]) ∧ Hid ((∃ v1, OwnLv w' w.heap.size A1 c1 C1 v1) ∧ ∃ v2, OwnLv w' w.heap.size A2 c2 C2 v2) ∧ Below w.heap.size w w'
theorem bcancel_at {L M : List Lv} {id s : Int} {i k : Nat} {x : Lv} {r : Rest} (hb : BookOk L M) (ha : BAt L M id s i k x r) (C1 C2 : List Lv) (hC1 : C1 = cutL s i k L) (hC2 : C2 = cutM s i k M) (A1 A2 : Option Addr) (c1 c2 : Nat) (w : World) (h1 : RdLv w w.heap.size A1 L) (h2 : RdLv w w.heap.size A2 M) (hA1 : A1 = none → c1 = 0) (hA2 : A2 = none → c2 = 0) :
    Calls Try.prog 12 #[.agg #[.slice A1 L.length c1, .slice A2 M.length c2], .int .i64 id] w (CutAt C1 C2 r w) := by
  subst hC1; subst hC2
  have hz : (0 : Int) = bfE L M id := by rw [bfE, if_neg (by simp [bookE_iff.2 hb]), if_neg (by rw [ha.where_]; have := vs_t ha.side; dsimp only; omega)]
  have hs := hb.sizes
  refine (bcancel_any L M A1 A2 c1 c2 id w h1 h2 hs.1.1 hs.2.1 hA1 hA2 0 hz).mono ?_
  rintro e w' ⟨B1, n1, d1, B2, n2, d2, r0, r1, r2, r3, r4, ev, rfl, hk, hb⟩
  rcases hk.out with ⟨h0, _⟩ | ⟨_, rfl, s', i, k, x, r, v1, v2, hat, hr, rfl, rfl, o1, o2⟩
  · exact absurd rfl h0
  · obtain ⟨rfl, rfl, rfl, rfl, rfl⟩ := hat.uniq ha
    subst hr
    exact ⟨_, _, _, _, rfl, Lib.hid ⟨⟨_, o1⟩, _, o2⟩, hb⟩
theorem cut_short {L M : List Lv} (hb : BookOk L M) (s : Int) (i k : Nat) : ((cutL s i k L).length ≤ 100 ∧ ∀ x ∈ cutL s i k L, x.rs.length ≤ 100) ∧ ((cutM s i k M).length ≤ 100 ∧ ∀ x ∈ cutM s i k M, x.rs.length ≤ 100) := by
  have f : ∀ (d : Int) (K : List Lv), SideOk d K → ((outL K i k).length ≤ 100 ∧ ∀ x ∈ outL K i k, x.rs.length ≤ 100) ∧ (K.length ≤ 100 ∧ ∀ x ∈ K, x.rs.length ≤ 100) := fun d K h => by
    obtain ⟨h1, h2⟩ := h.short
    refine ⟨⟨by have := outL_le K i k; omega, fun y hy => ?_⟩, by omega, fun y hy => by have := h2 y hy; omega⟩
    cases hx : K[i]? with
    | none => rw [outL, hx] at hy; have := h2 y hy; omega
    | some x =>
      by_cases h : (x.rs.eraseIdx k).length = 0
      · rw [outL_erase hx h] at hy; have := h2 y (List.mem_of_mem_eraseIdx hy); omega
      · rw [outL_set hx h] at hy
        rcases List.mem_or_eq_of_mem_set hy with h3 | rfl
        · have := h2 y h3; omega
        · have := h2 x (List.mem_of_getElem? hx)
          show (x.rs.eraseIdx k).length ≤ 100
          rw [List.length_eraseIdx]; split <;> omega
  unfold cutL cutM
  constructor
  · split
    · exact (f 1 L hb.buys).1
    · exact (f 1 L hb.buys).2
  · split
    · exact (f 2 M hb.sells).2
    · exact (f 2 M hb.sells).1
theorem Rd.go {w w' : World} {A : Option Addr} {n s : Nat} {c : Nat → Nat → Value} (h : Rd w w.heap.size A n s c) (hb : Below w.heap.size w w') : Rd w' w'.heap.size A n s c := (h.below hb).more hb.size
theorem rerr0 {L M : List Lv} {id s : Int} {i k : Nat} {x : Lv} {r : Rest} (hb : BookOk L M) (ha : BAt L M id s i k x r) : r.err = 0 := by
  have hm := ha.at_.lv
  rcases side_two ha.side with rfl | rfl
  · exact hb.buys.sound x (List.mem_of_getElem? hm) r (List.mem_of_getElem? ha.at_.rest)
  · exact hb.sells.sound x (List.mem_of_getElem? hm) r (List.mem_of_getElem? ha.at_.rest)
set_option maxRecDepth 100000 in
set_option maxHeartbeats 8000000 in
theorem swapKeeps_any (L M : List Lv) (id p q : Int) (A1 A2 : Option Addr) (c1 c2 : Nat) (w : World) (h1 : RdLv w w.heap.size A1 L) (h2 : RdLv w w.heap.size A2 M) (hl1 : L.length ≤ maxLen) (hl2 : M.length ≤ maxLen) (hA1 : A1 = none → c1 = 0) (hA2 : A2 = none → c2 = 0) :
    Calls Try.prog 4 #[.agg #[.slice A1 L.length c1, .slice A2 M.length c2], .int .i64 id, .int .i64 p, .int .i64 q] w fun e w' => e = .returned (.bool true) ∧ Below w.heap.size w w' := by
  have HL := Lib.hid h1; have HM := Lib.hid h2
  obtain ⟨E, sd, pr, rr, kp, B1, B2, an, ls, hsw⟩ := sw_ex L M id p q
  obtain ⟨F, K1, K2, T, gone, hx⟩ := sx_ex E kp B1 B2 an
  have HSW := Lib.hid hsw; have HX := Lib.hid hx
  have cD := Lib.hid (fun w' h h' => swdo_any L M id p q E sd pr rr kp B1 B2 an ls hsw F K1 K2 T gone hx A1 A2 c1 c2 w' h h' hl1 hl2 hA1 hA2)
  have cK := Lib.hid (fun w' h h' => skeeps_any L M id p q E sd pr rr kp B1 B2 an ls hsw A1 A2 c1 c2 w' h h' hl1 hl2 hA1 hA2)
  have ok9 : SlOk 5 5 9 := ⟨by decide, by decide, by decide, by decide, .inl rfl⟩
  have cS := Lib.hid (fun (A B : Option Addr) (c d : Nat) w' h hA hB => sl_do ok9 (n := 6) (by decide) (by decide) A B c d w' h hA hB)
  have HLM := Lib.hid (And.intro hl1 hl2); have HAA := Lib.hid (And.intro hA1 hA2)
  have hb : Below w.heap.size w (w.alloc (.cells #[.slice A1 L.length c1, .slice A2 M.length c2] 29)) := (Below.refl _ _).alloc (Nat.le_refl _) _
  have bb := Bk.new w 29 #[.slice A1 L.length c1, .slice A2 M.length c2]
  clear h1 h2 hl1 hl2 hA1 hA2 hsw hx ok9
  go_enter Try.func4, Try.ntmps4
  go_upto_region 1 with fail
  generalize w.alloc (.cells #[.slice A1 L.length c1, .slice A2 M.length c2] 29) = w0 at *
  obtain ⟨gb, hgb⟩ : ∃ g, g = w0.heap.size + 2 := ⟨_, rfl⟩
  have HGB := Lib.hid hgb
  have hb1 : Below w.heap.size w (((w0.alloc (.cells #[.int .i64 1, .int .i64 1, .int .i64 5, .int .i64 4, .int .i64 5, .int .i64 2, .int .i64 2, .int .i64 4, .int .i64 0, .int .i64 0] 23)).alloc (.cells #[.int .i64 100, .slice (some ⟨w0.heap.size, 0, none⟩) 2 2] 26)).alloc (.cells #[.slice (some ⟨w0.heap.size + 1, 0, none⟩) 1 1, .slice none 0 0] 29)) := below_then_alloc (below_then_alloc (hb.alloc hb.size _))
  have b1 := (Bk.new w0 23 #[.int .i64 1, .int .i64 1, .int .i64 5, .int .i64 4, .int .i64 5, .int .i64 2, .int .i64 2, .int .i64 4, .int .i64 0, .int .i64 0]).alloc (.cells #[.int .i64 100, .slice (some ⟨w0.heap.size, 0, none⟩) 2 2] 26)
  have b2 := Bk.at_ (w := w0.alloc (.cells #[.int .i64 1, .int .i64 1, .int .i64 5, .int .i64 4, .int .i64 5, .int .i64 2, .int .i64 2, .int .i64 4, .int .i64 0, .int .i64 0] 23)) (g' := w0.heap.size + 1) (by simp) 26 #[.int .i64 100, .slice (some ⟨w0.heap.size, 0, none⟩) 2 2]
  have b3 := Bk.at_ (w := (w0.alloc (.cells #[.int .i64 1, .int .i64 1, .int .i64 5, .int .i64 4, .int .i64 5, .int .i64 2, .int .i64 2, .int .i64 4, .int .i64 0, .int .i64 0] 23)).alloc (.cells #[.int .i64 100, .slice (some ⟨w0.heap.size, 0, none⟩) 2 2] 26)) (g' := gb) (by rw [hgb]; simp) 29 #[.slice (some ⟨w0.heap.size + 1, 0, none⟩) 1 1, .slice none 0 0]
  have hr : RdLv ((w0.alloc (.cells #[.int .i64 1, .int .i64 1, .int .i64 5, .int .i64 4, .int .i64 5, .int .i64 2, .int .i64 2, .int .i64 4, .int .i64 0, .int .i64 0] 23)).alloc (.cells #[.int .i64 100, .slice (some ⟨w0.heap.size, 0, none⟩) 2 2] 26)) ((w0.alloc (.cells #[.int .i64 1, .int .i64 1, .int .i64 5, .int .i64 4, .int .i64 5, .int .i64 2, .int .i64 2, .int .i64 4, .int .i64 0, .int .i64 0] 23)).alloc (.cells #[.int .i64 100, .slice (some ⟨w0.heap.size, 0, none⟩) 2 2] 26)).heap.size (some ⟨w0.heap.size + 1, 0, none⟩) (slL 5 5 9) := by
    intro _
    refine ⟨w0.heap.size + 1, 0, rfl, b2.lt, fun i x hx => ?_⟩
    have hi : i = 0 := by have := (List.getElem?_eq_some_iff.1 hx).1; simp [slL] at this; omega
    subst hi
    cases hx
    have c0 := b2.cell 0; have c1 := b2.cell 1
    refine ⟨by simpa using c0, some ⟨w0.heap.size, 0, none⟩, 2, by simpa using c1, by decide, by decide, ?_⟩
    have oo : OwnS _ 0 5 (some ⟨w0.heap.size, 0, none⟩) 2 2 (rows [⟨1, 1, 5, 4, 5⟩, ⟨2, 2, 4, 0, 0⟩]) := b1.own (base := 0) (s := 5) (n := 2) (Nat.zero_le _) rfl (by decide)
    exact oo.rd (fun i j hi hj => rows_get hi hj)
  have HR := Lib.hid (hr.on ((Below.refl _ _).alloc (Nat.le_refl _) (.cells #[.slice (some ⟨w0.heap.size + 1, 0, none⟩) 1 1, .slice none 0 0] 29)))
  have hbb : Bk (((w0.alloc (.cells #[.int .i64 1, .int .i64 1, .int .i64 5, .int .i64 4, .int .i64 5, .int .i64 2, .int .i64 2, .int .i64 4, .int .i64 0, .int .i64 0] 23)).alloc (.cells #[.int .i64 100, .slice (some ⟨w0.heap.size, 0, none⟩) 2 2] 26)).alloc (.cells #[.slice (some ⟨w0.heap.size + 1, 0, none⟩) 1 1, .slice none 0 0] 29)) w.heap.size 29 #[.slice A1 L.length c1, .slice A2 M.length c2] := ((bb.alloc _).alloc _).alloc _
  clear b1 b2 hr hgb hb bb
  go_upto_region 2 with fail
  generalize (((w0.alloc (.cells #[.int .i64 1, .int .i64 1, .int .i64 5, .int .i64 4, .int .i64 5, .int .i64 2, .int .i64 2, .int .i64 4, .int .i64 0, .int .i64 0] 23)).alloc (.cells #[.int .i64 100, .slice (some ⟨w0.heap.size, 0, none⟩) 2 2] 26)).alloc (.cells #[.slice (some ⟨w0.heap.size + 1, 0, none⟩) 1 1, .slice none 0 0] 29)) = w1 at *
  rw [← HGB.out]
  obtain ⟨q0, q1⟩ := box2 b3
  go_wp2_with fail
  go_at_call 9
  refine (cS.out _ _ _ _ _ HR.out (fun e => by cases e) (fun _ => rfl)).mono ?_
  rintro e w2 ⟨A, c, B, d, AT, cT, rfl, HO, hb2⟩
  have hba : Below w2.heap.size w2 (w2.alloc (.cells #[.slice A 1 c, .slice B 0 d] 29)) := (Below.refl _ _).alloc (Nat.le_refl _) _
  have bf := Bk.new w2 29 #[.slice A 1 c, .slice B 0 d]
  obtain ⟨u1, u2, o1, _⟩ := HO.out
  have hrf := (o1.below hba).rd
  have hb := below_then hba (below_then hb2 hb1)
  replace bb := (hbb.keep hb2).keep hba
  clear hb1 hb2 hba b3 q0 q1 HO o1 cS HR hbb
  go_upto_region 3 with fail
  generalize w2.alloc (.cells #[.slice A 1 c, .slice B 0 d] 29) = w3 at *
  obtain ⟨b, off, x, Ar, cr, rfl, hbl, hx0, d0, d1, g1, g2, g3⟩ := lv_at hrf (k := 0) (by decide)
  cases hx0
  obtain ⟨b', off', t, rfl, hbl', ht, e0, e1, e2, e3, e4⟩ := rest_at g3 (k := 0) (by decide)
  cases ht
  obtain ⟨f0, f1⟩ := box2 bf
  have d1' : w3.cell? ⟨b, off + 1, none⟩ = some (.slice (some ⟨b', off', none⟩) 2 cr) := by simpa using d1
  have hs6 : slR 5 5 6 = ⟨1, 1, 5, 1, 5⟩ := by decide
  rw [hs6] at e2 e3
  have e2' : w3.cell? ⟨b', off' + 2, none⟩ = some (.int .i64 5) := by simpa using e2
  have e3' : w3.cell? ⟨b', off' + 3, none⟩ = some (.int .i64 1) := by simpa using e3
  clear d0 d1 e0 e1 e2 e3 e4 g1 g2 g3 hrf bf hs6
  obtain ⟨q0, q1⟩ := box2 bb
  go_wp2_with fail
  go_at_call 9
  refine (cD.out _ (HL.out.on hb) (HM.out.on hb)).mono ?_
  rintro e w4 ⟨X1, x1, X2, x2, AT2, cT2, rfl, HO, hb4⟩
  replace bb := bb.keep hb4; replace hb := below_then hb4 hb
  clear hb4 q0 q1 cD e2' e3' d1' f0 f1
  by_cases hF : F = 0
  case neg =>
    rw [show errV F = er F by rw [errV, if_neg hF]]
    clear bb HO hF
    go_wp2
    go_ret
    exact ⟨rfl, below_then_alloc hb⟩
  case pos =>
  rw [hF, show errV 0 = .nilIface from rfl]
  have hE : E = 0 := by
    rcases HX.out with ⟨h, h', _⟩ | ⟨h, _⟩ | ⟨h, _⟩
    · exact absurd (h'.symm.trans hF) h
    · exact h
    · exact h
  have hsw0 : swE L M id p q = 0 := by
    by_cases h : swE L M id p q = 0
    · exact h
    · have := (HSW.out.bad rfl h).1; rw [hE] at this; exact absurd this.symm h
  obtain ⟨hbk, hv, hq, s, i, k, x, r, hat⟩ := swE_at hsw0
  obtain ⟨_, _, _, _, _, hkp, hgk, hga⟩ := HSW.out.good hsw0 hat
  have hq1 : 1 ≤ q ∧ q ≤ 10000 := of_decide_eq_true hq
  obtain ⟨hq1, hq2⟩ := hq1
  replace cK := Lib.hid (fun w' h h' => (cK.out w' h h').mono fun e w'' (h : SKeepPost _ _ _ _ _) => (show e = .returned (.tuple #[.bool kp, .nilIface]) ∧ Below w'.heap.size w' w'' by rw [SKeepPost, hE, show errV 0 = .nilIface from rfl] at h; exact h))
  have HBK := Lib.hid hbk; have HAT := Lib.hid hat
  have hg0 : gone = 0 := by
    rcases HX.out with ⟨h, _⟩ | ⟨_, _, _, _, _, _, h⟩ | ⟨_, h, W, hk⟩
    · exact absurd hE h
    · exact h
    · rw [hkp] at h
      obtain ⟨_, _, han⟩ := hga h
      rw [hF] at hk
      exact ko_limit hk (by rw [han]; rfl)
  have cF := Lib.hid (fun w' h h' => bfind_at hbk hat A1 A2 c1 c2 w' h h')
  obtain ⟨C1, hC1⟩ : ∃ C, C = cutL s i k L := ⟨_, rfl⟩
  obtain ⟨C2, hC2⟩ : ∃ C, C = cutM s i k M := ⟨_, rfl⟩
  have cC := Lib.hid (fun w' h h' => bcancel_at hbk hat C1 C2 hC1 hC2 A1 A2 c1 c2 w' h h' HAA.out.1 HAA.out.2)
  have HC1 := Lib.hid hC1; have HC2 := Lib.hid hC2
  have HSH := Lib.hid (cut_short hbk s i k)
  rw [← hC1, ← hC2] at HSH
  have hre := rerr0 hbk hat
  have HRE := Lib.hid hre
  clear hC1 hC2 hre
  rw [hg0]
  have HG0 := Lib.hid hg0
  have hba : Below w4.heap.size w4 (w4.alloc (.cells #[.slice X1 K1.length x1, .slice X2 K2.length x2] 29)) := (Below.refl _ _).alloc (Nat.le_refl _) _
  have bx := Bk.new w4 29 #[.slice X1 K1.length x1, .slice X2 K2.length x2]
  have hrx1 := HO.out.1.on hba
  have hrx2 := HO.out.2.1.on hba
  have hrt := HO.out.2.2.1.go hba
  have HRX := Lib.hid (And.intro hrx1 (And.intro hrx2 hrt))
  replace bb := bb.keep hba; replace hb := below_then hba hb
  have HKP := Lib.hid hkp; have HGK := Lib.hid hgk; have HGA := Lib.hid hga; have HE := Lib.hid hE; have HF := Lib.hid hF
  have hs12 : 1 ≤ s ∧ s ≤ 2 := by have := vs_t hat.side; omega
  have HVS := Lib.hid hat.side
  clear hba hrx1 hrx2 hrt hkp hgk hga hE hF hsw0 hbk hv hq hat hg0
  go_upto_region 6 with fail
  generalize w4.alloc (.cells #[.slice X1 K1.length x1, .slice X2 K2.length x2] 29) = w5 at *
  obtain ⟨gx, hgx⟩ : ∃ g, g = w4.heap.size := ⟨_, rfl⟩
  rw [← hgx] at bx ⊢
  clear hgx
  obtain ⟨q0, q1⟩ := box2 bb
  go_wp2_with fail
  go_at_call 8
  refine (cK.out _ (HL.out.on hb) (HM.out.on hb)).mono ?_
  rintro e w6 ⟨rfl, hb6⟩
  have HRX6 := Lib.hid (And.intro (HRX.out.1.on hb6) (And.intro (HRX.out.2.1.on hb6) (HRX.out.2.2.go hb6)))
  replace bb := bb.keep hb6; replace bx := bx.keep hb6; replace hb := below_then hb6 hb
  clear hb6 q0 q1 cK HRX
  obtain ⟨q0, q1⟩ := box2 bb
  go_wp2_with fail
  go_at_call 10
  refine (cF.out _ (HL.out.on hb) (HM.out.on hb)).mono ?_
  rintro e w7 ⟨rfl, hb7⟩
  have hba : Below w7.heap.size w7 (w7.alloc (.cells #[.int .i64 r.id, .int .i64 r.who, .int .i64 r.qty, .int .i64 r.hidden, .int .i64 r.show_] 23)) := (Below.refl _ _).alloc (Nat.le_refl _) _
  have br := Bk.new w7 23 #[.int .i64 r.id, .int .i64 r.who, .int .i64 r.qty, .int .i64 r.hidden, .int .i64 r.show_]
  have HRX7 := Lib.hid (And.intro ((HRX6.out.1.on hb7).on hba) (And.intro ((HRX6.out.2.1.on hb7).on hba) ((HRX6.out.2.2.go hb7).go hba)))
  replace bb := (bb.keep hb7).keep hba; replace bx := (bx.keep hb7).keep hba; replace hb := below_then hba (below_then hb7 hb)
  clear hb7 hba q0 q1 cF HRX6
  go_upto_region 12 with fail
  generalize w7.alloc (.cells #[.int .i64 r.id, .int .i64 r.who, .int .i64 r.qty, .int .i64 r.hidden, .int .i64 r.show_] 23) = w8 at *
  obtain ⟨gr, hgr⟩ : ∃ g, g = w7.heap.size := ⟨_, rfl⟩
  rw [← hgr] at br ⊢
  clear hgr
  rcases (show kp = true ∨ kp = false by cases kp <;> simp) with e | e
  · --<keep
    subst e
    have hK : K1 = B1 ∧ K2 = B2 ∧ T = [] := by
      rcases HX.out with ⟨h, _⟩ | ⟨_, _, _, h1, h2, h3, _⟩ | ⟨_, h, _⟩
      · exact absurd HE.out h
      · exact ⟨h1, h2, h3⟩
      · cases h
    obtain ⟨hK1, hK2, hT⟩ := hK
    obtain ⟨hB1, hB2, _⟩ := HGK.out HKP.out.symm
    have hkept : Kept L M id s i k x r p q K1 K2 := by rw [hK1, hK2, hB1, hB2]; exact kept_of HBK.out HAT.out hq1 HKP.out.symm
    subst hT
    obtain ⟨rk, hrk⟩ : ∃ z, z = keptR r q := ⟨_, rfl⟩
    have hat2 : BAt K1 K2 id s i k ⟨x.price, x.rs.set k rk⟩ rk := hrk ▸ hkept.at_
    have hall : rk.qty + rk.hidden = q := hrk ▸ hkept.all_
    have hwho : rk.who = r.who := by rw [hrk]; rfl
    have hrke := err0 (show rk.err = 0 by rw [hrk]; exact keptR_err (x := x) (p := p) HRE.out hq1 HKP.out.symm)
    obtain ⟨k1, k2, k3, k4, _, _, _, _, _, _⟩ := hrke
    obtain ⟨v1, v2, hown1, hown2⟩ := HO.out.2.2.2 rfl
    have hn1 := hown1.nil0; have hn2 := hown2.nil0
    have cF := Lib.hid (fun w' h h' => bfind_at hkept.ok hat2 X1 X2 x1 x2 w' h h')
    have cC2 := Lib.hid (fun w' h h' => bcancel_at hkept.ok hat2 C1 C2 (by rw [HC1.out]; exact hkept.cutl.symm) (by rw [HC2.out]; exact hkept.cutm.symm) X1 X2 x1 x2 w' h h' hn1 hn2)
    have cCh0 := fun w' h h' => bcheck_any K1 K2 X1 X2 x1 x2 w' h h' hkept.ok.sizes.1.1 hkept.ok.sizes.2.1
    rw [bookE_iff.2 hkept.ok, show errV 0 = .nilIface from rfl] at cCh0
    have cCh := Lib.hid cCh0
    have cB := Lib.hid (fun (E1 E2 G1 G2 : Option Addr) (e1 e2 g1 g2 : Nat) w' a b c d => same_book C1 C2 E1 E2 G1 G2 e1 e2 g1 g2 w' a b c d HSH.out.1 HSH.out.2)
    have hl1000 : (K1.length ≤ 1000 ∧ K2.length ≤ 1000) ∧ L.length ≤ 1000 ∧ M.length ≤ 1000 := by
      have a := hkept.ok.buys.short; have b := hkept.ok.sells.short; have c := HBK.out.buys.short; have d := HBK.out.sells.short
      omega
    have cP1 := Lib.hid (fun w' h h' => place_any s HVS.out K1 K2 X1 X2 x1 x2 x.price id w' h h' hl1000.1.1 hl1000.1.2)
    have cP2 := Lib.hid (fun w' h h' => place_any s HVS.out L M A1 A2 c1 c2 x.price id w' h h' hl1000.2.1 hl1000.2.2)
    have HPL := Lib.hid (show placeI (sidL s K1 K2) x.price id = placeI (sidL s L M) x.price id by
      rcases side_two HVS.out with rfl | rfl
      · exact placeI_shp hkept.shp1 _ _
      · exact placeI_shp hkept.shp2 _ _)
    have hpx : x.price = p := hkept.price
    have e1 : (x.price == p) = true := by simpa using hpx
    have e2 : (x.price != p) = false := by simp [hpx]
    have e3 : (rk.who == r.who) = true := by simpa using hwho
    have e4 : (rk.who != r.who) = false := by simp [hwho]
    have e5 : (rk.qty + rk.hidden == q) = true := by simpa using hall
    have e6 : (rk.qty + rk.hidden != q) = false := by simp [hall]
    clear hK1 hK2 hB1 hB2 hkept hrk hat2 hall hwho hown1 hown2 hn1 hn2 cCh0 hl1000 hpx
    obtain ⟨x0, x1'⟩ := box2 bx
    go_wp2_with fail
    go_at_call 10
    refine (cF.out _ HRX7.out.1 HRX7.out.2.1).mono ?_
    rintro e w9 ⟨rfl, hb9⟩
    dsimp only
    have hba : Below w9.heap.size w9 (w9.alloc (.cells #[.int .i64 rk.id, .int .i64 rk.who, .int .i64 rk.qty, .int .i64 rk.hidden, .int .i64 rk.show_] 23)) := (Below.refl _ _).alloc (Nat.le_refl _) _
    have bk := Bk.new w9 23 #[.int .i64 rk.id, .int .i64 rk.who, .int .i64 rk.qty, .int .i64 rk.hidden, .int .i64 rk.show_]
    have HRX9 := Lib.hid (And.intro ((HRX7.out.1.on hb9).on hba) ((HRX7.out.2.1.on hb9).on hba))
    replace bb := (bb.keep hb9).keep hba; replace bx := (bx.keep hb9).keep hba; replace br := (br.keep hb9).keep hba; replace hb := below_then hba (below_then hb9 hb)
    clear hb9 hba x0 x1' cF HRX7
    go_upto_region 14 with fail
    generalize w9.alloc (.cells #[.int .i64 rk.id, .int .i64 rk.who, .int .i64 rk.qty, .int .i64 rk.hidden, .int .i64 rk.show_] 23) = w10 at *
    obtain ⟨gk, hgk⟩ : ∃ g, g = w9.heap.size := ⟨_, rfl⟩
    rw [← hgk] at bk ⊢
    clear hgk
    obtain ⟨x0, x1'⟩ := box2 bx
    obtain ⟨r0, r1, r2, r3, r4⟩ := pbox5 br
    obtain ⟨z0, z1, z2, z3, z4⟩ := pbox5 bk
    go_wp2_with fail
    go_at_call 11
    refine (cCh.out _ HRX9.out.1 HRX9.out.2).mono ?_
    rintro e w11 ⟨rfl, hb11⟩
    have HRX11 := Lib.hid (And.intro (HRX9.out.1.on hb11) (HRX9.out.2.on hb11))
    replace bb := bb.keep hb11; replace bx := bx.keep hb11; replace hb := below_then hb11 hb
    clear hb11 x0 x1' r0 r1 r2 r3 r4 z0 z1 z2 z3 z4 cCh HRX9 br bk e1 e2 e3 e4 e5 e6
    obtain ⟨x0, x1'⟩ := box2 bx
    go_wp2_with fail
    go_at_call 12
    refine (cC2.out _ HRX11.out.1 HRX11.out.2).mono ?_
    rintro e w12 ⟨E1, f1, E2, f2, rfl, HOC, hb12⟩
    have hba : Below w12.heap.size w12 ((w12.alloc (.cells #[.slice E1 C1.length f1, .slice E2 C2.length f2] 29)).alloc (.cells #[.int .i64 rk.id, .int .i64 rk.who, .int .i64 rk.qty, .int .i64 rk.hidden, .int .i64 rk.show_] 23)) := below_then_alloc ((Below.refl _ _).alloc (Nat.le_refl _) _)
    have be := (Bk.new w12 29 #[.slice E1 C1.length f1, .slice E2 C2.length f2]).alloc (.cells #[.int .i64 rk.id, .int .i64 rk.who, .int .i64 rk.qty, .int .i64 rk.hidden, .int .i64 rk.show_] 23)
    have HRX12 := Lib.hid (And.intro ((HRX11.out.1.on hb12).on hba) ((HRX11.out.2.on hb12).on hba))
    obtain ⟨⟨w1', p1⟩, w2', p2⟩ := HOC.out
    have HE12 := Lib.hid (And.intro (p1.below hba).rd (p2.below hba).rd)
    replace bb := (bb.keep hb12).keep hba; replace bx := (bx.keep hb12).keep hba; replace hb := below_then hba (below_then hb12 hb)
    clear hb12 hba x0 x1' cC2 HRX11 HOC p1 p2
    go_upto_region 17 with fail
    generalize (w12.alloc (.cells #[.slice E1 C1.length f1, .slice E2 C2.length f2] 29)).alloc (.cells #[.int .i64 rk.id, .int .i64 rk.who, .int .i64 rk.qty, .int .i64 rk.hidden, .int .i64 rk.show_] 23) = w13 at *
    obtain ⟨ge, hge⟩ : ∃ g, g = w12.heap.size := ⟨_, rfl⟩
    rw [← hge] at be ⊢
    clear hge
    obtain ⟨q0, q1⟩ := box2 bb
    go_wp2_with fail
    go_at_call 12
    refine (cC.out _ (HL.out.on hb) (HM.out.on hb)).mono ?_
    rintro e w14 ⟨G1, k1', G2, k2', rfl, HOC, hb14⟩
    have hba : Below w14.heap.size w14 ((w14.alloc (.cells #[.slice G1 C1.length k1', .slice G2 C2.length k2'] 29)).alloc (.cells #[.int .i64 r.id, .int .i64 r.who, .int .i64 r.qty, .int .i64 r.hidden, .int .i64 r.show_] 23)) := below_then_alloc ((Below.refl _ _).alloc (Nat.le_refl _) _)
    have bg := (Bk.new w14 29 #[.slice G1 C1.length k1', .slice G2 C2.length k2']).alloc (.cells #[.int .i64 r.id, .int .i64 r.who, .int .i64 r.qty, .int .i64 r.hidden, .int .i64 r.show_] 23)
    have HRX14 := Lib.hid (And.intro ((HRX12.out.1.on hb14).on hba) ((HRX12.out.2.on hb14).on hba))
    have HE14 := Lib.hid (And.intro ((HE12.out.1.on hb14).on hba) ((HE12.out.2.on hb14).on hba))
    obtain ⟨⟨w1', p1⟩, w2', p2⟩ := HOC.out
    have HG14 := Lib.hid (And.intro (p1.below hba).rd (p2.below hba).rd)
    replace bb := (bb.keep hb14).keep hba; replace bx := (bx.keep hb14).keep hba; replace be := (be.keep hb14).keep hba; replace hb := below_then hba (below_then hb14 hb)
    clear hb14 hba q0 q1 cC HRX12 HE12 HOC p1 p2
    go_upto_region 18 with fail
    generalize (w14.alloc (.cells #[.slice G1 C1.length k1', .slice G2 C2.length k2'] 29)).alloc (.cells #[.int .i64 r.id, .int .i64 r.who, .int .i64 r.qty, .int .i64 r.hidden, .int .i64 r.show_] 23) = w15 at *
    obtain ⟨gg, hgg⟩ : ∃ g, g = w14.heap.size := ⟨_, rfl⟩
    rw [← hgg] at bg ⊢
    clear hgg
    obtain ⟨e0, e1⟩ := box2 be
    obtain ⟨y0, y1⟩ := box2 bg
    go_wp2_with fail
    go_at_call 13
    refine (cB.out _ _ _ _ _ _ _ _ _ HE14.out.1 HE14.out.2 HG14.out.1 HG14.out.2).mono ?_
    rintro e w16 ⟨rfl, hb16⟩
    have HRX16 := Lib.hid (And.intro (HRX14.out.1.on hb16) (HRX14.out.2.on hb16))
    replace bb := bb.keep hb16; replace bx := bx.keep hb16; replace hb := below_then hb16 hb
    clear hb16 e0 e1 y0 y1 cB HRX14 HE14 HG14 be bg
    go_upto_region 19 with fail
    obtain ⟨q0, q1⟩ := box2 bb
    obtain ⟨x0, x1'⟩ := box2 bx
    have k0 := cell_regrown q0; have k1'' := cell_regrown q1; have k2'' := cell_regrown x0; have k3'' := cell_regrown x1'
    have cQ1 : ∀ w' h h', Calls _ _ _ w' _ := cP1.out
    rw [HPL.out] at cQ1
    have cG := fun d os => Calls.regrown_of (w := w16) (d := d) (os := os) (cQ1 _ (HRX16.out.1.on (below_regrown w16 d os)) (HRX16.out.2.on (below_regrown w16 d os)))
    have cH := fun d os => Calls.regrown_of (w := w16) (d := d) (os := os) (cP2.out _ ((HL.out.on hb).on (below_regrown w16 d os)) ((HM.out.on hb).on (below_regrown w16 d os)))
    generalize placeI (sidL s L M) x.price id = pv at *
    clear cQ1 bb bx cP1 cP2 HPL q0 q1 x0 x1'
    refine wp_region_quiet_below (by kernel_rfl) (by kernel_rfl) ?_
    repeat (quiet_step (first | (with_reducible exact cG _ _) | (with_reducible exact cH _ _)))
    refine wpQuiet_nil ?_
    intro w17 hw17
    have hb17 : Below w16.heap.size w16 w17 := by obtain ⟨p, rfl⟩ := hw17; exact below_regrown _ _ _
    replace hb := below_then hb17 hb
    clear hw17 cG cH hb17 k0 k1'' k2'' k3''
    go_wp2
    go_ret
    exact ⟨ret_bool (by simp), hb⟩
    -->keep
  · --<anew
    subst e
    have hK : ∃ W, KO B1 B2 an 0 F K1 K2 T gone W := by
      rcases HX.out with ⟨h, _⟩ | ⟨_, h, _⟩ | ⟨_, _, h⟩
      · exact absurd HE.out h
      · cases h
      · exact h
    obtain ⟨W, hK⟩ := hK
    obtain ⟨hB1, hB2, han⟩ := HGA.out HKP.out.symm
    rw [hB1, hB2, ← HC1.out, ← HC2.out, han, HF.out, HG0.out] at hK
    have hsh := hK.short
    have HSK := Lib.hid hsh
    have cDo := Lib.hid (fun (G1 G2 : Option Addr) (g1 g2 : Nat) w' a b e1 e2 => kdo_out hK G1 G2 g1 g2 w' a b (by have := HSH.out.1.1; unfold maxLen; omega) (by have := HSH.out.2.1; unfold maxLen; omega) e1 e2)
    have cB := Lib.hid (fun (E1 E2 G1 G2 : Option Addr) (e1 e2 g1 g2 : Nat) w' a b c d => same_book K1 K2 E1 E2 G1 G2 e1 e2 g1 g2 w' a b c d ⟨by have := HSK.out.1.1; omega, fun x hx => by have := HSK.out.1.2 x hx; omega⟩ ⟨by have := HSK.out.2.1.1; omega, fun x hx => by have := HSK.out.2.1.2 x hx; omega⟩)
    have cT := Lib.hid (fun (E1 G1 : Option Addr) (e1 g1 : Nat) w' a b => same_trades T E1 G1 e1 g1 w' a b HSK.out.2.2.1)
    clear hB1 hB2 han hK hsh
    obtain ⟨q0, q1⟩ := box2 bb
    go_wp2_with fail
    go_at_call 12
    refine (cC.out _ (HL.out.on hb) (HM.out.on hb)).mono ?_
    rintro e w14 ⟨G1, k1', G2, k2', rfl, HOC, hb14⟩
    have hba : Below w14.heap.size w14 ((w14.alloc (.cells #[.slice G1 C1.length k1', .slice G2 C2.length k2'] 29)).alloc (.cells #[.int .i64 r.id, .int .i64 r.who, .int .i64 r.qty, .int .i64 r.hidden, .int .i64 r.show_] 23)) := below_then_alloc ((Below.refl _ _).alloc (Nat.le_refl _) _)
    have bg := (Bk.new w14 29 #[.slice G1 C1.length k1', .slice G2 C2.length k2']).alloc (.cells #[.int .i64 r.id, .int .i64 r.who, .int .i64 r.qty, .int .i64 r.hidden, .int .i64 r.show_] 23)
    have HRX14 := Lib.hid (And.intro ((HRX7.out.1.on hb14).on hba) (And.intro ((HRX7.out.2.1.on hb14).on hba) ((HRX7.out.2.2.go hb14).go hba)))
    obtain ⟨⟨w1', p1⟩, w2', p2⟩ := HOC.out
    have HG14 := Lib.hid (And.intro (And.intro (p1.below hba).rd (p2.below hba).rd) (And.intro p1.nil0 p2.nil0))
    replace br := (br.keep hb14).keep hba; replace bx := (bx.keep hb14).keep hba; replace hb := below_then hba (below_then hb14 hb)
    clear hb14 hba q0 q1 cC HRX7 HOC p1 p2 bb
    go_upto_region 21 with fail
    generalize (w14.alloc (.cells #[.slice G1 C1.length k1', .slice G2 C2.length k2'] 29)).alloc (.cells #[.int .i64 r.id, .int .i64 r.who, .int .i64 r.qty, .int .i64 r.hidden, .int .i64 r.show_] 23) = w15 at *
    obtain ⟨gg, hgg⟩ : ∃ g, g = w14.heap.size := ⟨_, rfl⟩
    rw [← hgg] at bg ⊢
    clear hgg
    obtain ⟨r0, r1, r2, r3, r4⟩ := pbox5 br
    obtain ⟨y0, y1⟩ := box2 bg
    go_upto_if 241 with fail
    go_cut [38] from 45 to 279 (fun v wx => v = .int .i64 (min r.show_ q) ∧ wx = w15)
    case first =>
      rcases (show r.show_ ≤ q ∨ q < r.show_ by omega) with h | h
      · have HMN := Lib.hid (show min r.show_ q = r.show_ by omega)
        have e1 : decide (r.show_ > q) = false := decide_eq_false (by omega)
        go_wp2
        go_meet
        case rel => exact ⟨by rw [HMN.out], rfl⟩
      · have HMN := Lib.hid (show min r.show_ q = q by omega)
        have e1 : decide (r.show_ > q) = true := decide_eq_true h
        go_wp2
        go_meet
        case rel => exact ⟨by rw [HMN.out], rfl⟩
    obtain ⟨rfl, rfl⟩ := hcut
    obtain ⟨w15, rfl⟩ : ∃ z : World, z = wc := ⟨_, rfl⟩
    go_wp2_with fail
    go_at_call 15
    refine (cDo.out _ _ _ _ _ HG14.out.1.1 HG14.out.1.2 HG14.out.2.1 HG14.out.2.2).mono ?_
    rintro e w16 ⟨Y1, y1c, Y2, y2c, YT, yTc, rfl, HOY, hb16⟩
    rw [show errV 0 = .nilIface from rfl]
    have hba : Below w16.heap.size w16 (w16.alloc (.cells #[.slice Y1 K1.length y1c, .slice Y2 K2.length y2c] 29)) := (Below.refl _ _).alloc (Nat.le_refl _) _
    have by_ := Bk.new w16 29 #[.slice Y1 K1.length y1c, .slice Y2 K2.length y2c]
    have HY := Lib.hid (And.intro (HOY.out.1.on hba) (And.intro (HOY.out.2.1.on hba) (HOY.out.2.2.go hba)))
    have HRX16 := Lib.hid (And.intro ((HRX14.out.1.on hb16).on hba) (And.intro ((HRX14.out.2.1.on hb16).on hba) ((HRX14.out.2.2.go hb16).go hba)))
    replace bx := (bx.keep hb16).keep hba; replace hb := below_then hba (below_then hb16 hb)
    clear hb16 hba r0 r1 r2 r3 r4 y0 y1 cDo HRX14 HG14 HOY br bg
    go_upto_region 25 with fail
    generalize w16.alloc (.cells #[.slice Y1 K1.length y1c, .slice Y2 K2.length y2c] 29) = w17 at *
    obtain ⟨gy, hgy⟩ : ∃ g, g = w16.heap.size := ⟨_, rfl⟩
    rw [← hgy] at by_ ⊢
    clear hgy
    obtain ⟨x0, x1'⟩ := box2 bx
    obtain ⟨y0, y1⟩ := box2 by_
    go_wp2_with fail
    go_at_call 13
    refine (cB.out _ _ _ _ _ _ _ _ _ HRX16.out.1 HRX16.out.2.1 HY.out.1 HY.out.2.1).mono ?_
    rintro e w18 ⟨rfl, hb18⟩
    have HT18 := Lib.hid (And.intro (HRX16.out.2.2.go hb18) (HY.out.2.2.go hb18))
    replace hb := below_then hb18 hb
    clear hb18 x0 x1' y0 y1 cB HRX16 HY bx by_
    go_wp2_with fail
    go_at_call 16
    refine (cT.out _ _ _ _ _ HT18.out.1 HT18.out.2).mono ?_
    rintro e w19 ⟨rfl, hb19⟩
    replace hb := below_then hb19 hb
    clear hb19 cT HT18
    go_wp2
    go_ret
    exact ⟨rfl, hb⟩
    -->anew
theorem swapKeeps_law {H : Type} {enc : TypeId × Value → H} {v0 v1 v2 v3 : Value} {d0 d1 d2 d3 : DataW H} {p0 p1 p2 p3 : List MemPlace} {base : Nat} {W : World}
    (h0 : Arg enc W base 29 v0 d0 p0) (h1 : Arg enc W base 3 v1 d1 p1) (h2 : Arg enc W base 3 v2 d2 p2) (h3 : Arg enc W base 3 v3 d3 p3) :
    Calls Try.prog 4 #[v0, v1, v2, v3] W fun e w' => e = .returned (.bool true) ∧ Below W.heap.size W w' := by
  obtain ⟨A1, L, c1, A2, M, c2, rfl, hl1, hl2, hA1, hA2, hr1, hr2⟩ := h0.book
  obtain ⟨id, rfl, _⟩ := h1.int
  obtain ⟨p, rfl, _⟩ := h2.int
  obtain ⟨q, rfl, _⟩ := h3.int
  exact swapKeeps_any L M id p q A1 A2 c1 c2 W hr1 hr2 hl1 hl2 hA1 hA2
end Go.Proofs.Ytiaofbkhnodbhaa
