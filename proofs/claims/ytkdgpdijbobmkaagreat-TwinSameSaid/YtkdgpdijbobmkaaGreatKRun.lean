/- The contract of kinds.Run, given Put's. -/
import Derived.Test.YtkdgpdijbobmkaaGreatGrpP
namespace Go.Proofs.YtkdgpdijbobmkaaGreat
set_option linter.all false
open Go Go.RowKit
/-- the book behind a meeting -/
def kL (sd : Int) (L : List Lv) (s : MSt) : List Lv := pick sd s.L L
def kM (sd : Int) (M : List Lv) (s : MSt) : List Lv := pick sd M s.L
/-- how kinds.Run ends: R what is met, k what becomes of what is left, z what is wrong with Put -/
def KRunQ (R : Option MSt) (k : MSt → Nat) (z : MSt → Int) (o : Order) (L M : List Lv) (w : World) (e : Ending) (w' : World) : Prop :=
  (R = none ∧ e = .returned (.tuple #[.agg #[.slice none 0 0, .slice none 0 0, .slice none 0 0, .int .i64 0, .slice none 0 0, .bool false], .int .i64 0, er 4]) ∧ Below w.heap.size w w') ∨
  ∃ s, R = some s ∧ MOk s ∧ (((k s = 9 ∨ k s = 8) ∧ e = .returned (.tuple #[.agg #[.slice none 0 0, .slice none 0 0, .slice none 0 0, .int .i64 0, .slice none 0 0, .bool false], .int .i64 0, er (k s)]) ∧ Below w.heap.size w w') ∨
    (k s = 2 ∧ z s ≠ 0 ∧ e = .returned (.tuple #[.agg #[.slice none 0 0, .slice none 0 0, .slice none 0 0, .int .i64 0, .slice none 0 0, .bool false], .int .i64 0, er (z s)]) ∧ Below w.heap.size w w') ∨
    (∃ A1 c1 v1 A2 c2 v2 AT cT AW cW L' M', (k s ≤ 1 ∧ L' = kL o.side L s ∧ M' = kM o.side M s ∨ k s = 2 ∧ z s = 0 ∧ L' = putL o.side o.price (restOf o s.left) (kL o.side L s) ∧ M' = putM o.side o.price (restOf o s.left) (kM o.side M s)) ∧
      e = .returned (.tuple #[.agg #[.slice A1 L'.length c1, .slice A2 M'.length c2, .slice AT s.T.length cT, .int .i64 s.left, .slice AW s.W.length cW, .bool s.ends], .int .i64 (if k s = 1 then s.left else 0), .nilIface]) ∧
      OwnLv w' w.heap.size A1 c1 L' v1 ∧ OwnLv w' w.heap.size A2 c2 M' v2 ∧ OwnS w' w.heap.size 6 AT s.T.length cT (trows s.T) ∧ OwnS w' w.heap.size 1 AW s.W.length cW (irows s.W) ∧ Below w.heap.size w w'))
/-- what Put gave -/
def PutR (z : Int) (L' M' : List Lv) (base : Nat) (w' : World) (A1 : Option Addr) (n1 c1 : Nat) (A2 : Option Addr) (n2 c2 : Nat) (ev : Value) : Prop :=
  (z ≠ 0 ∧ ev = er z) ∨ (z = 0 ∧ ev = .nilIface ∧ n1 = L'.length ∧ n2 = M'.length ∧ ∃ v1 v2, OwnLv w' base A1 c1 L' v1 ∧ OwnLv w' base A2 c2 M' v2)
theorem PutPost.flat {z : Int} {L' M' : List Lv} {w w' : World} {e : Ending} (h : PutPost z L' M' w e w') :
    ∃ A1 n1 c1 A2 n2 c2 ev, e = .returned (.tuple #[.agg #[.slice A1 n1 c1, .slice A2 n2 c2], ev]) ∧ Hid (PutR z L' M' w.heap.size w' A1 n1 c1 A2 n2 c2 ev) ∧ Below w.heap.size w w' := by
  rcases h with ⟨h0, rfl, hb⟩ | ⟨h0, A1, c1, v1, A2, c2, v2, rfl, o1, o2, hb⟩
  · exact ⟨none, 0, 0, none, 0, 0, _, rfl, Lib.hid (.inl ⟨h0, rfl⟩), hb⟩
  · exact ⟨A1, _, c1, A2, _, c2, _, rfl, Lib.hid (.inr ⟨h0, rfl, rfl, rfl, v1, v2, o1, o2⟩), hb⟩
theorem PutR.far2 {z : Int} {L' M' : List Lv} {base g b : Nat} {w' : World} {A1 A2 : Option Addr} {n1 c1 n2 c2 : Nat} {ev : Value} (h : PutR z L' M' base w' A1 n1 c1 A2 n2 c2 ev) (hg : g < base) (hb : b ≤ base) (x y : Value) :
    PutR z L' M' b ((w'.setCell ⟨g, 0, none⟩ x).setCell ⟨g, 1, none⟩ y) A1 n1 c1 A2 n2 c2 ev := by
  rcases h with h | ⟨a, e, e1, e2, v1, v2, o1, o2⟩
  · exact .inl h
  · exact .inr ⟨a, e, e1, e2, v1, v2, (o1.far2 hg x y).lower hb, (o2.far2 hg x y).lower hb⟩
theorem PutR.up {z : Int} {L' M' : List Lv} {base b : Nat} {w' : World} {A1 A2 : Option Addr} {n1 c1 n2 c2 : Nat} {ev : Value} (h : PutR z L' M' base w' A1 n1 c1 A2 n2 c2 ev) (hb : b ≤ base) (o : Obj) :
    PutR z L' M' b (w'.alloc o) A1 n1 c1 A2 n2 c2 ev := by
  rcases h with h | ⟨a, e, e1, e2, v1, v2, o1, o2⟩
  · exact .inl h
  · exact .inr ⟨a, e, e1, e2, v1, v2, (o1.below ((Below.refl _ _).alloc (Nat.le_refl _) _)).lower hb, (o2.below ((Below.refl _ _).alloc (Nat.le_refl _) _)).lower hb⟩
theorem cell_far66 {w : World} {p : Addr} {g : Nat} {v a b c d e f : Value} (h : w.cell? p = some v) (hg : p.block ≠ g) : ((((((w.setCell ⟨g, 0, none⟩ a).setCell ⟨g, 1, none⟩ b).setCell ⟨g, 2, none⟩ c).setCell ⟨g, 3, none⟩ d).setCell ⟨g, 4, none⟩ e).setCell ⟨g, 5, none⟩ f).cell? p = some v := cell_far3 (cell_far3 h hg) hg
set_option maxRecDepth 100000 in
set_option maxHeartbeats 4000000 in
theorem krun_any (L M : List Lv) (o : Order) (mode : Int) (A1 A2 : Option Addr) (c1 c2 : Nat) (w : World) (h1 : RdLv w w.heap.size A1 L) (h2 : RdLv w w.heap.size A2 M) (hbk : BookOk L M) (ho : o.err = 0) (hA1 : A1 = none → c1 = 0) (hA2 : A2 = none → c2 = 0)
    (R : Option MSt) (hR : R = met L M o mode) (k : MSt → Nat) (hk : k = kOut o (pick o.side L M)) (z : MSt → Int) (hz : z = fun s => putE (kL o.side L s) (kM o.side M s) o.side o.price (restOf o s.left)) (hput : (∃ s, R = some s ∧ k s = 2) → PutCon) :
    Calls Tryz.prog 86 #[.agg #[.slice A1 L.length c1, .slice A2 M.length c2], .agg #[.int .i64 o.id, .int .i64 o.who, .int .i64 o.side, .int .i64 o.kind, .int .i64 o.price, .int .i64 o.qty, .int .i64 o.show_, .int .i64 o.stop], .int .i64 mode] w (KRunQ R k z o L M w) := by
  have HL := Lib.hid h1; have HM := Lib.hid h2
  have hs : vs o.side = true := vs_of (Order.err_ok ho).2.2.1
  have HO := Lib.hid (Order.err_ok ho)
  have hs1 : 1 ≤ o.side := by have := vs_t hs; omega
  have hs2 : o.side ≤ 2 := by have := vs_t hs; omega
  have HBK := Lib.hid hbk
  have cR := Lib.hid (fun w' h h' => (run_any L M o mode A1 A2 c1 c2 w' h h' hbk ho hA1 hA2).mono fun _ _ h => run_q hR h)
  have cOf := Lib.hid (fun w => ofx_any o.side hs L M A1 A2 c1 c2 w)
  have HK := Lib.hid hk; have HZ := Lib.hid hz; have HPUT := Lib.hid hput
  have CMAY := Lib.hid (fun p w => may_any o p w)
  have hb : Below w.heap.size w (((w.alloc (.cells #[.slice A1 L.length c1, .slice A2 M.length c2] 54)).alloc (.cells #[.int .i64 o.id, .int .i64 o.who, .int .i64 o.side, .int .i64 o.kind, .int .i64 o.price, .int .i64 o.qty, .int .i64 o.show_, .int .i64 o.stop] 31)).alloc (.cells #[.slice none 0 0, .slice none 0 0, .slice none 0 0, .int .i64 0, .slice none 0 0, .bool false] 146)) := below_then_alloc (below_then_alloc ((Below.refl _ _).alloc (Nat.le_refl _) _))
  have bb := ((Bk.new w 54 #[.slice A1 L.length c1, .slice A2 M.length c2]).alloc (.cells #[.int .i64 o.id, .int .i64 o.who, .int .i64 o.side, .int .i64 o.kind, .int .i64 o.price, .int .i64 o.qty, .int .i64 o.show_, .int .i64 o.stop] 31)).alloc (.cells #[.slice none 0 0, .slice none 0 0, .slice none 0 0, .int .i64 0, .slice none 0 0, .bool false] 146)
  have bo := (Bk.at_ (w := w.alloc (.cells #[.slice A1 L.length c1, .slice A2 M.length c2] 54)) (g' := w.heap.size + 1) (by simp) 31 #[.int .i64 o.id, .int .i64 o.who, .int .i64 o.side, .int .i64 o.kind, .int .i64 o.price, .int .i64 o.qty, .int .i64 o.show_, .int .i64 o.stop]).alloc (.cells #[.slice none 0 0, .slice none 0 0, .slice none 0 0, .int .i64 0, .slice none 0 0, .bool false] 146)
  have br := Bk.at_ (w := (w.alloc (.cells #[.slice A1 L.length c1, .slice A2 M.length c2] 54)).alloc (.cells #[.int .i64 o.id, .int .i64 o.who, .int .i64 o.side, .int .i64 o.kind, .int .i64 o.price, .int .i64 o.qty, .int .i64 o.show_, .int .i64 o.stop] 31)) (g' := w.heap.size + 2) (by simp) 146 #[.slice none 0 0, .slice none 0 0, .slice none 0 0, .int .i64 0, .slice none 0 0, .bool false]
  clear h1 h2 hbk ho hR hk hz hput hA1 hA2
  go_enter Tryz.func86, Tryz.ntmps86
  go_upto_region 1 with fail
  generalize ((w.alloc (.cells #[.slice A1 L.length c1, .slice A2 M.length c2] 54)).alloc (.cells #[.int .i64 o.id, .int .i64 o.who, .int .i64 o.side, .int .i64 o.kind, .int .i64 o.price, .int .i64 o.qty, .int .i64 o.show_, .int .i64 o.stop] 31)).alloc (.cells #[.slice none 0 0, .slice none 0 0, .slice none 0 0, .int .i64 0, .slice none 0 0, .bool false] 146) = w0 at *
  have hgl : w.heap.size + 2 < w0.heap.size := br.lt
  have k8 := box8o bo
  obtain ⟨q0, q1⟩ := box2 bb
  go_wp2_with fail
  go_at_call 115
  refine (cR.out _ (HL.out.on hb) (HM.out.on hb)).mono ?_
  rintro e w1 (⟨hn, rfl, hb1⟩ | ⟨s, B1, e1, u1, B2, e2, u2, AT, cT, AW, cW, hmet, hok, rfl, o1, o2, ot, ow, hb1⟩)
  · --<full
    replace br := (br.keep hb1).alloc (.cells #[.slice none 0 0, .slice none 0 0, .slice none 0 0, .int .i64 0, .slice none 0 0, .bool false] 146)
    have hb2 := below_then_alloc (o := .cells #[.slice none 0 0, .slice none 0 0, .slice none 0 0, .int .i64 0, .slice none 0 0, .bool false] 146) (below_then hb1 hb)
    have HN := Lib.hid hn
    have r0 := box6 br
    have y0 := br.free 0; have y1 := br.free 1; have y2 := br.free 2; have y3 := br.free 3; have y4 := br.free 4; have y5 := br.free 5
    have kx := box6 (br.set6 (.slice none 0 0) (.slice none 0 0) (.slice none 0 0) (.int .i64 0) (.slice none 0 0) (.bool false))
    have HF := Lib.hid (below_set6 hb2 (g := w.heap.size + 2) (by omega) (.slice none 0 0) (.slice none 0 0) (.slice none 0 0) (.int .i64 0) (.slice none 0 0) (.bool false))
    clear bb bo br hn hb hb1 hb2 k8 q0 q1
    go_wp2
    exact bodyPost_ret (v := .tuple #[.agg #[.slice none 0 0, .slice none 0 0, .slice none 0 0, .int .i64 0, .slice none 0 0, .bool false], .int .i64 0, er 4]) (by simp [results, Tryz.results86, go_sem, kx]) rfl (.inl ⟨HN.out, rfl, HF.out⟩)
    -->full
  have HMET := Lib.hid hmet; have HOK := Lib.hid hok
  have HS0 := Lib.hid hok.left0; have HS1 := Lib.hid hok.left1
  obtain ⟨K1, hK1⟩ : ∃ K1, K1 = kL o.side L s := ⟨_, rfl⟩
  obtain ⟨K2, hK2⟩ : ∃ K2, K2 = kM o.side M s := ⟨_, rfl⟩
  rw [show pick o.side s.L L = K1 from hK1.symm] at o1 ⊢
  rw [show pick o.side M s.L = K2 from hK2.symm] at o2 ⊢
  have HK1 := Lib.hid hK1; have HK2 := Lib.hid hK2
  have HO1 := Lib.hid (o1.below ((Below.refl w1.heap.size w1).alloc (Nat.le_refl _) (.cells #[.slice B1 K1.length e1, .slice B2 K2.length e2, .slice AT s.T.length cT, .int .i64 s.left, .slice AW s.W.length cW, .bool s.ends] 146)))
  have HO2 := Lib.hid (o2.below ((Below.refl w1.heap.size w1).alloc (Nat.le_refl _) (.cells #[.slice B1 K1.length e1, .slice B2 K2.length e2, .slice AT s.T.length cT, .int .i64 s.left, .slice AW s.W.length cW, .bool s.ends] 146)))
  have HAT := Lib.hid (show Ap (rowOf AT cT) (some w1.heap.size) from (Ap.new (n := w1.heap.size) (fun k hk => by cases hk; exact Nat.le_refl _) (fun k hk => (ot.row_lt k hk).2)).symm)
  have HAW := Lib.hid (show Ap (rowOf AW cW) (some w1.heap.size) from (Ap.new (n := w1.heap.size) (fun k hk => by cases hk; exact Nat.le_refl _) (fun k hk => (ow.row_lt k hk).2)).symm)
  have HOT := Lib.hid (ot.below ((Below.refl w1.heap.size w1).alloc (Nat.le_refl _) (.cells #[.slice B1 K1.length e1, .slice B2 K2.length e2, .slice AT s.T.length cT, .int .i64 s.left, .slice AW s.W.length cW, .bool s.ends] 146)))
  have HOW := Lib.hid (ow.below ((Below.refl w1.heap.size w1).alloc (Nat.le_refl _) (.cells #[.slice B1 K1.length e1, .slice B2 K2.length e2, .slice AT s.T.length cT, .int .i64 s.left, .slice AW s.W.length cW, .bool s.ends] 146)))
  have hz1 : w0.heap.size ≤ w1.heap.size := hb1.size
  have hba : Below w1.heap.size w1 (w1.alloc (.cells #[.slice B1 K1.length e1, .slice B2 K2.length e2, .slice AT s.T.length cT, .int .i64 s.left, .slice AW s.W.length cW, .bool s.ends] 146)) := (Below.refl _ _).alloc (Nat.le_refl _) _
  replace bb := (bb.keep hb1).keep hba; replace bo := (bo.keep hb1).keep hba; replace br := (br.keep hb1).keep hba; replace hb := below_then hba (below_then hb1 hb)
  have bM := Bk.new w1 146 #[.slice B1 K1.length e1, .slice B2 K2.length e2, .slice AT s.T.length cT, .int .i64 s.left, .slice AW s.W.length cW, .bool s.ends]
  clear hb1 hba hmet hok o1 o2 ot ow hK1 hK2 k8 q0 q1 cR
  go_upto_region 2 with fail
  generalize w1.alloc (.cells #[.slice B1 K1.length e1, .slice B2 K2.length e2, .slice AT s.T.length cT, .int .i64 s.left, .slice AW s.W.length cW, .bool s.ends] 146) = w2 at *
  have hgm : w1.heap.size < w2.heap.size := bM.lt
  have hgm2 : w.heap.size + 2 < w1.heap.size := by omega
  have k8 := box8o bo
  obtain ⟨q0, q1⟩ := box2 bb
  go_wp2_with fail
  go_at_call 47
  refine (cOf.out _).mono ?_
  rintro e w3 ⟨rfl, hb3⟩
  replace bb := bb.keep hb3; replace bo := bo.keep hb3; replace br := br.keep hb3; replace bM := bM.keep hb3; replace hb := below_then hb3 hb
  have HP1 := Lib.hid (HO1.out.below hb3); have HP2 := Lib.hid (HO2.out.below hb3); have HPT := Lib.hid (HOT.out.below hb3); have HPW := Lib.hid (HOW.out.below hb3)
  clear HO1 HO2 HOT HOW q0 q1 k8
  have hzz : w2.heap.size ≤ w3.heap.size := hb3.size
  clear hb3
  obtain ⟨K, hKK⟩ : ∃ K, K = pick o.side L M := ⟨_, rfl⟩
  obtain ⟨Ak, hAk⟩ : ∃ X, X = pick o.side A1 A2 := ⟨_, rfl⟩
  obtain ⟨ck, hck⟩ : ∃ X, X = pick o.side c1 c2 := ⟨_, rfl⟩
  have HRK := Lib.hid (show RdLv w3 w3.heap.size Ak K by
    rw [hAk, hKK]
    rcases side_two hs with e | e <;> rw [e]
    · exact HM.out.on hb
    · exact HL.out.on hb)
  rw [← hKK] at HK
  rw [← hKK, ← hAk, ← hck]
  clear hKK hAk hck
  have HK' := Lib.hid (show k s = kOut o K s by rw [HK.out])
  obtain ⟨m0, m1, m2, m3, m4, m5⟩ := box6 bM
  have k8 := box8o bo
  go_upto_region 5 with fail
  go_cut [29] (fun v wx => v = .bool (decide (o.kind = 4 ∧ 0 < s.left)) ∧ wx = w3)
  case first =>
    --<c29
    obtain ⟨b0, b1, b2, b3, b4, b5, b6, b7⟩ := k8
    by_cases h1 : o.kind = 4
    · have e1 : (o.kind == 4) = true := by simpa using h1
      rcases (show s.left ≤ 0 ∨ 0 < s.left by omega) with h2 | h2
      · have HE := Lib.hid (show decide (o.kind = 4 ∧ 0 < s.left) = false from decide_eq_false (fun h => by omega))
        clear h1
        go_wp2
        go_meet
        case rel =>
          refine ⟨?_, rfl⟩
          rw [HE.out]
          first
            | done
            | (refine congrArg Value.bool (decide_eq_false ?_); omega)
            | (refine congrArg Value.bool (decide_eq_true ?_); omega)
      · have HE := Lib.hid (show decide (o.kind = 4 ∧ 0 < s.left) = true from decide_eq_true ⟨h1, h2⟩)
        clear h1
        go_wp2
        go_meet
        case rel =>
          refine ⟨?_, rfl⟩
          rw [HE.out]
          first
            | done
            | (refine congrArg Value.bool (decide_eq_false ?_); omega)
            | (refine congrArg Value.bool (decide_eq_true ?_); omega)
    · have e1 : (o.kind == 4) = false := by simpa using h1
      have HE := Lib.hid (show decide (o.kind = 4 ∧ 0 < s.left) = false by simp [h1])
      clear h1
      go_wp2
      go_meet
      case rel =>
          refine ⟨?_, rfl⟩
          rw [HE.out]
          first
            | done
            | (refine congrArg Value.bool (decide_eq_false ?_); omega)
            | (refine congrArg Value.bool (decide_eq_true ?_); omega)
    -->c29
  case rest =>
    obtain ⟨rfl, rfl⟩ := hcut
    by_cases h9 : o.kind = 4 ∧ 0 < s.left
    · rw [decide_eq_true h9]
      have HE := Lib.hid (HK'.out.trans (kOut_9 h9))
      clear h9
      have r0 := box6 br
      have y0 := br.free 0; have y1 := br.free 1; have y2 := br.free 2; have y3 := br.free 3; have y4 := br.free 4; have y5 := br.free 5
      have kx := box6 (br.set6 (.slice none 0 0) (.slice none 0 0) (.slice none 0 0) (.int .i64 0) (.slice none 0 0) (.bool false))
      have HF := Lib.hid (below_set6 hb (g := w.heap.size + 2) (by omega) (.slice none 0 0) (.slice none 0 0) (.slice none 0 0) (.int .i64 0) (.slice none 0 0) (.bool false))
      clear bb bo br hb bM m0 m1 m2 m3 m4 m5 k8
      go_wp2
      exact bodyPost_ret (v := .tuple #[.agg #[.slice none 0 0, .slice none 0 0, .slice none 0 0, .int .i64 0, .slice none 0 0, .bool false], .int .i64 0, er 9]) (by simp [results, Tryz.results86, go_sem, kx]) rfl (.inr ⟨s, HMET.out, HOK.out, .inl ⟨.inl HE.out, by rw [HE.out]; rfl, HF.out⟩⟩)
    rw [decide_eq_false h9]
    have H9 := Lib.hid h9
    clear h9
    go_upto_region 7 with fail
    go_cut [40] (fun v wx => v = .bool (decide (o.kind = 5 ∧ mayTop o K = true)) ∧ Below wc.heap.size wc wx)
    case first =>
      --<c40
      obtain ⟨b0, b1, b2, b3, b4, b5, b6, b7⟩ := k8
      by_cases h1 : o.kind = 5
      · have e1 : (o.kind == 5) = true := by simpa using h1
        cases K with
        | nil =>
          have HE := Lib.hid (show decide (o.kind = 5 ∧ mayTop o [] = true) = false by simp [mayTop])
          have hd2 : decide (0 < ([] : List Lv).length) = false := rfl
          clear h1
          go_wp2
          go_quiet (fail)
          go_wp2
          go_meet
          case rel => exact ⟨by rw [HE.out], below_drewN (Below.refl _ _) _⟩
        | cons x Ls =>
          have HE := Lib.hid (show decide (o.kind = 5 ∧ mayTop o (x :: Ls) = true) = may o x.price by simp [h1, mayTop])
          have hd2 : decide (0 < (x :: Ls).length) = true := by simp
          have hi : (0 : Int) < ((x :: Ls).length : Int) := by simp only [List.length_cons]; omega
          obtain ⟨gb, off, x', Ar, cr, rfl, _, hx, d0, _⟩ := lv_at HRK.out (k := 0) (by simp)
          cases hx
          simp only [Nat.zero_mul, Nat.add_zero] at d0
          have k0 := cell_regrown b0; have k1 := cell_regrown b1; have k2 := cell_regrown b2; have k3 := cell_regrown b3; have k4 := cell_regrown b4; have k5 := cell_regrown b5; have k6 := cell_regrown b6; have k7 := cell_regrown b7
          have kp := cell_regrown d0
          have cG := fun d os => Calls.regrown_of (w := wc) (d := d) (os := os) ((CMAY.out x.price _).mono fun e w' ⟨h1, h2⟩ => ⟨h1, by rw [h2]; exact (Below.refl _ _).alloc (Nat.le_refl _) _⟩)
          clear h1
          go_wp2
          refine wp_region_quiet_below (by kernel_rfl) (by kernel_rfl) ?_
          repeat (quiet_step (with_reducible exact cG _ _))
          refine wpQuiet_nil ?_
          intro w3 hw3
          have hb3 : Below wc.heap.size wc w3 := by obtain ⟨p, rfl⟩ := hw3; exact below_regrown _ _ _
          go_wp2
          go_meet
          case rel => exact ⟨by rw [HE.out], hb3⟩
      · have e1 : (o.kind == 5) = false := by simpa using h1
        have HE := Lib.hid (show decide (o.kind = 5 ∧ mayTop o K = true) = false by simp [h1])
        clear h1
        go_wp2
        go_quiet (fail)
        go_wp2
        go_meet
        case rel => exact ⟨by rw [HE.out], below_drewN (Below.refl _ _) _⟩
      -->c40
    case rest =>
      obtain ⟨rfl, hb4⟩ := hcut
      replace bb := bb.keep hb4; replace bo := bo.keep hb4; replace br := br.keep hb4; replace bM := bM.keep hb4; replace hb := below_then hb4 hb
      replace HP1 := Lib.hid (HP1.out.below hb4); replace HP2 := Lib.hid (HP2.out.below hb4); replace HPT := Lib.hid (HPT.out.below hb4); replace HPW := Lib.hid (HPW.out.below hb4)
      have hzz2 := Nat.le_trans hzz hb4.size
      clear hb4 hzz m0 m1 m2 m3 m4 m5 k8 HRK
      have hgm3 : w.heap.size + 2 < w1.heap.size := hgm2
      by_cases h8 : o.kind = 5 ∧ mayTop o K = true
      · --<k8
        rw [decide_eq_true h8]
        have HE := Lib.hid (HK'.out.trans (kOut_8 H9.out h8))
        have r0 := box6 br
        have y0 := br.free 0; have y1 := br.free 1; have y2 := br.free 2; have y3 := br.free 3; have y4 := br.free 4; have y5 := br.free 5
        have kx := box6 (br.set6 (.slice none 0 0) (.slice none 0 0) (.slice none 0 0) (.int .i64 0) (.slice none 0 0) (.bool false))
        have HF := Lib.hid (below_set6 hb (g := w.heap.size + 2) (by omega) (.slice none 0 0) (.slice none 0 0) (.slice none 0 0) (.int .i64 0) (.slice none 0 0) (.bool false))
        clear bb bo br hb bM h8
        go_wp2
        exact bodyPost_ret (v := .tuple #[.agg #[.slice none 0 0, .slice none 0 0, .slice none 0 0, .int .i64 0, .slice none 0 0, .bool false], .int .i64 0, er 8]) (by simp [results, Tryz.results86, go_sem, kx]) rfl (.inr ⟨s, HMET.out, HOK.out, .inl ⟨.inr HE.out, by rw [HE.out]; rfl, HF.out⟩⟩)
        -->k8
      rw [decide_eq_false h8]
      have H8 := Lib.hid h8
      obtain ⟨m0, m1, m2, m3, m4, m5⟩ := box6 bM
      have k8 := box8o bo
      have r0 := box6 br
      have y0 := br.free 0; have y1 := br.free 1; have y2 := br.free 2; have y3 := br.free 3; have y4 := br.free 4; have y5 := br.free 5
      clear h8
      by_cases h3 : s.left = 0
      · --<k0
        have HE := Lib.hid (HK'.out.trans (kOut_0 H9.out H8.out h3))
        have e3 : (s.left == 0) = true := by simpa using h3
        have kx := box6 (br.set6 (.slice B1 K1.length e1) (.slice B2 K2.length e2) (.slice AT s.T.length cT) (.int .i64 s.left) (.slice AW s.W.length cW) (.bool s.ends))
        have HF := Lib.hid (below_set6 hb (g := w.heap.size + 2) (by omega) (.slice B1 K1.length e1) (.slice B2 K2.length e2) (.slice AT s.T.length cT) (.int .i64 s.left) (.slice AW s.W.length cW) (.bool s.ends))
        have X1 := Lib.hid ((HP1.out.far6 (g := w.heap.size + 2) hgl (.slice B1 K1.length e1) (.slice B2 K2.length e2) (.slice AT s.T.length cT) (.int .i64 s.left) (.slice AW s.W.length cW) (.bool s.ends)).lower (b := w.heap.size) (by omega))
        have X2 := Lib.hid ((HP2.out.far6 (g := w.heap.size + 2) hgl (.slice B1 K1.length e1) (.slice B2 K2.length e2) (.slice AT s.T.length cT) (.int .i64 s.left) (.slice AW s.W.length cW) (.bool s.ends)).lower (b := w.heap.size) (by omega))
        have XT := Lib.hid ((HPT.out.far6 (g := w.heap.size + 2) hgl (.slice B1 K1.length e1) (.slice B2 K2.length e2) (.slice AT s.T.length cT) (.int .i64 s.left) (.slice AW s.W.length cW) (.bool s.ends)).lower (b := w.heap.size) (by omega))
        have XW := Lib.hid ((HPW.out.far6 (g := w.heap.size + 2) hgl (.slice B1 K1.length e1) (.slice B2 K2.length e2) (.slice AT s.T.length cT) (.int .i64 s.left) (.slice AW s.W.length cW) (.bool s.ends)).lower (b := w.heap.size) (by omega))
        clear bb bo br bM hb h3
        go_wp2
        exact bodyPost_ret (v := .tuple #[.agg #[.slice B1 K1.length e1, .slice B2 K2.length e2, .slice AT s.T.length cT, .int .i64 s.left, .slice AW s.W.length cW, .bool s.ends], .int .i64 0, .nilIface]) (by simp [results, Tryz.results86, go_sem, kx]) rfl (.inr ⟨s, HMET.out, HOK.out, .inr (.inr ⟨B1, e1, u1, B2, e2, u2, AT, cT, AW, cW, K1, K2, .inl ⟨by rw [HE.out]; omega, HK1.out, HK2.out⟩, by rw [HE.out]; rfl, X1.out, X2.out, XT.out, XW.out, HF.out⟩)⟩)
        -->k0
      have e3 : (s.left == 0) = false := by simpa using h3
      by_cases h4 : s.ends = true ∨ (o.kind ≠ 1 ∧ o.kind ≠ 5)
      · --<k1
        have HE := Lib.hid (HK'.out.trans (kOut_1 H9.out H8.out h3 h4))
        go_upto_region 11 with fail
        go_cut [64] (fun v wx => v = .bool true ∧ wx = wc)
        case first =>
          by_cases h5 : s.ends = true
          · rw [h5] at m5
            clear h4 h3
            go_wp2
            go_meet
            case rel => exact ⟨rfl, rfl⟩
          · have h5' : s.ends = false := by simpa using h5
            rw [h5'] at m5
            have h6 : o.kind ≠ 1 ∧ o.kind ≠ 5 := by rcases h4 with h | h; exact absurd h h5; exact h
            have e6 : (o.kind != 1) = true := by simpa using h6.1
            have e7 : (o.kind != 5) = true := by simpa using h6.2
            clear h4 h3 h5 h6
            go_wp2
            go_meet
            case rel => exact ⟨rfl, rfl⟩
        case rest =>
          obtain ⟨rfl, rfl⟩ := hcut
          have kx := box6 (br.set6 (.slice B1 K1.length e1) (.slice B2 K2.length e2) (.slice AT s.T.length cT) (.int .i64 s.left) (.slice AW s.W.length cW) (.bool s.ends))
          have HF := Lib.hid (below_set6 hb (g := w.heap.size + 2) (by omega) (.slice B1 K1.length e1) (.slice B2 K2.length e2) (.slice AT s.T.length cT) (.int .i64 s.left) (.slice AW s.W.length cW) (.bool s.ends)).drew
          have X1 := Lib.hid ((HP1.out.far6 (g := w.heap.size + 2) hgl (.slice B1 K1.length e1) (.slice B2 K2.length e2) (.slice AT s.T.length cT) (.int .i64 s.left) (.slice AW s.W.length cW) (.bool s.ends)).lower (b := w.heap.size) (by omega)).drew
          have X2 := Lib.hid ((HP2.out.far6 (g := w.heap.size + 2) hgl (.slice B1 K1.length e1) (.slice B2 K2.length e2) (.slice AT s.T.length cT) (.int .i64 s.left) (.slice AW s.W.length cW) (.bool s.ends)).lower (b := w.heap.size) (by omega)).drew
          have XT := Lib.hid ((HPT.out.far6 (g := w.heap.size + 2) hgl (.slice B1 K1.length e1) (.slice B2 K2.length e2) (.slice AT s.T.length cT) (.int .i64 s.left) (.slice AW s.W.length cW) (.bool s.ends)).lower (b := w.heap.size) (by omega)).drew
          have XW := Lib.hid ((HPW.out.far6 (g := w.heap.size + 2) hgl (.slice B1 K1.length e1) (.slice B2 K2.length e2) (.slice AT s.T.length cT) (.int .i64 s.left) (.slice AW s.W.length cW) (.bool s.ends)).lower (b := w.heap.size) (by omega)).drew
          have r0' := box6 br.drew
          have y0' := br.drew.free 0; have y1' := br.drew.free 1; have y2' := br.drew.free 2; have y3' := br.drew.free 3; have y4' := br.drew.free 4; have y5' := br.drew.free 5
          clear bb bo br bM hb h3 h4
          go_upto_region 12 with fail
          go_region_held3 (fun w' => w'.cell? ⟨w1.heap.size, 0, none⟩ = some (.slice B1 K1.length e1) ∧ w'.cell? ⟨w1.heap.size, 1, none⟩ = some (.slice B2 K2.length e2) ∧ w'.cell? ⟨w1.heap.size, 2, none⟩ = some (.slice AT s.T.length cT) ∧ w'.cell? ⟨w1.heap.size, 3, none⟩ = some (.int .i64 s.left) ∧ w'.cell? ⟨w1.heap.size, 4, none⟩ = some (.slice AW s.W.length cW) ∧ w'.cell? ⟨w1.heap.size, 5, none⟩ = some (.bool s.ends))
            ((repeat' apply And.intro) <;> (first | (with_reducible assumption) | (with_reducible exact cell_drew (by assumption)) | (with_reducible exact cell_far66 (by assumption) (by simp; omega)) | (with_reducible exact cell_drew (cell_far66 (by assumption) (by simp; omega))))) (fail)
          all_goals
            go_wp2
            exact bodyPost_ret (v := .tuple #[.agg #[.slice B1 K1.length e1, .slice B2 K2.length e2, .slice AT s.T.length cT, .int .i64 s.left, .slice AW s.W.length cW, .bool s.ends], .int .i64 s.left, .nilIface]) (by simp [results, Tryz.results86, go_sem, kx]) rfl (.inr ⟨s, HMET.out, HOK.out, .inr (.inr ⟨B1, e1, u1, B2, e2, u2, AT, cT, AW, cW, K1, K2, .inl ⟨by rw [HE.out]; omega, HK1.out, HK2.out⟩, by rw [HE.out]; rfl, X1.out, X2.out, XT.out, XW.out, HF.out⟩)⟩)
        -->k1
      --<k2
      have HE := Lib.hid (HK'.out.trans (kOut_2 H9.out H8.out h3 h4))
      have PC := HPUT.out ⟨s, HMET.out, HE.out⟩
      have h5' : s.ends = false := by cases h : s.ends; rfl; exact absurd (.inl h) h4
      rw [h5'] at m5
      have e7 : (if o.kind = 1 then true else false) = true ∨ o.kind ≠ 1 := by by_cases h : o.kind = 1 <;> simp [h]
      have hkk : o.kind = 1 ∨ o.kind = 5 := by
        by_cases h : o.kind = 1
        · exact .inl h
        · by_cases h' : o.kind = 5
          · exact .inr h'
          · exact absurd (.inr ⟨h, h'⟩) h4
      clear e7
      go_upto_region 11 with fail
      go_cut [64] (fun v wx => v = .bool false ∧ wx = wc)
      case first =>
        rcases hkk with h | h
        · have e6 : (o.kind != 1) = false := by simp [h]
          clear h h3 h4
          go_wp2
          go_meet
          case rel => exact ⟨rfl, rfl⟩
        · have e6 : (o.kind != 1) = true := by simp [h]
          have e7 : (o.kind != 5) = false := by simp [h]
          clear h h3 h4
          go_wp2
          go_meet
          case rel => exact ⟨rfl, rfl⟩
      case rest =>
        obtain ⟨rfl, rfl⟩ := hcut
        have hle := HS0.out; have hle1 := HS1.out
        have hsh := HO.out.2.2.2.2.2.2.1; have hqq := HO.out.2.2.2.2.2.1
        have cRest := Lib.hid (fun w => restOf_any o s.left hle hle1 hsh.1 (by omega) w)
        obtain ⟨rr, hrr⟩ : ∃ rr, rr = restOf o s.left := ⟨_, rfl⟩
        rw [← hrr] at cRest
        obtain ⟨L', hL'⟩ : ∃ L', L' = putL o.side o.price rr K1 := ⟨_, rfl⟩
        obtain ⟨M', hM'⟩ : ∃ M', M' = putM o.side o.price rr K2 := ⟨_, rfl⟩
        obtain ⟨zz, hzz'⟩ : ∃ zz, zz = putE K1 K2 o.side o.price rr := ⟨_, rfl⟩
        have cPut := Lib.hid (fun w' h h' => PC K1 K2 o.side o.price rr B1 B2 e1 e2 w' h h' (by have := HP1.out.own.le; have := HP1.out.own.max; omega) (by have := HP2.out.own.le; have := HP2.out.own.max; omega) (fun e => (HP1.out.own.none_cap e).2) (fun e => (HP2.out.own.none_cap e).2))
        rw [← hL', ← hM', ← hzz'] at cPut
        replace cPut := Lib.hid (fun w' h h' => (cPut.out w' h h').mono fun _ _ h => h.flat)
        have HLL := Lib.hid (show L' = putL o.side o.price (restOf o s.left) (kL o.side L s) by rw [hL', hrr, HK1.out])
        have HMM := Lib.hid (show M' = putM o.side o.price (restOf o s.left) (kM o.side M s) by rw [hM', hrr, HK2.out])
        have HZZ := Lib.hid (show z s = zz by rw [HZ.out, hzz', hrr, HK1.out, HK2.out])
        have HR1 := Lib.hid HP1.out.rd; have HR2 := Lib.hid HP2.out.rd
        clear hrr hL' hM' hzz' hkk h3 h4 hle hle1 hsh hqq PC
        obtain ⟨wd, rfl⟩ : ∃ wd : World, wd = wc := ⟨_, rfl⟩
        go_upto_region 13 with fail
        go_cut [10, 12] (fun ev p wx => (zz ≠ 0 ∧ ev = er zz ∧ Below wd.heap.size wd wx) ∨ (zz = 0 ∧ ev = .nilIface ∧ ∃ gB D1 f1 x1 D2 f2 x2, p = .pointer (some ⟨gB, 0, none⟩) ∧ Bk wx gB 54 #[.slice D1 L'.length f1, .slice D2 M'.length f2] ∧ OwnLv wx wd.heap.size D1 f1 L' x1 ∧ OwnLv wx wd.heap.size D2 f2 M' x2 ∧ wd.heap.size ≤ gB ∧ Below wd.heap.size wd wx))
        case first =>
          --<k13
          obtain ⟨b0, b1, b2, b3, b4, b5, b6, b7⟩ := k8
          have hwd : w.heap.size + 2 < wd.heap.size := by omega
          have hg1 : w1.heap.size < wd.heap.size := by omega
          have bZ0 := (Bk.new wd 54 #[.slice none 0 0, .slice none 0 0]).drew
          go_region_held3 (fun w' => w'.cell? ⟨w.heap.size + 1, 0, none⟩ = some (.int .i64 o.id) ∧ w'.cell? ⟨w.heap.size + 1, 1, none⟩ = some (.int .i64 o.who) ∧ w'.cell? ⟨w.heap.size + 1, 2, none⟩ = some (.int .i64 o.side) ∧ w'.cell? ⟨w.heap.size + 1, 3, none⟩ = some (.int .i64 o.kind) ∧ w'.cell? ⟨w.heap.size + 1, 4, none⟩ = some (.int .i64 o.price) ∧ w'.cell? ⟨w.heap.size + 1, 5, none⟩ = some (.int .i64 o.qty) ∧ w'.cell? ⟨w.heap.size + 1, 6, none⟩ = some (.int .i64 o.show_) ∧ w'.cell? ⟨w.heap.size + 1, 7, none⟩ = some (.int .i64 o.stop) ∧ w'.cell? ⟨w1.heap.size, 0, none⟩ = some (.slice B1 K1.length e1) ∧ w'.cell? ⟨w1.heap.size, 1, none⟩ = some (.slice B2 K2.length e2) ∧ w'.cell? ⟨w1.heap.size, 3, none⟩ = some (.int .i64 s.left))
            ((repeat' apply And.intro) <;> (first | (with_reducible assumption) | (with_reducible exact cell_drew (by assumption)) | (with_reducible exact cell_alloc (by assumption) _) | (with_reducible exact cell_alloc_drew (by assumption) _) | (with_reducible exact cell_far2 (by assumption) (by simp; omega))))
            (first
              | (go_at_call 118; (with_reducible refine (cRest.out (wd.alloc (.cells #[.slice none 0 0, .slice none 0 0] 54)).drew).mono ?_); rintro e wr ⟨rfl, hbr⟩; have hbw1 : Below wd.heap.size wd wr := (by (repeat (first | exact Below.refl _ _ | assumption | (refine below_then (by assumption) ?_) | (refine below_then_alloc ?_) | (refine Below.drew ?_)))); have hsr := hbw1.size; have bo1 : Bk wr (w.heap.size + 1) 31 #[.int .i64 o.id, .int .i64 o.who, .int .i64 o.side, .int .i64 o.kind, .int .i64 o.price, .int .i64 o.qty, .int .i64 o.show_, .int .i64 o.stop] := (bo.alloc _).drew.keep hbr; have bM1 : Bk wr w1.heap.size 146 #[.slice B1 K1.length e1, .slice B2 K2.length e2, .slice AT s.T.length cT, .int .i64 s.left, .slice AW s.W.length cW, .bool s.ends] := (bM.alloc _).drew.keep hbr; obtain ⟨b0, b1, b2, b3, b4, b5, b6, b7⟩ := box8o bo1; obtain ⟨n0, n1, n2, n3, n4, n5⟩ := box6 bM1; have bZ1 : Bk wr wd.heap.size 54 #[.slice none 0 0, .slice none 0 0] := bZ0.keep hbr; obtain ⟨t0, t1⟩ := box2 bZ1)
              | (go_at_call 118; (with_reducible refine (cRest.out wd.drew).mono ?_); rintro e wr ⟨rfl, hbr⟩; have hbw1 : Below wd.heap.size wd wr := (by (repeat (first | exact Below.refl _ _ | assumption | (refine below_then (by assumption) ?_) | (refine below_then_alloc ?_) | (refine Below.drew ?_)))); have hsr := hbw1.size; have bo1 : Bk wr (w.heap.size + 1) 31 #[.int .i64 o.id, .int .i64 o.who, .int .i64 o.side, .int .i64 o.kind, .int .i64 o.price, .int .i64 o.qty, .int .i64 o.show_, .int .i64 o.stop] := bo.drew.keep hbr; have bM1 : Bk wr w1.heap.size 146 #[.slice B1 K1.length e1, .slice B2 K2.length e2, .slice AT s.T.length cT, .int .i64 s.left, .slice AW s.W.length cW, .bool s.ends] := bM.drew.keep hbr; obtain ⟨b0, b1, b2, b3, b4, b5, b6, b7⟩ := box8o bo1; obtain ⟨n0, n1, n2, n3, n4, n5⟩ := box6 bM1)
              | (go_at_call 117; (with_reducible refine (cPut.out wr (HR1.out.on (by (repeat (first | exact Below.refl _ _ | assumption | (refine below_then (by assumption) ?_) | (refine below_then_alloc ?_) | (refine Below.drew ?_))))) (HR2.out.on (by (repeat (first | exact Below.refl _ _ | assumption | (refine below_then (by assumption) ?_) | (refine below_then_alloc ?_) | (refine Below.drew ?_)))))).mono ?_); rintro e wp ⟨D1, m1, f1, D2, m2, f2, ev, rfl, hR, hbp⟩; have hbw2 : Below wd.heap.size wd wp := (by (repeat (first | exact Below.refl _ _ | assumption | (refine below_then (by assumption) ?_) | (refine below_then_alloc ?_) | (refine Below.drew ?_)))); have hsp := hbw2.size; have bo2 : Bk wp (w.heap.size + 1) 31 #[.int .i64 o.id, .int .i64 o.who, .int .i64 o.side, .int .i64 o.kind, .int .i64 o.price, .int .i64 o.qty, .int .i64 o.show_, .int .i64 o.stop] := bo1.keep hbp; have bM2 : Bk wp w1.heap.size 146 #[.slice B1 K1.length e1, .slice B2 K2.length e2, .slice AT s.T.length cT, .int .i64 s.left, .slice AW s.W.length cW, .bool s.ends] := bM1.keep hbp; obtain ⟨b0, b1, b2, b3, b4, b5, b6, b7⟩ := box8o bo2; obtain ⟨n0, n1, n2, n3, n4, n5⟩ := box6 bM2; have bZ2 : Bk wp wd.heap.size 54 #[.slice none 0 0, .slice none 0 0] := bZ1.keep hbp; obtain ⟨t0, t1⟩ := box2 bZ2; have g0 := bZ2.free 0; have g1 := bZ2.free 1)
              | (go_at_call 117; (with_reducible refine (cPut.out (wr.alloc (.cells #[.slice none 0 0, .slice none 0 0] 54)) (HR1.out.on (by (repeat (first | exact Below.refl _ _ | assumption | (refine below_then (by assumption) ?_) | (refine below_then_alloc ?_) | (refine Below.drew ?_))))) (HR2.out.on (by (repeat (first | exact Below.refl _ _ | assumption | (refine below_then (by assumption) ?_) | (refine below_then_alloc ?_) | (refine Below.drew ?_)))))).mono ?_); rintro e wp ⟨D1, m1, f1, D2, m2, f2, ev, rfl, hR, hbp⟩; have hbw2 : Below wd.heap.size wd wp := (by (repeat (first | exact Below.refl _ _ | assumption | (refine below_then (by assumption) ?_) | (refine below_then_alloc ?_) | (refine Below.drew ?_)))); have hsp := hbw2.size; have bo2 : Bk wp (w.heap.size + 1) 31 #[.int .i64 o.id, .int .i64 o.who, .int .i64 o.side, .int .i64 o.kind, .int .i64 o.price, .int .i64 o.qty, .int .i64 o.show_, .int .i64 o.stop] := (bo1.alloc _).keep hbp; have bM2 : Bk wp w1.heap.size 146 #[.slice B1 K1.length e1, .slice B2 K2.length e2, .slice AT s.T.length cT, .int .i64 s.left, .slice AW s.W.length cW, .bool s.ends] := (bM1.alloc _).keep hbp; obtain ⟨b0, b1, b2, b3, b4, b5, b6, b7⟩ := box8o bo2; obtain ⟨n0, n1, n2, n3, n4, n5⟩ := box6 bM2; have bZ2 : Bk wp wr.heap.size 54 #[.slice none 0 0, .slice none 0 0] := (Bk.new wr 54 #[.slice none 0 0, .slice none 0 0]).keep hbp; obtain ⟨t0, t1⟩ := box2 bZ2; have g0 := bZ2.free 0; have g1 := bZ2.free 1)
              | (go_at_call 117; (with_reducible refine (cPut.out wr (HR1.out.on (by (repeat (first | exact Below.refl _ _ | assumption | (refine below_then (by assumption) ?_) | (refine below_then_alloc ?_) | (refine Below.drew ?_))))) (HR2.out.on (by (repeat (first | exact Below.refl _ _ | assumption | (refine below_then (by assumption) ?_) | (refine below_then_alloc ?_) | (refine Below.drew ?_)))))).mono ?_); rintro e wp ⟨D1, m1, f1, D2, m2, f2, ev, rfl, hR, hbp⟩; have hbw2 : Below wd.heap.size wd wp := (by (repeat (first | exact Below.refl _ _ | assumption | (refine below_then (by assumption) ?_) | (refine below_then_alloc ?_) | (refine Below.drew ?_)))); have hsp := hbw2.size; have bo2 : Bk wp (w.heap.size + 1) 31 #[.int .i64 o.id, .int .i64 o.who, .int .i64 o.side, .int .i64 o.kind, .int .i64 o.price, .int .i64 o.qty, .int .i64 o.show_, .int .i64 o.stop] := bo1.keep hbp; have bM2 : Bk wp w1.heap.size 146 #[.slice B1 K1.length e1, .slice B2 K2.length e2, .slice AT s.T.length cT, .int .i64 s.left, .slice AW s.W.length cW, .bool s.ends] := bM1.keep hbp; obtain ⟨b0, b1, b2, b3, b4, b5, b6, b7⟩ := box8o bo2; obtain ⟨n0, n1, n2, n3, n4, n5⟩ := box6 bM2))
          · have HB := Lib.hid (show Below wd.heap.size wd (wp.alloc (.cells #[.slice D1 m1 f1, .slice D2 m2 f2] 54)) from below_then_alloc hbw2)
            have HZ2 := Lib.hid (Bk.new wp 54 #[.slice D1 m1 f1, .slice D2 m2 f2])
            have HRR := Lib.hid (hR.out.up (b := wd.heap.size) hsr (.cells #[.slice D1 m1 f1, .slice D2 m2 f2] 54))
            clear hR bo1 bo2 bM1 bM2 hbp hbr
            go_wp2
            go_meet
            case rel =>
              rcases HRR.out with ⟨a, rfl⟩ | ⟨a, rfl, rfl, rfl, v1, v2, o1, o2⟩
              · exact .inl ⟨a, rfl, HB.out⟩
              · exact .inr ⟨a, rfl, _, _, _, v1, _, _, v2, rfl, HZ2.out, o1, o2, hsp, HB.out⟩
          · have HB := Lib.hid (show Below wd.heap.size wd ((wp.setCell ⟨wr.heap.size, 0, none⟩ (.slice D1 m1 f1)).setCell ⟨wr.heap.size, 1, none⟩ (.slice D2 m2 f2)) from (hbw2.setCell (p := ⟨wr.heap.size, 0, none⟩) hsr _).setCell (p := ⟨wr.heap.size, 1, none⟩) hsr _)
            have HZ2 := Lib.hid (bZ2.set2 (.slice D1 m1 f1) (.slice D2 m2 f2))
            have HRR := Lib.hid (hR.out.far2 (g := wr.heap.size) (b := wd.heap.size) (by simp) (by simp; omega) (.slice D1 m1 f1) (.slice D2 m2 f2))
            clear hR bZ2 bo1 bo2 bM1 bM2 hbp hbr
            go_wp2
            go_meet
            case rel =>
              rcases HRR.out with ⟨a, rfl⟩ | ⟨a, rfl, rfl, rfl, v1, v2, o1, o2⟩
              · exact .inl ⟨a, rfl, HB.out⟩
              · exact .inr ⟨a, rfl, _, _, _, v1, _, _, v2, rfl, HZ2.out, o1, o2, hsr, HB.out⟩
          · have HB := Lib.hid (show Below wd.heap.size wd ((wp.setCell ⟨wd.heap.size, 0, none⟩ (.slice D1 m1 f1)).setCell ⟨wd.heap.size, 1, none⟩ (.slice D2 m2 f2)) from (hbw2.setCell (p := ⟨wd.heap.size, 0, none⟩) (Nat.le_refl _) _).setCell (p := ⟨wd.heap.size, 1, none⟩) (Nat.le_refl _) _)
            have HZ2 := Lib.hid (bZ2.set2 (.slice D1 m1 f1) (.slice D2 m2 f2))
            have HRR := Lib.hid (hR.out.far2 (g := wd.heap.size) (b := wd.heap.size) (by have := bZ1.lt; simpa using this) hsr (.slice D1 m1 f1) (.slice D2 m2 f2))
            clear hR bZ1 bZ2 bo1 bo2 bM1 bM2 hbp hbr
            go_wp2
            go_meet
            case rel =>
              rcases HRR.out with ⟨a, rfl⟩ | ⟨a, rfl, rfl, rfl, v1, v2, o1, o2⟩
              · exact .inl ⟨a, rfl, HB.out⟩
              · exact .inr ⟨a, rfl, _, _, _, v1, _, _, v2, rfl, HZ2.out, o1, o2, Nat.le_refl _, HB.out⟩
          -->k13
        case rest =>
          --<k14
          have hwd : w.heap.size + 2 < wd.heap.size := by omega
          have hg1 : w1.heap.size < wd.heap.size := by omega
          rcases hcut with ⟨hz0, rfl, hb5⟩ | ⟨hz0, rfl, gB, D1, f1, x1, D2, f2, x2, rfl, bB, p1, p2, hgB, hb5⟩
          · have HZ0 := Lib.hid hz0
            replace br := br.keep hb5
            have hb6 := below_then hb5 hb
            have r0 := box6 br
            have y0 := br.free 0; have y1 := br.free 1; have y2 := br.free 2; have y3 := br.free 3; have y4 := br.free 4; have y5 := br.free 5
            have kx := box6 (br.set6 (.slice none 0 0) (.slice none 0 0) (.slice none 0 0) (.int .i64 0) (.slice none 0 0) (.bool false))
            have HF := Lib.hid (below_set6 hb6 (g := w.heap.size + 2) (by omega) (.slice none 0 0) (.slice none 0 0) (.slice none 0 0) (.int .i64 0) (.slice none 0 0) (.bool false))
            clear bb bo br hb bM hb5 hb6 hz0 m0 m1 m2 m3 m4 m5 k8 hwd hg1
            go_wp2
            exact bodyPost_ret (v := .tuple #[.agg #[.slice none 0 0, .slice none 0 0, .slice none 0 0, .int .i64 0, .slice none 0 0, .bool false], .int .i64 0, er zz]) (by simp [results, Tryz.results86, go_sem, kx]) rfl (.inr ⟨s, HMET.out, HOK.out, .inr (.inl ⟨HE.out, by rw [HZZ.out]; exact HZ0.out, by rw [HZZ.out], HF.out⟩)⟩)
          · have HZ0 := Lib.hid (HZZ.out.trans hz0)
            have HB5 := Lib.hid hb5
            have bM5 := bM.keep hb5
            have br5 := br.keep hb5
            have hb6 := below_then hb5 hb
            obtain ⟨n0, n1, n2, n3, n4, n5⟩ := box6 bM5
            rw [h5'] at n5
            have g0 := bM5.free 0; have g1 := bM5.free 1
            obtain ⟨t0, t1⟩ := box2 bB
            have hne : w1.heap.size ≠ gB := by omega
            have bM6 := (bM5.set_ 0 (.slice D1 L'.length f1)).set_ 1 (.slice D2 M'.length f2)
            have br6 := (br5.far (p := ⟨w1.heap.size, 0, none⟩) (by show w.heap.size + 2 ≠ w1.heap.size; omega) (.slice D1 L'.length f1)).far (p := ⟨w1.heap.size, 1, none⟩) (by show w.heap.size + 2 ≠ w1.heap.size; omega) (.slice D2 M'.length f2)
            have HX1 := Lib.hid (p1.far2 (g := w1.heap.size) (i := 0) (j := 1) hg1 (.slice D1 L'.length f1) (.slice D2 M'.length f2))
            have HX2 := Lib.hid (p2.far2 (g := w1.heap.size) (i := 0) (j := 1) hg1 (.slice D1 L'.length f1) (.slice D2 M'.length f2))
            have HXT := Lib.hid (((HPT.out.below hb5).apart (grown_set _ ⟨w1.heap.size, 0, none⟩ (.slice D1 L'.length f1)) HAT.out).apart (grown_set _ ⟨w1.heap.size, 1, none⟩ (.slice D2 M'.length f2)) HAT.out)
            have HXW := Lib.hid (((HPW.out.below hb5).apart (grown_set _ ⟨w1.heap.size, 0, none⟩ (.slice D1 L'.length f1)) HAW.out).apart (grown_set _ ⟨w1.heap.size, 1, none⟩ (.slice D2 M'.length f2)) HAW.out)
            have HBB := Lib.hid ((hb6.setCell (p := ⟨w1.heap.size, 0, none⟩) (by show w.heap.size ≤ w1.heap.size; omega) (.slice D1 L'.length f1)).setCell (p := ⟨w1.heap.size, 1, none⟩) (by show w.heap.size ≤ w1.heap.size; omega) (.slice D2 M'.length f2))
            clear bb bo br hb bM hb5 hb6 hz0 m0 m1 m2 m3 m4 m5 k8 p1 p2 HPT HPW HP1 HP2 br5 bM5 bB
            go_upto_region 17 with fail
            generalize (wc.setCell ⟨w1.heap.size, 0, none⟩ (.slice D1 L'.length f1)).setCell ⟨w1.heap.size, 1, none⟩ (.slice D2 M'.length f2) = w7 at *
            clear n0 n1 n2 n3 n4 n5 g0 g1 t0 t1
            simp at bM6
            rw [h5'] at bM6
            obtain ⟨n0, n1, n2, n3, n4, n5⟩ := box6 bM6
            have r0 := box6 br6
            have y0 := br6.free 0; have y1 := br6.free 1; have y2 := br6.free 2; have y3 := br6.free 3; have y4 := br6.free 4; have y5 := br6.free 5
            have kx := box6 (br6.set6 (.slice D1 L'.length f1) (.slice D2 M'.length f2) (.slice AT s.T.length cT) (.int .i64 s.left) (.slice AW s.W.length cW) (.bool false))
            have HF := Lib.hid (below_set6 HBB.out (g := w.heap.size + 2) (by omega) (.slice D1 L'.length f1) (.slice D2 M'.length f2) (.slice AT s.T.length cT) (.int .i64 s.left) (.slice AW s.W.length cW) (.bool false))
            have X1 := Lib.hid ((HX1.out.far6 (g := w.heap.size + 2) hwd (.slice D1 L'.length f1) (.slice D2 M'.length f2) (.slice AT s.T.length cT) (.int .i64 s.left) (.slice AW s.W.length cW) (.bool false)).lower (b := w.heap.size) (by omega))
            have X2 := Lib.hid ((HX2.out.far6 (g := w.heap.size + 2) hwd (.slice D1 L'.length f1) (.slice D2 M'.length f2) (.slice AT s.T.length cT) (.int .i64 s.left) (.slice AW s.W.length cW) (.bool false)).lower (b := w.heap.size) (by omega))
            have XT := Lib.hid ((HXT.out.far6 (g := w.heap.size + 2) hgl (.slice D1 L'.length f1) (.slice D2 M'.length f2) (.slice AT s.T.length cT) (.int .i64 s.left) (.slice AW s.W.length cW) (.bool false)).lower (b := w.heap.size) (by omega))
            have XW := Lib.hid ((HXW.out.far6 (g := w.heap.size + 2) hgl (.slice D1 L'.length f1) (.slice D2 M'.length f2) (.slice AT s.T.length cT) (.int .i64 s.left) (.slice AW s.W.length cW) (.bool false)).lower (b := w.heap.size) (by omega))
            have H5 := Lib.hid h5'
            clear HX1 HX2 HXT HXW h5'
            go_wp2
            exact bodyPost_ret (v := .tuple #[.agg #[.slice D1 L'.length f1, .slice D2 M'.length f2, .slice AT s.T.length cT, .int .i64 s.left, .slice AW s.W.length cW, .bool false], .int .i64 0, .nilIface]) (by simp [results, Tryz.results86, go_sem, kx]) rfl (.inr ⟨s, HMET.out, HOK.out, .inr (.inr ⟨D1, f1, x1, D2, f2, x2, AT, cT, AW, cW, L', M', .inr ⟨HE.out, HZ0.out, HLL.out, HMM.out⟩, by rw [HE.out, H5.out]; rfl, X1.out, X2.out, XT.out, XW.out, HF.out⟩)⟩)
          -->k14
      -->k2
end Go.Proofs.YtkdgpdijbobmkaaGreat
