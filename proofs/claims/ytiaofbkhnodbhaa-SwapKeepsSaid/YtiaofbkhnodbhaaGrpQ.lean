/- What kinds.Run gives, in one form. The contract of kinds.Do, given Put's. The contract of self.Do, given Put's. -/
import Derived.Test.YtiaofbkhnodbhaaKRun
namespace Go.Proofs.Ytiaofbkhnodbhaa
set_option linter.all false
open Go Go.RowKit
/-- what kinds.Run gave, in one form -/
def KR (R : Option MSt) (k : MSt → Nat) (z : MSt → Int) (o : Order) (L M : List Lv) (base : Nat) (w' : World) (A1 : Option Addr) (n1 c1 : Nat) (A2 : Option Addr) (n2 c2 : Nat) (AT : Option Addr) (nT cT : Nat) (gone : Int) (AW : Option Addr) (nW cW : Nat) (ev : Value) : Prop :=
  (ev = er 4 ∧ R = none ∧ nT = 0 ∧ nW = 0 ∧ gone = 0 ∧ n1 = 0 ∧ n2 = 0) ∨
  ∃ s, R = some s ∧ MOk s ∧ (((k s = 9 ∨ k s = 8) ∧ ev = er (k s) ∧ nT = 0 ∧ nW = 0 ∧ gone = 0 ∧ n1 = 0 ∧ n2 = 0) ∨ (k s = 2 ∧ z s ≠ 0 ∧ ev = er (z s) ∧ nT = 0 ∧ nW = 0 ∧ gone = 0 ∧ n1 = 0 ∧ n2 = 0) ∨
    (ev = .nilIface ∧ ∃ v1 v2 L' M', (k s ≤ 1 ∧ L' = kL o.side L s ∧ M' = kM o.side M s ∨ k s = 2 ∧ z s = 0 ∧ L' = putL o.side o.price (restOf o s.left) (kL o.side L s) ∧ M' = putM o.side o.price (restOf o s.left) (kM o.side M s)) ∧
      n1 = L'.length ∧ n2 = M'.length ∧ nT = s.T.length ∧ nW = s.W.length ∧ gone = (if k s = 1 then s.left else 0) ∧
      OwnLv w' base A1 c1 L' v1 ∧ OwnLv w' base A2 c2 M' v2 ∧ OwnS w' base 6 AT s.T.length cT (trows s.T) ∧ OwnS w' base 1 AW s.W.length cW (irows s.W)))
theorem KRunQ.flat {R : Option MSt} {k : MSt → Nat} {z : MSt → Int} {o : Order} {L M : List Lv} {w w' : World} {e : Ending} (h : KRunQ R k z o L M w e w') :
    ∃ A1 n1 c1 A2 n2 c2 AT nT cT left gone AW nW cW ends ev, e = .returned (.tuple #[.agg #[.slice A1 n1 c1, .slice A2 n2 c2, .slice AT nT cT, .int .i64 left, .slice AW nW cW, .bool ends], .int .i64 gone, ev]) ∧ Hid (KR R k z o L M w.heap.size w' A1 n1 c1 A2 n2 c2 AT nT cT gone AW nW cW ev) ∧ Below w.heap.size w w' := by
  rcases h with ⟨h0, rfl, hb⟩ | ⟨s, hs, hok, ⟨h0, rfl, hb⟩ | ⟨h0, h1, rfl, hb⟩ | ⟨A1, c1, v1, A2, c2, v2, AT, cT, AW, cW, L', M', h0, rfl, o1, o2, o3, o4, hb⟩⟩
  · exact ⟨_, _, _, _, _, _, _, _, _, _, _, _, _, _, _, _, rfl, Lib.hid (.inl ⟨rfl, h0, rfl, rfl, rfl, rfl, rfl⟩), hb⟩
  · exact ⟨_, _, _, _, _, _, _, _, _, _, _, _, _, _, _, _, rfl, Lib.hid (.inr ⟨s, hs, hok, .inl ⟨h0, rfl, rfl, rfl, rfl, rfl, rfl⟩⟩), hb⟩
  · exact ⟨_, _, _, _, _, _, _, _, _, _, _, _, _, _, _, _, rfl, Lib.hid (.inr ⟨s, hs, hok, .inr (.inl ⟨h0, h1, rfl, rfl, rfl, rfl, rfl, rfl⟩)⟩), hb⟩
  · exact ⟨_, _, _, _, _, _, _, _, _, _, _, _, _, _, _, _, rfl, Lib.hid (.inr ⟨s, hs, hok, .inr (.inr ⟨rfl, v1, v2, L', M', h0, rfl, rfl, rfl, rfl, rfl, o1, o2, o3, o4⟩)⟩), hb⟩
theorem KR.move {R : Option MSt} {k : MSt → Nat} {z : MSt → Int} {o : Order} {L M : List Lv} {base b : Nat} {w w' : World} {A1 A2 AT AW : Option Addr} {n1 c1 n2 c2 nT cT nW cW : Nat} {gone : Int} {ev : Value}
    (h : KR R k z o L M base w A1 n1 c1 A2 n2 c2 AT nT cT gone AW nW cW ev) (f : ∀ (A : Option Addr) (c : Nat) (L : List Lv) (v : List (Option Addr × Nat)), OwnLv w base A c L v → OwnLv w' b A c L v) (g : ∀ (s : Nat) (A : Option Addr) (n c : Nat) (xs : List Value), OwnS w base s A n c xs → OwnS w' b s A n c xs) :
    KR R k z o L M b w' A1 n1 c1 A2 n2 c2 AT nT cT gone AW nW cW ev := by
  rcases h with h | ⟨s, hs, hok, h | h | ⟨e, v1, v2, L', M', h0, e1, e2, e3, e4, e5, o1, o2, o3, o4⟩⟩
  · exact .inl h
  · exact .inr ⟨s, hs, hok, .inl h⟩
  · exact .inr ⟨s, hs, hok, .inr (.inl h)⟩
  · exact .inr ⟨s, hs, hok, .inr (.inr ⟨e, v1, v2, L', M', h0, e1, e2, e3, e4, e5, f _ _ _ _ o1, f _ _ _ _ o2, g _ _ _ _ _ o3, g _ _ _ _ _ o4⟩)⟩
end Go.Proofs.Ytiaofbkhnodbhaa
namespace Go.Proofs.Ytiaofbkhnodbhaa
set_option linter.all false
open Go Go.RowKit
/-- how kinds.Do ends -/
def KDoQ (y : Int) (R : Option MSt) (k : MSt → Nat) (z : MSt → Int) (o : Order) (L M : List Lv) (w : World) (e : Ending) (w' : World) : Prop :=
  ∃ A1 n1 c1 A2 n2 c2 AT nT cT gone ev, e = .returned (.tuple #[.agg #[.slice A1 n1 c1, .slice A2 n2 c2], .slice AT nT cT, .int .i64 gone, ev]) ∧
    Hid ((y ≠ 0 ∧ ev = er y ∧ nT = 0 ∧ gone = 0 ∧ n1 = 0 ∧ n2 = 0) ∨ (y = 0 ∧ ∃ AW nW cW, KR R k z o L M w.heap.size w' A1 n1 c1 A2 n2 c2 AT nT cT gone AW nW cW ev)) ∧ Below w.heap.size w w'
set_option maxRecDepth 100000 in
set_option maxHeartbeats 4000000 in
theorem kdo_any (L M : List Lv) (o : Order) (A1 A2 : Option Addr) (c1 c2 : Nat) (w : World) (h1 : RdLv w w.heap.size A1 L) (h2 : RdLv w w.heap.size A2 M) (hl1 : L.length ≤ maxLen) (hl2 : M.length ≤ maxLen) (hA1 : A1 = none → c1 = 0) (hA2 : A2 = none → c2 = 0)
    (y : Int) (hy : y = readyE L M o) (R : Option MSt) (hR : R = met L M o 0) (k : MSt → Nat) (hk : k = kOut o (pick o.side L M)) (z : MSt → Int) (hz : z = fun s => putE (kL o.side L s) (kM o.side M s) o.side o.price (restOf o s.left)) (hput : (∃ s, R = some s ∧ k s = 2) → PutCon) :
    Calls Try.prog 15 #[.agg #[.slice A1 L.length c1, .slice A2 M.length c2], .agg #[.int .i64 o.id, .int .i64 o.who, .int .i64 o.side, .int .i64 o.kind, .int .i64 o.price, .int .i64 o.qty, .int .i64 o.show_, .int .i64 o.stop]] w (KDoQ y R k z o L M w) := by
  have HL := Lib.hid h1; have HM := Lib.hid h2
  have cR0 := fun w' h h' => ready_any L M o A1 A2 c1 c2 w' h h' hl1 hl2
  rw [← hy] at cR0
  have cR := Lib.hid cR0
  have HYR := Lib.hid hy
  have cK := Lib.hid (fun w' h h' (hbk : BookOk L M) (ho : o.err = 0) => (krun_any L M o 0 A1 A2 c1 c2 w' h h' hbk ho hA1 hA2 R hR k hk z hz hput).mono fun _ _ h => h.flat)
  have hb : Below w.heap.size w (((w.alloc (.cells #[.slice A1 L.length c1, .slice A2 M.length c2] 29)).alloc (.cells #[.int .i64 o.id, .int .i64 o.who, .int .i64 o.side, .int .i64 o.kind, .int .i64 o.price, .int .i64 o.qty, .int .i64 o.show_, .int .i64 o.stop] 47)).alloc (.cells #[.slice none 0 0, .slice none 0 0] 29)) := below_then_alloc (below_then_alloc ((Below.refl _ _).alloc (Nat.le_refl _) _))
  have bb := ((Bk.new w 29 #[.slice A1 L.length c1, .slice A2 M.length c2]).alloc (.cells #[.int .i64 o.id, .int .i64 o.who, .int .i64 o.side, .int .i64 o.kind, .int .i64 o.price, .int .i64 o.qty, .int .i64 o.show_, .int .i64 o.stop] 47)).alloc (.cells #[.slice none 0 0, .slice none 0 0] 29)
  have bo := (Bk.at_ (w := w.alloc (.cells #[.slice A1 L.length c1, .slice A2 M.length c2] 29)) (g' := w.heap.size + 1) (by simp) 47 #[.int .i64 o.id, .int .i64 o.who, .int .i64 o.side, .int .i64 o.kind, .int .i64 o.price, .int .i64 o.qty, .int .i64 o.show_, .int .i64 o.stop]).alloc (.cells #[.slice none 0 0, .slice none 0 0] 29)
  have br := Bk.at_ (w := (w.alloc (.cells #[.slice A1 L.length c1, .slice A2 M.length c2] 29)).alloc (.cells #[.int .i64 o.id, .int .i64 o.who, .int .i64 o.side, .int .i64 o.kind, .int .i64 o.price, .int .i64 o.qty, .int .i64 o.show_, .int .i64 o.stop] 47)) (g' := w.heap.size + 2) (by simp) 29 #[.slice none 0 0, .slice none 0 0]
  clear h1 h2 hl1 hl2 cR0 hy hR hk hz hput hA1 hA2
  go_enter Try.func15, Try.ntmps15
  go_upto_region 1 with fail
  generalize ((w.alloc (.cells #[.slice A1 L.length c1, .slice A2 M.length c2] 29)).alloc (.cells #[.int .i64 o.id, .int .i64 o.who, .int .i64 o.side, .int .i64 o.kind, .int .i64 o.price, .int .i64 o.qty, .int .i64 o.show_, .int .i64 o.stop] 47)).alloc (.cells #[.slice none 0 0, .slice none 0 0] 29) = w0 at *
  have hgl : w.heap.size + 2 < w0.heap.size := br.lt
  have k8 := box8o bo
  obtain ⟨q0, q1⟩ := box2 bb
  go_wp2_with fail
  go_at_call 37
  refine (cR.out _ (HL.out.on hb) (HM.out.on hb)).mono ?_
  rintro e w1 ⟨rfl, hb1⟩
  have hz1 : w0.heap.size ≤ w1.heap.size := hb1.size
  replace bb := bb.keep hb1; replace bo := bo.keep hb1; replace br := br.keep hb1; replace hb := below_then hb1 hb
  clear hb1 q0 q1 k8 cR
  by_cases h0 : y = 0
  case neg =>
    have HN := Lib.hid h0
    rw [show errV y = er y by rw [errV, if_neg h0]]
    obtain ⟨r0, r1⟩ := box2 br
    have f0 := br.free 0; have f1 := br.free 1
    have kx := box2 (br.set2 (.slice none 0 0) (.slice none 0 0))
    have HF := Lib.hid ((hb.setCell (p := ⟨w.heap.size + 2, 0, none⟩) (by show w.heap.size ≤ w.heap.size + 2; omega) (.slice none 0 0)).setCell (p := ⟨w.heap.size + 2, 1, none⟩) (by show w.heap.size ≤ w.heap.size + 2; omega) (.slice none 0 0))
    clear h0 bb bo br hb
    go_wp2
    exact bodyPost_ret (v := .tuple #[.agg #[.slice none 0 0, .slice none 0 0], .slice none 0 0, .int .i64 0, er y]) (by simp [results, Try.results15, go_sem, kx]) rfl ⟨none, 0, 0, none, 0, 0, none, 0, 0, 0, _, rfl, Lib.hid (.inl ⟨HN.out, rfl, rfl, rfl, rfl, rfl⟩), HF.out⟩
  case pos =>
  have HZ := Lib.hid h0
  have hbk := (readyE_iff.1 (HYR.out.symm.trans h0)).1
  have ho := (readyE_iff.1 (HYR.out.symm.trans h0)).2.1
  have cRun := Lib.hid (cK.out w1 (HL.out.on hb) (HM.out.on hb) hbk ho)
  rw [h0, show errV 0 = .nilIface from rfl]
  have k8 := box8o bo
  obtain ⟨q0, q1⟩ := box2 bb
  clear h0 hbk ho HYR cK
  go_wp2_with fail
  go_at_call 38
  refine cRun.out.mono ?_
  rintro e w2 ⟨B1, m1, e1, B2, m2, e2, AT, nT, cT, left, gone, AW, nW, cW, ends, ev, rfl, hK, hb1⟩
  have hlt : w.heap.size + 2 < w1.heap.size := by omega
  replace br := br.keep hb1
  have hb2 := below_then hb1 hb
  clear bb bo hb hb1 k8 q0 q1 cRun
  go_upto_region 5 with fail
  have hba : Below w2.heap.size w2 (w2.alloc (.cells #[.slice B1 m1 e1, .slice B2 m2 e2, .slice AT nT cT, .int .i64 left, .slice AW nW cW, .bool ends] 88)) := (Below.refl _ _).alloc (Nat.le_refl _) _
  have bM := Bk.new w2 88 #[.slice B1 m1 e1, .slice B2 m2 e2, .slice AT nT cT, .int .i64 left, .slice AW nW cW, .bool ends]
  generalize w2.alloc (.cells #[.slice B1 m1 e1, .slice B2 m2 e2, .slice AT nT cT, .int .i64 left, .slice AW nW cW, .bool ends] 88) = w3 at *
  have HR := Lib.hid (br.keep hba)
  have hgm : w.heap.size + 2 < w2.heap.size := br.lt
  have HB3 := Lib.hid (below_then hba hb2)
  have HK := Lib.hid (hK.out.move (w' := (((w3.setCell ⟨w.heap.size + 2, 0, none⟩ (.slice B1 m1 e1)).setCell ⟨w.heap.size + 2, 1, none⟩ (.slice B2 m2 e2)).drew)) (b := w.heap.size) (fun A c L v h => (((h.below hba).far2 (g := w.heap.size + 2) (i := 0) (j := 1) hlt _ _).lower (by omega)).drew) (fun s A n c xs h => ((((h.below hba).under (p := ⟨w.heap.size + 2, 0, none⟩) hlt _).under (p := ⟨w.heap.size + 2, 1, none⟩) hlt _).lower (by omega)).drew))
  obtain ⟨m0, m1', m2', m3, m4, m5⟩ := box6 bM
  obtain ⟨r0, r1⟩ := box2 HR.out.drew
  have f0 := HR.out.drew.free 0; have f1 := HR.out.drew.free 1
  obtain ⟨r0', r1'⟩ := box2 HR.out
  have f0' := HR.out.free 0; have f1' := HR.out.free 1
  have kx := box2 (HR.out.set2 (.slice B1 m1 e1) (.slice B2 m2 e2))
  clear hba hb2 br bM hK
  go_region_held3 (fun w' => w'.cell? ⟨w2.heap.size, 0, none⟩ = some (.slice B1 m1 e1) ∧ w'.cell? ⟨w2.heap.size, 1, none⟩ = some (.slice B2 m2 e2) ∧ w'.cell? ⟨w2.heap.size, 2, none⟩ = some (.slice AT nT cT))
    ((repeat' apply And.intro) <;> (first | (with_reducible assumption) | (with_reducible exact cell_drew (by assumption)) | (with_reducible exact cell_far2 (by assumption) (by simp; omega)) | (with_reducible exact cell_drew (cell_far2 (by assumption) (by simp; omega))))) (fail)
  have HF := Lib.hid ((HB3.out.setCell (p := ⟨w.heap.size + 2, 0, none⟩) (by show w.heap.size ≤ w.heap.size + 2; omega) (.slice B1 m1 e1)).setCell (p := ⟨w.heap.size + 2, 1, none⟩) (by show w.heap.size ≤ w.heap.size + 2; omega) (.slice B2 m2 e2)).drew
  go_wp2
  exact bodyPost_ret (v := .tuple #[.agg #[.slice B1 m1 e1, .slice B2 m2 e2], .slice AT nT cT, .int .i64 gone, ev]) (by simp [results, Try.results15, go_sem, kx]) rfl ⟨B1, m1, e1, B2, m2, e2, AT, nT, cT, gone, ev, rfl, Lib.hid (.inr ⟨HZ.out, AW, nW, cW, HK.out⟩), HF.out⟩
end Go.Proofs.Ytiaofbkhnodbhaa
namespace Go.Proofs.Ytiaofbkhnodbhaa
set_option linter.all false
open Go Go.RowKit
end Go.Proofs.Ytiaofbkhnodbhaa
