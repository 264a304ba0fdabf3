/- SwapLess holds: for all arguments the law's function returns true. No condition. -/
import Derived.Test.YtiaofbkhnodbhaaSwapDo
import Derived.Test.YtiaofbkhnodbhaaLvO
import Derived.Test.YtiaofbkhnodbhaaBookFind
import Derived.Test.YtiaofbkhnodbhaaBkOwn
namespace Go.Proofs.Ytiaofbkhnodbhaa
set_option linter.all false
open Go Go.RowKit Go.ChangeShapes Go.WideShapes
/-- what rests of so many -/
def slR (s sh m : Int) : Rest := ⟨1, 1, m - max 0 (m - s), max 0 (m - s), sh⟩
def slL (s sh m : Int) : List Lv := [⟨100, [slR s sh m, ⟨2, 2, 4, 0, 0⟩]⟩]
structure SlOk (s sh m : Int) : Prop where
  s1 : 1 ≤ s
  s2 : s ≤ 50
  m1 : 1 ≤ m
  m2 : m ≤ 100
  sh : sh = s ∨ sh = 0 ∧ m ≤ s
section
variable {s sh m n : Int}
theorem sl_err (h : SlOk s sh m) : (slR s sh m).err = 0 := by
  obtain ⟨h1, h2, h3, h4, h5⟩ := h
  exact err_mk (show inb 1 1 9999 = true by decide) (show inb 1 1 9 = true by decide) (by show 1 ≤ m - max 0 (m - s); omega) (by show m - max 0 (m - s) ≤ 10000; omega) (by show 0 ≤ max 0 (m - s); omega) (by show max 0 (m - s) ≤ 10000; omega) (by show 0 ≤ sh; omega) (by show sh ≤ 10000; omega) (by show sh = 0 → max 0 (m - s) = 0; omega) (by show sh ≠ 0 → m - max 0 (m - s) ≤ sh; omega)
theorem sl_nil : SideOk 2 [] := ⟨rfl, (fun _ h => by cases h), (fun _ h => by cases h), (fun _ h => by cases h), List.Pairwise.nil, by decide, List.nodup_nil⟩
theorem sl_book (h : SlOk s sh m) : BookOk (slL s sh m) [] := by
  refine ⟨⟨rfl, fun x hx => ?_, fun x hx => ?_, fun x hx => ?_, List.pairwise_singleton _ _, ?_, ?_⟩, sl_nil, (fun x _ y hy => by cases hy), ?_, ?_⟩
  · rw [slL, List.mem_singleton] at hx; subst hx; exact (by decide : vp 100 = true)
  · rw [slL, List.mem_singleton] at hx; subst hx; simp
  · rw [slL, List.mem_singleton] at hx; subst hx
    intro r hr
    simp only [List.mem_cons, List.not_mem_nil, or_false] at hr
    rcases hr with rfl | rfl
    · exact sl_err h
    · decide
  · simp [slL, cnt]
  · simp [slL, ids, slR]
  · simp [slL, cnt]
  · simp [slL, ids, slR]
theorem sl_at (s sh m : Int) : BAt (slL s sh m) [] 1 1 0 0 ⟨100, [slR s sh m, ⟨2, 2, 4, 0, 0⟩]⟩ (slR s sh m) := by
  have hf : findI [slR s sh m, ⟨2, 2, 4, 0, 0⟩] 1 = (0 : Nat) := findI_hit (k := 0) (t := slR s sh m) rfl rfl (fun j hj => by omega)
  have hw : whereL (slL s sh m) 1 = (((0 : Nat) : Int), ((0 : Nat) : Int)) := by
    have := whereL_hit (L := slL s sh m) (id := 1) (k := 0) (x := ⟨100, [slR s sh m, ⟨2, 2, 4, 0, 0⟩]⟩) rfl (fun j hj => by omega) (by rw [hf]; decide)
    rw [this, hf]
  refine ⟨?_, rfl, ⟨hw, rfl, rfl, rfl⟩⟩
  rw [whereB, hw, if_pos (by decide)]
theorem sl_swE (h : SlOk s sh m) (h1 : 1 ≤ n) (h2 : n ≤ 100) : swE (slL s sh m) [] 1 100 n = 0 := by
  rw [swE, if_neg (by simp [bookE_iff.2 (sl_book h)]), if_neg (by rw [(sl_at s sh m).where_]; decide), if_pos ⟨by decide, inb_y ⟨h1, by omega⟩⟩]
theorem sl_kept (h : SlOk s sh m) (hn : n ≤ m) (h1 : 1 ≤ n) : keptR (slR s sh m) n = slR s sh n := by
  unfold keptR slR lessOf
  obtain ⟨a1, a2, a3, a4, a5⟩ := h
  dsimp only
  rw [show max 0 (max 0 (m - s) - (m - max 0 (m - s) + max 0 (m - s) - n)) = max 0 (n - s) by omega]
theorem sl_sw (h : SlOk s sh m) (hn : n ≤ m) (h1 : 1 ≤ n) : SW (slL s sh m) [] 1 100 n 0 1 100 (slR s sh m) true (slL s sh n) [] ord0 (m - n) := by
  have hls : lessOf (slR s sh m) n = m - n := by unfold lessOf slR; dsimp only; omega
  have hk : keepB ⟨100, [slR s sh m, ⟨2, 2, 4, 0, 0⟩]⟩ (slR s sh m) 100 n = true := by rw [keepB, hls]; exact decide_eq_true ⟨rfl, by omega⟩
  refine .inr ⟨sl_swE h h1 (by have := h.m2; omega), rfl, 0, 0, _, sl_at s sh m, rfl, hls.symm, hk.symm, .inl ⟨rfl, ?_, rfl, rfl⟩⟩
  rw [sl_kept h hn h1]
  rfl
theorem sl_ok (h : SlOk s sh m) (hn : n ≤ m) (h1 : 1 ≤ n) : SlOk s sh n := ⟨h.s1, h.s2, h1, by have := h.m2; omega, by have := h.sh; omega⟩
end
theorem sl_keeps {s sh m n : Int} (h : SlOk s sh m) (hn : n ≤ m) (h1 : 1 ≤ n) (A B : Option Addr) (c d : Nat) (w : World) (hr : RdLv w w.heap.size A (slL s sh m)) (hA : A = none → c = 0) (hB : B = none → d = 0) :
    Calls Try.prog 8 #[.agg #[.slice A 1 c, .slice B 0 d], .int .i64 1, .int .i64 100, .int .i64 n] w fun e w' => e = .returned (.tuple #[.bool true, .nilIface]) ∧ Below w.heap.size w w' :=
  (skeeps_any (slL s sh m) [] 1 100 n 0 1 100 (slR s sh m) true (slL s sh n) [] ord0 (m - n) (sl_sw h hn h1) A B c d w hr RdLv.nil (by show 1 ≤ maxLen; unfold maxLen; decide) (by show 0 ≤ maxLen; unfold maxLen; decide) hA hB).mono fun e w' h => h
def SlDo (s sh n : Int) (w : World) (e : Ending) (w' : World) : Prop :=
  ∃ A c B d AT cT, e = .returned (.tuple #[.agg #[.slice A 1 c, .slice B 0 d], .slice AT 0 cT, .int .i64 0, .nilIface]) ∧ Hid (∃ u1 u2, OwnLv w' w.heap.size A c (slL s sh n) u1 ∧ OwnLv w' w.heap.size B d [] u2) ∧ Below w.heap.size w w'
theorem sl_do {s sh m n : Int} (h : SlOk s sh m) (hn : n ≤ m) (h1 : 1 ≤ n) (A B : Option Addr) (c d : Nat) (w : World) (hr : RdLv w w.heap.size A (slL s sh m)) (hA : A = none → c = 0) (hB : B = none → d = 0) :
    Calls Try.prog 9 #[.agg #[.slice A 1 c, .slice B 0 d], .int .i64 1, .int .i64 100, .int .i64 n] w (SlDo s sh n w) := by
  refine (swdo_any (slL s sh m) [] 1 100 n 0 1 100 (slR s sh m) true (slL s sh n) [] ord0 (m - n) (sl_sw h hn h1) 0 (slL s sh n) [] [] 0 (.inr (.inl ⟨rfl, rfl, rfl, rfl, rfl, rfl, rfl⟩)) A B c d w hr RdLv.nil (by show 1 ≤ maxLen; unfold maxLen; decide) (by show 0 ≤ maxLen; unfold maxLen; decide) hA hB).mono ?_
  rintro e w' ⟨A1, c1, A2, c2, AT, cT, rfl, ho, hb⟩
  exact ⟨A1, c1, A2, c2, AT, cT, rfl, Lib.hid (ho.out.2.2.2 rfl), hb⟩
theorem sl_find {s sh n : Int} (h : SlOk s sh n) (Q H : Int) (hQ : Q = n - max 0 (n - s)) (hH : H = max 0 (n - s)) (A B : Option Addr) (c d : Nat) (w : World) (hr : RdLv w w.heap.size A (slL s sh n)) :
    Calls Try.prog 10 #[.agg #[.slice A 1 c, .slice B 0 d], .int .i64 1] w fun e w' => e = .returned (.tuple #[.int .i64 1, .int .i64 100, .agg #[.int .i64 1, .int .i64 1, .int .i64 Q, .int .i64 H, .int .i64 sh], .nilIface]) ∧ Below w.heap.size w w' := by
  subst hQ; subst hH
  have hz : (0 : Int) = bfE (slL s sh n) [] 1 := by rw [bfE, if_neg (by simp [bookE_iff.2 (sl_book h)]), if_neg (by rw [(sl_at s sh n).where_]; decide)]
  refine (bfind_any (slL s sh n) [] A B c d 1 w hr RdLv.nil (by show 1 ≤ maxLen; unfold maxLen; decide) (by show 0 ≤ maxLen; unfold maxLen; decide) 0 hz).mono ?_
  rintro e w' ⟨a, p, r0, r1, r2, r3, r4, ev, rfl, hk, hb⟩
  rcases hk.out with ⟨h0, _⟩ | ⟨_, rfl, s', i, k, x, r, hat, rfl, rfl, hr⟩
  · exact absurd rfl h0
  · obtain ⟨rfl, rfl, rfl, rfl, rfl⟩ := hat.uniq (sl_at s sh n)
    cases hr
    exact ⟨rfl, hb⟩
set_option maxRecDepth 100000 in
set_option maxHeartbeats 4000000 in
theorem swapLess_in (s h : Int) (h1 : 1 ≤ s) (h2 : s ≤ 50) (h3 : 0 ≤ h) (h4 : h ≤ 50) (w : World) :
    Calls Try.prog 3 #[.int .i64 s, .int .i64 h] w fun e w' => e = .returned (.bool true) ∧ Below w.heap.size w w' := by
  obtain ⟨sh, hsh⟩ : ∃ sh : Int, (0 < h ∧ sh = s ∨ h = 0 ∧ sh = 0) := by
    rcases (show 0 < h ∨ h = 0 by omega) with e | e
    · exact ⟨s, .inl ⟨e, rfl⟩⟩
    · exact ⟨0, .inr ⟨e, rfl⟩⟩
  have HSH := Lib.hid hsh
  clear hsh
  have b0 := Bk.new w 23 #[.int .i64 1, .int .i64 1, .int .i64 s, .int .i64 h, .int .i64 0]
  have hb0 : Below w.heap.size w (w.alloc (.cells #[.int .i64 1, .int .i64 1, .int .i64 s, .int .i64 h, .int .i64 0] 23)) := (Below.refl _ _).alloc (Nat.le_refl _) _
  go_enter Try.func3, Try.ntmps3
  go_upto_if 36 with fail
  generalize w.alloc (.cells #[.int .i64 1, .int .i64 1, .int .i64 s, .int .i64 h, .int .i64 0] 23) = w0 at *
  go_cut [] from 18 to 120 (fun wx => Bk wx w.heap.size 23 #[.int .i64 1, .int .i64 1, .int .i64 s, .int .i64 h, .int .i64 sh] ∧ Below w.heap.size w wx)
  case first =>
    obtain ⟨r0, r1, r2, r3, r4⟩ := pbox5 b0
    have f4 := b0.free 4
    have HB := Lib.hid b0; have H0 := Lib.hid hb0
    clear b0 hb0
    rcases (show 0 < h ∨ h = 0 by omega) with e | e
    · have HS := Lib.hid (show sh = s by have := HSH.out; omega)
      go_wp2
      go_meet
      case rel => exact ⟨by rw [HS.out]; exact HB.out.set_ 4 _, H0.out.setCell (p := ⟨w.heap.size, 4, none⟩) (Nat.le_refl _) _⟩
    · have HS := Lib.hid (show sh = 0 by have := HSH.out; omega)
      go_wp2
      go_meet
      case rel => exact ⟨by rw [HS.out]; exact HB.out, H0.out⟩
  obtain ⟨b0, hb0⟩ := hcut
  obtain ⟨r0, r1, r2, r3, r4⟩ := pbox5 b0
  obtain ⟨gb, hgb⟩ : ∃ g, g = wc.heap.size + 2 := ⟨_, rfl⟩
  have HGB := Lib.hid hgb
  have hb1 : Below w.heap.size w (((wc.alloc (.cells #[.int .i64 1, .int .i64 1, .int .i64 s, .int .i64 h, .int .i64 sh, .int .i64 2, .int .i64 2, .int .i64 4, .int .i64 0, .int .i64 0] 23)).alloc (.cells #[.int .i64 100, .slice (some ⟨wc.heap.size, 0, none⟩) 2 2] 26)).alloc (.cells #[.slice (some ⟨wc.heap.size + 1, 0, none⟩) 1 1, .slice none 0 0] 29)) := below_then_alloc (below_then_alloc (hb0.alloc hb0.size _))
  have b1 := (Bk.new wc 23 #[.int .i64 1, .int .i64 1, .int .i64 s, .int .i64 h, .int .i64 sh, .int .i64 2, .int .i64 2, .int .i64 4, .int .i64 0, .int .i64 0]).alloc (.cells #[.int .i64 100, .slice (some ⟨wc.heap.size, 0, none⟩) 2 2] 26)
  have b2 := Bk.at_ (w := wc.alloc (.cells #[.int .i64 1, .int .i64 1, .int .i64 s, .int .i64 h, .int .i64 sh, .int .i64 2, .int .i64 2, .int .i64 4, .int .i64 0, .int .i64 0] 23)) (g' := wc.heap.size + 1) (by simp) 26 #[.int .i64 100, .slice (some ⟨wc.heap.size, 0, none⟩) 2 2]
  have b3 := Bk.at_ (w := (wc.alloc (.cells #[.int .i64 1, .int .i64 1, .int .i64 s, .int .i64 h, .int .i64 sh, .int .i64 2, .int .i64 2, .int .i64 4, .int .i64 0, .int .i64 0] 23)).alloc (.cells #[.int .i64 100, .slice (some ⟨wc.heap.size, 0, none⟩) 2 2] 26)) (g' := gb) (by rw [hgb]; simp) 29 #[.slice (some ⟨wc.heap.size + 1, 0, none⟩) 1 1, .slice none 0 0]
  have hmx : max 0 (s + h - s) = h := by omega
  have hsl : slL s sh (s + h) = [⟨100, [⟨1, 1, s, h, sh⟩, ⟨2, 2, 4, 0, 0⟩]⟩] := by
    rw [slL, slR, hmx, show s + h - h = s by omega]
  have hr : RdLv ((wc.alloc (.cells #[.int .i64 1, .int .i64 1, .int .i64 s, .int .i64 h, .int .i64 sh, .int .i64 2, .int .i64 2, .int .i64 4, .int .i64 0, .int .i64 0] 23)).alloc (.cells #[.int .i64 100, .slice (some ⟨wc.heap.size, 0, none⟩) 2 2] 26)) ((wc.alloc (.cells #[.int .i64 1, .int .i64 1, .int .i64 s, .int .i64 h, .int .i64 sh, .int .i64 2, .int .i64 2, .int .i64 4, .int .i64 0, .int .i64 0] 23)).alloc (.cells #[.int .i64 100, .slice (some ⟨wc.heap.size, 0, none⟩) 2 2] 26)).heap.size (some ⟨wc.heap.size + 1, 0, none⟩) (slL s sh (s + h)) := by
    rw [hsl]
    intro _
    refine ⟨wc.heap.size + 1, 0, rfl, b2.lt, fun i x hx => ?_⟩
    have hi : i = 0 := by have := (List.getElem?_eq_some_iff.1 hx).1; simp at this; omega
    subst hi
    cases hx
    have c0 := b2.cell 0; have c1 := b2.cell 1
    refine ⟨by simpa using c0, some ⟨wc.heap.size, 0, none⟩, 2, by simpa using c1, Nat.le_refl 2, by decide, ?_⟩
    have oo : OwnS _ 0 5 (some ⟨wc.heap.size, 0, none⟩) 2 2 (rows [⟨1, 1, s, h, sh⟩, ⟨2, 2, 4, 0, 0⟩]) := b1.own (base := 0) (s := 5) (n := 2) (Nat.zero_le _) rfl (by decide)
    exact oo.rd (fun i j hi hj => rows_get hi hj)
  have hlv : LvO gb (((wc.alloc (.cells #[.int .i64 1, .int .i64 1, .int .i64 s, .int .i64 h, .int .i64 sh, .int .i64 2, .int .i64 2, .int .i64 4, .int .i64 0, .int .i64 0] 23)).alloc (.cells #[.int .i64 100, .slice (some ⟨wc.heap.size, 0, none⟩) 2 2] 26)).alloc (.cells #[.slice (some ⟨wc.heap.size + 1, 0, none⟩) 1 1, .slice none 0 0] 29)) (some ⟨wc.heap.size + 1, 0, none⟩) (slL s sh (s + h)) :=
    LvO.of_lv (hr.below ((Below.refl _ _).alloc (Nat.le_refl _) _)) (by simp) (by rw [hgb]; simp)
  have hgw : w.heap.size ≤ gb := by have := hb0.size; omega
  have HLV := Lib.hid hlv; have HB1 := Lib.hid hb1; have HB3 := Lib.hid b3; have HGW := Lib.hid hgw
  clear b1 b2 b3 hr hlv hb1 hmx hsl b0 hb0 hgw hgb
  go_upto_region 7 with fail
  generalize ((wc.alloc (.cells #[.int .i64 1, .int .i64 1, .int .i64 s, .int .i64 h, .int .i64 sh, .int .i64 2, .int .i64 2, .int .i64 4, .int .i64 0, .int .i64 0] 23)).alloc (.cells #[.int .i64 100, .slice (some ⟨wc.heap.size, 0, none⟩) 2 2] 26)).alloc (.cells #[.slice (some ⟨wc.heap.size + 1, 0, none⟩) 1 1, .slice none 0 0] 29) = w1 at *
  clear r0 r1 r2 r3 r4
  rw [← HGB.out]
  go_wp2
  go_loopw [7] (fun i wr => ∃ (n m : Int) (A B : Option Addr) (c d : Nat), i = .int .i64 n ∧ 0 ≤ n ∧ n ≤ m ∧ m ≤ n + 1 ∧ Hid (SlOk s sh m ∧ Bk wr gb 29 #[.slice A 1 c, .slice B 0 d] ∧ LvO gb wr A (slL s sh m) ∧ (A = none → c = 0) ∧ (B = none → d = 0)) ∧ Below w.heap.size w wr) (fun i _ => (intOf i).toNat)
  case atStart =>
    exact ⟨s + h, s + h, _, _, _, _, by go_num, by omega, Int.le_refl _, by omega, Lib.hid ⟨⟨h1, h2, by omega, by omega, by have := HSH.out; omega⟩, HB3.out, HLV.out, (fun e => by cases e), (fun _ => rfl)⟩, HB1.out⟩
  case round =>
    obtain ⟨n, m, A, B, c, d, rfl, n0, n1, n2, HR, hb⟩ := hrel
    clear HLV HB1 HB3
    by_cases hn : 1 ≤ n
    · obtain ⟨hok, bb, hlv, hA, hB⟩ := HR.out
      obtain ⟨Q, hQ⟩ : ∃ Q, Q = n - max 0 (n - s) := ⟨_, rfl⟩
      obtain ⟨H, hH⟩ : ∃ H, H = max 0 (n - s) := ⟨_, rfl⟩
      have cK := Lib.hid (fun w' h => sl_keeps hok n1 hn A B c d w' h hA hB)
      have cD := Lib.hid (fun w' h => sl_do hok n1 hn A B c d w' h hA hB)
      have cF := Lib.hid (fun A' B' c' d' w' h => sl_find (sl_ok hok n1 hn) Q H hQ hH A' B' c' d' w' h)
      have HOK := Lib.hid (sl_ok hok n1 hn)
      have hn100 : n ≤ 100 := by have := hok.m2; omega
      have hQH : Q + H = n := by omega
      have hQs : Q ≤ s := by omega
      have hH0 : 0 ≤ H := by omega
      have hQ0 : 0 ≤ Q := by omega
      have hor : H = 0 ∨ 0 < H ∧ Q = s := by omega
      have hgl : gb < wr.heap.size := bb.lt
      obtain ⟨q0, q1⟩ := box2 bb
      clear hQ hH hok hA hB
      go_wp2_with fail
      go_at_call 8
      refine (cK.out _ hlv.rd).mono ?_
      rintro e w2 ⟨rfl, hb2⟩
      replace bb := bb.keep hb2; replace hlv := hlv.below hb2; replace hb := below_then hb2 hb
      have hgl2 : gb < w2.heap.size := bb.lt
      clear hb2 q0 q1 cK
      obtain ⟨q0, q1⟩ := box2 bb
      go_wp2_with fail
      go_at_call 9
      refine (cD.out _ hlv.rd).mono ?_
      rintro e w3 ⟨A', c', B', d', AT, cT, rfl, HO, hb3⟩
      replace bb := bb.keep hb3; replace hb := below_then hb3 hb
      have hba : Below w3.heap.size w3 (w3.alloc (.cells #[.slice A' 1 c', .slice B' 0 d'] 29)) := (Below.refl _ _).alloc (Nat.le_refl _) _
      have bx := Bk.new w3 29 #[.slice A' 1 c', .slice B' 0 d']
      obtain ⟨u1, u2, o1, o2⟩ := HO.out
      have hnA := o1.nil0; have hnB := o2.nil0
      replace o1 := o1.below hba
      replace hlv := LvO.of_own o1 hgl2
      replace bb := bb.keep hba; replace hb := below_then hba hb
      have HNA := Lib.hid (And.intro hnA hnB)
      clear hb3 hba q0 q1 cD HO o1 o2 hnA hnB
      go_upto_region 12 with fail
      generalize w3.alloc (.cells #[.slice A' 1 c', .slice B' 0 d'] 29) = w4 at *
      obtain ⟨gx, hgx⟩ : ∃ g, g = w3.heap.size := ⟨_, rfl⟩
      rw [← hgx] at bx ⊢
      clear hgx
      obtain ⟨x0, x1⟩ := box2 bx
      go_wp2_with fail
      go_at_call 10
      refine (cF.out A' B' c' d' _ hlv.rd).mono ?_
      rintro e w5 ⟨rfl, hb5⟩
      replace bb := bb.keep hb5; replace bx := bx.keep hb5; replace hlv := hlv.below hb5; replace hb := below_then hb5 hb
      have hba : Below w5.heap.size w5 (w5.alloc (.cells #[.int .i64 1, .int .i64 1, .int .i64 Q, .int .i64 H, .int .i64 sh] 23)) := (Below.refl _ _).alloc (Nat.le_refl _) _
      have bz := Bk.new w5 23 #[.int .i64 1, .int .i64 1, .int .i64 Q, .int .i64 H, .int .i64 sh]
      replace bb := bb.keep hba; replace bx := bx.keep hba; replace hlv := hlv.below hba; replace hb := below_then hba hb
      clear hb5 hba x0 x1 cF
      go_upto_region 15 with fail
      generalize w5.alloc (.cells #[.int .i64 1, .int .i64 1, .int .i64 Q, .int .i64 H, .int .i64 sh] 23) = w6 at *
      obtain ⟨q0, q1⟩ := box2 bb
      obtain ⟨x0, x1⟩ := box2 bx
      obtain ⟨z0, z1, z2, z3, z4⟩ := pbox5 bz
      have f0 := bb.free 0; have f1 := bb.free 1
      have HEND := Lib.hid (And.intro (bb.set2 (.slice A' 1 c') (.slice B' 0 d')) (And.intro ((hlv.far (p := ⟨gb, 0, none⟩) rfl (.slice A' 1 c')).far (p := ⟨gb, 1, none⟩) rfl (.slice B' 0 d')) ((hb.setCell (p := ⟨gb, 0, none⟩) HGW.out (.slice A' 1 c')).setCell (p := ⟨gb, 1, none⟩) HGW.out (.slice B' 0 d'))))
      clear bb bx bz hlv hb hgl hgl2
      rcases hor with h5 | ⟨h5, h6⟩
      · have e1 : decide (H > 0) = false := decide_eq_false (by omega)
        go_wp2
        go_roundw
        case rel => exact ⟨n - 1, n, A', B', c', d', by go_num, by omega, by omega, by omega, Lib.hid ⟨HOK.out, HEND.out.1, HEND.out.2.1, HNA.out.1, HNA.out.2⟩, HEND.out.2.2⟩
        case measure => simp [intOf]; omega
      · have e1 : decide (H > 0) = true := decide_eq_true h5
        go_wp2
        go_roundw
        case rel => exact ⟨n - 1, n, A', B', c', d', by go_num, by omega, by omega, by omega, Lib.hid ⟨HOK.out, HEND.out.1, HEND.out.2.1, HNA.out.1, HNA.out.2⟩, HEND.out.2.2⟩
        case measure => simp [intOf]; omega
    · have hn0 : n = 0 := by omega
      subst hn0
      go_wp2
      go_ret
      exact ⟨rfl, hb⟩
theorem swapLess_law {H : Type} {enc : TypeId × Value → H} {v0 v1 : Value} {d0 d1 : DataW H} {p0 p1 : List MemPlace} {base : Nat} {W : World}
    (h0 : Arg enc W base 3 v0 d0 p0) (h1 : Arg enc W base 3 v1 d1 p1) :
    Calls Try.prog 3 #[v0, v1] W fun e w' => e = .returned (.bool true) ∧ Below W.heap.size W w' := by
  obtain ⟨s, rfl, _⟩ := h0.int
  obtain ⟨h, rfl, _⟩ := h1.int
  clear h0 h1
  rcases (show s < 1 ∨ (1 ≤ s ∧ 50 < s) ∨ (1 ≤ s ∧ s ≤ 50 ∧ h < 0) ∨ (1 ≤ s ∧ s ≤ 50 ∧ 0 ≤ h ∧ 50 < h) ∨ (1 ≤ s ∧ s ≤ 50 ∧ 0 ≤ h ∧ h ≤ 50) by omega) with h | ⟨a, h⟩ | ⟨a, b, h⟩ | ⟨a, b, c, h⟩ | ⟨a, b, c, h⟩
  case inr.inr.inr.inr => exact swapLess_in s _ a b c h W
  all_goals
    go_enter Try.func3, Try.ntmps3
    go_wp2
    go_ret
    exact ⟨rfl, Below.refl _ _⟩
end Go.Proofs.Ytiaofbkhnodbhaa
