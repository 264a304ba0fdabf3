/- The contracts of book.Where, meet.Ready. -/
import Derived.Test.YtbnjkcgkdpildaaDoorBook2
import Derived.Test.YtbnjkcgkdpildaaDoorOrder
namespace Go.Proofs.YtbnjkcgkdpildaaDoor
set_option linter.all false
open Go Go.RowKit
/-- where an id is in a book: its side, level, place; 0: it is nowhere -/
def whereB (L M : List Lv) (id : Int) : Int × Int × Int := if 0 ≤ (whereL L id).1 then (1, (whereL L id).1, (whereL L id).2) else if 0 ≤ (whereL M id).1 then (2, (whereL M id).1, (whereL M id).2) else (0, 0, 0)
set_option maxRecDepth 100000 in
set_option maxHeartbeats 1000000 in
theorem bwhere_any (L M : List Lv) (A1 A2 : Option Addr) (c1 c2 : Nat) (id : Int) (w : World) (h1 : RdLv w w.heap.size A1 L) (h2 : RdLv w w.heap.size A2 M) (ok1 : LvOk L) (ok2 : LvOk M) :
    Calls Tryd.prog 53 #[.agg #[.slice A1 L.length c1, .slice A2 M.length c2], .int .i64 id] w fun e w' => e = .returned (.tuple #[.int .i64 (whereB L M id).1, .int .i64 (whereB L M id).2.1, .int .i64 (whereB L M id).2.2]) ∧ Below w.heap.size w w' := by
  have HL := Lib.hid h1; have HM := Lib.hid h2
  have cS1 := Lib.hid (fun w' h => swhere_any L A1 c1 id w' h ok1.few ok1.each)
  have cS2 := Lib.hid (fun w' h => swhere_any M A2 c2 id w' h ok2.few ok2.each)
  clear h1 h2 ok1 ok2
  have hb : Below w.heap.size w ((w.alloc (.cells #[.slice A1 L.length c1, .slice A2 M.length c2] 29)).alloc (.cells #[.int .i64 1, .int .i64 2] 3)) := below_then_alloc ((Below.refl _ _).alloc (Nat.le_refl _) _)
  have bb := (Bk.new w 29 #[.slice A1 L.length c1, .slice A2 M.length c2]).alloc (.cells #[.int .i64 1, .int .i64 2] 3)
  have bs := Bk.at_ (w := w.alloc (.cells #[.slice A1 L.length c1, .slice A2 M.length c2] 29)) (g' := w.heap.size + 1) (by simp) 3 #[.int .i64 1, .int .i64 2]
  go_enter Tryd.func53, Tryd.ntmps53
  go_wp2_with fail
  generalize (w.alloc (.cells #[.slice A1 L.length c1, .slice A2 M.length c2] 29)).alloc (.cells #[.int .i64 1, .int .i64 2] 3) = w0 at *
  go_loopw [13] (fun i wr => (i = .int .i64 0 ∨ (i = .int .i64 1 ∧ Hid ((whereL L id).1 < 0)) ∨ (i = .int .i64 2 ∧ Hid ((whereL L id).1 < 0 ∧ (whereL M id).1 < 0))) ∧ Bk wr w.heap.size 29 #[.slice A1 L.length c1, .slice A2 M.length c2] ∧ Bk wr (w.heap.size + 1) 3 #[.int .i64 1, .int .i64 2] ∧ Below w.heap.size w wr) (fun i _ => 2 - (intOf i).toNat)
  case atStart => exact ⟨.inl rfl, bb, bs, hb⟩
  case round =>
    clear hb bb bs
    obtain ⟨hrel, bb, bs, hb⟩ := hrel
    have q0 := bb.cell 0; have q1 := bb.cell 1; have s0 := bs.cell 0; have s1 := bs.cell 1
    simp at q0 q1 s0 s1
    rcases hrel with rfl | ⟨rfl, hE⟩ | ⟨rfl, hE⟩
    · go_wp2_with fail
      go_at_call 28
      refine (of_buy A1 A2 L.length M.length c1 c2 wr).mono ?_
      rintro e w2 ⟨rfl, hb2⟩
      replace bb := bb.keep hb2; replace bs := bs.keep hb2; replace hb := below_then hb2 hb
      clear hb2 q0 q1 s0 s1
      go_wp2_with fail
      go_at_call 38
      refine (cS1.out _ (HL.out.on hb)).mono ?_
      rintro e w3 ⟨rfl, hb2⟩
      replace bb := bb.keep hb2; replace bs := bs.keep hb2; replace hb := below_then hb2 hb
      clear hb2 cS1
      by_cases h0 : 0 ≤ (whereL L id).1
      · have H := Lib.hid (show whereB L M id = (1, (whereL L id).1, (whereL L id).2) from if_pos h0)
        generalize (whereL L id).1 = z at *
        generalize (whereL L id).2 = y at *
        go_wp2
        exact bodyPost_ret (v := .tuple #[.int .i64 1, .int .i64 z, .int .i64 y]) (by simp [results, Tryd.results53, go_sem]) rfl ⟨by rw [H.out], hb⟩
      · have h0' : (whereL L id).1 < 0 := by omega
        have H0 := Lib.hid h0'
        clear h0
        go_wp2
        go_roundw
        case rel => exact ⟨.inr (.inl ⟨rfl, H0⟩), bb, bs, hb⟩
        case measure => simp [intOf]
    · go_wp2_with fail
      go_at_call 28
      refine (of_sell A1 A2 L.length M.length c1 c2 wr).mono ?_
      rintro e w2 ⟨rfl, hb2⟩
      replace bb := bb.keep hb2; replace bs := bs.keep hb2; replace hb := below_then hb2 hb
      clear hb2 q0 q1 s0 s1
      go_wp2_with fail
      go_at_call 38
      refine (cS2.out _ (HM.out.on hb)).mono ?_
      rintro e w3 ⟨rfl, hb2⟩
      replace bb := bb.keep hb2; replace bs := bs.keep hb2; replace hb := below_then hb2 hb
      clear hb2 cS2
      by_cases h0 : 0 ≤ (whereL M id).1
      · have H := Lib.hid (show whereB L M id = (2, (whereL M id).1, (whereL M id).2) by rw [whereB, if_neg (by have := hE.out; omega), if_pos h0])
        clear hE
        generalize (whereL M id).1 = z at *
        generalize (whereL M id).2 = y at *
        go_wp2
        exact bodyPost_ret (v := .tuple #[.int .i64 2, .int .i64 z, .int .i64 y]) (by simp [results, Tryd.results53, go_sem]) rfl ⟨by rw [H.out], hb⟩
      · have h0' : (whereL M id).1 < 0 := by omega
        have H0 := Lib.hid (And.intro hE.out h0')
        clear h0 hE
        go_wp2
        go_roundw
        case rel => exact ⟨.inr (.inr ⟨rfl, H0⟩), bb, bs, hb⟩
        case measure => simp [intOf]
    · have H := Lib.hid (show whereB L M id = (0, 0, 0) by rw [whereB, if_neg (by have := hE.out.1; omega), if_neg (by have := hE.out.2; omega)])
      clear hE
      go_wp2
      exact bodyPost_ret (v := .tuple #[.int .i64 0, .int .i64 0, .int .i64 0]) (by simp [results, Tryd.results53, go_sem]) rfl ⟨by rw [H.out], hb⟩
/-- what is wrong with a book and who comes -/
def readyE (L M : List Lv) (o : Order) : Int := if bookE L M ≠ 0 then bookE L M else if o.err ≠ 0 then o.err else if o.stop ≠ 0 then 6 else if (whereB L M o.id).1 ≠ 0 then 7 else 0
theorem bookE_zero {L M : List Lv} (h : bookE L M = 0) : sideE 1 L = 0 ∧ sideE 2 M = 0 ∧ wholeE L M = 0 := by
  unfold bookE at h
  by_cases h1 : sideE 1 L = 0
  · rw [if_neg (by simpa using h1)] at h
    by_cases h2 : sideE 2 M = 0
    · rw [if_neg (by simpa using h2)] at h
      exact ⟨h1, h2, h⟩
    · rw [if_pos h2] at h; exact absurd h h2
  · rw [if_pos h1] at h; exact absurd h h1
end Go.Proofs.YtbnjkcgkdpildaaDoor
