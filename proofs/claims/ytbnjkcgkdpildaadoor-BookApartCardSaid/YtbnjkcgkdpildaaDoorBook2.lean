/- The contracts of book.Check, side.Where, book.Where. -/
import Derived.Test.YtbnjkcgkdpildaaDoorBook
namespace Go.Proofs.YtbnjkcgkdpildaaDoor
set_option linter.all false
open Go Go.RowKit
theorem of_buy (A1 A2 : Option Addr) (n1 n2 c1 c2 : Nat) (w : World) :
    Calls Tryd.prog 28 #[.agg #[.slice A1 n1 c1, .slice A2 n2 c2], .int .i64 1] w fun e w' => e = .returned (.slice A1 n1 c1) ∧ Below w.heap.size w w' := of_any _ _ rfl rfl 1 A1 A2 n1 n2 c1 c2 rfl rfl w
theorem of_sell (A1 A2 : Option Addr) (n1 n2 c1 c2 : Nat) (w : World) :
    Calls Tryd.prog 28 #[.agg #[.slice A1 n1 c1, .slice A2 n2 c2], .int .i64 2] w fun e w' => e = .returned (.slice A2 n2 c2) ∧ Below w.heap.size w w' := of_any _ _ rfl rfl 2 A1 A2 n1 n2 c1 c2 rfl rfl w
set_option maxRecDepth 100000 in
set_option maxHeartbeats 1000000 in
theorem bcheck_any (L M : List Lv) (A1 A2 : Option Addr) (c1 c2 : Nat) (w : World) (h1 : RdLv w w.heap.size A1 L) (h2 : RdLv w w.heap.size A2 M) (hl1 : L.length ≤ maxLen) (hl2 : M.length ≤ maxLen) :
    Calls Tryd.prog 26 #[.agg #[.slice A1 L.length c1, .slice A2 M.length c2]] w fun e w' => e = .returned (errV (bookE L M)) ∧ Below w.heap.size w w' := by
  have HL := Lib.hid h1; have HM := Lib.hid h2
  have cS1 := Lib.hid (fun w' h => scheck_any 1 L A1 c1 w' h hl1)
  have cS2 := Lib.hid (fun w' h => scheck_any 2 M A2 c2 w' h hl2)
  clear h1 h2 hl1 hl2
  have hb : Below w.heap.size w ((w.alloc (.cells #[.slice A1 L.length c1, .slice A2 M.length c2] 29)).alloc (.cells #[.int .i64 1, .int .i64 2] 3)) := below_then_alloc ((Below.refl _ _).alloc (Nat.le_refl _) _)
  have bb := (Bk.new w 29 #[.slice A1 L.length c1, .slice A2 M.length c2]).alloc (.cells #[.int .i64 1, .int .i64 2] 3)
  have bs := Bk.at_ (w := w.alloc (.cells #[.slice A1 L.length c1, .slice A2 M.length c2] 29)) (g' := w.heap.size + 1) (by simp) 3 #[.int .i64 1, .int .i64 2]
  go_enter Tryd.func26, Tryd.ntmps26
  go_wp2_with fail
  generalize (w.alloc (.cells #[.slice A1 L.length c1, .slice A2 M.length c2] 29)).alloc (.cells #[.int .i64 1, .int .i64 2] 3) = w0 at *
  go_loopw [8] (fun i wr => (i = .int .i64 0 ∨ (i = .int .i64 1 ∧ Hid (sideE 1 L = 0)) ∨ (i = .int .i64 2 ∧ Hid (sideE 1 L = 0 ∧ sideE 2 M = 0))) ∧ Bk wr w.heap.size 29 #[.slice A1 L.length c1, .slice A2 M.length c2] ∧ Bk wr (w.heap.size + 1) 3 #[.int .i64 1, .int .i64 2] ∧ Below w.heap.size w wr) (fun i _ => 2 - (intOf i).toNat)
  case atStart => exact ⟨.inl rfl, bb, bs, hb⟩
  case round =>
    clear hb bb bs
    obtain ⟨hrel, bb, bs, hb⟩ := hrel
    have q0 := bb.cell 0; have q1 := bb.cell 1; have s0 := bs.cell 0; have s1 := bs.cell 1
    simp at q0 q1 s0 s1
    rcases hrel with rfl | ⟨rfl, hE⟩ | ⟨rfl, hE⟩
    · go_wp2_with fail
      go_at_call 28
      refine (of_buy A1 A2 L.length M.length c1 c2 wr).mono ?_
      rintro e w2 ⟨rfl, hb2⟩
      replace bb := bb.keep hb2; replace bs := bs.keep hb2; replace hb := below_then hb2 hb
      clear hb2 q0 q1 s0 s1
      go_wp2_with fail
      go_at_call 10
      refine (cS1.out _ (HL.out.on hb)).mono ?_
      rintro e w3 ⟨rfl, hb2⟩
      replace bb := bb.keep hb2; replace bs := bs.keep hb2; replace hb := below_then hb2 hb
      clear hb2
      by_cases h0 : sideE 1 L = 0
      · have H0 := Lib.hid h0
        rw [h0, show errV 0 = .nilIface from rfl]
        clear h0
        go_wp2
        go_roundw
        case rel => exact ⟨.inr (.inl ⟨rfl, H0⟩), bb, bs, hb⟩
        case measure => simp [intOf]
      · have H := Lib.hid (show bookE L M = sideE 1 L from if_pos h0)
        have HN := Lib.hid h0
        rw [show errV (sideE 1 L) = er (sideE 1 L) by rw [errV, if_neg h0]]
        clear h0
        generalize sideE 1 L = z at *
        go_wp2
        go_ret
        exact ⟨retE H.out HN.out, hb⟩
    · go_wp2_with fail
      go_at_call 28
      refine (of_sell A1 A2 L.length M.length c1 c2 wr).mono ?_
      rintro e w2 ⟨rfl, hb2⟩
      replace bb := bb.keep hb2; replace bs := bs.keep hb2; replace hb := below_then hb2 hb
      clear hb2 q0 q1 s0 s1
      go_wp2_with fail
      go_at_call 10
      refine (cS2.out _ (HM.out.on hb)).mono ?_
      rintro e w3 ⟨rfl, hb2⟩
      replace bb := bb.keep hb2; replace bs := bs.keep hb2; replace hb := below_then hb2 hb
      clear hb2
      by_cases h0 : sideE 2 M = 0
      · have H0 := Lib.hid (And.intro hE.out h0)
        rw [h0, show errV 0 = .nilIface from rfl]
        clear h0
        go_wp2
        go_roundw
        case rel => exact ⟨.inr (.inr ⟨rfl, H0⟩), bb, bs, hb⟩
        case measure => simp [intOf]
      · have H := Lib.hid (show bookE L M = sideE 2 M by rw [bookE, if_neg (by rw [hE.out]; decide), if_pos h0])
        have HN := Lib.hid h0
        rw [show errV (sideE 2 M) = er (sideE 2 M) by rw [errV, if_neg h0]]
        clear h0 hE
        generalize sideE 2 M = z at *
        go_wp2
        go_ret
        exact ⟨retE H.out HN.out, hb⟩
    · have H := Lib.hid (show bookE L M = wholeE L M by rw [bookE, if_neg (by rw [hE.out.1]; decide), if_neg (by rw [hE.out.2]; decide)])
      have O1 := LvOk.of hE.out.1
      have O2 := LvOk.of hE.out.2
      have cW := Lib.hid (fun w' h h' => whole_any L M A1 A2 c1 c2 w' h h' O1 O2)
      clear O1 O2
      go_wp2_with fail
      go_at_call 31
      refine (cW.out _ (HL.out.on hb) (HM.out.on hb)).mono ?_
      rintro e w3 ⟨rfl, hb2⟩
      go_wp2
      go_ret
      exact ⟨by rw [H.out]; rfl, below_then hb2 hb⟩
/-- where an id is: its level, its place there; below 0: it is not there -/
def whereL (L : List Lv) (id : Int) : Int × Int := match (List.range L.length).find? (fun k => decide (0 ≤ findI ((L.getD k ⟨0, []⟩).rs) id)) with
  | some k => ((k : Int), findI ((L.getD k ⟨0, []⟩).rs) id)
  | none => (-1, -1)
theorem whereL_hit {L : List Lv} {id : Int} {k : Nat} {x : Lv} (hx : L[k]? = some x) (h0 : ∀ j, j < k → findI ((L.getD j ⟨0, []⟩).rs) id < 0) (h : 0 ≤ findI x.rs id) : whereL L id = ((k : Int), findI x.rs id) := by
  have hk : k < L.length := (List.getElem?_eq_some_iff.1 hx).1
  have hg : L.getD k ⟨0, []⟩ = x := by rw [List.getD_eq_getElem?_getD, hx]; rfl
  have : (List.range L.length).find? (fun k => decide (0 ≤ findI ((L.getD k ⟨0, []⟩).rs) id)) = some k := by
    rw [List.find?_range_eq_some]
    refine ⟨by rw [hg]; simpa using h, by simpa using hk, fun j hj => ?_⟩
    have := h0 j hj
    simpa using this
  rw [whereL, this]
  simp only [hg]
theorem whereL_none {L : List Lv} {id : Int} (h0 : ∀ j, j < L.length → findI ((L.getD j ⟨0, []⟩).rs) id < 0) : whereL L id = (-1, -1) := by
  have : (List.range L.length).find? (fun k => decide (0 ≤ findI ((L.getD k ⟨0, []⟩).rs) id)) = none := by
    rw [List.find?_eq_none]
    intro x hx
    have := h0 x (List.mem_range.1 hx)
    simpa using this
  rw [whereL, this]
set_option maxRecDepth 100000 in
set_option maxHeartbeats 1000000 in
theorem swhere_any (L : List Lv) (A : Option Addr) (c : Nat) (id : Int) (w : World) (hr : RdLv w w.heap.size A L) (hL : L.length ≤ 10000) (heach : ∀ x ∈ L, x.rs.length ≤ 60) :
    Calls Tryd.prog 38 #[.slice A L.length c, .int .i64 id] w fun e w' => e = .returned (.tuple #[.int .i64 (whereL L id).1, .int .i64 (whereL L id).2]) ∧ Below w.heap.size w w' := by
  have HR := Lib.hid hr; have HE := Lib.hid heach
  clear hr heach
  go_enter Tryd.func38, Tryd.ntmps38
  go_wp2_with fail
  go_loopw [11] (fun i wr => ∃ k : Nat, k ≤ L.length ∧ i = .int .i64 k ∧ Below w.heap.size w wr ∧ Hid (∀ j, j < k → findI ((L.getD j ⟨0, []⟩).rs) id < 0)) (fun i _ => L.length - (intOf i).toNat)
  case atStart => exact ⟨0, by omega, rfl, Below.refl _ _, Lib.hid (fun j hj => absurd hj (by omega))⟩
  case round =>
    obtain ⟨k, hk, rfl, hb, hno⟩ := hrel
    by_cases hlt : k < L.length
    · obtain ⟨b, off, x, Ar, cr, rfl, hbl, hx, e0, e1, _, _, hrr⟩ := lv_at HR.out hlt
      have d0 := (hb.cell (p := ⟨b, _, none⟩) hbl).trans e0
      have d1 := (hb.cell (p := ⟨b, _, none⟩) hbl).trans e1
      have hx60 := HE.out x (List.mem_of_getElem? hx)
      have HX := Lib.hid hx
      have HRR := Lib.hid hrr
      have cF := Lib.hid (fun w' h => find_any x.rs Ar cr id w' h (by omega))
      clear hx hrr e0 e1
      go_wp2_with fail
      go_at_call 58
      have hb1 := below_then_alloc (o := .cells #[.int .i64 x.price, .slice Ar x.rs.length cr] 26) hb
      generalize wr.alloc (.cells #[.int .i64 x.price, .slice Ar x.rs.length cr] 26) = w1 at *
      refine (cF.out _ ((HRR.out.below hb1).more hb1.size)).mono ?_
      rintro e w2 ⟨rfl, hb2⟩
      have hb3 := below_then hb2 hb1
      by_cases hf : 0 ≤ findI x.rs id
      · have H := Lib.hid (whereL_hit HX.out hno.out hf)
        generalize findI x.rs id = f at *
        go_wp2
        exact bodyPost_ret (v := .tuple #[.int .i64 (k : Int), .int .i64 f]) (by simp [results, Tryd.results38, go_sem]) rfl ⟨by rw [H.out], hb3⟩
      · have hf' : findI x.rs id < 0 := by omega
        have HF := Lib.hid hf'
        clear hf
        have HN : Hid (∀ j, j < k + 1 → findI ((L.getD j ⟨0, []⟩).rs) id < 0) := Lib.hid (fun j hj => by
          by_cases hjk : j < k
          · exact hno.out j hjk
          · obtain rfl : j = k := by omega
            rw [List.getD_eq_getElem?_getD, HX.out]; exact HF.out)
        clear HF
        generalize findI x.rs id = f at *
        go_wp2
        go_roundw
        case rel => exact ⟨k + 1, by omega, by go_num, hb3, HN⟩
        case measure => simp [intOf]; omega
    · obtain rfl : k = L.length := by omega
      have H := Lib.hid (whereL_none hno.out)
      go_wp2
      exact bodyPost_ret (v := .tuple #[.int .i64 (-1), .int .i64 (-1)]) (by simp [results, Tryd.results38, go_sem]) rfl ⟨by rw [H.out], hb⟩
end Go.Proofs.YtbnjkcgkdpildaaDoor
