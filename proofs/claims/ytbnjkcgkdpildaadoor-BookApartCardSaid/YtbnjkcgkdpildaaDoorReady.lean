/- The contract of meet.Ready. -/
import Derived.Test.YtbnjkcgkdpildaaDoorBook3
namespace Go.Proofs.YtbnjkcgkdpildaaDoor
set_option linter.all false
open Go Go.RowKit
theorem box8o {w' : World} {v0 v1 v2 v3 v4 v5 v6 v7 : Value} {g : Nat} {t : TypeId} (h : Bk w' g t #[v0, v1, v2, v3, v4, v5, v6, v7]) : w'.cell? ⟨g, 0, none⟩ = some v0 ∧ w'.cell? ⟨g, 1, none⟩ = some v1 ∧ w'.cell? ⟨g, 2, none⟩ = some v2 ∧ w'.cell? ⟨g, 3, none⟩ = some v3 ∧ w'.cell? ⟨g, 4, none⟩ = some v4 ∧ w'.cell? ⟨g, 5, none⟩ = some v5 ∧ w'.cell? ⟨g, 6, none⟩ = some v6 ∧ w'.cell? ⟨g, 7, none⟩ = some v7 :=
  ⟨h.cell 0, h.cell 1, h.cell 2, h.cell 3, h.cell 4, h.cell 5, h.cell 6, h.cell 7⟩
set_option maxRecDepth 100000 in
set_option maxHeartbeats 2000000 in
theorem ready_any (L M : List Lv) (o : Order) (A1 A2 : Option Addr) (c1 c2 : Nat) (w : World) (h1 : RdLv w w.heap.size A1 L) (h2 : RdLv w w.heap.size A2 M) (hl1 : L.length ≤ maxLen) (hl2 : M.length ≤ maxLen) :
    Calls Tryd.prog 23 #[.agg #[.slice A1 L.length c1, .slice A2 M.length c2], .agg #[.int .i64 o.id, .int .i64 o.who, .int .i64 o.side, .int .i64 o.kind, .int .i64 o.price, .int .i64 o.qty, .int .i64 o.show_, .int .i64 o.stop]] w fun e w' => e = .returned (errV (readyE L M o)) ∧ Below w.heap.size w w' := by
  have HL := Lib.hid h1; have HM := Lib.hid h2
  have cB := Lib.hid (fun w' h h' => bcheck_any L M A1 A2 c1 c2 w' h h' hl1 hl2)
  have cO := Lib.hid (fun w => check_any o w)
  clear h1 h2 hl1 hl2
  have hb : Below w.heap.size w ((w.alloc (.cells #[.slice A1 L.length c1, .slice A2 M.length c2] 29)).alloc (.cells #[.int .i64 o.id, .int .i64 o.who, .int .i64 o.side, .int .i64 o.kind, .int .i64 o.price, .int .i64 o.qty, .int .i64 o.show_, .int .i64 o.stop] 36)) := below_then_alloc ((Below.refl _ _).alloc (Nat.le_refl _) _)
  have bb := (Bk.new w 29 #[.slice A1 L.length c1, .slice A2 M.length c2]).alloc (.cells #[.int .i64 o.id, .int .i64 o.who, .int .i64 o.side, .int .i64 o.kind, .int .i64 o.price, .int .i64 o.qty, .int .i64 o.show_, .int .i64 o.stop] 36)
  have bo := Bk.at_ (w := w.alloc (.cells #[.slice A1 L.length c1, .slice A2 M.length c2] 29)) (g' := w.heap.size + 1) (by simp) 36 #[.int .i64 o.id, .int .i64 o.who, .int .i64 o.side, .int .i64 o.kind, .int .i64 o.price, .int .i64 o.qty, .int .i64 o.show_, .int .i64 o.stop]
  go_enter Tryd.func23, Tryd.ntmps23
  go_upto_region 1 with fail
  generalize (w.alloc (.cells #[.slice A1 L.length c1, .slice A2 M.length c2] 29)).alloc (.cells #[.int .i64 o.id, .int .i64 o.who, .int .i64 o.side, .int .i64 o.kind, .int .i64 o.price, .int .i64 o.qty, .int .i64 o.show_, .int .i64 o.stop] 36) = w0 at *
  have q0 := bb.cell 0; have q1 := bb.cell 1
  simp at q0 q1
  have k8 := box8o bo
  go_wp2_with fail
  go_at_call 26
  refine (cB.out _ (HL.out.on hb) (HM.out.on hb)).mono ?_
  rintro e w1 ⟨rfl, hb2⟩
  replace bb := bb.keep hb2; replace bo := bo.keep hb2; replace hb := below_then hb2 hb
  clear hb2 q0 q1 cB k8
  by_cases h0 : bookE L M = 0
  · have HE := Lib.hid (show readyE L M o = if o.err ≠ 0 then o.err else if o.stop ≠ 0 then 6 else if (whereB L M o.id).1 ≠ 0 then 7 else 0 by rw [readyE, if_neg (by simpa using h0)])
    have HB := Lib.hid h0
    rw [h0, show errV 0 = .nilIface from rfl]
    clear h0
    have k8 := box8o bo
    go_wp2_with fail
    go_at_call 52
    refine (cO.out _).mono ?_
    rintro e w2 ⟨rfl, rfl⟩
    replace bb := bb.alloc (.cells #[.int .i64 o.id, .int .i64 o.who, .int .i64 o.side, .int .i64 o.kind, .int .i64 o.price, .int .i64 o.qty, .int .i64 o.show_, .int .i64 o.stop] 36); replace bo := bo.alloc (.cells #[.int .i64 o.id, .int .i64 o.who, .int .i64 o.side, .int .i64 o.kind, .int .i64 o.price, .int .i64 o.qty, .int .i64 o.show_, .int .i64 o.stop] 36); replace hb := below_then_alloc (o := .cells #[.int .i64 o.id, .int .i64 o.who, .int .i64 o.side, .int .i64 o.kind, .int .i64 o.price, .int .i64 o.qty, .int .i64 o.show_, .int .i64 o.stop] 36) hb
    generalize w1.alloc (.cells #[.int .i64 o.id, .int .i64 o.who, .int .i64 o.side, .int .i64 o.kind, .int .i64 o.price, .int .i64 o.qty, .int .i64 o.show_, .int .i64 o.stop] 36) = w3 at *
    clear k8
    by_cases h0 : o.err = 0
    · have HE2 := Lib.hid (show readyE L M o = if o.stop ≠ 0 then 6 else if (whereB L M o.id).1 ≠ 0 then 7 else 0 by rw [HE.out, if_neg (by simpa using h0)])
      rw [h0, show errV 0 = .nilIface from rfl]
      clear h0 HE
      have k8 := box8o bo
      by_cases h0 : o.stop = 0
      · have HE3 := Lib.hid (show readyE L M o = if (whereB L M o.id).1 ≠ 0 then 7 else 0 by rw [HE2.out, if_neg (by simpa using h0)])
        have h0' : (o.stop == 0) = true := by simpa using h0
        have q0 := bb.cell 0; have q1 := bb.cell 1
        simp at q0 q1
        have z := bookE_zero HB.out
        have O1 := LvOk.of z.1
        have O2 := LvOk.of z.2.1
        have cW := Lib.hid (fun w' h h' => bwhere_any L M A1 A2 c1 c2 o.id w' h h' O1 O2)
        clear h0 HE2 z O1 O2
        go_wp2_with fail
        go_at_call 53
        refine (cW.out _ (HL.out.on hb) (HM.out.on hb)).mono ?_
        rintro e w4 ⟨rfl, hb2⟩
        have hb4 := below_then hb2 hb
        clear hb2 cW
        by_cases h0 : (whereB L M o.id).1 = 0
        · have H := Lib.hid (show readyE L M o = 0 by rw [HE3.out, if_neg (by simpa using h0)])
          have h1 : ((whereB L M o.id).1 == 0) = true := by simpa using h0
          clear h0 HE3
          generalize (whereB L M o.id).1 = z at *
          go_wp2
          go_ret
          exact ⟨retE0 H.out, hb4⟩
        · have H := Lib.hid (show readyE L M o = 7 by rw [HE3.out, if_pos h0])
          have h1 : ((whereB L M o.id).1 == 0) = false := by simpa using h0
          clear h0 HE3
          generalize (whereB L M o.id).1 = z at *
          go_wp2
          go_ret
          exact ⟨retE H.out (by omega), hb4⟩
      · have H := Lib.hid (show readyE L M o = 6 by rw [HE2.out, if_pos h0])
        have h0' : (o.stop == 0) = false := by simpa using h0
        clear h0 HE2
        go_wp2
        go_ret
        exact ⟨retE H.out (by omega), hb⟩
    · have H := Lib.hid (show readyE L M o = o.err by rw [HE.out, if_pos h0])
      have HN := Lib.hid h0
      rw [show errV o.err = er o.err by rw [errV, if_neg h0]]
      clear h0 HE
      generalize o.err = z at *
      go_wp2
      go_ret
      exact ⟨retE H.out HN.out, hb⟩
  · have H := Lib.hid (show readyE L M o = bookE L M from if_pos h0)
    have HN := Lib.hid h0
    rw [show errV (bookE L M) = er (bookE L M) by rw [errV, if_neg h0]]
    clear h0
    generalize bookE L M = z at *
    go_wp2
    go_ret
    exact ⟨retE H.out HN.out, hb⟩
end Go.Proofs.YtbnjkcgkdpildaaDoor
