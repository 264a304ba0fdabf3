/- The contracts of meet.Could, order.Meets. -/
import Derived.Test.YtbnjkcgkdpildaaDoorMeetLaw
namespace Go.Proofs.YtbnjkcgkdpildaaDoor
set_option linter.all false
open Go Go.RowKit
theorem mayQ_nonneg {o : Order} : ∀ {L : List Lv}, (∀ x ∈ L, Sound x.rs) → 0 ≤ mayQ o L ∧ mayQ o L ≤ 20000 * cnt L
  | [], _ => by simp [mayQ, cnt]
  | x :: L, h => by
    have ih := mayQ_nonneg (o := o) (L := L) (fun y hy => h y (by simp [hy]))
    have hx := allQ_bounds (h x (by simp))
    rw [mayQ_cons, cnt_cons]
    split <;> omega
theorem mayQ_take {o : Order} {L : List Lv} {k : Nat} {x : Lv} (h : L[k]? = some x) : mayQ o (L.take (k + 1)) = mayQ o (L.take k) + (if may o x.price then allQ x.rs else 0) := by
  rw [List.take_add_one, h]; simp [mayQ]
/-- how Could ends -/
def CouldPost (z v : Int) (w : World) (e : Ending) (w' : World) : Prop :=
  ∃ a ev, e = .returned (.tuple #[.int .i64 a, ev]) ∧ Hid ((z ≠ 0 ∧ ev = er z ∧ a = 0) ∨ (z = 0 ∧ ev = .nilIface ∧ a = v)) ∧ Below w.heap.size w w'
set_option maxRecDepth 100000 in
set_option maxHeartbeats 4000000 in
theorem could_any (L M : List Lv) (o : Order) (A1 A2 : Option Addr) (c1 c2 : Nat) (w : World) (h1 : RdLv w w.heap.size A1 L) (h2 : RdLv w w.heap.size A2 M) (hl1 : L.length ≤ maxLen) (hl2 : M.length ≤ maxLen) (z : Int) (hz : z = readyE L M o) (v : Int) (hv : v = min (mayQ o (pick o.side L M)) o.qty) :
    Calls Tryd.prog 22 #[.agg #[.slice A1 L.length c1, .slice A2 M.length c2], .agg #[.int .i64 o.id, .int .i64 o.who, .int .i64 o.side, .int .i64 o.kind, .int .i64 o.price, .int .i64 o.qty, .int .i64 o.show_, .int .i64 o.stop]] w (CouldPost z v w) := by
  have HL := Lib.hid h1; have HM := Lib.hid h2; have HZ := Lib.hid hz; have HV := Lib.hid hv
  have cR := Lib.hid (fun w' h h' => ready_any L M o A1 A2 c1 c2 w' h h' hl1 hl2)
  have hb : Below w.heap.size w ((w.alloc (.cells #[.slice A1 L.length c1, .slice A2 M.length c2] 29)).alloc (.cells #[.int .i64 o.id, .int .i64 o.who, .int .i64 o.side, .int .i64 o.kind, .int .i64 o.price, .int .i64 o.qty, .int .i64 o.show_, .int .i64 o.stop] 36)) := below_then_alloc ((Below.refl _ _).alloc (Nat.le_refl _) _)
  have bb := (Bk.new w 29 #[.slice A1 L.length c1, .slice A2 M.length c2]).alloc (.cells #[.int .i64 o.id, .int .i64 o.who, .int .i64 o.side, .int .i64 o.kind, .int .i64 o.price, .int .i64 o.qty, .int .i64 o.show_, .int .i64 o.stop] 36)
  have bo := Bk.at_ (w := w.alloc (.cells #[.slice A1 L.length c1, .slice A2 M.length c2] 29)) (g' := w.heap.size + 1) (by simp) 36 #[.int .i64 o.id, .int .i64 o.who, .int .i64 o.side, .int .i64 o.kind, .int .i64 o.price, .int .i64 o.qty, .int .i64 o.show_, .int .i64 o.stop]
  clear h1 h2 hl1 hl2 hz hv
  go_enter Tryd.func22, Tryd.ntmps22
  go_upto_region 1 with fail
  generalize (w.alloc (.cells #[.slice A1 L.length c1, .slice A2 M.length c2] 29)).alloc (.cells #[.int .i64 o.id, .int .i64 o.who, .int .i64 o.side, .int .i64 o.kind, .int .i64 o.price, .int .i64 o.qty, .int .i64 o.show_, .int .i64 o.stop] 36) = w0 at *
  obtain ⟨q0, q1⟩ := box2 bb
  have k8 := box8o bo
  go_wp2_with fail
  go_at_call 23
  refine (cR.out _ (HL.out.on hb) (HM.out.on hb)).mono ?_
  rintro e w1 ⟨rfl, hb1⟩
  replace bb := bb.keep hb1; replace bo := bo.keep hb1; replace hb := below_then hb1 hb
  clear hb1 cR q0 q1 k8
  by_cases h1 : readyE L M o = 0
  case neg =>
    have HE := Lib.hid (show z = readyE L M o from HZ.out)
    have HN := Lib.hid h1
    rw [show errV (readyE L M o) = er (readyE L M o) by rw [errV, if_neg h1]]
    clear h1
    generalize readyE L M o = y at *
    go_wp2
    go_ret2
    exact ⟨0, er y, rfl, Lib.hid (.inl ⟨by rw [HE.out]; exact HN.out, by rw [HE.out], rfl⟩), hb⟩
  have HE := Lib.hid (show z = 0 by rw [HZ.out, h1])
  have hbk := (readyE_iff.1 h1).1
  have ho := (readyE_iff.1 h1).2.1
  have hS := pick_side (Order.err_ok ho).2.2.1 hbk
  have hvs : vs o.side = true := vs_of (Order.err_ok ho).2.2.1
  have hq := (Order.err_ok ho).2.2.2.2.2.1
  rw [h1, show errV 0 = .nilIface from rfl]
  have cOt := Lib.hid (fun w => other_any o.side hvs w)
  have cOf := Lib.hid (fun w => ofx_any o.side hvs L M A1 A2 c1 c2 w)
  have cMa := Lib.hid (fun p w => may_any o p w)
  have HRS : Hid (∀ w', Below w.heap.size w w' → RdLv w' w.heap.size (pick o.side A1 A2) (pick o.side L M)) := Lib.hid (fun w' hb => by
    rcases side_two hvs with h | h
    · rw [h]; exact HM.out.below hb
    · rw [h]; exact HL.out.below hb)
  clear h1 HZ hbk ho hvs
  have HS := Lib.hid hS
  have hKl : (pick o.side L M).length ≤ 60 := Nat.le_trans (full_len hS.full) hS.few
  clear hS
  generalize pick o.side L M = K at *
  generalize pick o.side A1 A2 = AK at *
  generalize pick o.side c1 c2 = cK at *
  obtain ⟨q0, q1⟩ := box2 bb
  have k8 := box8o bo
  obtain ⟨y0, y1, y2, y3, y4, y5, y6, y7⟩ := k8
  have bbd := bb.drew; have hbd := hb.drew
  go_upto_region 5 with fail
  go_region_held3 (fun w' => w'.cell? ⟨w.heap.size, 0, none⟩ = some (.slice A1 L.length c1) ∧ w'.cell? ⟨w.heap.size, 1, none⟩ = some (.slice A2 M.length c2) ∧ w'.cell? ⟨w.heap.size + 1, 2, none⟩ = some (.int .i64 o.side)) ((repeat' apply And.intro) <;> (first | (with_reducible assumption) | (with_reducible exact cell_drew (by assumption))))
    (first
      | (go_at_call 49; (with_reducible refine (cOt.out _).mono ?_); rintro e wt ⟨rfl, rfl⟩)
      | (go_at_call 28; (with_reducible refine (cOf.out _).mono ?_); rintro e wo ⟨rfl, hbo⟩; have bbo := bbd.keep hbo; obtain ⟨q0, q1⟩ := box2 bbo; have boo := bo.drew.keep hbo; have k2 := boo.cell 2; (simp at k2)))
  replace hb := below_then hbo hbd
  replace bo := bo.drew.keep hbo
  clear hbo hbd bbd bbo boo q0 q1 k2 y0 y1 y2 y3 y4 y5 y6 y7 bb cOt cOf HL HM
  have HMN := Lib.hid (fun k => mayQ_nonneg (o := o) (L := K.take k) (fun x hx => HS.out.sound x (List.mem_of_mem_take hx)))
  have HCN := Lib.hid (fun k => Nat.le_trans (cnt_le K k) HS.out.few)
  have HX60 := Lib.hid (show ∀ x ∈ K, x.rs.length ≤ 60 from fun x hx => Nat.le_trans (len_cnt hx) HS.out.few)
  go_wp2_with fail
  go_loopw [7, 22] (fun n i wr => ∃ k : Nat, k ≤ K.length ∧ i = .int .i64 k ∧ n = .int .i64 (mayQ o (K.take k)) ∧ Below wo.heap.size wo wr) (fun _ i _ => K.length - (intOf i).toNat)
  case atStart => exact ⟨0, by omega, rfl, rfl, Below.refl _ _⟩
  case round =>
    obtain ⟨k, hk, rfl, rfl, hbl⟩ := hrel
    have hbr := below_then hbl hb
    by_cases hlt : k < K.length
    · obtain ⟨b, off, x, Ar, cr, rfl, hbt, hx, d0, d1, _, _, g3⟩ := lv_at (HRS.out wr hbr) hlt
      have hj1 : (k : Int) < (K.length : Int) := by omega
      have hj0 : (0 : Int) ≤ (k : Int) := by omega
      have hn1 := HMN.out k; have hn2 := HMN.out (k + 1)
      have hc1 := HCN.out k; have hc2 := HCN.out (k + 1)
      rw [mayQ_take hx] at hn2
      have HMT := Lib.hid (mayQ_take (o := o) hx)
      have hxm := List.mem_of_getElem? hx
      have hsx := HS.out.sound x hxm
      have hx60 := HX60.out x hxm
      go_upto_region 8 with fail
      have bx := Bk.new wr 26 #[.int .i64 x.price, .slice Ar x.rs.length cr]
      have hba : Below wr.heap.size wr (wr.alloc (.cells #[.int .i64 x.price, .slice Ar x.rs.length cr] 26)) := (Below.refl _ _).alloc (Nat.le_refl _) _
      have hbw := hbr.size
      have hbl2 := below_then hba hbl
      have g4 := Lib.hid ((g3.more hbw).below hba)
      have bo2 := (bo.keep hbl).keep hba
      clear hx hxm d0 d1 g3 hba hbr
      generalize wr.alloc (.cells #[.int .i64 x.price, .slice Ar x.rs.length cr] 26) = w5 at *
      obtain ⟨y0, y1, y2, y3, y4, y5, y6, y7⟩ := box8o bo2
      obtain ⟨x0, x1⟩ := box2 bx
      go_wp2_with fail
      go_at_call 50
      refine (cMa.out x.price _).mono ?_
      rintro e w6 ⟨rfl, hw6⟩
      have hb6 : Below w5.heap.size w5 w6 := by rw [hw6]; exact (Below.refl _ _).alloc (Nat.le_refl _) _
      have hbl6 := below_then hb6 hbl2
      have bx6 := bx.keep hb6
      have hr6 : Rd w6 w6.heap.size Ar x.rs.length 5 (rcell x.rs) := (g4.out.below (hb6.mono (by have := bx.lt; omega))).more (by have := bx.lt; have := hb6.size; omega)
      have cAl := Lib.hid (all_any x.rs Ar cr w6 hr6 (by omega) hsx)
      clear hw6 y0 y1 y2 y3 y4 y5 y6 y7 x0 x1 hr6 bo2
      obtain ⟨x0, x1⟩ := box2 bx6
      cases hm : may o x.price
      · rw [hm] at hn2
        have HMT2 := Lib.hid (show mayQ o (K.take (k + 1)) = mayQ o (K.take k) by rw [HMT.out, hm]; simp)
        clear hn2 hm HMT
        generalize mayQ o (K.take k) = S at *
        go_wp2
        go_roundw
        case rel => exact ⟨k + 1, by omega, by go_num, by rw [HMT2.out], hbl6⟩
        case measure => simp [intOf]; omega
      · rw [hm, if_pos rfl] at hn2
        have HMT2 := Lib.hid (show mayQ o (K.take (k + 1)) = mayQ o (K.take k) + allQ x.rs by rw [HMT.out, hm]; simp)
        have x3 : IntKind.i64.wrap (mayQ o (K.take k) + allQ x.rs) = mayQ o (K.take k) + allQ x.rs := IntWalk.i64_in _ (by omega)
        clear hn2 hm HMT
        generalize mayQ o (K.take k) = S at *
        generalize allQ x.rs = AQ at *
        go_wp2_with fail
        go_at_call 51
        refine cAl.out.mono ?_
        rintro e w7 ⟨rfl, hb7⟩
        clear x0 x1 cAl
        go_wp2
        go_roundw
        case rel => exact ⟨k + 1, by omega, by go_num, by rw [HMT2.out], below_then hb7 hbl6⟩
        case measure => simp [intOf]; omega
    · obtain rfl : k = K.length := by omega
      rw [List.take_length]
      have bo2 := bo.keep hbl
      obtain ⟨y0, y1, y2, y3, y4, y5, y6, y7⟩ := box8o bo2
      clear hlt hbl HMN HCN HX60
      generalize mayQ o K = S at *
      rcases (show S ≤ o.qty ∨ o.qty < S by omega) with hm | hm
      · have hmin : min S o.qty = S := by omega
        have HVE := Lib.hid (show v = S by rw [HV.out, hmin])
        go_wp2
        go_ret2
        exact ⟨S, .nilIface, rfl, Lib.hid (.inr ⟨HE.out, rfl, HVE.out.symm⟩), hbr⟩
      · have hmin : min S o.qty = o.qty := by omega
        have HVE := Lib.hid (show v = o.qty by rw [HV.out, hmin])
        go_wp2
        go_ret2
        exact ⟨o.qty, .nilIface, rfl, Lib.hid (.inr ⟨HE.out, rfl, HVE.out.symm⟩), hbr⟩
end Go.Proofs.YtbnjkcgkdpildaaDoor
