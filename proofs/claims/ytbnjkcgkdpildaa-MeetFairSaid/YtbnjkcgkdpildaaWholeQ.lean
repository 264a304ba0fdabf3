/- All that a book has: the contract of the law's own count. -/
import Derived.Test.YtbnjkcgkdpildaaMeetLaw
import Derived.Test.YtbnjkcgkdpildaaRQueue
namespace Go.Proofs.Ytbnjkcgkdpildaa
set_option linter.all false
open Go Go.RowKit
theorem lvQ_take {L : List Lv} {k : Nat} {x : Lv} (h : L[k]? = some x) : lvQ (L.take (k + 1)) = lvQ (L.take k) + allQ x.rs := by
  rw [List.take_add_one, h]; simp [lvQ]
theorem lvQ_nonneg : ∀ {L : List Lv}, (∀ x ∈ L, Sound x.rs) → 0 ≤ lvQ L ∧ lvQ L ≤ 20000 * cnt L
  | [], _ => by simp [lvQ, cnt]
  | x :: L, h => by
    have ih := lvQ_nonneg (L := L) (fun y hy => h y (by simp [hy]))
    have hx := allQ_bounds (h x (by simp))
    rw [lvQ_cons, cnt_cons]
    omega
set_option maxRecDepth 100000 in
set_option maxHeartbeats 4000000 in
theorem wholeq_any (L M : List Lv) (A1 A2 : Option Addr) (c1 c2 : Nat) (w : World) (h1 : RdLv w w.heap.size A1 L) (h2 : RdLv w w.heap.size A2 M) (k1 : SideOk 1 L) (k2 : SideOk 2 M) :
    Calls Try.prog 21 #[.agg #[.slice A1 L.length c1, .slice A2 M.length c2]] w fun e w' => e = .returned (.int .i64 (lvQ L + lvQ M)) ∧ Below w.heap.size w w' := by
  have HL := Lib.hid h1; have HM := Lib.hid h2; have K1 := Lib.hid k1; have K2 := Lib.hid k2
  have hb : Below w.heap.size w (w.alloc (.cells #[.slice A1 L.length c1, .slice A2 M.length c2] 24)) := (Below.refl _ _).alloc (Nat.le_refl _) _
  have bb := Bk.new w 24 #[.slice A1 L.length c1, .slice A2 M.length c2]
  have hl1 : L.length ≤ 60 := Nat.le_trans (full_len k1.full) k1.few
  have hl2 : M.length ≤ 60 := Nat.le_trans (full_len k2.full) k2.few
  have HN1 := Lib.hid (fun k => lvQ_nonneg (L := L.take k) (fun x hx => k1.sound x (List.mem_of_mem_take hx)))
  have HN2 := Lib.hid (fun k => lvQ_nonneg (L := M.take k) (fun x hx => k2.sound x (List.mem_of_mem_take hx)))
  have HC1 := Lib.hid (fun k => Nat.le_trans (cnt_le L k) k1.few); have HC2 := Lib.hid (fun k => Nat.le_trans (cnt_le M k) k2.few)
  have X1 := Lib.hid (show ∀ x ∈ L, x.rs.length ≤ 60 from fun x hx => Nat.le_trans (len_cnt hx) k1.few)
  have X2 := Lib.hid (show ∀ x ∈ M, x.rs.length ≤ 60 from fun x hx => Nat.le_trans (len_cnt hx) k2.few)
  clear h1 h2 k1 k2
  go_enter Try.func21, Try.ntmps21
  go_upto_region 1 with fail
  generalize w.alloc (.cells #[.slice A1 L.length c1, .slice A2 M.length c2] 24) = w0 at *
  obtain ⟨q0, q1⟩ := box2 bb
  go_wp2_with fail
  go_loopw [3, 4] (fun n i wr => ∃ k : Nat, k ≤ L.length ∧ i = .int .i64 k ∧ n = .int .i64 (lvQ (L.take k)) ∧ Below w0.heap.size w0 wr) (fun _ i _ => L.length - (intOf i).toNat)
  case atStart => exact ⟨0, by omega, rfl, rfl, Below.refl _ _⟩
  case round =>
    obtain ⟨k, hk, rfl, rfl, hbl⟩ := hrel
    have hbr := below_then hbl hb
    obtain ⟨s0, s1⟩ := box2 (bb.keep hbl)
    by_cases hlt : k < L.length
    · obtain ⟨b, off, x, Ar, cr, rfl, hbt, hx, d0, d1, _, _, g3⟩ := lv_at (HL.out.below hbr) hlt
      have hj1 : (k : Int) < (L.length : Int) := by omega
      have hj0 : (0 : Int) ≤ (k : Int) := by omega
      have hn1 := HN1.out k; have hn2 := HN1.out (k + 1)
      have hc1 := HC1.out k; have hc2 := HC1.out (k + 1)
      rw [lvQ_take hx] at hn2
      have HMT := Lib.hid (lvQ_take hx)
      have hxm := List.mem_of_getElem? hx
      have cT := Lib.hid (rtotal_any x.rs Ar cr wr (g3.more hbr.size) (by have := X1.out x hxm; omega) (K1.out.sound x hxm))
      have x3 : IntKind.i64.wrap (lvQ (L.take k) + allQ x.rs) = lvQ (L.take k) + allQ x.rs := IntWalk.i64_in _ (by omega)
      clear hn1 hn2 hc1 hc2 hx hxm g3
      generalize lvQ (L.take k) = S at *
      generalize allQ x.rs = AQ at *
      go_wp2_with fail
      go_at_call 58
      refine cT.out.mono ?_
      rintro e w7 ⟨rfl, hb7⟩
      clear s0 s1 cT d0 d1
      go_wp2
      go_roundw
      case rel => exact ⟨k + 1, by omega, by go_num, by rw [HMT.out], below_then hb7 hbl⟩
      case measure => simp [intOf]; omega
    · obtain rfl : k = L.length := by omega
      rw [List.take_length]
      have bb2 := bb.keep hbl
      have hnL := HN1.out L.length
      rw [List.take_length] at hnL
      have hcL := HC1.out L.length
      rw [List.take_length] at hcL
      clear hlt q0 q1 HN1 HC1 X1 K1 hl1
      generalize hQL : lvQ L = QL at *
      have HQL := Lib.hid hQL
      clear hQL
      go_wp2_with fail
      go_loopw [3, 6] (fun n i wx => ∃ k : Nat, k ≤ M.length ∧ i = .int .i64 k ∧ n = .int .i64 (QL + lvQ (M.take k)) ∧ Below wr.heap.size wr wx) (fun _ i _ => M.length - (intOf i).toNat)
      case atStart => exact ⟨0, by omega, rfl, by simp [lvQ], Below.refl _ _⟩
      case round =>
        obtain ⟨k, hk, rfl, rfl, hbm⟩ := hrel
        have hbx := below_then hbm hbr
        obtain ⟨t0, t1⟩ := box2 (bb2.keep hbm)
        by_cases hlt : k < M.length
        · obtain ⟨b, off, x, Ar, cr, rfl, hbt, hx, d0, d1, _, _, g3⟩ := lv_at (HM.out.below hbx) hlt
          have hj1 : (k : Int) < (M.length : Int) := by omega
          have hj0 : (0 : Int) ≤ (k : Int) := by omega
          have hn1 := HN2.out k; have hn2 := HN2.out (k + 1)
          have hc1 := HC2.out k; have hc2 := HC2.out (k + 1)
          rw [lvQ_take hx] at hn2
          have HMT := Lib.hid (lvQ_take hx)
          have hxm := List.mem_of_getElem? hx
          have cT := Lib.hid (rtotal_any x.rs Ar cr wr (g3.more hbx.size) (by have := X2.out x hxm; omega) (K2.out.sound x hxm))
          have x3 : IntKind.i64.wrap (QL + lvQ (M.take k) + allQ x.rs) = QL + lvQ (M.take k) + allQ x.rs := IntWalk.i64_in _ (by omega)
          clear hn1 hn2 hc1 hc2 hx hxm g3 s0 s1
          generalize lvQ (M.take k) = S at *
          generalize allQ x.rs = AQ at *
          go_wp2_with fail
          go_at_call 58
          refine cT.out.mono ?_
          rintro e w7 ⟨rfl, hb7⟩
          clear t0 t1 cT d0 d1
          go_wp2
          go_roundw
          case rel => exact ⟨k + 1, by omega, by go_num, by rw [HMT.out, Int.add_assoc], below_then hb7 hbm⟩
          case measure => simp [intOf]; omega
        · obtain rfl : k = M.length := by omega
          rw [List.take_length]
          clear hlt HN2 HC2 s0 s1
          generalize hQM : lvQ M = QM at *
          have HQM := Lib.hid hQM
          clear hQM
          go_wp2
          go_ret
          exact ⟨by rw [HQL.out, HQM.out]; rfl, hbx⟩
end Go.Proofs.Ytbnjkcgkdpildaa
