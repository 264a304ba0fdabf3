/- The contracts of the reference's In, Queue, Total, Without. -/
import Derived.Test.YtbnjkcgkdpildaaDoorGrpB
import Derived.Test.YtbnjkcgkdpildaaDoorGrpD
import Derived.Test.YtbnjkcgkdpildaaDoorGrpH
import Derived.IntWalk
namespace Go.Proofs.YtbnjkcgkdpildaaDoor
set_option linter.all false
open Go Go.RowKit
theorem rin_any (l : List Rest) (A : Option Addr) (c : Nat) (id : Int) (w : World) (hr : Rd w w.heap.size A l.length 5 (rcell l)) (hl : l.length ≤ maxLen) :
    Calls Tryd.prog 90 #[.slice A l.length c, .int .i64 id] w fun e w' => e = .returned (.int .i64 (findI l id)) ∧ w = w' := by
  have HR := Lib.hid hr
  unfold maxLen at hl
  clear hr
  go_enter Tryd.func90, Tryd.ntmps90
  go_wp2
  go_loop [5] (fun i => ∃ k : Nat, k ≤ l.length ∧ i = .int .i64 k ∧ Hid (∀ j, j < k → ∀ u, l[j]? = some u → u.id ≠ id)) (fun i => l.length - (intOf i).toNat)
  case atStart => exact ⟨0, by omega, rfl, Lib.hid fun j hj => absurd hj (by omega)⟩
  case round =>
    obtain ⟨k, hk, rfl, hno⟩ := hrel
    by_cases hlt : k < l.length
    · obtain ⟨b, off, t, rfl, hbl, ht, e0, e1, e2, e3, e4⟩ := rest_at HR.out hlt
      have HT := Lib.hid ht; clear ht
      have i0 : (0 : Int) ≤ (k : Int) := by omega
      have i1 : (k : Int) < (l.length : Int) := by omega
      by_cases h : t.id = id
      · have e : (t.id == id) = true := by simpa using h
        have H := Lib.hid (findI_hit HT.out h hno.out); clear h
        go_wp2
        go_ret
        exact ⟨by rw [H.out]; rfl, rfl⟩
      · have e : (t.id == id) = false := by simpa using h
        have H := Lib.hid h; clear h
        go_wp2
        go_round
        case rel =>
          refine ⟨k + 1, by omega, by go_num, Lib.hid fun j hj u hu => ?_⟩
          by_cases hjk : j < k
          · exact hno.out j hjk u hu
          · obtain rfl : j = k := by omega
            rw [HT.out] at hu
            cases hu
            exact H.out
        case measure => simp [intOf]; omega
    · obtain rfl : k = l.length := by omega
      go_wp2
      go_ret
      exact ⟨by rw [findI_none hno.out]; rfl, rfl⟩
theorem rretQ {l : List Rest} {k : Int} (h : qErr l = k) : Ending.returned (.int .i64 k) = .returned (.int .i64 (qErr l)) := by rw [h]
set_option maxHeartbeats 1000000 in
theorem rqueue_any (l : List Rest) (A : Option Addr) (c : Nat) (w : World) (hr : Rd w w.heap.size A l.length 5 (rcell l)) (hcap : l.length ≤ c) :
    Calls Tryd.prog 85 #[.slice A l.length c] w fun e w' => e = .returned (.int .i64 (qErr l)) ∧ Below w.heap.size w w' := by
  by_cases hl : (60 : Int) < (l.length : Int)
  · have h4 : qErr l = 4 := if_pos (by omega)
    have H := Lib.hid h4; clear h4
    go_enter Tryd.func85, Tryd.ntmps85
    go_wp2
    go_ret
    exact ⟨rretQ H.out, Below.refl _ _⟩
  have hl' : (l.length : Int) ≤ 60 := by omega
  have HR := Lib.hid hr
  clear hl hr
  go_enter Tryd.func85, Tryd.ntmps85
  go_wp2
  go_loopw [3] (fun i wr => ∃ k : Nat, k ≤ l.length ∧ i = .int .i64 k ∧ Below w.heap.size w wr ∧ Hid (∀ j, j < k → stepE l j = 0)) (fun i _ => l.length - (intOf i).toNat)
  case atStart => exact ⟨0, by omega, rfl, Below.refl _ _, Lib.hid fun j hj => absurd hj (by omega)⟩
  case round =>
    obtain ⟨k, hk, rfl, hb, hno⟩ := hrel
    by_cases hlt : k < l.length
    · have htk := Rd.take HR.out hk
      obtain ⟨b, off, t, rfl, hbl, ht, e0, e1, e2, e3, e4⟩ := rest_at (HR.out.below hb) hlt
      have hst : stepE l k = if t.err ≠ 0 then t.err else if 0 ≤ findI (l.take k) t.id then 7 else 0 := by simp [stepE, ht]
      have HS := Lib.hid hst
      have i0 : (0 : Int) ≤ (k : Int) := by omega
      have i1 : (k : Int) < (l.length : Int) := by omega
      clear ht hst
      have cO := fun w => rrest_any t w
      by_cases h : t.err = 0
      · rw [h] at cO
        have HE := Lib.hid h; clear h
        have CO := Lib.hid cO; clear cO
        have hlen : (l.take k).length = k := by rw [List.length_take]; omega
        have cF := fun w' hr' => rin_any (l.take k) (some ⟨b, off, none⟩) c t.id w' hr' (by rw [hlen]; unfold maxLen; omega)
        rw [hlen] at cF
        clear hlen
        have hck : (k : Int) ≤ (c : Int) := by omega
        generalize findI (l.take k) t.id = fi at *
        go_wp2_with (go_at_call 95; refine (CO.out _).mono ?_; rintro e w' ⟨rfl, rfl⟩)
        have hb2 := hb.alloc hb.size (.cells #[.int .i64 t.id, .int .i64 t.who, .int .i64 t.qty, .int .i64 t.hidden, .int .i64 t.show_] 23)
        have q0 : (wr.alloc (.cells #[.int .i64 t.id, .int .i64 t.who, .int .i64 t.qty, .int .i64 t.hidden, .int .i64 t.show_] 23)).cell? ⟨b, off + k * 5, none⟩ = some (.int .i64 t.id) := cell_alloc e0 _
        clear e0 e1 e2 e3 e4
        generalize wr.alloc (.cells #[.int .i64 t.id, .int .i64 t.who, .int .i64 t.qty, .int .i64 t.hidden, .int .i64 t.show_] 23) = W at *
        have k0 := cell_regrown q0
        have cG := fun d os => Calls.regrown_of (w := W) (d := d) (os := os) ((cF _ (((htk.below hb2).more hb2.size |>.below (below_regrown W d os)).more (below_regrown W d os).size)).mono fun e w' ⟨h1, h2⟩ => ⟨h1, by rw [← h2]; exact Below.refl _ _⟩)
        clear cF htk q0
        refine wp_region_quiet_below (by kernel_rfl) (by kernel_rfl) ?_
        repeat (quiet_step (exact cG _ _))
        refine wpQuiet_nil ?_
        intro w3 hw3
        have hb3 : Below W.heap.size W w3 := by obtain ⟨p, rfl⟩ := hw3; exact below_regrown _ _ _
        have hbx := hb2.trans (hb3.mono hb2.size)
        clear hw3 cG k0
        by_cases hfi : 0 ≤ fi
        · have H7 := Lib.hid (show stepE l k = 7 by rw [HS.out, if_neg (by rw [HE.out]; omega), if_pos hfi])
          go_wp2
          go_ret
          exact ⟨rretQ (k := 7) (by rw [qErr_hit (by omega) hlt hno.out (by rw [H7.out]; omega), H7.out]), hbx⟩
        · have H0 := Lib.hid (show stepE l k = 0 by rw [HS.out, if_neg (by rw [HE.out]; omega), if_neg hfi])
          have hfi' : fi < 0 := by omega
          clear hfi
          go_wp2
          go_roundw
          case rel =>
            refine ⟨k + 1, by omega, by go_num, hbx, Lib.hid fun j hj => ?_⟩
            by_cases hjk : j < k
            · exact hno.out j hjk
            · obtain rfl : j = k := by omega
              exact H0.out
          case measure => simp [intOf]; omega
      · have H7 := Lib.hid (show stepE l k = t.err by rw [HS.out, if_pos h])
        have HN := Lib.hid h
        have hne : (t.err != 0) = true := bne_iff_ne.2 h
        have hne2 : (t.err == 0) = false := by simpa using h
        have CO := Lib.hid cO
        clear h cO
        generalize t.err = te at *
        go_wp2_with (go_at_call 95; refine (CO.out _).mono ?_; rintro e w' ⟨rfl, rfl⟩)
        go_ret
        exact ⟨rretQ (by rw [qErr_hit (by omega) hlt hno.out (by rw [H7.out]; exact HN.out), H7.out]), hb.alloc hb.size _⟩
    · obtain rfl : k = l.length := by omega
      go_wp2
      go_ret
      exact ⟨rretQ (qErr_none (by omega) hno.out), hb⟩
set_option maxHeartbeats 1000000 in
theorem rtotal_any (l : List Rest) (A : Option Addr) (c : Nat) (w : World) (hr : Rd w w.heap.size A l.length 5 (rcell l)) (hl : l.length ≤ 1000) (he : ∀ r ∈ l, r.err = 0) :
    Calls Tryd.prog 21 #[.slice A l.length c] w fun e w' => e = .returned (.int .i64 (allQ l)) ∧ Below w.heap.size w w' := by
  have HR := Lib.hid hr
  have HE := Lib.hid he
  clear hr he
  go_enter Tryd.func21, Tryd.ntmps21
  go_wp2
  go_loopw [3, 4] (fun n i wr => ∃ k : Nat, k ≤ l.length ∧ i = .int .i64 k ∧ n = .int .i64 (allQ (l.take k)) ∧ Below w.heap.size w wr) (fun _ i _ => l.length - (intOf i).toNat)
  case atStart => exact ⟨0, by omega, rfl, rfl, Below.refl _ _⟩
  case round =>
    obtain ⟨k, hk, rfl, rfl, hb⟩ := hrel
    by_cases hlt : k < l.length
    · obtain ⟨b, off, t, rfl, hbl, ht, e0, e1, e2, e3, e4⟩ := rest_at (HR.out.below hb) hlt
      have hb1 := allQ_bounds (l := l.take k) (fun r hr => HE.out r (List.mem_of_mem_take hr))
      rw [List.length_take] at hb1
      obtain ⟨b1, b2⟩ := hb1
      have b3 : (min k l.length : Nat) ≤ 1000 := by omega
      have b4 : allQ (l.take k) ≤ 20000000 := by omega
      have hh := err0 (HE.out t (List.mem_of_getElem? ht))
      obtain ⟨h1, h2, h3, h4, _⟩ := hh
      have HA := Lib.hid (allQ_take ht)
      have i0 : (0 : Int) ≤ (k : Int) := by omega
      have i1 : (k : Int) < (l.length : Int) := by omega
      clear ht b2
      generalize allQ (l.take k) = s at *
      have x1 : IntKind.i64.wrap (s + t.qty) = s + t.qty := IntWalk.i64_in _ (by omega)
      have x2 : IntKind.i64.wrap (s + t.qty + t.hidden) = s + t.qty + t.hidden := IntWalk.i64_in _ (by omega)
      have X1 := Lib.hid x1; have X2 := Lib.hid x2; clear x1 x2
      go_wp2
      have x1 := X1.out; have x2 := X2.out
      go_quiet (fail)
      clear x1 x2
      go_wp2
      go_roundw
      case rel => exact ⟨k + 1, by omega, by go_num, by rw [HA.out, ← Int.add_assoc], below_drewN hb _⟩
      case measure => simp [intOf]; omega
    · obtain rfl : k = l.length := by omega
      go_wp2
      go_ret
      exact ⟨by rw [List.take_length]; rfl, hb⟩
end Go.Proofs.YtbnjkcgkdpildaaDoor
