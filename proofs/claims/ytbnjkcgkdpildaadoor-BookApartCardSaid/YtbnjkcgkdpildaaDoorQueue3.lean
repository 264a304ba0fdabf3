/- The contract of queue.Check. -/
import Derived.Test.YtbnjkcgkdpildaaDoorQueue2
namespace Go.Proofs.YtbnjkcgkdpildaaDoor
set_option linter.all false
open Go.RowKit
/-- what is wrong at place k of a queue -/
def stepE (l : List Rest) (k : Nat) : Int := match l[k]? with
  | none => 0
  | some r => if r.err ≠ 0 then r.err else if 0 ≤ findI (l.take k) r.id then 7 else 0
/-- what is wrong with a queue -/
def qErr (l : List Rest) : Int := if 60 < l.length then 4 else match (List.range l.length).find? (fun k => !(stepE l k == 0)) with
  | some k => stepE l k
  | none => 0
theorem qErr_hit {l : List Rest} {k : Nat} (hl : l.length ≤ 60) (hk : k < l.length) (h0 : ∀ j, j < k → stepE l j = 0) (he : stepE l k ≠ 0) : qErr l = stepE l k := by
  have : (List.range l.length).find? (fun k => !(stepE l k == 0)) = some k := by
    rw [List.find?_range_eq_some]
    refine ⟨by simpa using he, List.mem_range.2 hk, fun j hj => ?_⟩
    simpa using h0 j hj
  rw [qErr, if_neg (by omega), this]
theorem qErr_none {l : List Rest} (hl : l.length ≤ 60) (h0 : ∀ j, j < l.length → stepE l j = 0) : qErr l = 0 := by
  have : (List.range l.length).find? (fun k => !(stepE l k == 0)) = none := by
    rw [List.find?_eq_none]
    intro x hx
    simpa using h0 x (List.mem_range.1 hx)
  rw [qErr, if_neg (by omega), this]
theorem Rd.take {l : List Rest} {w : World} {B k : Nat} {A : Option Addr} (hr : Rd w B A l.length 5 (rcell l)) (hk : k ≤ l.length) : Rd w B A k 5 (rcell (l.take k)) := by
  intro hn
  obtain ⟨b, off, e, hb, hc⟩ := hr (by omega)
  refine ⟨b, off, e, hb, fun i hi j hj => ?_⟩
  rw [hc i (by omega) j hj]
  simp only [rcell, List.getD_eq_getElem?_getD, List.getElem?_take_of_lt hi]
theorem retQ {l : List Rest} {k : Int} (h : qErr l = k) (h0 : k ≠ 0) : Ending.returned (er k) = .returned (errV (qErr l)) := by rw [h, errV, if_neg h0]
theorem retQ0 {l : List Rest} (h : qErr l = 0) : Ending.returned .nilIface = .returned (errV (qErr l)) := by rw [h]; rfl
set_option maxHeartbeats 1000000 in
theorem qcheck_any (l : List Rest) (A : Option Addr) (c : Nat) (w : World) (hr : Rd w w.heap.size A l.length 5 (rcell l)) (hcap : l.length ≤ c) :
    Calls Tryd.prog 33 #[.slice A l.length c] w fun e w' => e = .returned (errV (qErr l)) ∧ Below w.heap.size w w' := by
  by_cases hl : (60 : Int) < (l.length : Int)
  · have h4 : qErr l = 4 := if_pos (by omega)
    have H := Lib.hid h4; clear h4
    go_enter Tryd.func33, Tryd.ntmps33
    go_wp2
    go_ret
    exact ⟨retQ H.out (by omega), Below.refl _ _⟩
  have hl' : (l.length : Int) ≤ 60 := by omega
  clear hl
  go_enter Tryd.func33, Tryd.ntmps33
  go_wp2
  go_loopw [12] (fun i wr => ∃ k : Nat, k ≤ l.length ∧ i = .int .i64 k ∧ Below w.heap.size w wr ∧ Hid (∀ j, j < k → stepE l j = 0)) (fun i _ => l.length - (intOf i).toNat)
  case atStart => exact ⟨0, by omega, rfl, Below.refl _ _, fun j hj => absurd hj (by omega)⟩
  case round =>
    obtain ⟨k, hk, rfl, hb, hno⟩ := hrel
    by_cases hlt : k < l.length
    · have htk := Rd.take hr hk
      obtain ⟨b, off, t, rfl, hbl, ht, e0, e1, e2, e3, e4⟩ := rest_at (hr.below hb) hlt
      have hst : stepE l k = if t.err ≠ 0 then t.err else if 0 ≤ findI (l.take k) t.id then 7 else 0 := by simp [stepE, ht]
      have HS := Lib.hid hst
      clear ht hr hst
      have cO := fun w => one_any t w
      by_cases h : t.err = 0
      · rw [h, show errV 0 = .nilIface from rfl] at cO
        have HE := Lib.hid h; clear h
        have hlen : (l.take k).length = k := by rw [List.length_take]; omega
        have cF := fun w' hr' => find_any (l.take k) (some ⟨b, off, none⟩) c t.id w' hr' (by rw [hlen]; omega)
        rw [hlen] at cF
        clear hlen
        have hck : (k : Int) ≤ (c : Int) := by omega
        have hk0 : (0 : Int) ≤ (k : Int) := by omega
        generalize findI (l.take k) t.id = fi at *
        go_wp2_with (go_at_call 37; refine (cO _).mono ?_; rintro e w' ⟨rfl, rfl⟩)
        have hb2 := (hb.alloc hb.size (.cells #[.int .i64 t.id, .int .i64 t.who, .int .i64 t.qty, .int .i64 t.hidden, .int .i64 t.show_] 23)).alloc (by have := hb.size; simp; omega) (.cells #[.int .i64 t.id, .int .i64 t.who, .int .i64 t.qty, .int .i64 t.hidden, .int .i64 t.show_] 23)
        have hk2 := (Bk.new wr 23 #[.int .i64 t.id, .int .i64 t.who, .int .i64 t.qty, .int .i64 t.hidden, .int .i64 t.show_]).alloc (.cells #[.int .i64 t.id, .int .i64 t.who, .int .i64 t.qty, .int .i64 t.hidden, .int .i64 t.show_] 23)
        generalize (wr.alloc (.cells #[.int .i64 t.id, .int .i64 t.who, .int .i64 t.qty, .int .i64 t.hidden, .int .i64 t.show_] 23)).alloc (.cells #[.int .i64 t.id, .int .i64 t.who, .int .i64 t.qty, .int .i64 t.hidden, .int .i64 t.show_] 23) = W at *
        have q0 := hk2.cell 0
        simp at q0
        have k0 := cell_regrown q0
        have cG := fun d os => Calls.regrown_of (w := W) (d := d) (os := os) (cF _ (((htk.below hb2).more hb2.size |>.below (below_regrown W d os)).more (below_regrown W d os).size))
        have htk2 := htk.below hb2
        clear cF htk q0
        refine wp_region_quiet_below (by kernel_rfl) (by kernel_rfl) ?_
        repeat (quiet_step (exact cG _ _))
        refine wpQuiet_nil ?_
        intro w3 hw3
        have hb3 : Below W.heap.size W w3 := by obtain ⟨p, rfl⟩ := hw3; exact below_regrown _ _ _
        have hbx := hb2.trans (hb3.mono hb2.size)
        clear hw3 cG k0
        by_cases hfi : 0 ≤ fi
        · have hs : stepE l k = 7 := by rw [HS.out, if_neg (by rw [HE.out]; omega), if_pos hfi]
          have H7 := Lib.hid hs; clear hs
          go_wp2
          go_ret
          exact ⟨retQ (k := 7) (by rw [qErr_hit (by omega) hlt hno (by rw [H7.out]; omega), H7.out]) (by omega), hbx⟩
        · have hs : stepE l k = 0 := by rw [HS.out, if_neg (by rw [HE.out]; omega), if_neg hfi]
          have H0 := Lib.hid hs; clear hs
          have hfi' : fi < 0 := by omega
          clear hfi
          go_wp2
          go_roundw
          case rel =>
            refine ⟨k + 1, by omega, by go_num, hbx, fun j hj => ?_⟩
            by_cases hjk : j < k
            · exact hno j hjk
            · obtain rfl : j = k := by omega
              exact H0.out
          case measure => simp [intOf]; omega
      · rw [show errV t.err = er t.err by simp [errV, h]] at cO
        have hs : stepE l k = t.err := by rw [HS.out, if_pos h]
        have H7 := Lib.hid hs; clear hs
        have HN := Lib.hid h; clear h
        generalize t.err = te at *
        go_wp2_with (go_at_call 37; refine (cO _).mono ?_; rintro e w' ⟨rfl, rfl⟩)
        go_ret
        exact ⟨retQ (by rw [qErr_hit (by omega) hlt hno (by rw [H7.out]; exact HN.out), H7.out]) HN.out, (hb.alloc hb.size _).alloc (by have := hb.size; simp; omega) _⟩
    · obtain rfl : k = l.length := by omega
      go_wp2
      go_ret
      exact ⟨retQ0 (qErr_none (by omega) hno), hb⟩
end Go.Proofs.YtbnjkcgkdpildaaDoor
