/- The contract of side.Twice. -/
import Derived.Test.YtbnjkcgkdpildaaDoorLevels
import Derived.Test.YtbnjkcgkdpildaaDoorSeen
namespace Go.Proofs.YtbnjkcgkdpildaaDoor
set_option linter.all false
open Go Go.RowKit Go.Maps
theorem twice_app : ∀ (a s b : List Int), twice s (a ++ b) = (twice s a || twice (s ++ a) b) := by
  intro a
  induction a with
  | nil => intro s b; simp [twice]
  | cons x a ih =>
    intro s b
    simp only [List.cons_append, twice, ih, Bool.or_assoc, List.append_assoc, List.singleton_append, List.nil_append]
theorem twice_hit {S r : List Int} {x : Int} (h : S.contains x = true) : twice [] (S ++ x :: r) = true := by
  rw [twice_app, List.nil_append, twice, h]
  simp
theorem twice_no {S : List Int} {x : Int} (h0 : twice [] S = false) (h : S.contains x = false) : twice [] (S ++ [x]) = false := by
  rw [twice_app, h0, List.nil_append, twice, h]
  rfl
theorem ids_split {L : List Lv} {k q : Nat} {x : Lv} {r : Rest} (hx : L[k]? = some x) (hr : x.rs[q]? = some r) : ∃ z, ids L = (ids (L.take k) ++ (x.rs.take q).map Rest.id) ++ r.id :: z := by
  have hk : k < L.length := by
    rcases Nat.lt_or_ge k L.length with h | h
    · exact h
    · rw [List.getElem?_eq_none h] at hx; cases hx
  have hq : q < x.rs.length := by
    rcases Nat.lt_or_ge q x.rs.length with h | h
    · exact h
    · rw [List.getElem?_eq_none h] at hr; cases hr
  rw [List.getElem?_eq_getElem hk] at hx
  rw [List.getElem?_eq_getElem hq] at hr
  have hx := Option.some.inj hx
  have hr := Option.some.inj hr
  refine ⟨(x.rs.drop (q + 1)).map Rest.id ++ ids (L.drop (k + 1)), ?_⟩
  have e1 : L = L.take k ++ x :: L.drop (k + 1) := by
    conv => lhs; rw [← List.take_append_drop k L]
    rw [List.drop_eq_getElem_cons hk, hx]
  have e2 : x.rs = x.rs.take q ++ r :: x.rs.drop (q + 1) := by
    conv => lhs; rw [← List.take_append_drop q x.rs]
    rw [List.drop_eq_getElem_cons hq, hr]
  have e3 : ids L = ids (L.take k) ++ (x.rs.map Rest.id ++ ids (L.drop (k + 1))) := by
    conv => lhs; rw [e1]
    simp [ids]
  have e4 : x.rs.map Rest.id = (x.rs.take q).map Rest.id ++ r.id :: (x.rs.drop (q + 1)).map Rest.id := by
    conv => lhs; rw [e2]
    simp
  rw [e3, e4]
  simp [List.append_assoc]
theorem ids_in {L : List Lv} {k : Nat} {x : Lv} {q : Nat} {r : Rest} (hx : L[k]? = some x) (hr : x.rs[q]? = some r) : r.id ∈ ids L := by
  obtain ⟨z, h⟩ := ids_split hx hr
  rw [h]; simp
theorem rest_take {l : List Rest} {q : Nat} {r : Rest} (h : l[q]? = some r) : (l.take (q + 1)).map Rest.id = (l.take q).map Rest.id ++ [r.id] := by
  rw [List.take_add_one, h]; simp
theorem int_law : Keyed Tryd.prog 3 := int_keyed Tryd.underlying3
theorem zero_bool (w : World) : (zeroValue 4).run Tryd.prog w = .ok (.bool false) w := by kernel_rfl
set_option maxRecDepth 100000 in
set_option maxHeartbeats 1000000 in
theorem twice_any (L : List Lv) (A : Option Addr) (c : Nat) (w : World) (hr : RdLv w w.heap.size A L) (hL : L.length ≤ maxLen) (hc : cnt L ≤ maxLen) (hid : ∀ i ∈ ids L, 1 ≤ i ∧ i ≤ 9999) (hcap : ∀ x ∈ L, x.rs.length ≤ maxLen) :
    Calls Tryd.prog 36 #[.slice A L.length c] w fun e w' => e = .returned (.bool (twice [] (ids L))) ∧ Below w.heap.size w w' := by
  have HR := Lib.hid hr; have HID := Lib.hid hid; have HC := Lib.hid hc; have HCAP := Lib.hid hcap
  unfold maxLen at hL
  clear hr hid hc hcap
  have hmm := @run_makeMap Tryd.prog
  go_enter Tryd.func36, Tryd.ntmps36
  go_wp2_with fail
  clear hmm
  go_loopw [11] (fun i wr => ∃ k : Nat, k ≤ L.length ∧ i = .int .i64 k ∧ wr.ownsMap Tryd.prog 3 (plainElem (H := Unit) Tryd.prog 4) w.heap.size (ids (L.take k)).length (SeenD (ids (L.take k))) ∧ Hid (twice [] (ids (L.take k)) = false) ∧ Below w.heap.size w wr) (fun i _ => L.length - (intOf i).toNat)
  case atStart => exact ⟨0, by omega, rfl, World.ownsMap_made _ _ _ _, Lib.hid rfl, (Below.refl _ _).alloc (Nat.le_refl _) _⟩
  case round =>
    obtain ⟨k, hk, rfl, hown, htw, hb⟩ := hrel
    by_cases hlt : k < L.length
    · obtain ⟨b, off, x, Ar, cr, rfl, hbl, hx, e0, e1, g1, g2, hrr⟩ := lv_at HR.out hlt
      replace e0 := (hb.cell (p := ⟨b, _, none⟩) hbl).trans e0
      replace e1 := (hb.cell (p := ⟨b, _, none⟩) hbl).trans e1
      have hxl := HCAP.out x (List.mem_of_getElem? hx)
      unfold maxLen at hxl
      have HX := Lib.hid hx
      have HRR := Lib.hid hrr
      have HOWN := Lib.hid hown
      clear hx hrr g1 g2 hown
      go_wp2_with fail
      go_loopw [18] (fun j w2 => ∃ q : Nat, q ≤ x.rs.length ∧ j = .int .i64 q ∧ Hid (w2.ownsMap Tryd.prog 3 (plainElem (H := Unit) Tryd.prog 4) w.heap.size (ids (L.take k) ++ (x.rs.take q).map Rest.id).length (SeenD (ids (L.take k) ++ (x.rs.take q).map Rest.id))) ∧ Hid (twice [] (ids (L.take k) ++ (x.rs.take q).map Rest.id) = false) ∧ Below w.heap.size w w2) (fun j _ => x.rs.length - (intOf j).toNat)
      case atStart =>
        refine ⟨0, by omega, rfl, Lib.hid ?_, Lib.hid ?_, below_then_alloc hb⟩
        · rw [List.take_zero, List.map_nil, List.append_nil]; exact HOWN.out.alloc _
        · rw [List.take_zero, List.map_nil, List.append_nil]; exact htw.out
      case round =>
        obtain ⟨q, hq, rfl, hown2, htw2, hb2⟩ := hrel
        clear hb e0 e1
        by_cases hlq : q < x.rs.length
        · obtain ⟨b', off', t, rfl, hbl', ht, d0, d1, d2, d3, d4⟩ := rest_at (HRR.out.below hb2) hlq
          have hin := HID.out t.id (ids_in HX.out ht)
          obtain ⟨hin1, hin2⟩ := hin
          have hlen : (ids (L.take k) ++ (x.rs.take q).map Rest.id).length < maxLen := by
            obtain ⟨z, hz⟩ := ids_split HX.out ht
            have h1 := ids_len L
            rw [hz, List.length_append, List.length_cons] at h1
            have := HC.out
            omega
          have HS := Lib.hid (ids_split HX.out ht)
          have HT := Lib.hid (rest_take ht)
          have HLEN := Lib.hid hlen
          clear ht hlen
          cases hcs : (ids (L.take k) ++ (x.rs.take q).map Rest.id).contains t.id
          · have HAT := Lib.hid (show (SeenD (ids (L.take k) ++ (x.rs.take q).map Rest.id)).atKey (.int .i64 t.id) (.lit (.bool false)) = .lit (.bool false) by rw [SeenD_at, hcs])
            have HNO := Lib.hid (twice_no htw2.out hcs)
            clear hcs
            go_wp2_with (first | (at_lookup; refine wpList_lookup_own_bool _ rfl _ _ 102 rfl 3 4 int_law Tryd.underlying102 Tryd.underlying4 (zero_bool _) w.heap.size _ _ rfl (hown2.out.alloc _) _ _ rfl (keyOf_int_mk Tryd.underlying3 (WalkArith.wf_i64 (by omega))) _ HAT.out ?_) | (at_mapUpdate; refine wpList_mapUpdate_own _ rfl _ _ _ 102 rfl 3 4 int_law Tryd.underlying102 _ w.heap.size _ _ rfl (hown2.out.alloc _) HLEN.out _ _ _ rfl rfl (keyOf_int_mk Tryd.underlying3 (WalkArith.wf_i64 (by omega))) _ [] (plainElem_bool Tryd.underlying4 true) ?_; intro w1 hown1 hgrow1))
            go_roundw
            case rel =>
              refine ⟨q + 1, by omega, by go_num, Lib.hid ?_, Lib.hid ?_, ?_⟩
              · rw [HT.out, ← List.append_assoc, SeenD_snoc, List.length_append, List.length_singleton]
                exact hown1
              · rw [HT.out, ← List.append_assoc]; exact HNO.out
              · exact Below.grown (below_then_alloc hb2) hgrow1 (below_then_alloc hb2).size (fun j hj => by cases hj; exact Nat.le_refl _)
            case measure => simp [intOf]; omega
          · have HAT := Lib.hid (show (SeenD (ids (L.take k) ++ (x.rs.take q).map Rest.id)).atKey (.int .i64 t.id) (.lit (.bool false)) = .lit (.bool true) by rw [SeenD_at, hcs])
            have HYES := Lib.hid (show twice [] (ids L) = true by obtain ⟨z, hz⟩ := HS.out; rw [hz]; exact twice_hit hcs)
            clear hcs
            go_wp2_with (first | (at_lookup; refine wpList_lookup_own_bool _ rfl _ _ 102 rfl 3 4 int_law Tryd.underlying102 Tryd.underlying4 (zero_bool _) w.heap.size _ _ rfl (hown2.out.alloc _) _ _ rfl (keyOf_int_mk Tryd.underlying3 (WalkArith.wf_i64 (by omega))) _ HAT.out ?_))
            go_ret
            exact ⟨by rw [HYES.out]; rfl, below_then_alloc hb2⟩
        · obtain rfl : q = x.rs.length := by omega
          have hown2 := hown2.out
          have htw2 := htw2.out
          rw [List.take_length, ← ids_take HX.out] at hown2 htw2
          have HO := Lib.hid hown2; have HT := Lib.hid htw2
          clear hown2 htw2
          go_wp2
          go_roundw
          case rel => exact ⟨k + 1, by omega, by go_num, HO.out, HT, hb2⟩
          case measure => simp [intOf]; omega
    · obtain rfl : k = L.length := by omega
      rw [List.take_length] at htw
      clear hown
      go_wp2
      go_ret
      exact ⟨by rw [htw.out]; rfl, hb⟩
end Go.Proofs.YtbnjkcgkdpildaaDoor
