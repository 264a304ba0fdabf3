/- The contracts of the reference's Count, Twice, Ahead, Levels. -/
import Derived.Test.YtbnjkcgkdpildaaDoorFlat
import Derived.Test.YtbnjkcgkdpildaaDoorGrpG
namespace Go.Proofs.YtbnjkcgkdpildaaDoor
set_option linter.all false
open Go Go.RowKit
set_option maxHeartbeats 1000000 in
theorem rcount_any (L : List Lv) (A : Option Addr) (c : Nat) (w : World) (hr : RdLv w w.heap.size A L) (hL : L.length ≤ maxLen) (hc : cnt L ≤ maxLen) :
    Calls Tryd.prog 87 #[.slice A L.length c] w fun e w' => e = .returned (.int .i64 (cnt L)) ∧ w = w' := by
  have HR := Lib.hid hr
  unfold maxLen at hL hc
  clear hr
  go_enter Tryd.func87, Tryd.ntmps87
  go_wp2
  go_loopw [3, 4] (fun n i wr => ∃ k : Nat, k ≤ L.length ∧ i = .int .i64 k ∧ n = .int .i64 (cnt (L.take k)) ∧ wr = w) (fun _ i _ => L.length - (intOf i).toNat)
  case atStart => exact ⟨0, by omega, rfl, rfl, rfl⟩
  case round =>
    obtain ⟨k, hk, rfl, rfl, rfl⟩ := hrel
    by_cases hlt : k < L.length
    · obtain ⟨b, off, x, Ar, cr, rfl, hbl, hx, e0, e1, _, _, _⟩ := lv_at HR.out hlt
      have hs := cnt_take hx
      have hle := cnt_le L (k + 1)
      rw [hs] at hle
      have HS := Lib.hid hs
      clear hs hx
      generalize cnt (L.take k) = a at *
      generalize x.rs.length = m at *
      have x3 : IntKind.i64.wrap ((a : Int) + (m : Int)) = (a : Int) + (m : Int) := IntWalk.i64_in _ (by omega)
      have j0 : (0 : Int) ≤ (k : Int) := by omega
      have j1 : (k : Int) < (L.length : Int) := by omega
      go_wp2
      go_roundw
      case rel => exact ⟨k + 1, by omega, by go_num, by rw [HS.out]; simp, by trivial⟩
      case measure => simp [intOf]; omega
    · obtain rfl : k = L.length := by omega
      rw [List.take_length]
      go_wp2
      go_ret
      exact ⟨rfl, rfl⟩
theorem tw_hit {l : List Rest} {k : Nat} {r : Rest} (h : l[k]? = some r) (hf : 0 ≤ findI (l.take k) r.id) : twice [] (l.map Rest.id) = true := by
  cases ht : twice [] (l.map Rest.id)
  · exfalso
    rw [twice_nil] at ht
    have hm : r.id ∈ (l.take k).map Rest.id := by
      by_cases h1 : r.id ∈ (l.take k).map Rest.id
      · exact h1
      · exact absurd hf (findI_neg.2 h1)
    have hk := (List.getElem?_eq_some_iff.1 h).1
    have e : l = l.take k ++ r :: l.drop (k + 1) := by
      rw [← (List.getElem?_eq_some_iff.1 h).2, ← List.drop_eq_getElem_cons hk, List.take_append_drop]
    rw [e, List.map_append, List.nodup_append] at ht
    exact ht.2.2 _ hm _ (by simp) rfl
  · rfl
theorem tw_none {l : List Rest} (h : ∀ k r, l[k]? = some r → findI (l.take k) r.id < 0) : twice [] (l.map Rest.id) = false := by
  rw [twice_nil, List.Nodup, List.pairwise_iff_getElem]
  intro i j hi hj hij e
  rw [List.length_map] at hi hj
  rw [List.getElem_map, List.getElem_map] at e
  have h1 := h j l[j] (List.getElem?_eq_getElem hj)
  have : ¬ 0 ≤ findI (l.take j) l[j].id := by omega
  rw [findI_neg] at this
  apply this
  rw [← e]
  exact List.mem_map.2 ⟨l[i], List.mem_of_getElem? (by rw [List.getElem?_take_of_lt hij]; exact List.getElem?_eq_getElem hi), rfl⟩
set_option maxRecDepth 100000 in
set_option maxHeartbeats 1000000 in
theorem rtwice_any (l : List Rest) (A : Option Addr) (c : Nat) (w : World) (hr : Rd w w.heap.size A l.length 5 (rcell l)) (hl : l.length ≤ 1000000) (hcap : l.length ≤ c) :
    Calls Tryd.prog 88 #[.slice A l.length c] w fun e w' => e = .returned (.bool (twice [] (l.map Rest.id))) ∧ Below w.heap.size w w' := by
  have HR := Lib.hid hr
  clear hr
  go_enter Tryd.func88, Tryd.ntmps88
  go_wp2
  go_loopw [3] (fun i wr => ∃ k : Nat, k ≤ l.length ∧ i = .int .i64 k ∧ Below w.heap.size w wr ∧ Hid (∀ j r, j < k → l[j]? = some r → findI (l.take j) r.id < 0)) (fun i _ => l.length - (intOf i).toNat)
  case atStart => exact ⟨0, by omega, rfl, Below.refl _ _, Lib.hid (fun j r hj => absurd hj (by omega))⟩
  case round =>
    obtain ⟨k, hk, rfl, hb, hno⟩ := hrel
    by_cases hlt : k < l.length
    · obtain ⟨b, off, t, rfl, hbl, ht, e0, e1, e2, e3, e4⟩ := rest_at (HR.out.below hb) hlt
      have hlk : (l.take k).length = k := by rw [List.length_take]; omega
      have htk := Rd.take (HR.out.below hb) (k := k) (by omega)
      have cF := fun w' hr' => rin_any (l.take k) (some ⟨b, off, none⟩) c t.id w' hr' (by rw [hlk]; unfold maxLen; omega)
      rw [hlk] at cF
      have HT := Lib.hid ht
      have j0 : (0 : Int) ≤ (k : Int) := by omega
      have j1 : (k : Int) < (l.length : Int) := by omega
      have j2 : (k : Int) ≤ (c : Int) := by omega
      have k0 := cell_regrown e0
      have cG := fun d os => Calls.regrown_of (w := wr) (d := d) (os := os) ((cF _ (((htk.more hb.size).below (below_regrown wr d os)).more (below_regrown wr d os).size)).mono fun e w' ⟨h1, h2⟩ => ⟨h1, by rw [← h2]; exact Below.refl _ _⟩)
      have HX := Lib.hid (show ∀ z, findI (l.take k) t.id = z → (0 ≤ z → twice [] (l.map Rest.id) = true) from fun z e h => tw_hit HT.out (by rw [e]; exact h))
      clear ht hlk e1 e2 e3 e4 cF htk e0
      generalize hz : findI (l.take k) t.id = z at *
      have HZ := Lib.hid hz
      clear hz
      go_wp2_with fail
      refine wp_region_quiet_below (by kernel_rfl) (by kernel_rfl) ?_
      repeat (quiet_step (exact cG _ _))
      refine wpQuiet_nil ?_
      intro w3 hw3
      have hb3 : Below wr.heap.size wr w3 := by obtain ⟨p, rfl⟩ := hw3; exact below_regrown _ _ _
      have hbx := hb.trans (hb3.mono hb.size)
      clear hw3 cG k0 hb3
      by_cases hf : 0 ≤ z
      · have H := Lib.hid (HX.out _ rfl hf)
        go_wp2
        go_ret
        exact ⟨by rw [H.out]; rfl, hbx⟩
      · have hf' : z < 0 := by omega
        have HF := Lib.hid hf'
        go_wp2
        go_roundw
        case rel =>
          refine ⟨k + 1, by omega, by go_num, hbx, Lib.hid (fun j r hj hr => ?_)⟩
          rcases Nat.lt_or_ge j k with h | h
          · exact hno.out j r h hr
          · obtain rfl : j = k := by omega
            rw [HT.out] at hr
            cases hr
            have h1 := HZ.out
            have h2 := HF.out
            omega
        case measure => simp [intOf]; omega
    · obtain rfl : k = l.length := by omega
      have H := Lib.hid (tw_none fun j r hr => hno.out j r (List.getElem?_eq_some_iff.1 hr).1 hr)
      go_wp2
      go_ret
      exact ⟨by rw [H.out]; rfl, hb⟩
theorem rahead_any (d a b : Int) (w : World) : Calls Tryd.prog 86 #[.int .i64 d, .int .i64 a, .int .i64 b] w fun e w' => e = .returned (.bool (decide (d = 1 ∧ a < b ∨ d = 2 ∧ b < a))) ∧ w = w' := by
  rcases (show (d = 1 ∧ a < b) ∨ (d = 1 ∧ b ≤ a) ∨ (d = 2 ∧ b < a) ∨ (d = 2 ∧ a ≤ b) ∨ (d ≠ 1 ∧ d ≠ 2) by omega) with ⟨rfl, h⟩ | ⟨rfl, h⟩ | ⟨rfl, h⟩ | ⟨rfl, h⟩ | ⟨h1, h2⟩
  · go_enter Tryd.func86, Tryd.ntmps86
    go_wp2
    go_ret
    exact ⟨ret_bool (by simp [h]), rfl⟩
  · have h' : ¬ a < b := by omega
    go_enter Tryd.func86, Tryd.ntmps86
    go_wp2
    go_ret
    exact ⟨ret_bool (by simp [h']), rfl⟩
  · go_enter Tryd.func86, Tryd.ntmps86
    go_wp2
    go_ret
    exact ⟨ret_bool (by simp [h]), rfl⟩
  · have h' : ¬ b < a := by omega
    go_enter Tryd.func86, Tryd.ntmps86
    go_wp2
    go_ret
    exact ⟨ret_bool (by simp [h']), rfl⟩
  · have e1 : (d == 1) = false := by simpa using h1
    have e2 : (d == 2) = false := by simpa using h2
    go_enter Tryd.func86, Tryd.ntmps86
    go_wp2
    go_ret
    exact ⟨ret_bool (by simp [h1, h2]), rfl⟩
theorem rahd_s {s a b : Int} (hs : vs s = true) : decide (3 - s = 1 ∧ a < b ∨ 3 - s = 2 ∧ b < a) = sAhd s a b := by
  rcases side_two hs with rfl | rfl
  · simp [sAhd, ahd']
  · simp [sAhd, ahd']
theorem retI {a b : Int} (h : a = b) : Ending.returned (.int .i64 b) = .returned (.int .i64 a) := by rw [h]
set_option maxRecDepth 100000 in
set_option maxHeartbeats 2000000 in
theorem rlevels_any (s : Int) (L : List Lv) (A : Option Addr) (c : Nat) (w : World) (hr : RdLv w w.heap.size A L) (hL : L.length ≤ maxLen) :
    Calls Tryd.prog 66 #[.int .i64 s, .slice A L.length c] w fun e w' => e = .returned (.int .i64 (sideE s L)) ∧ Below w.heap.size w w' := by
  have hL0 := hL
  unfold maxLen at hL
  cases hvs : vs s
  · have H := Lib.hid (show sideE s L = 1 by rw [sideE, if_pos hvs])
    go_enter Tryd.func66, Tryd.ntmps66
    go_wp2_with (go_at_call 68; refine (rside_any _ _).mono ?_; rintro e w' ⟨rfl, rfl⟩)
    go_ret
    exact ⟨retI H.out, Below.refl _ _⟩
  have HV := Lib.hid hvs
  have HR := Lib.hid hr
  have hs := side_two hvs
  have xs : IntKind.i64.wrap (3 - s) = 3 - s := IntWalk.i64_in _ (by omega)
  have HE := Lib.hid (show sideE s L = if lvErr s L ≠ 0 then lvErr s L else if 60 < cnt L then 4 else if twice [] (ids L) then 7 else 0 by rw [sideE, if_neg (by rw [hvs]; decide)])
  clear hr hs
  go_enter Tryd.func66, Tryd.ntmps66
  go_wp2_with (go_at_call 68; refine (rside_any _ _).mono ?_; rintro e w' ⟨rfl, rfl⟩)
  clear hvs
  go_loopw [6] (fun i wr => ∃ k : Nat, k ≤ L.length ∧ i = .int .i64 k ∧ Below w.heap.size w wr ∧ Hid (∀ j, j < k → stepL s L j = 0)) (fun i _ => L.length - (intOf i).toNat)
  case atStart => exact ⟨0, by omega, rfl, Below.refl _ _, Lib.hid (fun j hj => absurd hj (by omega))⟩
  case round =>
    obtain ⟨k, hk, rfl, hb, hno⟩ := hrel
    by_cases hlt : k < L.length
    · obtain ⟨b, off, x, Ar, cr, rfl, hbl, hx, e0, e1, g1, g2, hrr⟩ := lv_at HR.out hlt
      have d0 := (hb.cell (p := ⟨b, _, none⟩) hbl).trans e0
      have d1 := (hb.cell (p := ⟨b, _, none⟩) hbl).trans e1
      clear e0 e1
      have HX := Lib.hid hx
      have HRR := Lib.hid hrr
      have G1 := Lib.hid g1
      have j0 : (0 : Int) ≤ (k : Int) := by omega
      have j1 : (k : Int) < (L.length : Int) := by omega
      have hit : ∀ z, stepL s L k = z → z ≠ 0 → sideE s L = z := fun z hz h0 => by
        rw [HE.out, lvErr_hit hlt hno.out (by rw [hz]; exact h0), hz, if_pos h0]
      have HIT := Lib.hid hit
      have hst : stepL s L k = if vp x.price = false then 1 else if x.rs.length = 0 then 3 else if qErr x.rs ≠ 0 then qErr x.rs else if k = 0 then 0 else match L[k - 1]? with | none => 0 | some y => if sAhd s y.price x.price then 0 else 7 := by
        (simp only [stepL, hx]) <;> rfl
      have HS := Lib.hid hst
      clear hx hrr g1 g2 hit hst
      cases hvp : vp x.price
      · have H := Lib.hid (HIT.out 1 (by rw [HS.out, if_pos hvp]) (by omega))
        have cP := fun w => rprice_any x.price w
        rw [hvp] at cP
        clear hvp
        go_wp2_with (go_at_call 69; ((with_reducible refine (cP _).mono ?_); rintro e w' ⟨rfl, rfl⟩))
        go_ret
        exact ⟨retI H.out, hb⟩
      have cP := fun w => rprice_any x.price w
      rw [hvp] at cP
      have HS2 := HS.out
      rw [if_neg (by rw [hvp]; decide)] at HS2
      clear HS hvp
      by_cases hl0 : x.rs.length = 0
      · have H := Lib.hid (HIT.out 3 (by rw [HS2, if_pos hl0]) (by omega))
        have hz : ((x.rs.length : Int) == 0) = true := by rw [beq_iff_eq]; omega
        clear hl0 HS2
        generalize x.rs.length = m at *
        go_wp2_with (go_at_call 69; ((with_reducible refine (cP _).mono ?_); rintro e w' ⟨rfl, rfl⟩))
        go_ret
        exact ⟨retI H.out, hb⟩
      rw [if_neg hl0] at HS2
      have hz : ((x.rs.length : Int) == 0) = false := beq_eq_false_iff_ne.2 (by omega)
      clear hl0
      have HS2 := Lib.hid HS2
      go_wp2_with (go_at_call 69; ((with_reducible refine (cP _).mono ?_); rintro e w' ⟨rfl, rfl⟩))
      go_at_call 85
      refine (rqueue_any x.rs Ar cr wr ((HRR.out.below hb).more hb.size) G1.out).mono ?_
      rintro e w2 ⟨rfl, hb2⟩
      have hb3 := below_then hb2 hb
      by_cases hq : qErr x.rs = 0
      · rw [hq]
        have HS3 := HS2.out
        rw [if_neg (by rw [hq]; decide)] at HS3
        clear hq
        by_cases hk0 : k = 0
        · have H0 := Lib.hid (show stepL s L k = 0 by rw [HS3, if_pos hk0])
          subst hk0
          clear HS3
          go_wp2
          go_quiet (fail)
          go_wp2
          go_roundw
          case rel =>
            refine ⟨0 + 1, by omega, by go_num, below_drewN hb3 _, Lib.hid (fun j hj => ?_)⟩
            obtain rfl : j = 0 := by omega
            exact H0.out
          case measure => simp [intOf]; omega
        · rw [if_neg hk0] at HS3
          obtain ⟨b', off', y, Ay, cy, he, hbl', hy, f0, _, _, _, _⟩ := lv_at (HR.out.below hb3) (k := k - 1) (by omega)
          cases he
          have hx2 := (lv_at (HR.out.below hb3) hlt)
          rw [hy] at HS3
          simp only at HS3
          have hg : ((k : Int) == 0) = false := by simp; omega
          obtain ⟨m, hm⟩ : ∃ m, k = m + 1 := ⟨k - 1, by omega⟩
          have hkm : k - 1 = m := by omega
          rw [hkm] at f0 hy
          have x1 : IntKind.i64.wrap ((k : Int) - 1) = (m : Int) := by rw [show (k : Int) - 1 = (m : Int) by omega]; exact IntWalk.i64_in _ (by omega)
          have hm0 : (0 : Int) ≤ (m : Int) := by omega
          have hm1 : (m : Int) < (L.length : Int) := by omega
          have q0 := (hb2.cell (World.block_lt_of_cell? wr _ d0)).trans d0
          have cA := fun w => rahead_any (3 - s) y.price x.price w
          rw [rahd_s HV.out] at cA
          have HB3 := Lib.hid hb3
          have HKM := Lib.hid hm
          clear hy hk0 d0 d1 hx2 hm hkm
          cases ha : sAhd s y.price x.price
          · rw [ha] at cA HS3
            have H := Lib.hid (HIT.out 7 (by rw [HS3]; rfl) (by omega))
            clear ha HS3
            have CA := Lib.hid cA
            clear cA
            go_wp2
            go_quiet ((go_at_call 86; exact Calls.quiet_of_same ((CA.out _).mono fun _ _ h => ⟨h.1, h.2.symm⟩)))
            go_wp2
            go_ret
            exact ⟨retI H.out, below_drewN HB3.out _⟩
          · rw [ha] at cA HS3
            have H0 := Lib.hid (show stepL s L k = 0 by rw [HS3]; rfl)
            clear ha HS3
            have CA := Lib.hid cA
            clear cA
            go_wp2
            go_quiet ((go_at_call 86; exact Calls.quiet_of_same ((CA.out _).mono fun _ _ h => ⟨h.1, h.2.symm⟩)))
            go_wp2
            go_roundw
            case rel =>
              refine ⟨k + 1, by omega, by go_num, below_drewN HB3.out _, Lib.hid (fun j hj => ?_)⟩
              by_cases hj2 : j < k
              · exact hno.out j hj2
              · obtain rfl : j = k := by omega
                exact H0.out
            case measure => simp [intOf]; omega
      · have H := Lib.hid (HIT.out (qErr x.rs) (by rw [HS2.out, if_pos hq]) hq)
        have hq' : (qErr x.rs == 0) = false := by simpa using hq
        clear hq
        generalize qErr x.rs = z at *
        go_wp2
        go_ret
        exact ⟨retI H.out, hb3⟩
    · obtain rfl : k = L.length := by omega
      have hl0 : lvErr s L = 0 := lvErr_none hno.out
      obtain ⟨hf1, hf2, hf3, hf4⟩ := lv_ok HV.out hl0
      have HE2 := HE.out
      rw [if_neg (by rw [hl0]; decide)] at HE2
      have cC := fun w' hr' => rcount_any L A c w' hr' hL0 (by unfold maxLen; omega)
      have cFl := Lib.hid (fun w' hr' => rflat_any L A c w' hr' hL0 (by omega))
      clear hl0 HE
      go_wp2_with fail
      go_at_call 87
      refine (cC _ (HR.out.on hb)).mono ?_
      rintro e w2 ⟨rfl, rfl⟩
      clear cC
      by_cases hc : 60 < cnt L
      · rw [if_pos hc] at HE2
        have hc' : (60 : Int) < (cnt L : Int) := by omega
        have H := Lib.hid HE2
        clear hc HE2 hf1 hf2 hf3 hf4
        generalize cnt L = n at *
        go_wp2
        go_ret
        exact ⟨retI H.out, hb⟩
      · rw [if_neg hc] at HE2
        have hc' : (cnt L : Int) ≤ 60 := by omega
        have hfl : (flatL L).length ≤ 60 := by rw [flatL_len]; omega
        rw [← flatL_ids] at HE2
        have HE3 := Lib.hid HE2
        have cF1 := Lib.hid (cFl.out wr (HR.out.on hb))
        clear hc HE2 hf1 hf2 hf3 hf4 cFl
        generalize cnt L = n at *
        go_wp2_with fail
        go_at_call 89
        refine cF1.out.mono ?_
        rintro e w3 ⟨Af, cf, rfl, of_, hb3⟩
        have cT := Lib.hid (rtwice_any (flatL L) Af cf w3 (of_.rd (fun i j hi hj => rows_get hi hj)) (by omega) of_.le)
        have hb4 := below_then hb3 hb
        clear of_ cF1 hb3
        generalize flatL L = F at *
        cases ht : twice [] (F.map Rest.id)
        · rw [ht] at cT HE3
          have H := Lib.hid (show sideE s L = 0 from HE3.out)
          clear ht
          go_wp2_with fail
          go_at_call 88
          refine cT.out.mono ?_
          rintro e w4 ⟨rfl, hb5⟩
          have hb6 := below_then hb5 hb4
          go_wp2
          go_ret
          exact ⟨retI H.out, hb6⟩
        · rw [ht] at cT HE3
          have H := Lib.hid (show sideE s L = 7 from HE3.out)
          clear ht
          go_wp2_with fail
          go_at_call 88
          refine cT.out.mono ?_
          rintro e w4 ⟨rfl, hb5⟩
          have hb6 := below_then hb5 hb4
          go_wp2
          go_ret
          exact ⟨retI H.out, hb6⟩
end Go.Proofs.YtbnjkcgkdpildaaDoor
