/- The contracts of the reference's In, Queue, Total, Without. The contract of the reference's Without. The contracts of the reference's Flat, Of. The contracts of the reference's Count, Twice, Ahead, Levels. The contracts of the reference's At, Find, Whole, Book, Comes. The contracts of the reference's Book, Comes, With, Out. The contracts of the reference's With, Out; what stays while some blocks turn. The contract of the reference's Fill. -/
import Derived.Test.YtiaofbkhnodbhaaGreatDoorGrpB
import Derived.Test.YtiaofbkhnodbhaaGreatDoorGrpD
import Derived.Test.YtiaofbkhnodbhaaGreatDoorGrpH
import Derived.IntWalk
import Derived.Test.YtiaofbkhnodbhaaGreatDoorGrpF
import Derived.Test.YtiaofbkhnodbhaaGreatDoorGrpG
namespace Go.Proofs.YtiaofbkhnodbhaaGreatDoor
set_option linter.all false
open Go Go.RowKit
theorem rin_any (l : List Rest) (A : Option Addr) (c : Nat) (id : Int) (w : World) (hr : Rd w w.heap.size A l.length 5 (rcell l)) (hl : l.length ≤ maxLen) :
    Calls Tryz.prog 65 #[.slice A l.length c, .int .i64 id] w fun e w' => e = .returned (.int .i64 (findI l id)) ∧ w = w' := by
  have HR := Lib.hid hr
  unfold maxLen at hl
  clear hr
  go_enter Tryz.func65, Tryz.ntmps65
  go_wp2
  go_loop [5] (fun i => ∃ k : Nat, k ≤ l.length ∧ i = .int .i64 k ∧ Hid (∀ j, j < k → ∀ u, l[j]? = some u → u.id ≠ id)) (fun i => l.length - (intOf i).toNat)
  case atStart => exact ⟨0, by omega, rfl, Lib.hid fun j hj => absurd hj (by omega)⟩
  case round =>
    obtain ⟨k, hk, rfl, hno⟩ := hrel
    by_cases hlt : k < l.length
    · obtain ⟨b, off, t, rfl, hbl, ht, e0, e1, e2, e3, e4⟩ := rest_at HR.out hlt
      have HT := Lib.hid ht; clear ht
      have i0 : (0 : Int) ≤ (k : Int) := by omega
      have i1 : (k : Int) < (l.length : Int) := by omega
      by_cases h : t.id = id
      · have e : (t.id == id) = true := by simpa using h
        have H := Lib.hid (findI_hit HT.out h hno.out); clear h
        go_wp2
        go_ret
        exact ⟨by rw [H.out]; rfl, rfl⟩
      · have e : (t.id == id) = false := by simpa using h
        have H := Lib.hid h; clear h
        go_wp2
        go_round
        case rel =>
          refine ⟨k + 1, by omega, by go_num, Lib.hid fun j hj u hu => ?_⟩
          by_cases hjk : j < k
          · exact hno.out j hjk u hu
          · obtain rfl : j = k := by omega
            rw [HT.out] at hu
            cases hu
            exact H.out
        case measure => simp [intOf]; omega
    · obtain rfl : k = l.length := by omega
      go_wp2
      go_ret
      exact ⟨by rw [findI_none hno.out]; rfl, rfl⟩
theorem rretQ {l : List Rest} {k : Int} (h : qErr l = k) : Ending.returned (.int .i64 k) = .returned (.int .i64 (qErr l)) := by rw [h]
set_option maxHeartbeats 1000000 in
theorem rqueue_any (l : List Rest) (A : Option Addr) (c : Nat) (w : World) (hr : Rd w w.heap.size A l.length 5 (rcell l)) (hcap : l.length ≤ c) :
    Calls Tryz.prog 57 #[.slice A l.length c] w fun e w' => e = .returned (.int .i64 (qErr l)) ∧ Below w.heap.size w w' := by
  by_cases hl : (60 : Int) < (l.length : Int)
  · have h4 : qErr l = 4 := if_pos (by omega)
    have H := Lib.hid h4; clear h4
    go_enter Tryz.func57, Tryz.ntmps57
    go_wp2
    go_ret
    exact ⟨rretQ H.out, Below.refl _ _⟩
  have hl' : (l.length : Int) ≤ 60 := by omega
  have HR := Lib.hid hr
  clear hl hr
  go_enter Tryz.func57, Tryz.ntmps57
  go_wp2
  go_loopw [3] (fun i wr => ∃ k : Nat, k ≤ l.length ∧ i = .int .i64 k ∧ Below w.heap.size w wr ∧ Hid (∀ j, j < k → stepE l j = 0)) (fun i _ => l.length - (intOf i).toNat)
  case atStart => exact ⟨0, by omega, rfl, Below.refl _ _, Lib.hid fun j hj => absurd hj (by omega)⟩
  case round =>
    obtain ⟨k, hk, rfl, hb, hno⟩ := hrel
    by_cases hlt : k < l.length
    · have htk := Rd.take HR.out hk
      obtain ⟨b, off, t, rfl, hbl, ht, e0, e1, e2, e3, e4⟩ := rest_at (HR.out.below hb) hlt
      have hst : stepE l k = if t.err ≠ 0 then t.err else if 0 ≤ findI (l.take k) t.id then 7 else 0 := by simp [stepE, ht]
      have HS := Lib.hid hst
      have i0 : (0 : Int) ≤ (k : Int) := by omega
      have i1 : (k : Int) < (l.length : Int) := by omega
      clear ht hst
      have cO := fun w => rrest_any t w
      by_cases h : t.err = 0
      · rw [h] at cO
        have HE := Lib.hid h; clear h
        have CO := Lib.hid cO; clear cO
        have hlen : (l.take k).length = k := by rw [List.length_take]; omega
        have cF := fun w' hr' => rin_any (l.take k) (some ⟨b, off, none⟩) c t.id w' hr' (by rw [hlen]; unfold maxLen; omega)
        rw [hlen] at cF
        clear hlen
        have hck : (k : Int) ≤ (c : Int) := by omega
        generalize findI (l.take k) t.id = fi at *
        go_wp2_with (go_at_call 66; refine (CO.out _).mono ?_; rintro e w' ⟨rfl, rfl⟩)
        have hb2 := hb.alloc hb.size (.cells #[.int .i64 t.id, .int .i64 t.who, .int .i64 t.qty, .int .i64 t.hidden, .int .i64 t.show_] 43)
        have q0 : (wr.alloc (.cells #[.int .i64 t.id, .int .i64 t.who, .int .i64 t.qty, .int .i64 t.hidden, .int .i64 t.show_] 43)).cell? ⟨b, off + k * 5, none⟩ = some (.int .i64 t.id) := cell_alloc e0 _
        clear e0 e1 e2 e3 e4
        generalize wr.alloc (.cells #[.int .i64 t.id, .int .i64 t.who, .int .i64 t.qty, .int .i64 t.hidden, .int .i64 t.show_] 43) = W at *
        have k0 := cell_regrown q0
        have cG := fun d os => Calls.regrown_of (w := W) (d := d) (os := os) ((cF _ (((htk.below hb2).more hb2.size |>.below (below_regrown W d os)).more (below_regrown W d os).size)).mono fun e w' ⟨h1, h2⟩ => ⟨h1, by rw [← h2]; exact Below.refl _ _⟩)
        clear cF htk q0
        refine wp_region_quiet_below (by kernel_rfl) (by kernel_rfl) ?_
        repeat (quiet_step (exact cG _ _))
        refine wpQuiet_nil ?_
        intro w3 hw3
        have hb3 : Below W.heap.size W w3 := by obtain ⟨p, rfl⟩ := hw3; exact below_regrown _ _ _
        have hbx := hb2.trans (hb3.mono hb2.size)
        clear hw3 cG k0
        by_cases hfi : 0 ≤ fi
        · have H7 := Lib.hid (show stepE l k = 7 by rw [HS.out, if_neg (by rw [HE.out]; omega), if_pos hfi])
          go_wp2
          go_ret
          exact ⟨rretQ (k := 7) (by rw [qErr_hit (by omega) hlt hno.out (by rw [H7.out]; omega), H7.out]), hbx⟩
        · have H0 := Lib.hid (show stepE l k = 0 by rw [HS.out, if_neg (by rw [HE.out]; omega), if_neg hfi])
          have hfi' : fi < 0 := by omega
          clear hfi
          go_wp2
          go_roundw
          case rel =>
            refine ⟨k + 1, by omega, by go_num, hbx, Lib.hid fun j hj => ?_⟩
            by_cases hjk : j < k
            · exact hno.out j hjk
            · obtain rfl : j = k := by omega
              exact H0.out
          case measure => simp [intOf]; omega
      · have H7 := Lib.hid (show stepE l k = t.err by rw [HS.out, if_pos h])
        have HN := Lib.hid h
        have hne : (t.err != 0) = true := bne_iff_ne.2 h
        have hne2 : (t.err == 0) = false := by simpa using h
        have CO := Lib.hid cO
        clear h cO
        generalize t.err = te at *
        go_wp2_with (go_at_call 66; refine (CO.out _).mono ?_; rintro e w' ⟨rfl, rfl⟩)
        go_ret
        exact ⟨rretQ (by rw [qErr_hit (by omega) hlt hno.out (by rw [H7.out]; exact HN.out), H7.out]), hb.alloc hb.size _⟩
    · obtain rfl : k = l.length := by omega
      go_wp2
      go_ret
      exact ⟨rretQ (qErr_none (by omega) hno.out), hb⟩
end Go.Proofs.YtiaofbkhnodbhaaGreatDoor
namespace Go.Proofs.YtiaofbkhnodbhaaGreatDoor
set_option linter.all false
open Go Go.RowKit
theorem Rd.drop {l : List Rest} {w : World} {B k c b off : Nat} (hr : Rd w B (some ⟨b, off, none⟩) l.length 5 (rcell l)) (hc : l.length ≤ c) : Rd w B (some (if c = k then ⟨b, off, none⟩ else ⟨b, off + k * 5, none⟩)) (l.drop k).length 5 (rcell (l.drop k)) := by
  intro hn
  rw [List.length_drop] at hn
  obtain ⟨b', off', e, hb, hx⟩ := hr (by omega)
  cases e
  rw [if_neg (by omega)]
  refine ⟨b, off + k * 5, rfl, hb, fun i hi j hj => ?_⟩
  rw [List.length_drop] at hi
  have := hx (k + i) (by omega) j hj
  rw [show off + k * 5 + (i * 5 + j) = off + ((k + i) * 5 + j) by omega, this]
  simp only [rcell, List.getD_eq_getElem?_getD, List.getElem?_drop]
/-- a new slice of the call's own -/
def NewRests (l : List Rest) (w : World) (e : Ending) (w' : World) : Prop :=
  ∃ A' c', e = .returned (.slice A' l.length c') ∧ OwnS w' w.heap.size 5 A' l.length c' (rows l) ∧ Below w.heap.size w w'
theorem grown_none {w w' : World} (h : w.grownBy w' none) : Below w.heap.size w w' := ⟨h.os, h.tape, h.output, h.size, fun k hk => h.block k hk (by simp)⟩
theorem src_rests {w : World} {B c : Nat} {A : Option Addr} {l : List Rest} (h : Rd w B A l.length 5 (rcell l)) (hA : A = none → l.length = 0) : Src Tryz.prog 5 64 (.slice A l.length c) l.length (rows l) w :=
  src_rd h Tryz.underlying64 (rows_len l) (fun i j hi hj => rows_get hi hj) (rows_one l) hA
set_option maxRecDepth 100000 in
set_option maxHeartbeats 1000000 in
theorem rwithout_any (l : List Rest) (A : Option Addr) (c i m : Nat) (w : World) (hr : Rd w w.heap.size A l.length 5 (rcell l)) (hi : l.length = i + 1 + m) (hl : l.length ≤ 100) (hcap : l.length ≤ c) (hmx : c ≤ maxLen) :
    Calls Tryz.prog 62 #[.slice A l.length c, .int .i64 i] w (NewRests (l.eraseIdx i) w) := by
  obtain ⟨b, off, t, rfl, hbb, _⟩ := rest_at hr (k := 0) (by omega)
  have ht := Rd.take hr (k := i) (by omega)
  have hd := Rd.drop (k := i + 1) hr hcap
  have hlt : (l.take i).length = i := by rw [List.length_take]; omega
  have hld : (l.drop (i + 1)).length = m := by rw [List.length_drop]; omega
  have hle : (l.eraseIdx i).length = i + m := by rw [List.length_eraseIdx_of_lt (by omega)]; omega
  have HE := Lib.hid (show rows (l.eraseIdx i) = rows (l.take i) ++ rows (l.drop (i + 1)) by rw [rows_erase, rows_take, rows_drop])
  have s1 := fun w' (hb : Below w.heap.size w w') c' => src_rests (c := c') (l := l.take i) (by rw [hlt]; exact ht.below hb) (by intro h; cases h)
  have s2 := fun w' (hb : Below w.heap.size w w') c' => src_rests (c := c') (l := l.drop (i + 1)) (hd.below hb) (by intro h; split at h <;> cases h)
  rw [hlt] at s1
  rw [hld] at s2
  have HLE := Lib.hid hle
  have S1 := Lib.hid s1; have S2 := Lib.hid s2
  unfold maxLen at hmx
  rw [hi] at hl hcap ⊢
  obtain ⟨i0, hi0, hz0, hz1, hz2⟩ := info_parts info_rest
  have HI := Lib.hid hi0; have H0 := Lib.hid hz0; have H1 := Lib.hid hz1; have H2 := Lib.hid hz2
  have f1 : (0 : Int) ≤ (i : Int) := by omega
  have f2 : (i : Int) ≤ (c : Int) := by omega
  have f6 : (0 : Int) ≤ (i : Int) + 1 := by omega
  have f7 : (i : Int) + 1 ≤ (i : Int) + 1 + (m : Int) := by omega
  have f8 : (i : Int) ≤ (i : Int) + 1 := by omega
  clear hi hz0 hz1 hz2 hi0 ht hd hlt hld hle s1 s2 hr
  by_cases hjc : c = i + 1
  · obtain rfl : m = 0 := by omega
    subst hjc
    have S2' := S2.out
    rw [if_pos rfl] at S2'
    have S2 := Lib.hid S2'
    clear S2'
    go_enter Tryz.func62, Tryz.ntmps62
    go_wp2_with (at_builtin; go_loud (refine wpList_append_S (base := w.heap.size) (s := 5) (n := 0) (A := none) (cap := 0) (xs := []) rfl _ _ _ _ rfl 43 i0 _ 40 Tryz.underlying64 HI.out H0.out H1.out H2.out rfl rfl (OwnS.nil _ _ _ _) (Nat.le_refl _) _ rfl i (rows (l.take i)) (S1.out _ (Below.refl _ _) _) (by unfold maxLen; omega) (by omega) ?_); intro A1 c1 w1 gr1; (have hb1 := grown_none gr1.grown); (have own1 := gr1.own); simp only [Nat.zero_add, List.nil_append] at own1 ⊢; clear gr1; go_wp2_with (at_builtin; go_loud (refine wpList_append_S (base := w.heap.size) (s := 5) (n := i) rfl _ _ _ _ rfl 43 i0 _ 40 Tryz.underlying64 HI.out H0.out H1.out H2.out rfl rfl own1 hb1.size _ rfl 0 (rows (l.drop (i + 1))) (S2.out _ hb1 _) (by unfold maxLen; omega) (by omega) ?_); intro A2 c2 w2 gr2))
    go_ret
    refine ⟨A2, c2, by rw [HLE.out]; rfl, by rw [HLE.out, HE.out]; exact gr2.own, hb1.grown gr2.grown hb1.size (fun k hk => (own1.row_lt k hk).1)⟩
  · have hjc2 : (i : Int) + 1 < (c : Int) := by omega
    have S2' := S2.out
    rw [if_neg hjc] at S2'
    have S2 := Lib.hid S2'
    clear S2'
    go_enter Tryz.func62, Tryz.ntmps62
    go_wp2_with (at_builtin; go_loud (refine wpList_append_S (base := w.heap.size) (s := 5) (n := 0) (A := none) (cap := 0) (xs := []) rfl _ _ _ _ rfl 43 i0 _ 40 Tryz.underlying64 HI.out H0.out H1.out H2.out rfl rfl (OwnS.nil _ _ _ _) (Nat.le_refl _) _ rfl i (rows (l.take i)) (S1.out _ (Below.refl _ _) _) (by unfold maxLen; omega) (by omega) ?_); intro A1 c1 w1 gr1; (have hb1 := grown_none gr1.grown); (have own1 := gr1.own); simp only [Nat.zero_add, List.nil_append] at own1 ⊢; clear gr1; go_wp2_with (at_builtin; go_loud (refine wpList_append_S (base := w.heap.size) (s := 5) (n := i) rfl _ _ _ _ rfl 43 i0 _ 40 Tryz.underlying64 HI.out H0.out H1.out H2.out rfl rfl own1 hb1.size _ rfl m (rows (l.drop (i + 1))) (S2.out _ hb1 _) (by unfold maxLen; omega) (by omega) ?_); intro A2 c2 w2 gr2))
    go_ret
    refine ⟨A2, c2, by rw [HLE.out]; rfl, by rw [HLE.out, HE.out]; exact gr2.own, hb1.grown gr2.grown hb1.size (fun k hk => (own1.row_lt k hk).1)⟩
end Go.Proofs.YtiaofbkhnodbhaaGreatDoor
namespace Go.Proofs.YtiaofbkhnodbhaaGreatDoor
set_option linter.all false
open Go Go.RowKit
/-- all rests of levels -/
def flatL (L : List Lv) : List Rest := L.flatMap fun x => x.rs
theorem flatL_len (L : List Lv) : (flatL L).length = cnt L := by simp [flatL, cnt, List.length_flatMap]
theorem flatL_take {L : List Lv} {k : Nat} {x : Lv} (h : L[k]? = some x) : flatL (L.take (k + 1)) = flatL (L.take k) ++ x.rs := by
  rw [List.take_add_one, h]; simp [flatL]
theorem flatL_ids (L : List Lv) : (flatL L).map Rest.id = ids L := by simp [flatL, ids, List.map_flatMap]
set_option maxRecDepth 100000 in
set_option maxHeartbeats 2000000 in
theorem rflat_any (L : List Lv) (A : Option Addr) (c : Nat) (w : World) (hr : RdLv w w.heap.size A L) (hL : L.length ≤ maxLen) (hc : cnt L ≤ 1000000) :
    Calls Tryz.prog 61 #[.slice A L.length c] w (NewRests (flatL L) w) := by
  have HR := Lib.hid hr
  unfold maxLen at hL
  clear hr
  obtain ⟨i0, hi0, hz0, hz1, hz2⟩ := info_parts info_rest
  have HI := Lib.hid hi0; have H0 := Lib.hid hz0; have H1 := Lib.hid hz1; have H2 := Lib.hid hz2
  clear hi0 hz0 hz1 hz2
  go_enter Tryz.func61, Tryz.ntmps61
  go_wp2
  go_loopw [3, 4] (fun s i wr => ∃ (k : Nat) (Ao : Option Addr) (co : Nat), k ≤ L.length ∧ i = .int .i64 k ∧ s = .slice Ao (cnt (L.take k)) co ∧ Hid (OwnS wr w.heap.size 5 Ao (cnt (L.take k)) co (rows (flatL (L.take k)))) ∧ Below w.heap.size w wr) (fun _ i _ => L.length - (intOf i).toNat)
  case atStart => exact ⟨0, none, 0, by omega, rfl, rfl, Lib.hid (OwnS.nil _ _ _ _), Below.refl _ _⟩
  case round =>
    obtain ⟨k, Ao, co, hk, rfl, rfl, ho, hb⟩ := hrel
    by_cases hlt : k < L.length
    · obtain ⟨b, off, x, Ar, cr, rfl, hbl, hx, e0, e1, _, _, g3⟩ := lv_at (HR.out.below hb) hlt
      have hs := cnt_take hx
      have hle := cnt_le L (k + 1)
      rw [hs] at hle
      have HS := Lib.hid hs
      have HF := Lib.hid (show rows (flatL (L.take (k + 1))) = rows (flatL (L.take k)) ++ rows x.rs by rw [flatL_take hx, rows_app])
      have hsrc := Lib.hid (src_rests (c := cr) g3 (fun h => by
        rcases Nat.eq_zero_or_pos x.rs.length with h0 | h0
        · exact h0
        · obtain ⟨_, _, e, _⟩ := g3 h0
          rw [h] at e; cases e))
      clear hs hx g3 e0
      generalize cnt (L.take k) = a at *
      generalize rows (flatL (L.take k)) = xs at *
      have hj0 : (0 : Int) ≤ (k : Int) := by omega
      have hj1 : (k : Int) < (L.length : Int) := by omega
      go_wp2_with (at_builtin; go_loud (refine wpList_append_S (base := w.heap.size) (s := 5) (n := a) rfl _ _ _ _ rfl 43 i0 _ 40 Tryz.underlying64 HI.out H0.out H1.out H2.out rfl rfl ho.out hb.size _ rfl x.rs.length (rows x.rs) hsrc.out (by unfold maxLen; omega) (by omega) ?_); intro A1 c1 w1 gr1)
      go_roundw
      case rel => exact ⟨k + 1, A1, c1, by omega, by go_num, by rw [HS.out], Lib.hid (by rw [HS.out, HF.out]; exact gr1.own), hb.grown gr1.grown hb.size (fun k hk => (ho.out.row_lt k hk).1)⟩
      case measure => simp [intOf]; omega
    · obtain rfl : k = L.length := by omega
      rw [List.take_length] at ho ⊢
      have HC := Lib.hid (flatL_len L)
      go_wp2
      go_ret
      exact ⟨Ao, co, by rw [HC.out]; rfl, by rw [HC.out]; exact ho.out, hb⟩
theorem rof_any (v1 v2 : Value) (s : Int) (A1 A2 : Option Addr) (n1 n2 c1 c2 : Nat) (w : World) :
    Calls Tryz.prog 23 #[.agg #[.slice A1 n1 c1, .slice A2 n2 c2], .int .i64 s] w fun e w' => e = .returned (if s = 1 then .slice A1 n1 c1 else .slice A2 n2 c2) ∧ Below w.heap.size w w' := by
  by_cases h : s = 1
  · rw [if_pos h]
    subst h
    go_enter Tryz.func23, Tryz.ntmps23
    go_wp2
    go_ret
    exact ⟨rfl, (Below.refl _ _).alloc (Nat.le_refl _) _⟩
  · rw [if_neg h]
    have h1 : (s == 1) = false := by simpa using h
    clear h
    go_enter Tryz.func23, Tryz.ntmps23
    go_wp2
    go_ret
    exact ⟨rfl, (Below.refl _ _).alloc (Nat.le_refl _) _⟩
end Go.Proofs.YtiaofbkhnodbhaaGreatDoor
namespace Go.Proofs.YtiaofbkhnodbhaaGreatDoor
set_option linter.all false
open Go Go.RowKit
set_option maxHeartbeats 1000000 in
theorem rcount_any (L : List Lv) (A : Option Addr) (c : Nat) (w : World) (hr : RdLv w w.heap.size A L) (hL : L.length ≤ maxLen) (hc : cnt L ≤ maxLen) :
    Calls Tryz.prog 59 #[.slice A L.length c] w fun e w' => e = .returned (.int .i64 (cnt L)) ∧ w = w' := by
  have HR := Lib.hid hr
  unfold maxLen at hL hc
  clear hr
  go_enter Tryz.func59, Tryz.ntmps59
  go_wp2
  go_loopw [3, 4] (fun n i wr => ∃ k : Nat, k ≤ L.length ∧ i = .int .i64 k ∧ n = .int .i64 (cnt (L.take k)) ∧ wr = w) (fun _ i _ => L.length - (intOf i).toNat)
  case atStart => exact ⟨0, by omega, rfl, rfl, rfl⟩
  case round =>
    obtain ⟨k, hk, rfl, rfl, rfl⟩ := hrel
    by_cases hlt : k < L.length
    · obtain ⟨b, off, x, Ar, cr, rfl, hbl, hx, e0, e1, _, _, _⟩ := lv_at HR.out hlt
      have hs := cnt_take hx
      have hle := cnt_le L (k + 1)
      rw [hs] at hle
      have HS := Lib.hid hs
      clear hs hx
      generalize cnt (L.take k) = a at *
      generalize x.rs.length = m at *
      have x3 : IntKind.i64.wrap ((a : Int) + (m : Int)) = (a : Int) + (m : Int) := IntWalk.i64_in _ (by omega)
      have j0 : (0 : Int) ≤ (k : Int) := by omega
      have j1 : (k : Int) < (L.length : Int) := by omega
      go_wp2
      go_roundw
      case rel => exact ⟨k + 1, by omega, by go_num, by rw [HS.out]; simp, by trivial⟩
      case measure => simp [intOf]; omega
    · obtain rfl : k = L.length := by omega
      rw [List.take_length]
      go_wp2
      go_ret
      exact ⟨rfl, rfl⟩
theorem tw_hit {l : List Rest} {k : Nat} {r : Rest} (h : l[k]? = some r) (hf : 0 ≤ findI (l.take k) r.id) : twice [] (l.map Rest.id) = true := by
  cases ht : twice [] (l.map Rest.id)
  · exfalso
    rw [twice_nil] at ht
    have hm : r.id ∈ (l.take k).map Rest.id := by
      by_cases h1 : r.id ∈ (l.take k).map Rest.id
      · exact h1
      · exact absurd hf (findI_neg.2 h1)
    have hk := (List.getElem?_eq_some_iff.1 h).1
    have e : l = l.take k ++ r :: l.drop (k + 1) := by
      rw [← (List.getElem?_eq_some_iff.1 h).2, ← List.drop_eq_getElem_cons hk, List.take_append_drop]
    rw [e, List.map_append, List.nodup_append] at ht
    exact ht.2.2 _ hm _ (by simp) rfl
  · rfl
theorem tw_none {l : List Rest} (h : ∀ k r, l[k]? = some r → findI (l.take k) r.id < 0) : twice [] (l.map Rest.id) = false := by
  rw [twice_nil, List.Nodup, List.pairwise_iff_getElem]
  intro i j hi hj hij e
  rw [List.length_map] at hi hj
  rw [List.getElem_map, List.getElem_map] at e
  have h1 := h j l[j] (List.getElem?_eq_getElem hj)
  have : ¬ 0 ≤ findI (l.take j) l[j].id := by omega
  rw [findI_neg] at this
  apply this
  rw [← e]
  exact List.mem_map.2 ⟨l[i], List.mem_of_getElem? (by rw [List.getElem?_take_of_lt hij]; exact List.getElem?_eq_getElem hi), rfl⟩
set_option maxRecDepth 100000 in
set_option maxHeartbeats 1000000 in
theorem rtwice_any (l : List Rest) (A : Option Addr) (c : Nat) (w : World) (hr : Rd w w.heap.size A l.length 5 (rcell l)) (hl : l.length ≤ 1000000) (hcap : l.length ≤ c) :
    Calls Tryz.prog 60 #[.slice A l.length c] w fun e w' => e = .returned (.bool (twice [] (l.map Rest.id))) ∧ Below w.heap.size w w' := by
  have HR := Lib.hid hr
  clear hr
  go_enter Tryz.func60, Tryz.ntmps60
  go_wp2
  go_loopw [3] (fun i wr => ∃ k : Nat, k ≤ l.length ∧ i = .int .i64 k ∧ Below w.heap.size w wr ∧ Hid (∀ j r, j < k → l[j]? = some r → findI (l.take j) r.id < 0)) (fun i _ => l.length - (intOf i).toNat)
  case atStart => exact ⟨0, by omega, rfl, Below.refl _ _, Lib.hid (fun j r hj => absurd hj (by omega))⟩
  case round =>
    obtain ⟨k, hk, rfl, hb, hno⟩ := hrel
    by_cases hlt : k < l.length
    · obtain ⟨b, off, t, rfl, hbl, ht, e0, e1, e2, e3, e4⟩ := rest_at (HR.out.below hb) hlt
      have hlk : (l.take k).length = k := by rw [List.length_take]; omega
      have htk := Rd.take (HR.out.below hb) (k := k) (by omega)
      have cF := fun w' hr' => rin_any (l.take k) (some ⟨b, off, none⟩) c t.id w' hr' (by rw [hlk]; unfold maxLen; omega)
      rw [hlk] at cF
      have HT := Lib.hid ht
      have j0 : (0 : Int) ≤ (k : Int) := by omega
      have j1 : (k : Int) < (l.length : Int) := by omega
      have j2 : (k : Int) ≤ (c : Int) := by omega
      have k0 := cell_regrown e0
      have cG := fun d os => Calls.regrown_of (w := wr) (d := d) (os := os) ((cF _ (((htk.more hb.size).below (below_regrown wr d os)).more (below_regrown wr d os).size)).mono fun e w' ⟨h1, h2⟩ => ⟨h1, by rw [← h2]; exact Below.refl _ _⟩)
      have HX := Lib.hid (show ∀ z, findI (l.take k) t.id = z → (0 ≤ z → twice [] (l.map Rest.id) = true) from fun z e h => tw_hit HT.out (by rw [e]; exact h))
      clear ht hlk e1 e2 e3 e4 cF htk e0
      generalize hz : findI (l.take k) t.id = z at *
      have HZ := Lib.hid hz
      clear hz
      go_wp2_with fail
      refine wp_region_quiet_below (by kernel_rfl) (by kernel_rfl) ?_
      repeat (quiet_step (exact cG _ _))
      refine wpQuiet_nil ?_
      intro w3 hw3
      have hb3 : Below wr.heap.size wr w3 := by obtain ⟨p, rfl⟩ := hw3; exact below_regrown _ _ _
      have hbx := hb.trans (hb3.mono hb.size)
      clear hw3 cG k0 hb3
      by_cases hf : 0 ≤ z
      · have H := Lib.hid (HX.out _ rfl hf)
        go_wp2
        go_ret
        exact ⟨by rw [H.out]; rfl, hbx⟩
      · have hf' : z < 0 := by omega
        have HF := Lib.hid hf'
        go_wp2
        go_roundw
        case rel =>
          refine ⟨k + 1, by omega, by go_num, hbx, Lib.hid (fun j r hj hr => ?_)⟩
          rcases Nat.lt_or_ge j k with h | h
          · exact hno.out j r h hr
          · obtain rfl : j = k := by omega
            rw [HT.out] at hr
            cases hr
            have h1 := HZ.out
            have h2 := HF.out
            omega
        case measure => simp [intOf]; omega
    · obtain rfl : k = l.length := by omega
      have H := Lib.hid (tw_none fun j r hr => hno.out j r (List.getElem?_eq_some_iff.1 hr).1 hr)
      go_wp2
      go_ret
      exact ⟨by rw [H.out]; rfl, hb⟩
theorem rahead_any (d a b : Int) (w : World) : Calls Tryz.prog 58 #[.int .i64 d, .int .i64 a, .int .i64 b] w fun e w' => e = .returned (.bool (decide (d = 1 ∧ a < b ∨ d = 2 ∧ b < a))) ∧ w = w' := by
  rcases (show (d = 1 ∧ a < b) ∨ (d = 1 ∧ b ≤ a) ∨ (d = 2 ∧ b < a) ∨ (d = 2 ∧ a ≤ b) ∨ (d ≠ 1 ∧ d ≠ 2) by omega) with ⟨rfl, h⟩ | ⟨rfl, h⟩ | ⟨rfl, h⟩ | ⟨rfl, h⟩ | ⟨h1, h2⟩
  · go_enter Tryz.func58, Tryz.ntmps58
    go_wp2
    go_ret
    exact ⟨ret_bool (by simp [h]), rfl⟩
  · have h' : ¬ a < b := by omega
    go_enter Tryz.func58, Tryz.ntmps58
    go_wp2
    go_ret
    exact ⟨ret_bool (by simp [h']), rfl⟩
  · go_enter Tryz.func58, Tryz.ntmps58
    go_wp2
    go_ret
    exact ⟨ret_bool (by simp [h]), rfl⟩
  · have h' : ¬ b < a := by omega
    go_enter Tryz.func58, Tryz.ntmps58
    go_wp2
    go_ret
    exact ⟨ret_bool (by simp [h']), rfl⟩
  · have e1 : (d == 1) = false := by simpa using h1
    have e2 : (d == 2) = false := by simpa using h2
    go_enter Tryz.func58, Tryz.ntmps58
    go_wp2
    go_ret
    exact ⟨ret_bool (by simp [h1, h2]), rfl⟩
theorem rahd_s {s a b : Int} (hs : vs s = true) : decide (3 - s = 1 ∧ a < b ∨ 3 - s = 2 ∧ b < a) = sAhd s a b := by
  rcases side_two hs with rfl | rfl
  · simp [sAhd, ahd']
  · simp [sAhd, ahd']
theorem retI {a b : Int} (h : a = b) : Ending.returned (.int .i64 b) = .returned (.int .i64 a) := by rw [h]
set_option maxRecDepth 100000 in
set_option maxHeartbeats 2000000 in
theorem rlevels_any (s : Int) (L : List Lv) (A : Option Addr) (c : Nat) (w : World) (hr : RdLv w w.heap.size A L) (hL : L.length ≤ maxLen) :
    Calls Tryz.prog 35 #[.int .i64 s, .slice A L.length c] w fun e w' => e = .returned (.int .i64 (sideE s L)) ∧ Below w.heap.size w w' := by
  have hL0 := hL
  unfold maxLen at hL
  cases hvs : vs s
  · have H := Lib.hid (show sideE s L = 1 by rw [sideE, if_pos hvs])
    go_enter Tryz.func35, Tryz.ntmps35
    go_wp2_with (go_at_call 30; refine (rside_any _ _).mono ?_; rintro e w' ⟨rfl, rfl⟩)
    go_ret
    exact ⟨retI H.out, Below.refl _ _⟩
  have HV := Lib.hid hvs
  have HR := Lib.hid hr
  have hs := side_two hvs
  have xs : IntKind.i64.wrap (3 - s) = 3 - s := IntWalk.i64_in _ (by omega)
  have HE := Lib.hid (show sideE s L = if lvErr s L ≠ 0 then lvErr s L else if 60 < cnt L then 4 else if twice [] (ids L) then 7 else 0 by rw [sideE, if_neg (by rw [hvs]; decide)])
  clear hr hs
  go_enter Tryz.func35, Tryz.ntmps35
  go_wp2_with (go_at_call 30; refine (rside_any _ _).mono ?_; rintro e w' ⟨rfl, rfl⟩)
  clear hvs
  go_loopw [6] (fun i wr => ∃ k : Nat, k ≤ L.length ∧ i = .int .i64 k ∧ Below w.heap.size w wr ∧ Hid (∀ j, j < k → stepL s L j = 0)) (fun i _ => L.length - (intOf i).toNat)
  case atStart => exact ⟨0, by omega, rfl, Below.refl _ _, Lib.hid (fun j hj => absurd hj (by omega))⟩
  case round =>
    obtain ⟨k, hk, rfl, hb, hno⟩ := hrel
    by_cases hlt : k < L.length
    · obtain ⟨b, off, x, Ar, cr, rfl, hbl, hx, e0, e1, g1, g2, hrr⟩ := lv_at HR.out hlt
      have d0 := (hb.cell (p := ⟨b, _, none⟩) hbl).trans e0
      have d1 := (hb.cell (p := ⟨b, _, none⟩) hbl).trans e1
      clear e0 e1
      have HX := Lib.hid hx
      have HRR := Lib.hid hrr
      have G1 := Lib.hid g1
      have j0 : (0 : Int) ≤ (k : Int) := by omega
      have j1 : (k : Int) < (L.length : Int) := by omega
      have hit : ∀ z, stepL s L k = z → z ≠ 0 → sideE s L = z := fun z hz h0 => by
        rw [HE.out, lvErr_hit hlt hno.out (by rw [hz]; exact h0), hz, if_pos h0]
      have HIT := Lib.hid hit
      have hst : stepL s L k = if vp x.price = false then 1 else if x.rs.length = 0 then 3 else if qErr x.rs ≠ 0 then qErr x.rs else if k = 0 then 0 else match L[k - 1]? with | none => 0 | some y => if sAhd s y.price x.price then 0 else 7 := by
        (simp only [stepL, hx]) <;> rfl
      have HS := Lib.hid hst
      clear hx hrr g1 g2 hit hst
      cases hvp : vp x.price
      · have H := Lib.hid (HIT.out 1 (by rw [HS.out, if_pos hvp]) (by omega))
        have cP := fun w => rprice_any x.price w
        rw [hvp] at cP
        clear hvp
        go_wp2_with (go_at_call 31; ((with_reducible refine (cP _).mono ?_); rintro e w' ⟨rfl, rfl⟩))
        go_ret
        exact ⟨retI H.out, hb⟩
      have cP := fun w => rprice_any x.price w
      rw [hvp] at cP
      have HS2 := HS.out
      rw [if_neg (by rw [hvp]; decide)] at HS2
      clear HS hvp
      by_cases hl0 : x.rs.length = 0
      · have H := Lib.hid (HIT.out 3 (by rw [HS2, if_pos hl0]) (by omega))
        have hz : ((x.rs.length : Int) == 0) = true := by rw [beq_iff_eq]; omega
        clear hl0 HS2
        generalize x.rs.length = m at *
        go_wp2_with (go_at_call 31; ((with_reducible refine (cP _).mono ?_); rintro e w' ⟨rfl, rfl⟩))
        go_ret
        exact ⟨retI H.out, hb⟩
      rw [if_neg hl0] at HS2
      have hz : ((x.rs.length : Int) == 0) = false := beq_eq_false_iff_ne.2 (by omega)
      clear hl0
      have HS2 := Lib.hid HS2
      go_wp2_with (go_at_call 31; ((with_reducible refine (cP _).mono ?_); rintro e w' ⟨rfl, rfl⟩))
      go_at_call 57
      refine (rqueue_any x.rs Ar cr wr ((HRR.out.below hb).more hb.size) G1.out).mono ?_
      rintro e w2 ⟨rfl, hb2⟩
      have hb3 := below_then hb2 hb
      by_cases hq : qErr x.rs = 0
      · rw [hq]
        have HS3 := HS2.out
        rw [if_neg (by rw [hq]; decide)] at HS3
        clear hq
        by_cases hk0 : k = 0
        · have H0 := Lib.hid (show stepL s L k = 0 by rw [HS3, if_pos hk0])
          subst hk0
          clear HS3
          go_wp2
          go_quiet (fail)
          go_wp2
          go_roundw
          case rel =>
            refine ⟨0 + 1, by omega, by go_num, below_drewN hb3 _, Lib.hid (fun j hj => ?_)⟩
            obtain rfl : j = 0 := by omega
            exact H0.out
          case measure => simp [intOf]; omega
        · rw [if_neg hk0] at HS3
          obtain ⟨b', off', y, Ay, cy, he, hbl', hy, f0, _, _, _, _⟩ := lv_at (HR.out.below hb3) (k := k - 1) (by omega)
          cases he
          have hx2 := (lv_at (HR.out.below hb3) hlt)
          rw [hy] at HS3
          simp only at HS3
          have hg : ((k : Int) == 0) = false := by simp; omega
          obtain ⟨m, hm⟩ : ∃ m, k = m + 1 := ⟨k - 1, by omega⟩
          have hkm : k - 1 = m := by omega
          rw [hkm] at f0 hy
          have x1 : IntKind.i64.wrap ((k : Int) - 1) = (m : Int) := by rw [show (k : Int) - 1 = (m : Int) by omega]; exact IntWalk.i64_in _ (by omega)
          have hm0 : (0 : Int) ≤ (m : Int) := by omega
          have hm1 : (m : Int) < (L.length : Int) := by omega
          have q0 := (hb2.cell (World.block_lt_of_cell? wr _ d0)).trans d0
          have cA := fun w => rahead_any (3 - s) y.price x.price w
          rw [rahd_s HV.out] at cA
          have HB3 := Lib.hid hb3
          have HKM := Lib.hid hm
          clear hy hk0 d0 d1 hx2 hm hkm
          cases ha : sAhd s y.price x.price
          · rw [ha] at cA HS3
            have H := Lib.hid (HIT.out 7 (by rw [HS3]; rfl) (by omega))
            clear ha HS3
            have CA := Lib.hid cA
            clear cA
            go_wp2
            go_quiet ((go_at_call 58; exact Calls.quiet_of_same ((CA.out _).mono fun _ _ h => ⟨h.1, h.2.symm⟩)))
            go_wp2
            go_ret
            exact ⟨retI H.out, below_drewN HB3.out _⟩
          · rw [ha] at cA HS3
            have H0 := Lib.hid (show stepL s L k = 0 by rw [HS3]; rfl)
            clear ha HS3
            have CA := Lib.hid cA
            clear cA
            go_wp2
            go_quiet ((go_at_call 58; exact Calls.quiet_of_same ((CA.out _).mono fun _ _ h => ⟨h.1, h.2.symm⟩)))
            go_wp2
            go_roundw
            case rel =>
              refine ⟨k + 1, by omega, by go_num, below_drewN HB3.out _, Lib.hid (fun j hj => ?_)⟩
              by_cases hj2 : j < k
              · exact hno.out j hj2
              · obtain rfl : j = k := by omega
                exact H0.out
            case measure => simp [intOf]; omega
      · have H := Lib.hid (HIT.out (qErr x.rs) (by rw [HS2.out, if_pos hq]) hq)
        have hq' : (qErr x.rs == 0) = false := by simpa using hq
        clear hq
        generalize qErr x.rs = z at *
        go_wp2
        go_ret
        exact ⟨retI H.out, hb3⟩
    · obtain rfl : k = L.length := by omega
      have hl0 : lvErr s L = 0 := lvErr_none hno.out
      obtain ⟨hf1, hf2, hf3, hf4⟩ := lv_ok HV.out hl0
      have HE2 := HE.out
      rw [if_neg (by rw [hl0]; decide)] at HE2
      have cC := fun w' hr' => rcount_any L A c w' hr' hL0 (by unfold maxLen; omega)
      have cFl := Lib.hid (fun w' hr' => rflat_any L A c w' hr' hL0 (by omega))
      clear hl0 HE
      go_wp2_with fail
      go_at_call 59
      refine (cC _ (HR.out.on hb)).mono ?_
      rintro e w2 ⟨rfl, rfl⟩
      clear cC
      by_cases hc : 60 < cnt L
      · rw [if_pos hc] at HE2
        have hc' : (60 : Int) < (cnt L : Int) := by omega
        have H := Lib.hid HE2
        clear hc HE2 hf1 hf2 hf3 hf4
        generalize cnt L = n at *
        go_wp2
        go_ret
        exact ⟨retI H.out, hb⟩
      · rw [if_neg hc] at HE2
        have hc' : (cnt L : Int) ≤ 60 := by omega
        have hfl : (flatL L).length ≤ 60 := by rw [flatL_len]; omega
        rw [← flatL_ids] at HE2
        have HE3 := Lib.hid HE2
        have cF1 := Lib.hid (cFl.out wr (HR.out.on hb))
        clear hc HE2 hf1 hf2 hf3 hf4 cFl
        generalize cnt L = n at *
        go_wp2_with fail
        go_at_call 61
        refine cF1.out.mono ?_
        rintro e w3 ⟨Af, cf, rfl, of_, hb3⟩
        have cT := Lib.hid (rtwice_any (flatL L) Af cf w3 (of_.rd (fun i j hi hj => rows_get hi hj)) (by omega) of_.le)
        have hb4 := below_then hb3 hb
        clear of_ cF1 hb3
        generalize flatL L = F at *
        cases ht : twice [] (F.map Rest.id)
        · rw [ht] at cT HE3
          have H := Lib.hid (show sideE s L = 0 from HE3.out)
          clear ht
          go_wp2_with fail
          go_at_call 60
          refine cT.out.mono ?_
          rintro e w4 ⟨rfl, hb5⟩
          have hb6 := below_then hb5 hb4
          go_wp2
          go_ret
          exact ⟨retI H.out, hb6⟩
        · rw [ht] at cT HE3
          have H := Lib.hid (show sideE s L = 7 from HE3.out)
          clear ht
          go_wp2_with fail
          go_at_call 60
          refine cT.out.mono ?_
          rintro e w4 ⟨rfl, hb5⟩
          have hb6 := below_then hb5 hb4
          go_wp2
          go_ret
          exact ⟨retI H.out, hb6⟩
end Go.Proofs.YtiaofbkhnodbhaaGreatDoor
namespace Go.Proofs.YtiaofbkhnodbhaaGreatDoor
set_option linter.all false
open Go Go.RowKit
set_option maxHeartbeats 1000000 in
theorem rat_any (L : List Lv) (A : Option Addr) (c : Nat) (id : Int) (w : World) (hr : RdLv w w.heap.size A L) (hL : L.length ≤ maxLen) (heach : ∀ x ∈ L, x.rs.length ≤ maxLen) :
    Calls Tryz.prog 40 #[.slice A L.length c, .int .i64 id] w fun e w' => e = .returned (.tuple #[.int .i64 (whereL L id).1, .int .i64 (whereL L id).2]) ∧ w = w' := by
  have HR := Lib.hid hr; have HE := Lib.hid heach
  unfold maxLen at hL
  clear hr heach
  go_enter Tryz.func40, Tryz.ntmps40
  go_wp2
  go_loopw [6] (fun i wr => ∃ k : Nat, k ≤ L.length ∧ i = .int .i64 k ∧ wr = w ∧ Hid (∀ j, j < k → findI ((L.getD j ⟨0, []⟩).rs) id < 0)) (fun i _ => L.length - (intOf i).toNat)
  case atStart => exact ⟨0, by omega, rfl, rfl, Lib.hid (fun j hj => absurd hj (by omega))⟩
  case round =>
    obtain ⟨k, hk, rfl, rfl, hno⟩ := hrel
    by_cases hlt : k < L.length
    · obtain ⟨b, off, x, Ar, cr, rfl, hbl, hx, e0, e1, g1, g2, hrr⟩ := lv_at HR.out hlt
      have j0 : (0 : Int) ≤ (k : Int) := by omega
      have j1 : (k : Int) < (L.length : Int) := by omega
      have cI := Lib.hid (rin_any x.rs Ar cr id wr hrr (HE.out x (List.mem_of_getElem? hx)))
      have HX := Lib.hid hx
      clear hx hrr
      go_wp2_with fail
      go_at_call 65
      refine cI.out.mono ?_
      rintro e w2 ⟨rfl, rfl⟩
      by_cases hf : 0 ≤ findI x.rs id
      · have H := Lib.hid (whereL_hit HX.out hno.out hf)
        generalize findI x.rs id = z at *
        go_wp2
        go_ret2
        exact ⟨by rw [H.out]; rfl, rfl⟩
      · have hf' : findI x.rs id < 0 := by omega
        have HF := Lib.hid hf'
        have HXL := Lib.hid (show (L.getD k ⟨0, []⟩).rs = x.rs by rw [List.getD_eq_getElem?_getD, HX.out]; rfl)
        generalize hz : findI x.rs id = z at *
        have HZ := Lib.hid hz
        clear hz
        go_wp2
        go_roundw
        case rel =>
          refine ⟨k + 1, by omega, by go_num, by trivial, Lib.hid (fun j hj => ?_)⟩
          rcases Nat.lt_or_ge j k with h | h
          · exact hno.out j h
          · obtain rfl : j = k := by omega
            rw [HXL.out, HZ.out]; exact HF.out
        case measure => simp [intOf]; omega
    · obtain rfl : k = L.length := by omega
      have H := Lib.hid (whereL_none hno.out)
      go_wp2
      go_ret2
      exact ⟨by rw [H.out]; rfl, rfl⟩
set_option maxRecDepth 100000 in
set_option maxHeartbeats 2000000 in
theorem rfind_any (L M : List Lv) (A1 A2 : Option Addr) (c1 c2 : Nat) (id : Int) (w : World) (h1 : RdLv w w.heap.size A1 L) (h2 : RdLv w w.heap.size A2 M) (k1 : L.length ≤ maxLen ∧ ∀ x ∈ L, x.rs.length ≤ maxLen) (k2 : M.length ≤ maxLen ∧ ∀ x ∈ M, x.rs.length ≤ maxLen) :
    Calls Tryz.prog 21 #[.agg #[.slice A1 L.length c1, .slice A2 M.length c2], .int .i64 id] w fun e w' => e = .returned (.tuple #[.int .i64 (whereB L M id).1, .int .i64 (whereB L M id).2.1, .int .i64 (whereB L M id).2.2]) ∧ Below w.heap.size w w' := by
  have HL := Lib.hid h1; have HM := Lib.hid h2
  have cA1 := Lib.hid (fun w' h => rat_any L A1 c1 id w' h k1.1 k1.2)
  have cA2 := Lib.hid (fun w' h => rat_any M A2 c2 id w' h k2.1 k2.2)
  have cO1 := Lib.hid (fun w => rof_any .nilIface .nilIface 1 A1 A2 L.length M.length c1 c2 w)
  have cO2 := Lib.hid (fun w => rof_any .nilIface .nilIface 2 A1 A2 L.length M.length c1 c2 w)
  rw [if_pos rfl] at cO1
  rw [if_neg (by decide)] at cO2
  have hb : Below w.heap.size w (w.alloc (.cells #[.slice A1 L.length c1, .slice A2 M.length c2] 24)) := (Below.refl _ _).alloc (Nat.le_refl _) _
  have bb := Bk.new w 24 #[.slice A1 L.length c1, .slice A2 M.length c2]
  clear h1 h2 k1 k2
  go_enter Tryz.func21, Tryz.ntmps21
  go_upto_region 1 with fail
  generalize w.alloc (.cells #[.slice A1 L.length c1, .slice A2 M.length c2] 24) = w0 at *
  go_wp2_with fail
  go_loopw [7] (fun i wr => (i = .int .i64 1 ∨ (i = .int .i64 2 ∧ Hid ((whereL L id).1 < 0)) ∨ (i = .int .i64 3 ∧ Hid ((whereL L id).1 < 0 ∧ (whereL M id).1 < 0))) ∧ Below w0.heap.size w0 wr) (fun i _ => 3 - (intOf i).toNat)
  case atStart => exact ⟨.inl rfl, Below.refl _ _⟩
  case round =>
    obtain ⟨hrel, hbl⟩ := hrel
    have bb2 := bb.keep hbl
    have hb2 := below_then hbl hb
    obtain ⟨q0, q1⟩ := box2 bb2
    rcases hrel with rfl | ⟨rfl, hE⟩ | ⟨rfl, hE⟩
    · go_wp2_with fail
      go_at_call 23
      refine (cO1.out wr).mono ?_
      rintro e w2 ⟨rfl, hb3⟩
      have cA := Lib.hid (cA1.out w2 (HL.out.on (below_then hb3 hb2)))
      have hbl3 := below_then hb3 hbl
      clear q0 q1
      go_wp2_with fail
      go_at_call 40
      refine cA.out.mono ?_
      rintro e w3 ⟨rfl, rfl⟩
      by_cases h0 : 0 ≤ (whereL L id).1
      · have H := Lib.hid (show whereB L M id = (1, (whereL L id).1, (whereL L id).2) from if_pos h0)
        generalize (whereL L id).1 = z at *
        generalize (whereL L id).2 = y at *
        go_wp2
        exact bodyPost_ret (v := .tuple #[.int .i64 1, .int .i64 z, .int .i64 y]) (by simp [results, Tryz.results21, go_sem]) rfl ⟨by rw [H.out], below_then hb3 hb2⟩
      · have h0' : (whereL L id).1 < 0 := by omega
        have H0 := Lib.hid h0'
        clear h0
        go_wp2
        go_roundw
        case rel => exact ⟨.inr (.inl ⟨by go_num, H0⟩), hbl3⟩
        case measure => simp [intOf]
    · go_wp2_with fail
      go_at_call 23
      refine (cO2.out wr).mono ?_
      rintro e w2 ⟨rfl, hb3⟩
      have cA := Lib.hid (cA2.out w2 (HM.out.on (below_then hb3 hb2)))
      have hbl3 := below_then hb3 hbl
      clear q0 q1
      go_wp2_with fail
      go_at_call 40
      refine cA.out.mono ?_
      rintro e w3 ⟨rfl, rfl⟩
      by_cases h0 : 0 ≤ (whereL M id).1
      · have H := Lib.hid (show whereB L M id = (2, (whereL M id).1, (whereL M id).2) by rw [whereB, if_neg (by have := hE.out; omega), if_pos h0])
        clear hE
        generalize (whereL M id).1 = z at *
        generalize (whereL M id).2 = y at *
        go_wp2
        exact bodyPost_ret (v := .tuple #[.int .i64 2, .int .i64 z, .int .i64 y]) (by simp [results, Tryz.results21, go_sem]) rfl ⟨by rw [H.out], below_then hb3 hb2⟩
      · have h0' : (whereL M id).1 < 0 := by omega
        have H0 := Lib.hid (And.intro hE.out h0')
        clear h0 hE
        go_wp2
        go_roundw
        case rel => exact ⟨.inr (.inr ⟨by go_num, H0⟩), hbl3⟩
        case measure => simp [intOf]
    · have H := Lib.hid (show whereB L M id = (0, 0, 0) by rw [whereB, if_neg (by have := hE.out.1; omega), if_neg (by have := hE.out.2; omega)])
      clear hE q0 q1
      go_wp2
      exact bodyPost_ret (v := .tuple #[.int .i64 0, .int .i64 0, .int .i64 0]) (by simp [results, Tryz.results21, go_sem]) rfl ⟨by rw [H.out], hb2⟩
set_option maxRecDepth 100000 in
set_option maxHeartbeats 4000000 in
theorem rwhole_any (L M : List Lv) (A1 A2 : Option Addr) (c1 c2 : Nat) (w : World) (h1 : RdLv w w.heap.size A1 L) (h2 : RdLv w w.heap.size A2 M) (hl1 : L.length ≤ 100000) (hl2 : M.length ≤ 100000) (hc1 : cnt L ≤ 10000) (hc2 : cnt M ≤ 10000) :
    Calls Tryz.prog 36 #[.agg #[.slice A1 L.length c1, .slice A2 M.length c2]] w fun e w' => e = .returned (.int .i64 (wholeE L M)) ∧ Below w.heap.size w w' := by
  have HL := Lib.hid h1; have HM := Lib.hid h2
  have cF1 := Lib.hid (fun w' h => rflat_any L A1 c1 w' h (by unfold maxLen; omega) (by omega))
  have cF2 := Lib.hid (fun w' h => rflat_any M A2 c2 w' h (by unfold maxLen; omega) (by omega))
  have hb : Below w.heap.size w (w.alloc (.cells #[.slice A1 L.length c1, .slice A2 M.length c2] 24)) := (Below.refl _ _).alloc (Nat.le_refl _) _
  have bb := Bk.new w 24 #[.slice A1 L.length c1, .slice A2 M.length c2]
  have HF1 := Lib.hid (flatL_len L); have HF2 := Lib.hid (flatL_len M)
  have HI := Lib.hid (show (flatL L ++ flatL M).map Rest.id = ids (L ++ M) by rw [List.map_append, flatL_ids, flatL_ids, ids_app])
  have hX : crossB L M = true ∨ crossB L M = false := by cases crossB L M <;> simp
  clear h1 h2
  go_enter Tryz.func36, Tryz.ntmps36
  go_upto_region 1 with fail
  generalize w.alloc (.cells #[.slice A1 L.length c1, .slice A2 M.length c2] 24) = w0 at *
  go_cut [27] (fun t wx => t = .bool (crossB L M) ∧ Bk wx w.heap.size 24 #[.slice A1 L.length c1, .slice A2 M.length c2] ∧ Below w.heap.size w wx)
  case first =>
    have q0 := bb.cell 0; have q1 := bb.cell 1
    simp at q0 q1
    have BB := Lib.hid bb
    have HB := Lib.hid hb
    clear bb hb
    rcases Nat.eq_zero_or_pos L.length with l0 | l0
    · have HC := Lib.hid (show crossB L M = false by rw [crossB, List.getElem?_eq_none (by omega)])
      have hg : decide (0 < L.length) = false := decide_eq_false (by omega)
      clear l0
      go_wp2
      go_quiet (fail)
      go_wp2
      go_meet
      case rel => exact ⟨by rw [HC.out], BB.out.drewN _, below_drewN HB.out _⟩
    · rcases Nat.eq_zero_or_pos M.length with m0 | m0
      · have HC := Lib.hid (show crossB L M = false by rw [crossB, List.getElem?_eq_none (l := M) (by omega)]; cases L[0]? <;> rfl)
        have hg : decide (0 < L.length) = true := decide_eq_true l0
        have hg2 : decide (0 < M.length) = false := decide_eq_false (by omega)
        clear l0 m0
        go_wp2
        go_quiet (fail)
        go_wp2
        go_meet
        case rel => exact ⟨by rw [HC.out], BB.out.drewN _, below_drewN HB.out _⟩
      · obtain ⟨b, off, x, Ar, cr, rfl, hbl, hx, e0, _⟩ := lv_at (HL.out.below HB.out) l0
        obtain ⟨b', off', y, Ar', cr', rfl, hbl', hy, f0, _⟩ := lv_at (HM.out.below HB.out) m0
        have HC := Lib.hid (show crossB L M = decide (y.price ≤ x.price) by rw [crossB, hx, hy])
        have hg : decide (0 < L.length) = true := decide_eq_true l0
        have hg2 : decide (0 < M.length) = true := decide_eq_true m0
        have hg3 : (0 : Int) < (L.length : Int) := by omega
        have hg4 : (0 : Int) < (M.length : Int) := by omega
        simp only [Nat.zero_mul, Nat.add_zero] at e0 f0
        clear hx hy l0 m0
        go_wp2
        go_quiet (fail)
        go_wp2
        go_meet
        case rel => exact ⟨by rw [HC.out], BB.out.drewN _, below_drewN HB.out _⟩
  clear hb bb
  obtain ⟨rfl, bb, hb⟩ := hcut
  cases hc : crossB L M
  · have HE := Lib.hid (show wholeE L M = if twice [] (ids (L ++ M)) then 7 else if 60 < cnt L + cnt M then 4 else 0 by rw [wholeE, hc]; rfl)
    clear hc hX
    obtain ⟨q0, q1⟩ := box2 bb
    go_wp2_with fail
    go_at_call 61
    refine (cF1.out wc (HL.out.on hb)).mono ?_
    rintro e w2 ⟨Af, cf, rfl, of_, hb2⟩
    have hb0 := hb.size
    replace bb := bb.keep hb2; replace hb := below_then hb2 hb
    have HO1 := Lib.hid of_
    have hw2 := hb2.size
    clear q0 q1 of_ hb2
    obtain ⟨q0, q1⟩ := box2 bb
    go_wp2_with fail
    go_at_call 61
    refine (cF2.out w2 (HM.out.on hb)).mono ?_
    rintro e w3 ⟨Ag, cg, rfl, og, hb3⟩
    have hw3 := hb3.size
    have hb' := below_then hb3 hb
    have HO2 := Lib.hid ((HO1.out.below hb3).lower hb0)
    have HS2 := Lib.hid (src_rests (c := cg) (og.rd (fun i j hi hj => rows_get hi hj)) (fun h => (og.none_cap h).1))
    have HL1 : (flatL L).length ≤ 10000 := by rw [HF1.out]; exact hc1
    have HL2 : (flatL M).length ≤ 10000 := by rw [HF2.out]; exact hc2
    have HE2 := Lib.hid (show wholeE L M = if twice [] ((flatL L ++ flatL M).map Rest.id) then 7 else if 60 < (flatL L).length + (flatL M).length then 4 else 0 by rw [HE.out, HI.out, HF1.out, HF2.out])
    have HRW := Lib.hid (rows_app (flatL L) (flatL M))
    clear q0 q1 hb3 og bb HE HI HF1 HF2 HO1 hc1 hc2 cF1 cF2 hl1 hl2
    generalize flatL L = fl at *
    generalize flatL M = fm at *
    obtain ⟨i0, hi0, hz0, hz1, hz2⟩ := info_parts info_rest
    have HI := Lib.hid hi0; have H0 := Lib.hid hz0; have H1 := Lib.hid hz1; have H2 := Lib.hid hz2
    clear hi0 hz0 hz1 hz2
    go_upto_region 5 with (at_builtin; go_loud (refine wpList_append_S (base := w.heap.size) (s := 5) (n := fl.length) (xs := rows fl) rfl _ _ _ _ rfl 43 i0 _ 40 Tryz.underlying64 HI.out H0.out H1.out H2.out rfl rfl HO2.out hb'.size _ rfl fm.length (rows fm) HS2.out (by unfold maxLen; omega) (by omega) ?_); intro A4 c4 w4 gr)
    have ow := gr.own
    rw [← HRW.out, show fl.length + fm.length = (fl ++ fm).length from (List.length_append ..).symm] at ow
    have cT := rtwice_any (fl ++ fm) A4 c4 w4 ((ow.rd (fun i j hi hj => rows_get hi hj))) (by rw [List.length_append]; omega) ow.le
    rw [List.length_append] at cT
    have CT := Lib.hid cT
    have hb4 := hb'.grown gr.grown hb'.size (fun k hk => (HO2.out.row_lt k hk).1)
    clear cT ow gr HS2 HO2
    go_wp2_with fail
    go_at_call 60
    refine CT.out.mono ?_
    rintro e w5 ⟨rfl, hb5⟩
    have hb6 := below_then hb5 hb4
    clear CT
    generalize twice [] ((fl ++ fm).map Rest.id) = tw at *
    cases tw
    · rcases Nat.lt_or_ge 60 (fl.length + fm.length) with h60 | h60
      · have hg : (60 : Int) < ((fl.length + fm.length : Nat) : Int) := by omega
        have HH := Lib.hid (show wholeE L M = 4 by rw [HE2.out, if_neg (by decide), if_pos h60])
        clear HE2
        go_wp2
        go_ret
        exact ⟨by rw [HH.out]; rfl, hb6⟩
      · have hg : ¬ (60 : Int) < ((fl.length + fm.length : Nat) : Int) := by omega
        have HH := Lib.hid (show wholeE L M = 0 by rw [HE2.out, if_neg (by decide), if_neg (by omega)])
        clear HE2
        go_wp2
        go_ret
        exact ⟨by rw [HH.out]; rfl, hb6⟩
    · have HH := Lib.hid (show wholeE L M = 7 by rw [HE2.out, if_pos rfl])
      clear HE2
      go_wp2
      go_ret
      exact ⟨by rw [HH.out]; rfl, hb6⟩
  · have HH := Lib.hid (show wholeE L M = 8 by rw [wholeE, hc]; rfl)
    clear hc
    go_wp2
    go_ret
    exact ⟨by rw [HH.out]; rfl, hb⟩
end Go.Proofs.YtiaofbkhnodbhaaGreatDoor
namespace Go.Proofs.YtiaofbkhnodbhaaGreatDoor
set_option linter.all false
open Go Go.RowKit
theorem side_cnt {s : Int} {L : List Lv} (h : sideE s L = 0) : L.length ≤ 60 ∧ cnt L ≤ 60 := by
  have h := sideE_iff.1 h
  have h1 := full_len h.full
  have h2 := h.few
  omega
set_option maxRecDepth 100000 in
set_option maxHeartbeats 4000000 in
theorem rbook_any (L M : List Lv) (A1 A2 : Option Addr) (c1 c2 : Nat) (w : World) (h1 : RdLv w w.heap.size A1 L) (h2 : RdLv w w.heap.size A2 M) (k1 : L.length ≤ maxLen) (k2 : M.length ≤ maxLen) :
    Calls Tryz.prog 17 #[.agg #[.slice A1 L.length c1, .slice A2 M.length c2]] w fun e w' => e = .returned (.int .i64 (bookE L M)) ∧ Below w.heap.size w w' := by
  have HL := Lib.hid h1; have HM := Lib.hid h2
  have cL1 := Lib.hid (fun w' h => rlevels_any 1 L A1 c1 w' h k1)
  have cL2 := Lib.hid (fun w' h => rlevels_any 2 M A2 c2 w' h k2)
  have cW := Lib.hid (fun (a : sideE 1 L = 0) (b : sideE 2 M = 0) w' h h' => rwhole_any L M A1 A2 c1 c2 w' h h' (by have := side_cnt a; omega) (by have := side_cnt b; omega) (by have := side_cnt a; omega) (by have := side_cnt b; omega))
  have hb : Below w.heap.size w (w.alloc (.cells #[.slice A1 L.length c1, .slice A2 M.length c2] 24)) := (Below.refl _ _).alloc (Nat.le_refl _) _
  have bb := Bk.new w 24 #[.slice A1 L.length c1, .slice A2 M.length c2]
  clear h1 h2 k1 k2
  go_enter Tryz.func17, Tryz.ntmps17
  go_upto_region 1 with fail
  generalize w.alloc (.cells #[.slice A1 L.length c1, .slice A2 M.length c2] 24) = w0 at *
  obtain ⟨q0, q1⟩ := box2 bb
  have c1' := Lib.hid (cL1.out w0 (HL.out.on hb))
  clear cL1
  go_wp2_with fail
  go_at_call 35
  refine c1'.out.mono ?_
  rintro e w2 ⟨rfl, hb2⟩
  replace bb := bb.keep hb2; replace hb := below_then hb2 hb
  clear q0 q1 hb2 c1'
  obtain ⟨q0, q1⟩ := box2 bb
  by_cases h0 : sideE 1 L = 0
  · have H0 := Lib.hid h0
    rw [h0]
    clear h0
    have c2' := Lib.hid (cL2.out w2 (HM.out.on hb))
    clear cL2
    go_wp2_with fail
    go_at_call 35
    refine c2'.out.mono ?_
    rintro e w3 ⟨rfl, hb2⟩
    replace bb := bb.keep hb2; replace hb := below_then hb2 hb
    clear q0 q1 hb2 c2'
    obtain ⟨q0, q1⟩ := box2 bb
    by_cases h0 : sideE 2 M = 0
    · have HW := Lib.hid (cW.out H0.out h0 w3 (HL.out.on hb) (HM.out.on hb))
      have HE := Lib.hid (show bookE L M = wholeE L M by rw [bookE, if_neg (by simp [H0.out]), if_neg (by simp [h0])])
      rw [h0]
      clear h0 cW H0
      go_wp2_with fail
      go_at_call 36
      refine HW.out.mono ?_
      rintro e w4 ⟨rfl, hb2⟩
      replace hb := below_then hb2 hb
      go_wp2
      go_ret
      exact ⟨by (rw [HE.out]) <;> rfl, hb⟩
    · have HE := Lib.hid (show bookE L M = sideE 2 M by rw [bookE, if_neg (by simp [H0.out]), if_pos h0])
      have e1 : (sideE 2 M == 0) = false := by simpa using h0
      clear h0 cW H0
      generalize sideE 2 M = z at *
      go_wp2
      go_ret
      exact ⟨by (rw [HE.out]) <;> rfl, hb⟩
  · have HE := Lib.hid (show bookE L M = sideE 1 L by rw [bookE, if_pos h0])
    have e1 : (sideE 1 L == 0) = false := by simpa using h0
    clear h0 cW
    generalize sideE 1 L = z at *
    go_wp2
    go_ret
    exact ⟨by (rw [HE.out]) <;> rfl, hb⟩
set_option maxRecDepth 100000 in
set_option maxHeartbeats 4000000 in
theorem rcomes_any (L M : List Lv) (o : Order) (A1 A2 : Option Addr) (c1 c2 : Nat) (w : World) (h1 : RdLv w w.heap.size A1 L) (h2 : RdLv w w.heap.size A2 M) (k1 : L.length ≤ maxLen) (k2 : M.length ≤ maxLen) :
    Calls Tryz.prog 6 #[.agg #[.slice A1 L.length c1, .slice A2 M.length c2], .agg #[.int .i64 o.id, .int .i64 o.who, .int .i64 o.side, .int .i64 o.kind, .int .i64 o.price, .int .i64 o.qty, .int .i64 o.show_, .int .i64 o.stop]] w fun e w' => e = .returned (.int .i64 (readyE L M o)) ∧ Below w.heap.size w w' := by
  have HL := Lib.hid h1; have HM := Lib.hid h2
  have cB := Lib.hid (fun w' h h' => rbook_any L M A1 A2 c1 c2 w' h h' k1 k2)
  have cF := Lib.hid (fun (a : bookE L M = 0) w' h h' => rfind_any L M A1 A2 c1 c2 o.id w' h h' ⟨k1, fun x hx => by have a := bookE_iff.1 a; have := len_cnt hx; have := a.buys.few; unfold maxLen; omega⟩ ⟨k2, fun x hx => by have a := bookE_iff.1 a; have := len_cnt hx; have := a.sells.few; unfold maxLen; omega⟩)
  have hb : Below w.heap.size w ((w.alloc (.cells #[.slice A1 L.length c1, .slice A2 M.length c2] 24)).alloc (.cells #[.int .i64 o.id, .int .i64 o.who, .int .i64 o.side, .int .i64 o.kind, .int .i64 o.price, .int .i64 o.qty, .int .i64 o.show_, .int .i64 o.stop] 26)) := below_then_alloc ((Below.refl _ _).alloc (Nat.le_refl _) _)
  have bb := (Bk.new w 24 #[.slice A1 L.length c1, .slice A2 M.length c2]).alloc (.cells #[.int .i64 o.id, .int .i64 o.who, .int .i64 o.side, .int .i64 o.kind, .int .i64 o.price, .int .i64 o.qty, .int .i64 o.show_, .int .i64 o.stop] 26)
  have bo := Bk.at_ (w := w.alloc (.cells #[.slice A1 L.length c1, .slice A2 M.length c2] 24)) (g' := w.heap.size + 1) (by simp) 26 #[.int .i64 o.id, .int .i64 o.who, .int .i64 o.side, .int .i64 o.kind, .int .i64 o.price, .int .i64 o.qty, .int .i64 o.show_, .int .i64 o.stop]
  clear h1 h2 k1 k2
  go_enter Tryz.func6, Tryz.ntmps6
  go_upto_region 1 with fail
  generalize (w.alloc (.cells #[.slice A1 L.length c1, .slice A2 M.length c2] 24)).alloc (.cells #[.int .i64 o.id, .int .i64 o.who, .int .i64 o.side, .int .i64 o.kind, .int .i64 o.price, .int .i64 o.qty, .int .i64 o.show_, .int .i64 o.stop] 26) = w0 at *
  obtain ⟨q0, q1⟩ := box2 bb
  have c1' := Lib.hid (cB.out w0 (HL.out.on hb) (HM.out.on hb))
  clear cB
  go_wp2_with fail
  go_at_call 17
  refine c1'.out.mono ?_
  rintro e w2 ⟨rfl, hb2⟩
  replace bb := bb.keep hb2; replace bo := bo.keep hb2; replace hb := below_then hb2 hb
  clear q0 q1 hb2 c1'
  obtain ⟨o0, o1, o2, o3, o4, o5, o6, o7⟩ := box8o bo
  by_cases h0 : bookE L M = 0
  · have H0 := Lib.hid h0
    rw [h0]
    have cF' := Lib.hid (cF.out h0)
    have cO := Lib.hid (rorder_any o)
    clear h0 cF
    go_wp2_with fail
    go_at_call 12
    refine (cO.out w2).mono ?_
    rintro e w3 ⟨rfl, rfl⟩
    replace bb := bb.alloc (.cells #[.int .i64 o.id, .int .i64 o.who, .int .i64 o.side, .int .i64 o.kind, .int .i64 o.price, .int .i64 o.qty, .int .i64 o.show_, .int .i64 o.stop] 26); replace bo := bo.alloc (.cells #[.int .i64 o.id, .int .i64 o.who, .int .i64 o.side, .int .i64 o.kind, .int .i64 o.price, .int .i64 o.qty, .int .i64 o.show_, .int .i64 o.stop] 26); replace hb := below_then_alloc (o := .cells #[.int .i64 o.id, .int .i64 o.who, .int .i64 o.side, .int .i64 o.kind, .int .i64 o.price, .int .i64 o.qty, .int .i64 o.show_, .int .i64 o.stop] 26) hb
    generalize w2.alloc (.cells #[.int .i64 o.id, .int .i64 o.who, .int .i64 o.side, .int .i64 o.kind, .int .i64 o.price, .int .i64 o.qty, .int .i64 o.show_, .int .i64 o.stop] 26) = w3 at *
    clear o0 o1 o2 o3 o4 o5 o6 o7 cO
    obtain ⟨o0, o1, o2, o3, o4, o5, o6, o7⟩ := box8o bo
    obtain ⟨q0, q1⟩ := box2 bb
    by_cases h1 : o.err = 0
    · have H1 := Lib.hid h1
      rw [h1]
      clear h1
      by_cases h2 : o.stop = 0
      · have HE := Lib.hid (show readyE L M o = if (whereB L M o.id).1 ≠ 0 then 7 else 0 by rw [readyE, if_neg (by simp [H0.out]), if_neg (by simp [H1.out]), if_neg (by simp [h2])])
        have e2 : (o.stop != 0) = false := by simpa using h2
        have HF := Lib.hid (cF'.out w3 (HL.out.on hb) (HM.out.on hb))
        clear h2 cF' H0 H1
        go_wp2_with fail
        go_at_call 21
        refine HF.out.mono ?_
        rintro e w4 ⟨rfl, hb2⟩
        replace hb := below_then hb2 hb
        clear HF
        generalize whereB L M o.id = z at *
        obtain ⟨z1, z2, z3⟩ := z
        dsimp only at *
        by_cases h3 : z1 = 0
        · have HH := Lib.hid (show readyE L M o = 0 by rw [HE.out, if_neg (by simp [h3])])
          have e3 : (z1 != 0) = false := by simpa using h3
          clear h3 HE
          go_wp2
          go_ret
          exact ⟨by (rw [HH.out]) <;> rfl, hb⟩
        · have HH := Lib.hid (show readyE L M o = 7 by rw [HE.out, if_pos h3])
          have e3 : (z1 != 0) = true := by simpa using h3
          clear h3 HE
          go_wp2
          go_ret
          exact ⟨by (rw [HH.out]) <;> rfl, hb⟩
      · have HE := Lib.hid (show readyE L M o = 6 by rw [readyE, if_neg (by simp [H0.out]), if_neg (by simp [H1.out]), if_pos h2])
        have e2 : (o.stop != 0) = true := by simpa using h2
        clear h2 cF' H0 H1
        go_wp2
        go_ret
        exact ⟨by (rw [HE.out]) <;> rfl, hb⟩
    · have HE := Lib.hid (show readyE L M o = o.err by rw [readyE, if_neg (by simp [H0.out]), if_pos h1])
      have e2 : (o.err != 0) = true := by simpa using h1
      clear h1 cF' H0
      generalize o.err = z at *
      go_wp2
      go_ret
      exact ⟨by (rw [HE.out]) <;> rfl, hb⟩
  · have HE := Lib.hid (show readyE L M o = bookE L M by rw [readyE, if_pos h0])
    have e1 : (bookE L M == 0) = false := by simpa using h0
    have e2 : (bookE L M != 0) = true := by simpa using h0
    clear h0 cF
    generalize bookE L M = z at *
    go_wp2
    go_ret
    exact ⟨by (rw [HE.out]) <;> rfl, hb⟩
end Go.Proofs.YtiaofbkhnodbhaaGreatDoor
namespace Go.Proofs.YtiaofbkhnodbhaaGreatDoor
set_option linter.all false
open Go Go.RowKit
theorem rwith_buy (A1 A2 A3 : Option Addr) (n1 n2 n3 c1 c2 c3 : Nat) (w : World) :
    Calls Tryz.prog 37 #[.agg #[.slice A1 n1 c1, .slice A2 n2 c2], .int .i64 1, .slice A3 n3 c3] w fun e w' => e = .returned (.agg #[.slice A3 n3 c3, .slice A2 n2 c2]) ∧ Below w.heap.size w w' := by
  have hb : Below w.heap.size w ((w.alloc (.cells #[.slice A1 n1 c1, .slice A2 n2 c2] 24)).alloc (.cells #[.slice none 0 0, .slice none 0 0] 24)) := below_then_alloc ((Below.refl _ _).alloc (Nat.le_refl _) _)
  have bb := (Bk.new w 24 #[.slice A1 n1 c1, .slice A2 n2 c2]).alloc (.cells #[.slice none 0 0, .slice none 0 0] 24)
  have br := Bk.at_ (w := w.alloc (.cells #[.slice A1 n1 c1, .slice A2 n2 c2] 24)) (g' := w.heap.size + 1) (by simp) 24 #[.slice none 0 0, .slice none 0 0]
  go_enter Tryz.func37, Tryz.ntmps37
  go_upto_region 1 with fail
  generalize (w.alloc (.cells #[.slice A1 n1 c1, .slice A2 n2 c2] 24)).alloc (.cells #[.slice none 0 0, .slice none 0 0] 24) = w0 at *
  obtain ⟨q0, q1⟩ := box2 bb
  obtain ⟨s0, s1⟩ := box2 br
  have y0 := br.free 0; have y1 := br.free 1
  have kx := box2 (br.set2 (.slice A3 n3 c3) (.slice A2 n2 c2))
  have hb3 := (hb.setCell (p := ⟨w.heap.size + 1, 0, none⟩) (by simp) (.slice A3 n3 c3)).setCell (p := ⟨w.heap.size + 1, 1, none⟩) (by simp) (.slice A2 n2 c2)
  go_wp2
  exact bodyPost_ret (v := .agg #[.slice A3 n3 c3, .slice A2 n2 c2]) (by simp [results, Tryz.results37, go_sem, kx]) rfl ⟨rfl, hb3⟩
theorem rwith_sell (A1 A2 A3 : Option Addr) (n1 n2 n3 c1 c2 c3 : Nat) (w : World) :
    Calls Tryz.prog 37 #[.agg #[.slice A1 n1 c1, .slice A2 n2 c2], .int .i64 2, .slice A3 n3 c3] w fun e w' => e = .returned (.agg #[.slice A1 n1 c1, .slice A3 n3 c3]) ∧ Below w.heap.size w w' := by
  have hb : Below w.heap.size w ((w.alloc (.cells #[.slice A1 n1 c1, .slice A2 n2 c2] 24)).alloc (.cells #[.slice none 0 0, .slice none 0 0] 24)) := below_then_alloc ((Below.refl _ _).alloc (Nat.le_refl _) _)
  have bb := (Bk.new w 24 #[.slice A1 n1 c1, .slice A2 n2 c2]).alloc (.cells #[.slice none 0 0, .slice none 0 0] 24)
  have br := Bk.at_ (w := w.alloc (.cells #[.slice A1 n1 c1, .slice A2 n2 c2] 24)) (g' := w.heap.size + 1) (by simp) 24 #[.slice none 0 0, .slice none 0 0]
  go_enter Tryz.func37, Tryz.ntmps37
  go_upto_region 1 with fail
  generalize (w.alloc (.cells #[.slice A1 n1 c1, .slice A2 n2 c2] 24)).alloc (.cells #[.slice none 0 0, .slice none 0 0] 24) = w0 at *
  obtain ⟨q0, q1⟩ := box2 bb
  obtain ⟨s0, s1⟩ := box2 br
  have y0 := br.free 0; have y1 := br.free 1
  have kx := box2 (br.set2 (.slice A1 n1 c1) (.slice A3 n3 c3))
  have hb3 := (hb.setCell (p := ⟨w.heap.size + 1, 0, none⟩) (by simp) (.slice A1 n1 c1)).setCell (p := ⟨w.heap.size + 1, 1, none⟩) (by simp) (.slice A3 n3 c3)
  go_wp2
  exact bodyPost_ret (v := .agg #[.slice A1 n1 c1, .slice A3 n3 c3]) (by simp [results, Tryz.results37, go_sem, kx]) rfl ⟨rfl, hb3⟩
end Go.Proofs.YtiaofbkhnodbhaaGreatDoor
namespace Go.Proofs.YtiaofbkhnodbhaaGreatDoor
set_option linter.all false
open Go Go.RowKit
theorem OwnS.of_bk {w : World} {base g n s : Nat} {t : TypeId} {cs : Array Value} (h : Bk w g t cs) (hs : cs.size = n * s) (hb : base ≤ g) (hm : n ≤ maxLen) : OwnS w base s (some ⟨g, 0, none⟩) n n cs.toList := by
  refine ⟨by simpa using hs, Nat.le_refl _, hm, fun _ => ⟨g, 0, rfl, hb, h.lt, fun j hj => ?_, fun j hj => ⟨?_, ?_⟩⟩⟩
  · rw [Nat.zero_add, h.cell j, Array.getElem?_toList]
  · rw [Nat.zero_add, h.cell j, Array.getElem?_eq_getElem (by omega)]; rfl
  · exact h.free _
/-- how Fill ends -/
def FillPost (k : Int) (l : List Rest) (w : World) (e : Ending) (w' : World) : Prop :=
  ∃ A' c', e = .returned (.tuple #[.int .i64 k, .slice A' l.length c']) ∧ OwnS w' w.heap.size 5 A' l.length c' (rows l) ∧ Below w.heap.size w w'
theorem bk5_set {w : World} {g : Nat} {t : TypeId} {x0 x1 x2 x3 x4 : Value} (h : Bk w g t #[x0, x1, x2, x3, x4]) (y : Value) : Bk (w.setCell ⟨g, 2, none⟩ y) g t #[x0, x1, y, x3, x4] := h.set_ 2 y
theorem box5' {w' : World} {v0 v1 v2 v3 v4 : Value} {g : Nat} {t : TypeId} (h : Bk w' g t #[v0, v1, v2, v3, v4]) : w'.cell? ⟨g, 0, none⟩ = some v0 ∧ w'.cell? ⟨g, 1, none⟩ = some v1 ∧ w'.cell? ⟨g, 2, none⟩ = some v2 ∧ w'.cell? ⟨g, 3, none⟩ = some v3 ∧ w'.cell? ⟨g, 4, none⟩ = some v4 :=
  ⟨h.cell 0, h.cell 1, h.cell 2, h.cell 3, h.cell 4⟩
set_option maxRecDepth 100000 in
set_option maxHeartbeats 2000000 in
theorem rfill_any (r : Rest) (t : List Rest) (A : Option Addr) (c : Nat) (n : Int) (w : World) (hr : Rd w w.heap.size A (t.length + 1) 5 (rcell (r :: t))) (hl : t.length ≤ 99) (hcap : t.length + 1 ≤ c) (hmx : c ≤ maxLen) (hn : 1 ≤ n) (hre : r.err = 0) :
    Calls Tryz.prog 41 #[.slice A (t.length + 1) c, .int .i64 n] w (FillPost (qFirst r t n).1.qty (qFirst r t n).2 w) := by
  obtain ⟨b, off, r', rfl, hbb, hr', e0, e1, e2, e3, e4⟩ := rest_at (l := r :: t) hr (k := 0) (by simp)
  obtain rfl : r = r' := by simpa using hr'
  clear hr'
  have hh := err0 hre
  obtain ⟨h1, h2, h3, h4, h5, h6, h7, h8, _⟩ := hh
  have hwi := fun w' hr' => rwithout_any (r :: t) (some ⟨b, off, none⟩) c 0 t.length w' hr' (by simp; omega) (by simp; omega) (by simpa using hcap) hmx
  rw [List.eraseIdx_zero, List.tail_cons, List.length_cons] at hwi
  have CW := Lib.hid hwi
  have HR := Lib.hid hr
  have hmx' := hmx
  unfold maxLen at hmx
  simp only [Nat.zero_mul, Nat.add_zero] at e0 e1 e2 e3 e4
  obtain ⟨i0, hi0, hz0, hz1, hz2⟩ := info_parts info_rest
  have HI := Lib.hid hi0; have H0 := Lib.hid hz0; have H1 := Lib.hid hz1; have H2 := Lib.hid hz2
  have b6 := Bk.new w 43 #[.int .i64 r.id, .int .i64 r.who, .int .i64 r.qty, .int .i64 r.hidden, .int .i64 r.show_]
  have hb0 : Below w.heap.size w (w.alloc (.cells #[.int .i64 r.id, .int .i64 r.who, .int .i64 r.qty, .int .i64 r.hidden, .int .i64 r.show_] 43)) := (Below.refl _ _).alloc (Nat.le_refl _) _
  have hz : (w.alloc (.cells #[.int .i64 r.id, .int .i64 r.who, .int .i64 r.qty, .int .i64 r.hidden, .int .i64 r.show_] 43)).heap.size = w.heap.size + 1 := by simp
  have HZ := Lib.hid hz
  have hlt0 : (0 : Int) < (t.length : Int) + 1 := by omega
  have HE := Lib.hid (show qFirst r t n = if n < r.qty then (⟨r.id, r.who, n⟩, { r with qty := r.qty - n } :: t) else if 0 < r.hidden then (⟨r.id, r.who, r.qty⟩, t ++ [{ r with qty := min r.show_ r.hidden, hidden := r.hidden - min r.show_ r.hidden }]) else (⟨r.id, r.who, r.qty⟩, t) from rfl)
  clear hwi hr hi0 hz0 hz1 hz2 hz hre hmx'
  obtain ⟨id, who, qty, hidden, show_⟩ := r
  dsimp only at *
  by_cases hq : n < qty
  · have E := Lib.hid (HE.out.trans (if_pos hq))
    clear HE
    go_enter Tryz.func41, Tryz.ntmps41
    go_wp2_with fail
    go_at_call 62
    refine (CW.out _ ((HR.out.below hb0).more hb0.size)).mono ?_
    rintro e w1 ⟨A1, c1, rfl, own1, hb1⟩
    have b61 := b6.keep hb1
    have hb1' := below_then hb1 hb0
    have q6 := box5' b61
    have z6 := b61.free 2
    have hx := Lib.hid (bk5_set b61 (.int .i64 (qty - n)))
    have hne : rowOf A1 c1 ≠ some w.heap.size := fun e => by have h9 := (own1.row_lt _ e).1; rw [HZ.out] at h9; omega
    have own1 := own1.lower hb0.size
    have hbs := hb1'.size
    have s3 : Hid (Src Tryz.prog 5 64 (.slice A1 t.length c1) t.length (rows t) ((w1.setCell ⟨w.heap.size, 2, none⟩ (.int .i64 (qty - n))).alloc (.cells #[.int .i64 id, .int .i64 who, .int .i64 (qty - n), .int .i64 hidden, .int .i64 show_] 43))) :=
      src_rests (((own1.far hne _).alloc _).rd (fun i j hi hj => rows_get hi hj)) (fun h => (own1.none_cap h).1)
    have hbf : Below w.heap.size w ((w1.setCell ⟨w.heap.size, 2, none⟩ (.int .i64 (qty - n))).alloc (.cells #[.int .i64 id, .int .i64 who, .int .i64 (qty - n), .int .i64 hidden, .int .i64 show_] 43)) := (hb1'.setCell (Nat.le_refl _) _).alloc (by simp; exact hbs) _
    clear b61 b6 hb1 hb0
    go_wp2_with (at_builtin; go_loud (refine wpList_append_S (base := w.heap.size) (s := 5) (n := 1) rfl _ _ _ _ rfl 43 i0 _ 40 Tryz.underlying64 HI.out H0.out H1.out H2.out rfl rfl (OwnS.of_bk (n := 1) (Bk.at_ (by simp) 43 #[.int .i64 id, .int .i64 who, .int .i64 (qty - n), .int .i64 hidden, .int .i64 show_]) rfl hbs (by unfold maxLen; omega)) (by simp; omega) _ rfl t.length (rows t) s3.out (by unfold maxLen; omega) (by omega) ?_); intro A2 c2 w2 gr2)
    go_ret2
    rw [E.out]
    refine ⟨A2, c2, by simp [Nat.add_comm], ?_, hbf.grown gr2.grown hbf.size (fun k hk => by simp [rowOf] at hk; omega)⟩
    have := gr2.own
    rw [Nat.add_comm] at this
    exact this
  · have hq2 : qty ≤ n := by omega
    by_cases hh : 0 < hidden
    · by_cases hsh : hidden < show_
      · skip
        have E := Lib.hid (HE.out.trans ((if_neg hq).trans (if_pos hh)))
        have HM := Lib.hid (show min show_ hidden = hidden by omega)
        have hs : (0 : Int) = hidden - hidden := by omega
        have HS := Lib.hid hs
        clear HE hs
        go_enter Tryz.func41, Tryz.ntmps41
        go_wp2_with fail
        go_at_call 62
        refine (CW.out _ ((HR.out.below hb0).more hb0.size)).mono ?_
        rintro e w1 ⟨A1, c1, rfl, own1, hb1⟩
        have b61 := b6.keep hb1
        have hb1' := below_then hb1 hb0
        have q6 := box5' b61
        have z6 := b61.free 2
        have z7 := b61.free 3
        have hne : rowOf A1 c1 ≠ some w.heap.size := fun e => by have h9 := (own1.row_lt _ e).1; rw [HZ.out] at h9; omega
        have own1 := own1.lower hb0.size
        have hbs := hb1'.size
        clear b61 b6 hb1 hb0
        go_wp2_with (at_builtin; go_loud (refine wpList_append_S (base := w.heap.size) (s := 5) (n := t.length) rfl _ _ _ _ rfl 43 i0 _ 40 Tryz.underlying64 HI.out H0.out H1.out H2.out rfl rfl (by first | exact (((own1.far hne _).far hne _).alloc _) | exact ((((own1.far hne _).far hne _).far hne _).alloc _)) (by simp; omega) _ rfl 1 (Rest.vals ⟨id, who, hidden, 0, show_⟩) (src_block (m := 1) (Bk.at_ (by simp) 43 #[.int .i64 id, .int .i64 who, .int .i64 (hidden), .int .i64 (0), .int .i64 show_]) Tryz.underlying64 rfl (rest_one _ _ _ _ _) 1) (by unfold maxLen; omega) (by omega) ?_); intro A2 c2 w2 gr2)
        go_ret2
        rw [E.out, HM.out]
        refine ⟨A2, c2, by simp, ?_, ?_⟩
        · have := gr2.own
          try rw [HS.out] at this
          rw [rows_app, List.length_append]
          exact this
        · exact Below.grown (by repeat (first | exact hb1' | refine Below.alloc ?_ (by simp; exact hbs) _ | refine Below.setCell ?_ (by simp) _)) gr2.grown (by simp; omega) (fun k hk => (own1.row_lt k hk).1)
      · have hsh2 : show_ ≤ hidden := by omega
        have E := Lib.hid (HE.out.trans ((if_neg hq).trans (if_pos hh)))
        have HM := Lib.hid (show min show_ hidden = show_ by omega)
        have hs : (hidden - show_ : Int) = hidden - show_ := by omega
        have HS := Lib.hid hs
        clear HE hs
        go_enter Tryz.func41, Tryz.ntmps41
        go_wp2_with fail
        go_at_call 62
        refine (CW.out _ ((HR.out.below hb0).more hb0.size)).mono ?_
        rintro e w1 ⟨A1, c1, rfl, own1, hb1⟩
        have b61 := b6.keep hb1
        have hb1' := below_then hb1 hb0
        have q6 := box5' b61
        have z6 := b61.free 2
        have z7 := b61.free 3
        have hne : rowOf A1 c1 ≠ some w.heap.size := fun e => by have h9 := (own1.row_lt _ e).1; rw [HZ.out] at h9; omega
        have own1 := own1.lower hb0.size
        have hbs := hb1'.size
        clear b61 b6 hb1 hb0
        go_wp2_with (at_builtin; go_loud (refine wpList_append_S (base := w.heap.size) (s := 5) (n := t.length) rfl _ _ _ _ rfl 43 i0 _ 40 Tryz.underlying64 HI.out H0.out H1.out H2.out rfl rfl (by first | exact (((own1.far hne _).far hne _).alloc _) | exact ((((own1.far hne _).far hne _).far hne _).alloc _)) (by simp; omega) _ rfl 1 (Rest.vals ⟨id, who, show_, hidden - show_, show_⟩) (src_block (m := 1) (Bk.at_ (by simp) 43 #[.int .i64 id, .int .i64 who, .int .i64 (show_), .int .i64 (hidden - show_), .int .i64 show_]) Tryz.underlying64 rfl (rest_one _ _ _ _ _) 1) (by unfold maxLen; omega) (by omega) ?_); intro A2 c2 w2 gr2)
        go_ret2
        rw [E.out, HM.out]
        refine ⟨A2, c2, by simp, ?_, ?_⟩
        · have := gr2.own
          try rw [HS.out] at this
          rw [rows_app, List.length_append]
          exact this
        · exact Below.grown (by repeat (first | exact hb1' | refine Below.alloc ?_ (by simp; exact hbs) _ | refine Below.setCell ?_ (by simp) _)) gr2.grown (by simp; omega) (fun k hk => (own1.row_lt k hk).1)
    · obtain rfl : hidden = 0 := by omega
      have E := Lib.hid (HE.out.trans ((if_neg hq).trans (if_neg hh)))
      clear HE
      go_enter Tryz.func41, Tryz.ntmps41
      go_wp2_with fail
      go_at_call 62
      refine (CW.out _ ((HR.out.below hb0).more hb0.size)).mono ?_
      rintro e w1 ⟨A1, c1, rfl, own1, hb1⟩
      have b61 := b6.keep hb1
      have hb1' := below_then hb1 hb0
      have q6 := box5' b61
      have own1 := own1.lower hb0.size
      clear b61 b6 hb1 hb0
      go_wp2
      go_ret2
      rw [E.out]
      exact ⟨A1, c1, rfl, own1, hb1'⟩
end Go.Proofs.YtiaofbkhnodbhaaGreatDoor
