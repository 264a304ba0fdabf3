/- The contract of the reference's Fill. -/
import Derived.Test.YtbnjkcgkdpildaaDoorRWithout
import Derived.Test.YtbnjkcgkdpildaaDoorGrpD
namespace Go.Proofs.YtbnjkcgkdpildaaDoor
set_option linter.all false
open Go Go.RowKit
theorem OwnS.of_bk {w : World} {base g n s : Nat} {t : TypeId} {cs : Array Value} (h : Bk w g t cs) (hs : cs.size = n * s) (hb : base ≤ g) (hm : n ≤ maxLen) : OwnS w base s (some ⟨g, 0, none⟩) n n cs.toList := by
  refine ⟨by simpa using hs, Nat.le_refl _, hm, fun _ => ⟨g, 0, rfl, hb, h.lt, fun j hj => ?_, fun j hj => ⟨?_, ?_⟩⟩⟩
  · rw [Nat.zero_add, h.cell j, Array.getElem?_toList]
  · rw [Nat.zero_add, h.cell j, Array.getElem?_eq_getElem (by omega)]; rfl
  · exact h.free _
/-- how Fill ends -/
def FillPost (k : Int) (l : List Rest) (w : World) (e : Ending) (w' : World) : Prop :=
  ∃ A' c', e = .returned (.tuple #[.int .i64 k, .slice A' l.length c']) ∧ OwnS w' w.heap.size 5 A' l.length c' (rows l) ∧ Below w.heap.size w w'
theorem bk5_set {w : World} {g : Nat} {t : TypeId} {x0 x1 x2 x3 x4 : Value} (h : Bk w g t #[x0, x1, x2, x3, x4]) (y : Value) : Bk (w.setCell ⟨g, 2, none⟩ y) g t #[x0, x1, y, x3, x4] := h.set_ 2 y
theorem box5' {w' : World} {v0 v1 v2 v3 v4 : Value} {g : Nat} {t : TypeId} (h : Bk w' g t #[v0, v1, v2, v3, v4]) : w'.cell? ⟨g, 0, none⟩ = some v0 ∧ w'.cell? ⟨g, 1, none⟩ = some v1 ∧ w'.cell? ⟨g, 2, none⟩ = some v2 ∧ w'.cell? ⟨g, 3, none⟩ = some v3 ∧ w'.cell? ⟨g, 4, none⟩ = some v4 :=
  ⟨h.cell 0, h.cell 1, h.cell 2, h.cell 3, h.cell 4⟩
set_option maxRecDepth 100000 in
set_option maxHeartbeats 2000000 in
theorem rfill_any (r : Rest) (t : List Rest) (A : Option Addr) (c : Nat) (n : Int) (w : World) (hr : Rd w w.heap.size A (t.length + 1) 5 (rcell (r :: t))) (hl : t.length ≤ 99) (hcap : t.length + 1 ≤ c) (hmx : c ≤ maxLen) (hn : 1 ≤ n) (hre : r.err = 0) :
    Calls Tryd.prog 46 #[.slice A (t.length + 1) c, .int .i64 n] w (FillPost (qFirst r t n).1.qty (qFirst r t n).2 w) := by
  obtain ⟨b, off, r', rfl, hbb, hr', e0, e1, e2, e3, e4⟩ := rest_at (l := r :: t) hr (k := 0) (by simp)
  obtain rfl : r = r' := by simpa using hr'
  clear hr'
  have hh := err0 hre
  obtain ⟨h1, h2, h3, h4, h5, h6, h7, h8, _⟩ := hh
  have hwi := fun w' hr' => rwithout_any (r :: t) (some ⟨b, off, none⟩) c 0 t.length w' hr' (by simp; omega) (by simp; omega) (by simpa using hcap) hmx
  rw [List.eraseIdx_zero, List.tail_cons, List.length_cons] at hwi
  have CW := Lib.hid hwi
  have HR := Lib.hid hr
  have hmx' := hmx
  unfold maxLen at hmx
  simp only [Nat.zero_mul, Nat.add_zero] at e0 e1 e2 e3 e4
  obtain ⟨i0, hi0, hz0, hz1, hz2⟩ := info_parts info_rest
  have HI := Lib.hid hi0; have H0 := Lib.hid hz0; have H1 := Lib.hid hz1; have H2 := Lib.hid hz2
  have b6 := Bk.new w 23 #[.int .i64 r.id, .int .i64 r.who, .int .i64 r.qty, .int .i64 r.hidden, .int .i64 r.show_]
  have hb0 : Below w.heap.size w (w.alloc (.cells #[.int .i64 r.id, .int .i64 r.who, .int .i64 r.qty, .int .i64 r.hidden, .int .i64 r.show_] 23)) := (Below.refl _ _).alloc (Nat.le_refl _) _
  have hz : (w.alloc (.cells #[.int .i64 r.id, .int .i64 r.who, .int .i64 r.qty, .int .i64 r.hidden, .int .i64 r.show_] 23)).heap.size = w.heap.size + 1 := by simp
  have HZ := Lib.hid hz
  have hlt0 : (0 : Int) < (t.length : Int) + 1 := by omega
  have HE := Lib.hid (show qFirst r t n = if n < r.qty then (⟨r.id, r.who, n⟩, { r with qty := r.qty - n } :: t) else if 0 < r.hidden then (⟨r.id, r.who, r.qty⟩, t ++ [{ r with qty := min r.show_ r.hidden, hidden := r.hidden - min r.show_ r.hidden }]) else (⟨r.id, r.who, r.qty⟩, t) from rfl)
  clear hwi hr hi0 hz0 hz1 hz2 hz hre hmx'
  obtain ⟨id, who, qty, hidden, show_⟩ := r
  dsimp only at *
  by_cases hq : n < qty
  · have E := Lib.hid (HE.out.trans (if_pos hq))
    clear HE
    go_enter Tryd.func46, Tryd.ntmps46
    go_wp2_with fail
    go_at_call 71
    refine (CW.out _ ((HR.out.below hb0).more hb0.size)).mono ?_
    rintro e w1 ⟨A1, c1, rfl, own1, hb1⟩
    have b61 := b6.keep hb1
    have hb1' := below_then hb1 hb0
    have q6 := box5' b61
    have z6 := b61.free 2
    have hx := Lib.hid (bk5_set b61 (.int .i64 (qty - n)))
    have hne : rowOf A1 c1 ≠ some w.heap.size := fun e => by have h9 := (own1.row_lt _ e).1; rw [HZ.out] at h9; omega
    have own1 := own1.lower hb0.size
    have hbs := hb1'.size
    have s3 : Hid (Src Tryd.prog 5 24 (.slice A1 t.length c1) t.length (rows t) ((w1.setCell ⟨w.heap.size, 2, none⟩ (.int .i64 (qty - n))).alloc (.cells #[.int .i64 id, .int .i64 who, .int .i64 (qty - n), .int .i64 hidden, .int .i64 show_] 23))) :=
      src_rests (((own1.far hne _).alloc _).rd (fun i j hi hj => rows_get hi hj)) (fun h => (own1.none_cap h).1)
    have hbf : Below w.heap.size w ((w1.setCell ⟨w.heap.size, 2, none⟩ (.int .i64 (qty - n))).alloc (.cells #[.int .i64 id, .int .i64 who, .int .i64 (qty - n), .int .i64 hidden, .int .i64 show_] 23)) := (hb1'.setCell (Nat.le_refl _) _).alloc (by simp; exact hbs) _
    clear b61 b6 hb1 hb0
    go_wp2_with (at_builtin; go_loud (refine wpList_append_S (base := w.heap.size) (s := 5) (n := 1) rfl _ _ _ _ rfl 23 i0 _ 40 Tryd.underlying24 HI.out H0.out H1.out H2.out rfl rfl (OwnS.of_bk (n := 1) (Bk.at_ (by simp) 23 #[.int .i64 id, .int .i64 who, .int .i64 (qty - n), .int .i64 hidden, .int .i64 show_]) rfl hbs (by unfold maxLen; omega)) (by simp; omega) _ rfl t.length (rows t) s3.out (by unfold maxLen; omega) (by omega) ?_); intro A2 c2 w2 gr2)
    go_ret2
    rw [E.out]
    refine ⟨A2, c2, by simp [Nat.add_comm], ?_, hbf.grown gr2.grown hbf.size (fun k hk => by simp [rowOf] at hk; omega)⟩
    have := gr2.own
    rw [Nat.add_comm] at this
    exact this
  · have hq2 : qty ≤ n := by omega
    by_cases hh : 0 < hidden
    · by_cases hsh : hidden < show_
      · skip
        have E := Lib.hid (HE.out.trans ((if_neg hq).trans (if_pos hh)))
        have HM := Lib.hid (show min show_ hidden = hidden by omega)
        have hs : (0 : Int) = hidden - hidden := by omega
        have HS := Lib.hid hs
        clear HE hs
        go_enter Tryd.func46, Tryd.ntmps46
        go_wp2_with fail
        go_at_call 71
        refine (CW.out _ ((HR.out.below hb0).more hb0.size)).mono ?_
        rintro e w1 ⟨A1, c1, rfl, own1, hb1⟩
        have b61 := b6.keep hb1
        have hb1' := below_then hb1 hb0
        have q6 := box5' b61
        have z6 := b61.free 2
        have z7 := b61.free 3
        have hne : rowOf A1 c1 ≠ some w.heap.size := fun e => by have h9 := (own1.row_lt _ e).1; rw [HZ.out] at h9; omega
        have own1 := own1.lower hb0.size
        have hbs := hb1'.size
        clear b61 b6 hb1 hb0
        go_wp2_with (at_builtin; go_loud (refine wpList_append_S (base := w.heap.size) (s := 5) (n := t.length) rfl _ _ _ _ rfl 23 i0 _ 40 Tryd.underlying24 HI.out H0.out H1.out H2.out rfl rfl (by first | exact (((own1.far hne _).far hne _).alloc _) | exact ((((own1.far hne _).far hne _).far hne _).alloc _)) (by simp; omega) _ rfl 1 (Rest.vals ⟨id, who, hidden, 0, show_⟩) (src_block (m := 1) (Bk.at_ (by simp) 23 #[.int .i64 id, .int .i64 who, .int .i64 (hidden), .int .i64 (0), .int .i64 show_]) Tryd.underlying24 rfl (rest_one _ _ _ _ _) 1) (by unfold maxLen; omega) (by omega) ?_); intro A2 c2 w2 gr2)
        go_ret2
        rw [E.out, HM.out]
        refine ⟨A2, c2, by simp, ?_, ?_⟩
        · have := gr2.own
          try rw [HS.out] at this
          rw [rows_app, List.length_append]
          exact this
        · exact Below.grown (by repeat (first | exact hb1' | refine Below.alloc ?_ (by simp; exact hbs) _ | refine Below.setCell ?_ (by simp) _)) gr2.grown (by simp; omega) (fun k hk => (own1.row_lt k hk).1)
      · have hsh2 : show_ ≤ hidden := by omega
        have E := Lib.hid (HE.out.trans ((if_neg hq).trans (if_pos hh)))
        have HM := Lib.hid (show min show_ hidden = show_ by omega)
        have hs : (hidden - show_ : Int) = hidden - show_ := by omega
        have HS := Lib.hid hs
        clear HE hs
        go_enter Tryd.func46, Tryd.ntmps46
        go_wp2_with fail
        go_at_call 71
        refine (CW.out _ ((HR.out.below hb0).more hb0.size)).mono ?_
        rintro e w1 ⟨A1, c1, rfl, own1, hb1⟩
        have b61 := b6.keep hb1
        have hb1' := below_then hb1 hb0
        have q6 := box5' b61
        have z6 := b61.free 2
        have z7 := b61.free 3
        have hne : rowOf A1 c1 ≠ some w.heap.size := fun e => by have h9 := (own1.row_lt _ e).1; rw [HZ.out] at h9; omega
        have own1 := own1.lower hb0.size
        have hbs := hb1'.size
        clear b61 b6 hb1 hb0
        go_wp2_with (at_builtin; go_loud (refine wpList_append_S (base := w.heap.size) (s := 5) (n := t.length) rfl _ _ _ _ rfl 23 i0 _ 40 Tryd.underlying24 HI.out H0.out H1.out H2.out rfl rfl (by first | exact (((own1.far hne _).far hne _).alloc _) | exact ((((own1.far hne _).far hne _).far hne _).alloc _)) (by simp; omega) _ rfl 1 (Rest.vals ⟨id, who, show_, hidden - show_, show_⟩) (src_block (m := 1) (Bk.at_ (by simp) 23 #[.int .i64 id, .int .i64 who, .int .i64 (show_), .int .i64 (hidden - show_), .int .i64 show_]) Tryd.underlying24 rfl (rest_one _ _ _ _ _) 1) (by unfold maxLen; omega) (by omega) ?_); intro A2 c2 w2 gr2)
        go_ret2
        rw [E.out, HM.out]
        refine ⟨A2, c2, by simp, ?_, ?_⟩
        · have := gr2.own
          try rw [HS.out] at this
          rw [rows_app, List.length_append]
          exact this
        · exact Below.grown (by repeat (first | exact hb1' | refine Below.alloc ?_ (by simp; exact hbs) _ | refine Below.setCell ?_ (by simp) _)) gr2.grown (by simp; omega) (fun k hk => (own1.row_lt k hk).1)
    · obtain rfl : hidden = 0 := by omega
      have E := Lib.hid (HE.out.trans ((if_neg hq).trans (if_neg hh)))
      clear HE
      go_enter Tryd.func46, Tryd.ntmps46
      go_wp2_with fail
      go_at_call 71
      refine (CW.out _ ((HR.out.below hb0).more hb0.size)).mono ?_
      rintro e w1 ⟨A1, c1, rfl, own1, hb1⟩
      have b61 := b6.keep hb1
      have hb1' := below_then hb1 hb0
      have q6 := box5' b61
      have own1 := own1.lower hb0.size
      clear b61 b6 hb1 hb0
      go_wp2
      go_ret2
      rw [E.out]
      exact ⟨A1, c1, rfl, own1, hb1'⟩
end Go.Proofs.YtbnjkcgkdpildaaDoor
