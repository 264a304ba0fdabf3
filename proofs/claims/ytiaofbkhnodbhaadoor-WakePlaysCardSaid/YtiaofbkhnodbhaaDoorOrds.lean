/- Slices of orders: what they read; a copy of one; where an id is. -/
import Derived.Test.YtiaofbkhnodbhaaDoorGrpA
import Derived.Test.YtiaofbkhnodbhaaDoorGrpD
import Derived.Test.YtiaofbkhnodbhaaDoorGrpH
import Derived.Deep.DeepCutAuto
namespace Go.Proofs.YtiaofbkhnodbhaaDoor
set_option linter.all false
open Go Go.RowKit
def Order.vals (o : Order) : List Value := [.int .i64 o.id, .int .i64 o.who, .int .i64 o.side, .int .i64 o.kind, .int .i64 o.price, .int .i64 o.qty, .int .i64 o.show_, .int .i64 o.stop]
theorem Order.vals_len (o : Order) : o.vals.length = 8 := rfl
theorem Order.vals_one (o : Order) : ∀ u ∈ o.vals, u.oneCell' = true := by
  intro u hu
  simp only [Order.vals, List.mem_cons, List.not_mem_nil, or_false] at hu
  rcases hu with rfl | rfl | rfl | rfl | rfl | rfl | rfl | rfl <;> rfl
theorem obox {w' : World} {v0 v1 v2 v3 v4 v5 v6 v7 : Value} {g : Nat} {t : TypeId} (h : Bk w' g t #[v0, v1, v2, v3, v4, v5, v6, v7]) : w'.cell? ⟨g, 0, none⟩ = some v0 ∧ w'.cell? ⟨g, 1, none⟩ = some v1 ∧ w'.cell? ⟨g, 2, none⟩ = some v2 ∧ w'.cell? ⟨g, 3, none⟩ = some v3 ∧ w'.cell? ⟨g, 4, none⟩ = some v4 ∧ w'.cell? ⟨g, 5, none⟩ = some v5 ∧ w'.cell? ⟨g, 6, none⟩ = some v6 ∧ w'.cell? ⟨g, 7, none⟩ = some v7 := ⟨h.cell 0, h.cell 1, h.cell 2, h.cell 3, h.cell 4, h.cell 5, h.cell 6, h.cell 7⟩
theorem pair2 {w' : World} {v0 v1 : Value} {g : Nat} {t : TypeId} (h : Bk w' g t #[v0, v1]) : w'.cell? ⟨g, 0, none⟩ = some v0 ∧ w'.cell? ⟨g, 1, none⟩ = some v1 := ⟨h.cell 0, h.cell 1⟩
/-- cell j of order i -/
def ocell (l : List Order) (i j : Nat) : Value := ((l.getD i ord0).vals)[j]?.getD undef
theorem ord_at {l : List Order} {w : World} {B k : Nat} {A : Option Addr} (hr : Rd w B A l.length 8 (ocell l)) (hk : k < l.length) :
    ∃ b off t, A = some ⟨b, off, none⟩ ∧ b < B ∧ l[k]? = some t ∧ w.cell? ⟨b, off + k * 8, none⟩ = some (.int .i64 t.id) ∧ w.cell? ⟨b, off + k * 8 + 1, none⟩ = some (.int .i64 t.who) ∧ w.cell? ⟨b, off + k * 8 + 2, none⟩ = some (.int .i64 t.side) ∧ w.cell? ⟨b, off + k * 8 + 3, none⟩ = some (.int .i64 t.kind) ∧ w.cell? ⟨b, off + k * 8 + 4, none⟩ = some (.int .i64 t.price) ∧ w.cell? ⟨b, off + k * 8 + 5, none⟩ = some (.int .i64 t.qty) ∧ w.cell? ⟨b, off + k * 8 + 6, none⟩ = some (.int .i64 t.show_) ∧ w.cell? ⟨b, off + k * 8 + 7, none⟩ = some (.int .i64 t.stop) := by
  obtain ⟨b, off, e, hb, hc⟩ := hr (by omega)
  have hg : l.getD k ord0 = l[k] := by simp [hk]
  have h := hc k hk
  have h0 := h 0 (by omega); have h1 := h 1 (by omega); have h2 := h 2 (by omega); have h3 := h 3 (by omega); have h4 := h 4 (by omega); have h5 := h 5 (by omega); have h6 := h 6 (by omega); have h7 := h 7 (by omega)
  simp only [ocell, hg, Order.vals] at h0 h1 h2 h3 h4 h5 h6 h7
  exact ⟨b, off, l[k], e, hb, List.getElem?_eq_getElem hk, h0, h1, h2, h3, h4, h5, h6, h7⟩
def ords (l : List Order) : List Value := l.flatMap Order.vals
theorem ords_len (l : List Order) : (ords l).length = l.length * 8 := flat_len (fun r => r.vals_len) l
theorem ords_get {l : List Order} {i j : Nat} (hi : i < l.length) (hj : j < 8) : (ords l)[i * 8 + j]? = some (ocell l i j) := by
  rw [ords, flat_get (fun r => r.vals_len) (List.getElem?_eq_getElem hi) hj]
  have hg : l.getD i ord0 = l[i] := by simp [hi]
  simp only [ocell, hg]
  rw [List.getElem?_eq_getElem (by rw [Order.vals_len]; exact hj)]
  rfl
theorem ords_one (l : List Order) : ∀ u ∈ ords l, u.oneCell' = true := flat_all (fun r u hu => r.vals_one u hu) l
theorem ords_cons (r : Order) (t : List Order) : ords (r :: t) = r.vals ++ ords t := rfl
theorem ords_app (a b : List Order) : ords (a ++ b) = ords a ++ ords b := List.flatMap_append
theorem info_ord : (Tryd.prog.info? 58).map (fun i => (i.zero, i.size, i.bytes)) = some (some (.agg #[.int .i64 0, .int .i64 0, .int .i64 0, .int .i64 0, .int .i64 0, .int .i64 0, .int .i64 0, .int .i64 0]), 8, 64) := by kernel_rfl
theorem OwnS.rdO {w : World} {base cap : Nat} {A : Option Addr} {l : List Order} (h : OwnS w base 8 A l.length cap (ords l)) : Rd w w.heap.size A l.length 8 (ocell l) := h.rd (fun i j hi hj => ords_get hi hj)
/-- where an id waits; -1: nowhere -/
def whereI (l : List Order) (id : Int) : Int := match l.findIdx? (fun r => r.id == id) with
  | some i => i
  | none => -1
theorem whereI_hit {l : List Order} {id : Int} {k : Nat} {t : Order} (h : l[k]? = some t) (ht : t.id = id) (hno : ∀ j, j < k → ∀ u, l[j]? = some u → u.id ≠ id) : whereI l id = k := by
  have hk : k < l.length := (List.getElem?_eq_some_iff.1 h).1
  have : l.findIdx? (fun r => r.id == id) = some k := by
    rw [List.findIdx?_eq_some_iff_getElem]
    refine ⟨hk, ?_, fun j hj => ?_⟩
    · rw [(List.getElem?_eq_some_iff.1 h).2]; simpa using ht
    · have := hno j hj l[j] (List.getElem?_eq_getElem (by omega))
      simpa using this
  simp [whereI, this]
theorem whereI_none {l : List Order} {id : Int} (hno : ∀ j, j < l.length → ∀ u, l[j]? = some u → u.id ≠ id) : whereI l id = -1 := by
  have : l.findIdx? (fun r => r.id == id) = none := by
    rw [List.findIdx?_eq_none_iff]
    intro x hx
    obtain ⟨j, hj⟩ := List.mem_iff_getElem?.1 hx
    have hl : j < l.length := (List.getElem?_eq_some_iff.1 hj).1
    have := hno j hl x hj
    simpa using this
  simp [whereI, this]
theorem whereI_lt {l : List Order} {id : Int} (h : whereI l id < 0) : ∀ r ∈ l, r.id ≠ id := by
  unfold whereI at h
  cases hf : l.findIdx? (fun r => r.id == id) with
  | none =>
    rw [List.findIdx?_eq_none_iff] at hf
    intro r hr e
    have := hf r hr
    simp [e] at this
  | some i => rw [hf] at h; dsimp only at h; omega
set_option maxRecDepth 20000 in
theorem clone_ords (l : List Order) (A : Option Addr) (c : Nat) (w : World) (hr : Rd w w.heap.size A l.length 8 (ocell l)) (hl : l.length ≤ 10000) (hA : A = none → l.length = 0 ∧ c = 0) :
    Calls Tryd.prog 75 #[.slice A l.length c] w (ClonePost 8 l.length (ords l) w) := by
  cases A with
  | none =>
    obtain ⟨h0, rfl⟩ := hA rfl
    obtain rfl := List.eq_nil_of_length_eq_zero h0
    clear hr hA
    have hn := fun (w : World) (c : Nat) => Lib.run_eql_slice_nil (P := Tryd.prog) w 52 58 none 0 c 0 0 Tryd.underlying52
    go_enter Tryd.func75, Tryd.ntmps75
    go_wp2
    go_ret
    exact ⟨none, 0, rfl, OwnS.nil _ _ _ _, Below.refl _ _, fun _ => rfl⟩
  | some a =>
    obtain ⟨i0, hi, hz0, hz1, hz2⟩ := info_parts info_ord
    have HI := Lib.hid hi; have H0 := Lib.hid hz0; have H1 := Lib.hid hz1; have H2 := Lib.hid hz2; clear hi hz0 hz1 hz2 hA
    have HR := Lib.hid hr; clear hr
    have hn := fun (w : World) (n c : Nat) => Lib.run_eql_slice_nil (P := Tryd.prog) w 52 58 (some a) n c 0 0 Tryd.underlying52
    go_enter Tryd.func75, Tryd.ntmps75
    go_wp2_with (at_builtin; go_loud (refine wpList_append_S (base := w.heap.size) (s := 8) (n := 0) (cap := 0) (xs := []) rfl _ _ _ _ rfl 58 i0 _ 64 Tryd.underlying52 HI.out H0.out H1.out H2.out rfl rfl (OwnS.nil _ _ _ _) (by simp) _ rfl l.length (ords l) (src_rd (HR.out.below ((Below.refl _ _).alloc (Nat.le_refl _) _)) Tryd.underlying52 (ords_len l) (fun i j hi hj => ords_get hi hj) (ords_one l) (fun h => by cases h)) (by unfold maxLen; omega) (by omega) ?_); intro A' cap' w' gr)
    go_ret
    refine ⟨A', cap', by simp, by simpa using gr.own, Below.grown (((Below.refl _ _).alloc (Nat.le_refl _) _)) gr.grown (by simp) (fun k hk => by simp [rowOf] at hk), fun h => ?_⟩
    rcases Nat.eq_zero_or_pos cap' with h0 | h0
    · exact h0
    · obtain ⟨g, off, e, _⟩ := gr.own.lies h0
      rw [h] at e; cases e
theorem wfind_fn (o : Order) (id : Int) (p : Addr) (w : World) (hp : w.cell? p = some (.int .i64 id)) :
    Calls Tryd.prog 100 #[.agg #[.int .i64 o.id, .int .i64 o.who, .int .i64 o.side, .int .i64 o.kind, .int .i64 o.price, .int .i64 o.qty, .int .i64 o.show_, .int .i64 o.stop], .pointer (some p)] w fun e w' => e = .returned (.bool (o.id == id)) ∧ w' = w.alloc (.cells #[.int .i64 o.id, .int .i64 o.who, .int .i64 o.side, .int .i64 o.kind, .int .i64 o.price, .int .i64 o.qty, .int .i64 o.show_, .int .i64 o.stop] 58) := by
  have hp2 : (w.alloc (.cells #[.int .i64 o.id, .int .i64 o.who, .int .i64 o.side, .int .i64 o.kind, .int .i64 o.price, .int .i64 o.qty, .int .i64 o.show_, .int .i64 o.stop] 58)).cell? p = some (.int .i64 id) := cell_alloc hp _
  go_enter Tryd.func100, Tryd.ntmps100
  go_wp2
  go_ret
  exact ⟨rfl, rfl⟩
def WherePost (l : List Order) (id : Int) (w : World) (e : Ending) (w' : World) : Prop := e = .returned (.int .i64 (whereI l id)) ∧ Below w.heap.size w w'
theorem windex_any (l : List Order) (A : Option Addr) (c : Nat) (id : Int) (g : Nat) (w : World) (hr : Rd w w.heap.size A l.length 8 (ocell l)) (hp : w.cell? ⟨g, 0, none⟩ = some (.int .i64 id)) (hl : l.length ≤ 100) :
    Calls Tryd.prog 99 #[.slice A l.length c, .func (Fn.func 100) #[] #[.pointer (some ⟨g, 0, none⟩)]] w (WherePost l id w) := by
  go_enter Tryd.func99, Tryd.ntmps99
  go_wp2
  go_loopw [8] (fun i wr => ∃ k : Nat, k ≤ l.length ∧ i = .int .i64 k ∧ Below w.heap.size w wr ∧ Hid (∀ j, j < k → ∀ u, l[j]? = some u → u.id ≠ id)) (fun i _ => l.length - (intOf i).toNat)
  case atStart => exact ⟨0, by omega, rfl, Below.refl _ _, fun j hj => absurd hj (by omega)⟩
  case round =>
    obtain ⟨k, hk, rfl, hb, hno⟩ := hrel
    by_cases hlt : k < l.length
    · obtain ⟨b, off, t, rfl, hbl, ht, e0, e1, e2, e3, e4, e5, e6, e7⟩ := ord_at (hr.below hb) hlt
      have HT := Lib.hid ht; clear ht hr
      have hp2 : wr.cell? ⟨g, 0, none⟩ = some (.int .i64 id) := (hb.cell (p := ⟨g, 0, none⟩) (World.block_lt_of_cell? w _ hp)).trans hp
      have cF := wfind_fn t id ⟨g, 0, none⟩ wr hp2
      clear hp hp2
      by_cases h : t.id = id
      · have e : (t.id == id) = true := by simpa using h
        rw [e] at cF
        have H := Lib.hid h; clear h e
        go_wp2_with (go_at_call 100; refine cF.mono ?_; rintro e w' ⟨rfl, rfl⟩)
        go_ret
        exact ⟨by rw [whereI_hit HT.out H.out hno]; rfl, hb.alloc hb.size _⟩
      · have e : (t.id == id) = false := by simpa using h
        rw [e] at cF
        have H := Lib.hid h; clear h e
        go_wp2_with (go_at_call 100; refine cF.mono ?_; rintro e w' ⟨rfl, rfl⟩)
        go_roundw
        case rel =>
          refine ⟨k + 1, by omega, by go_num, hb.alloc hb.size _, fun j hj u hu => ?_⟩
          by_cases hjk : j < k
          · exact hno j hjk u hu
          · obtain rfl : j = k := by omega
            rw [HT.out] at hu
            cases hu
            exact H.out
        case measure => simp [intOf]; omega
    · obtain rfl : k = l.length := by omega
      go_wp2
      go_ret
      exact ⟨by rw [whereI_none hno]; rfl, hb⟩
/-- stops that wait: block g holds the slice of them -/
structure StM (w : World) (g base : Nat) (A : Option Addr) (c : Nat) (l : List Order) : Prop where
  b : Bk w g 121 #[.slice A l.length c]
  own : OwnS w base 8 A l.length c (ords l)
  apart : g < base ∨ rowOf A c ≠ some g
  z : A = none → c = 0
theorem StM.below {w w' : World} {g base c : Nat} {A : Option Addr} {l : List Order} (h : StM w g base A c l) (hb : Below w.heap.size w w') : StM w' g base A c l := ⟨h.b.keep hb, h.own.below hb, h.apart, h.z⟩
set_option maxRecDepth 20000 in
theorem wwhere_any (l : List Order) (g base : Nat) (A : Option Addr) (c : Nat) (id : Int) (w : World) (h : StM w g base A c l) (hl : l.length ≤ 100) :
    Calls Tryd.prog 68 #[.pointer (some ⟨g, 0, none⟩), .int .i64 id] w (WherePost l id w) := by
  have hR := h.own.rdO
  have hc := (h.b.alloc (.cells #[.int .i64 id] 3)).cell 0
  have c0 : (w.alloc (.cells #[.int .i64 id] 3)).cell? ⟨g, 0, none⟩ = some (.slice A l.length c) := by simpa using hc
  have c1 : (w.alloc (.cells #[.int .i64 id] 3)).cell? ⟨w.heap.size, 0, none⟩ = some (.int .i64 id) := by simpa using (Bk.new w 3 #[.int .i64 id]).cell 0
  have hb : Below w.heap.size w (w.alloc (.cells #[.int .i64 id] 3)) := (Below.refl _ _).alloc (Nat.le_refl _) _
  have cI := Lib.hid (windex_any l A c id w.heap.size _ ((hR.below hb).more hb.size) c1 hl)
  clear h hR hc c1
  go_enter Tryd.func68, Tryd.ntmps68
  go_upto_region 1 with fail
  generalize w.alloc (.cells #[.int .i64 id] 3) = w1 at *
  go_wp2_with fail
  go_at_call 99
  refine cI.out.mono ?_
  rintro e w2 ⟨rfl, hb2⟩
  have hbw := below_then hb2 hb
  clear cI hb hb2 c0
  go_wp2
  go_ret
  exact ⟨rfl, hbw⟩
end Go.Proofs.YtiaofbkhnodbhaaDoor
