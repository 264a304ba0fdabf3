/- Slices of orders: what they read; a copy of one; where an id is. Blocks that stay but for some. Any number of cells of a block at once (World.setCells: what the store of a struct by wpList_store_mid leaves). Any number of cells of a block at once: what else stands. The contract of slices.Delete over orders: one taken out. The contracts of wake.New, Put, All. The contracts of wake.Drop, Copy. A stable sort by insertion: plain; and what the kit's insertion sort over an array comes to. The library's stable sort over at most twenty orders: what it leaves. The library's stable sort over at most twenty orders. Who wakes first: the comparison that the stops are sorted by. The contract of wake.Wake. Who wakes waits no more: plain. -/
import Derived.Test.YtkdgpdijbobmkaaGreatGrpA
import Derived.Test.YtkdgpdijbobmkaaGreatGrpD
import Derived.Test.YtkdgpdijbobmkaaGreatGrpH
import Derived.Deep.DeepCutAuto
import Derived.Deep.MidRow
import Derived.Test.YtkdgpdijbobmkaaGreatGrpC
import Derived.Deep.RegionHeld3
import Derived.Shelf.SlSortCmp.InsertionK
import Derived.StillTailTactics
import Derived.Test.YtkdgpdijbobmkaaGreatGrpE
namespace Go.Proofs.YtkdgpdijbobmkaaGreat
set_option linter.all false
open Go Go.RowKit
def Order.vals (o : Order) : List Value := [.int .i64 o.id, .int .i64 o.who, .int .i64 o.side, .int .i64 o.kind, .int .i64 o.price, .int .i64 o.qty, .int .i64 o.show_, .int .i64 o.stop]
theorem Order.vals_len (o : Order) : o.vals.length = 8 := rfl
theorem Order.vals_one (o : Order) : ∀ u ∈ o.vals, u.oneCell' = true := by
  intro u hu
  simp only [Order.vals, List.mem_cons, List.not_mem_nil, or_false] at hu
  rcases hu with rfl | rfl | rfl | rfl | rfl | rfl | rfl | rfl <;> rfl
theorem obox {w' : World} {v0 v1 v2 v3 v4 v5 v6 v7 : Value} {g : Nat} {t : TypeId} (h : Bk w' g t #[v0, v1, v2, v3, v4, v5, v6, v7]) : w'.cell? ⟨g, 0, none⟩ = some v0 ∧ w'.cell? ⟨g, 1, none⟩ = some v1 ∧ w'.cell? ⟨g, 2, none⟩ = some v2 ∧ w'.cell? ⟨g, 3, none⟩ = some v3 ∧ w'.cell? ⟨g, 4, none⟩ = some v4 ∧ w'.cell? ⟨g, 5, none⟩ = some v5 ∧ w'.cell? ⟨g, 6, none⟩ = some v6 ∧ w'.cell? ⟨g, 7, none⟩ = some v7 := ⟨h.cell 0, h.cell 1, h.cell 2, h.cell 3, h.cell 4, h.cell 5, h.cell 6, h.cell 7⟩
theorem pair2 {w' : World} {v0 v1 : Value} {g : Nat} {t : TypeId} (h : Bk w' g t #[v0, v1]) : w'.cell? ⟨g, 0, none⟩ = some v0 ∧ w'.cell? ⟨g, 1, none⟩ = some v1 := ⟨h.cell 0, h.cell 1⟩
/-- cell j of order i -/
def ocell (l : List Order) (i j : Nat) : Value := ((l.getD i ord0).vals)[j]?.getD undef
theorem ord_at {l : List Order} {w : World} {B k : Nat} {A : Option Addr} (hr : Rd w B A l.length 8 (ocell l)) (hk : k < l.length) :
    ∃ b off t, A = some ⟨b, off, none⟩ ∧ b < B ∧ l[k]? = some t ∧ w.cell? ⟨b, off + k * 8, none⟩ = some (.int .i64 t.id) ∧ w.cell? ⟨b, off + k * 8 + 1, none⟩ = some (.int .i64 t.who) ∧ w.cell? ⟨b, off + k * 8 + 2, none⟩ = some (.int .i64 t.side) ∧ w.cell? ⟨b, off + k * 8 + 3, none⟩ = some (.int .i64 t.kind) ∧ w.cell? ⟨b, off + k * 8 + 4, none⟩ = some (.int .i64 t.price) ∧ w.cell? ⟨b, off + k * 8 + 5, none⟩ = some (.int .i64 t.qty) ∧ w.cell? ⟨b, off + k * 8 + 6, none⟩ = some (.int .i64 t.show_) ∧ w.cell? ⟨b, off + k * 8 + 7, none⟩ = some (.int .i64 t.stop) := by
  obtain ⟨b, off, e, hb, hc⟩ := hr (by omega)
  have hg : l.getD k ord0 = l[k] := by simp [hk]
  have h := hc k hk
  have h0 := h 0 (by omega); have h1 := h 1 (by omega); have h2 := h 2 (by omega); have h3 := h 3 (by omega); have h4 := h 4 (by omega); have h5 := h 5 (by omega); have h6 := h 6 (by omega); have h7 := h 7 (by omega)
  simp only [ocell, hg, Order.vals] at h0 h1 h2 h3 h4 h5 h6 h7
  exact ⟨b, off, l[k], e, hb, List.getElem?_eq_getElem hk, h0, h1, h2, h3, h4, h5, h6, h7⟩
def ords (l : List Order) : List Value := l.flatMap Order.vals
theorem ords_len (l : List Order) : (ords l).length = l.length * 8 := flat_len (fun r => r.vals_len) l
theorem ords_get {l : List Order} {i j : Nat} (hi : i < l.length) (hj : j < 8) : (ords l)[i * 8 + j]? = some (ocell l i j) := by
  rw [ords, flat_get (fun r => r.vals_len) (List.getElem?_eq_getElem hi) hj]
  have hg : l.getD i ord0 = l[i] := by simp [hi]
  simp only [ocell, hg]
  rw [List.getElem?_eq_getElem (by rw [Order.vals_len]; exact hj)]
  rfl
theorem ords_one (l : List Order) : ∀ u ∈ ords l, u.oneCell' = true := flat_all (fun r u hu => r.vals_one u hu) l
theorem ords_cons (r : Order) (t : List Order) : ords (r :: t) = r.vals ++ ords t := rfl
theorem ords_app (a b : List Order) : ords (a ++ b) = ords a ++ ords b := List.flatMap_append
theorem info_ord : (Tryz.prog.info? 31).map (fun i => (i.zero, i.size, i.bytes)) = some (some (.agg #[.int .i64 0, .int .i64 0, .int .i64 0, .int .i64 0, .int .i64 0, .int .i64 0, .int .i64 0, .int .i64 0]), 8, 64) := by kernel_rfl
theorem OwnS.rdO {w : World} {base cap : Nat} {A : Option Addr} {l : List Order} (h : OwnS w base 8 A l.length cap (ords l)) : Rd w w.heap.size A l.length 8 (ocell l) := h.rd (fun i j hi hj => ords_get hi hj)
/-- where an id waits; -1: nowhere -/
def whereI (l : List Order) (id : Int) : Int := match l.findIdx? (fun r => r.id == id) with
  | some i => i
  | none => -1
theorem whereI_hit {l : List Order} {id : Int} {k : Nat} {t : Order} (h : l[k]? = some t) (ht : t.id = id) (hno : ∀ j, j < k → ∀ u, l[j]? = some u → u.id ≠ id) : whereI l id = k := by
  have hk : k < l.length := (List.getElem?_eq_some_iff.1 h).1
  have : l.findIdx? (fun r => r.id == id) = some k := by
    rw [List.findIdx?_eq_some_iff_getElem]
    refine ⟨hk, ?_, fun j hj => ?_⟩
    · rw [(List.getElem?_eq_some_iff.1 h).2]; simpa using ht
    · have := hno j hj l[j] (List.getElem?_eq_getElem (by omega))
      simpa using this
  simp [whereI, this]
theorem whereI_none {l : List Order} {id : Int} (hno : ∀ j, j < l.length → ∀ u, l[j]? = some u → u.id ≠ id) : whereI l id = -1 := by
  have : l.findIdx? (fun r => r.id == id) = none := by
    rw [List.findIdx?_eq_none_iff]
    intro x hx
    obtain ⟨j, hj⟩ := List.mem_iff_getElem?.1 hx
    have hl : j < l.length := (List.getElem?_eq_some_iff.1 hj).1
    have := hno j hl x hj
    simpa using this
  simp [whereI, this]
theorem whereI_lt {l : List Order} {id : Int} (h : whereI l id < 0) : ∀ r ∈ l, r.id ≠ id := by
  unfold whereI at h
  cases hf : l.findIdx? (fun r => r.id == id) with
  | none =>
    rw [List.findIdx?_eq_none_iff] at hf
    intro r hr e
    have := hf r hr
    simp [e] at this
  | some i => rw [hf] at h; dsimp only at h; omega
set_option maxRecDepth 20000 in
theorem clone_ords (l : List Order) (A : Option Addr) (c : Nat) (w : World) (hr : Rd w w.heap.size A l.length 8 (ocell l)) (hl : l.length ≤ 10000) (hA : A = none → l.length = 0 ∧ c = 0) :
    Calls Tryz.prog 78 #[.slice A l.length c] w (ClonePost 8 l.length (ords l) w) := by
  cases A with
  | none =>
    obtain ⟨h0, rfl⟩ := hA rfl
    obtain rfl := List.eq_nil_of_length_eq_zero h0
    clear hr hA
    have hn := fun (w : World) (c : Nat) => Lib.run_eql_slice_nil (P := Tryz.prog) w 45 31 none 0 c 0 0 Tryz.underlying45
    go_enter Tryz.func78, Tryz.ntmps78
    go_wp2
    go_ret
    exact ⟨none, 0, rfl, OwnS.nil _ _ _ _, Below.refl _ _, fun _ => rfl⟩
  | some a =>
    obtain ⟨i0, hi, hz0, hz1, hz2⟩ := info_parts info_ord
    have HI := Lib.hid hi; have H0 := Lib.hid hz0; have H1 := Lib.hid hz1; have H2 := Lib.hid hz2; clear hi hz0 hz1 hz2 hA
    have HR := Lib.hid hr; clear hr
    have hn := fun (w : World) (n c : Nat) => Lib.run_eql_slice_nil (P := Tryz.prog) w 45 31 (some a) n c 0 0 Tryz.underlying45
    go_enter Tryz.func78, Tryz.ntmps78
    go_wp2_with (at_builtin; go_loud (refine wpList_append_S (base := w.heap.size) (s := 8) (n := 0) (cap := 0) (xs := []) rfl _ _ _ _ rfl 31 i0 _ 64 Tryz.underlying45 HI.out H0.out H1.out H2.out rfl rfl (OwnS.nil _ _ _ _) (by simp) _ rfl l.length (ords l) (src_rd (HR.out.below ((Below.refl _ _).alloc (Nat.le_refl _) _)) Tryz.underlying45 (ords_len l) (fun i j hi hj => ords_get hi hj) (ords_one l) (fun h => by cases h)) (by unfold maxLen; omega) (by omega) ?_); intro A' cap' w' gr)
    go_ret
    refine ⟨A', cap', by simp, by simpa using gr.own, Below.grown (((Below.refl _ _).alloc (Nat.le_refl _) _)) gr.grown (by simp) (fun k hk => by simp [rowOf] at hk), fun h => ?_⟩
    rcases Nat.eq_zero_or_pos cap' with h0 | h0
    · exact h0
    · obtain ⟨g, off, e, _⟩ := gr.own.lies h0
      rw [h] at e; cases e
theorem wfind_fn (o : Order) (id : Int) (p : Addr) (w : World) (hp : w.cell? p = some (.int .i64 id)) :
    Calls Tryz.prog 125 #[.agg #[.int .i64 o.id, .int .i64 o.who, .int .i64 o.side, .int .i64 o.kind, .int .i64 o.price, .int .i64 o.qty, .int .i64 o.show_, .int .i64 o.stop], .pointer (some p)] w fun e w' => e = .returned (.bool (o.id == id)) ∧ w' = w.alloc (.cells #[.int .i64 o.id, .int .i64 o.who, .int .i64 o.side, .int .i64 o.kind, .int .i64 o.price, .int .i64 o.qty, .int .i64 o.show_, .int .i64 o.stop] 31) := by
  have hp2 : (w.alloc (.cells #[.int .i64 o.id, .int .i64 o.who, .int .i64 o.side, .int .i64 o.kind, .int .i64 o.price, .int .i64 o.qty, .int .i64 o.show_, .int .i64 o.stop] 31)).cell? p = some (.int .i64 id) := cell_alloc hp _
  go_enter Tryz.func125, Tryz.ntmps125
  go_wp2
  go_ret
  exact ⟨rfl, rfl⟩
def WherePost (l : List Order) (id : Int) (w : World) (e : Ending) (w' : World) : Prop := e = .returned (.int .i64 (whereI l id)) ∧ Below w.heap.size w w'
theorem windex_any (l : List Order) (A : Option Addr) (c : Nat) (id : Int) (g : Nat) (w : World) (hr : Rd w w.heap.size A l.length 8 (ocell l)) (hp : w.cell? ⟨g, 0, none⟩ = some (.int .i64 id)) (hl : l.length ≤ 100) :
    Calls Tryz.prog 124 #[.slice A l.length c, .func (Fn.func 125) #[] #[.pointer (some ⟨g, 0, none⟩)]] w (WherePost l id w) := by
  go_enter Tryz.func124, Tryz.ntmps124
  go_wp2
  go_loopw [8] (fun i wr => ∃ k : Nat, k ≤ l.length ∧ i = .int .i64 k ∧ Below w.heap.size w wr ∧ Hid (∀ j, j < k → ∀ u, l[j]? = some u → u.id ≠ id)) (fun i _ => l.length - (intOf i).toNat)
  case atStart => exact ⟨0, by omega, rfl, Below.refl _ _, fun j hj => absurd hj (by omega)⟩
  case round =>
    obtain ⟨k, hk, rfl, hb, hno⟩ := hrel
    by_cases hlt : k < l.length
    · obtain ⟨b, off, t, rfl, hbl, ht, e0, e1, e2, e3, e4, e5, e6, e7⟩ := ord_at (hr.below hb) hlt
      have HT := Lib.hid ht; clear ht hr
      have hp2 : wr.cell? ⟨g, 0, none⟩ = some (.int .i64 id) := (hb.cell (p := ⟨g, 0, none⟩) (World.block_lt_of_cell? w _ hp)).trans hp
      have cF := wfind_fn t id ⟨g, 0, none⟩ wr hp2
      clear hp hp2
      by_cases h : t.id = id
      · have e : (t.id == id) = true := by simpa using h
        rw [e] at cF
        have H := Lib.hid h; clear h e
        go_wp2_with (go_at_call 125; refine cF.mono ?_; rintro e w' ⟨rfl, rfl⟩)
        go_ret
        exact ⟨by rw [whereI_hit HT.out H.out hno]; rfl, hb.alloc hb.size _⟩
      · have e : (t.id == id) = false := by simpa using h
        rw [e] at cF
        have H := Lib.hid h; clear h e
        go_wp2_with (go_at_call 125; refine cF.mono ?_; rintro e w' ⟨rfl, rfl⟩)
        go_roundw
        case rel =>
          refine ⟨k + 1, by omega, by go_num, hb.alloc hb.size _, fun j hj u hu => ?_⟩
          by_cases hjk : j < k
          · exact hno j hjk u hu
          · obtain rfl : j = k := by omega
            rw [HT.out] at hu
            cases hu
            exact H.out
        case measure => simp [intOf]; omega
    · obtain rfl : k = l.length := by omega
      go_wp2
      go_ret
      exact ⟨by rw [whereI_none hno]; rfl, hb⟩
/-- stops that wait: block g holds the slice of them -/
structure StM (w : World) (g base : Nat) (A : Option Addr) (c : Nat) (l : List Order) : Prop where
  b : Bk w g 139 #[.slice A l.length c]
  own : OwnS w base 8 A l.length c (ords l)
  apart : g < base ∨ rowOf A c ≠ some g
  z : A = none → c = 0
theorem StM.below {w w' : World} {g base c : Nat} {A : Option Addr} {l : List Order} (h : StM w g base A c l) (hb : Below w.heap.size w w') : StM w' g base A c l := ⟨h.b.keep hb, h.own.below hb, h.apart, h.z⟩
set_option maxRecDepth 20000 in
theorem wwhere_any (l : List Order) (g base : Nat) (A : Option Addr) (c : Nat) (id : Int) (w : World) (h : StM w g base A c l) (hl : l.length ≤ 100) :
    Calls Tryz.prog 94 #[.pointer (some ⟨g, 0, none⟩), .int .i64 id] w (WherePost l id w) := by
  have hR := h.own.rdO
  have hc := (h.b.alloc (.cells #[.int .i64 id] 3)).cell 0
  have c0 : (w.alloc (.cells #[.int .i64 id] 3)).cell? ⟨g, 0, none⟩ = some (.slice A l.length c) := by simpa using hc
  have c1 : (w.alloc (.cells #[.int .i64 id] 3)).cell? ⟨w.heap.size, 0, none⟩ = some (.int .i64 id) := by simpa using (Bk.new w 3 #[.int .i64 id]).cell 0
  have hb : Below w.heap.size w (w.alloc (.cells #[.int .i64 id] 3)) := (Below.refl _ _).alloc (Nat.le_refl _) _
  have cI := Lib.hid (windex_any l A c id w.heap.size _ ((hR.below hb).more hb.size) c1 hl)
  clear h hR hc c1
  go_enter Tryz.func94, Tryz.ntmps94
  go_upto_region 1 with fail
  generalize w.alloc (.cells #[.int .i64 id] 3) = w1 at *
  go_wp2_with fail
  go_at_call 124
  refine cI.out.mono ?_
  rintro e w2 ⟨rfl, hb2⟩
  have hbw := below_then hb2 hb
  clear cI hb hb2 c0
  go_wp2
  go_ret
  exact ⟨rfl, hbw⟩
end Go.Proofs.YtkdgpdijbobmkaaGreat
namespace Go.Proofs.YtkdgpdijbobmkaaGreat
set_option linter.all false
open Go Go.RowKit
structure Kb (rs : List (Option Nat)) (w w' : World) : Prop where
  os : w'.os = w.os
  tape : w'.tape = w.tape
  output : w'.output = w.output
  size : w.heap.size ≤ w'.heap.size
  block : ∀ b, b < w.heap.size → some b ∉ rs → w'.heap[b]? = w.heap[b]?
section
variable {rs : List (Option Nat)} {w w1 w2 : World}
theorem Kb.refl (rs : List (Option Nat)) (w : World) : Kb rs w w := ⟨rfl, rfl, rfl, Nat.le_refl _, fun _ _ _ => rfl⟩
theorem Kb.grown {row : Option Nat} (h : Kb rs w w1) (hg : w1.grownBy w2 row) (hr : row ∈ rs ∨ row = none ∨ ∃ k, row = some k ∧ w.heap.size ≤ k) : Kb rs w w2 := by
  refine ⟨hg.os.trans h.os, hg.tape.trans h.tape, hg.output.trans h.output, Nat.le_trans h.size hg.size, fun b hb hn => ?_⟩
  rw [hg.block b (Nat.lt_of_lt_of_le hb h.size) (fun e => ?_), h.block b hb hn]
  rcases hr with hr | rfl | ⟨k, rfl, hk⟩
  · exact hn (e ▸ hr)
  · cases e
  · cases e; omega
theorem Kb.below (h : Kb rs w w1) (hb : Below w1.heap.size w1 w2) : Kb rs w w2 := h.grown (grown_of_below hb none) (.inr (.inl rfl))
theorem Kb.of_below (hb : Below w.heap.size w w1) : Kb rs w w1 := (Kb.refl rs w).below hb
theorem Kb.set {p : Addr} (h : Kb rs w w1) (hp : some p.block ∈ rs ∨ w.heap.size ≤ p.block) (v : Value) : Kb rs w (w1.setCell p v) :=
  h.grown (grown_set w1 p v) (by rcases hp with hp | hp; exact .inl hp; exact .inr (.inr ⟨_, rfl, hp⟩))
theorem Kb.to_below {lo : Nat} (h : Kb rs w w1) (hlo : lo ≤ w.heap.size) (hr : ∀ k, some k ∈ rs → lo ≤ k) : Below lo w w1 :=
  ⟨h.os, h.tape, h.output, h.size, fun i hi => h.block i (by omega) (fun e => by have := hr i e; omega)⟩
theorem Kb.bk {b : Nat} {t : TypeId} {cs : Array Value} (h : Kb rs w w1) (hb : Bk w b t cs) (hn : some b ∉ rs) : Bk w1 b t cs := (h.block b hb.lt hn).trans hb
theorem Kb.own {base s n cap : Nat} {A : Option Addr} {xs : List Value} (h : Kb rs w w1) (o : OwnS w base s A n cap xs) (hn : rowOf A cap = none ∨ rowOf A cap ∉ rs) : OwnS w1 base s A n cap xs := by
  refine ⟨o.len, o.le, o.max, fun hc => ?_⟩
  obtain ⟨g, off, e, hb, hl, h1, h2⟩ := o.lies hc
  have hr : rowOf A cap = some g := by rw [rowOf, if_neg (by omega), e]; rfl
  have hblk := h.block g hl (by
    rcases hn with hn | hn
    · rw [hr] at hn; cases hn
    · rw [hr] at hn; exact hn)
  refine ⟨g, off, e, hb, Nat.lt_of_lt_of_le hl h.size, fun j hj => ?_, fun j hj => ⟨?_, ?_⟩⟩
  · exact (World.cell?_of_block (a := ⟨g, off + j, none⟩) hblk).trans (h1 j hj)
  · exact (congrArg Option.isSome (World.cell?_of_block (a := ⟨g, off + j, none⟩) hblk)).trans (h2 j hj).1
  · exact (World.frozen?_of_block (a := ⟨g, off + j, none⟩) hblk).trans (h2 j hj).2
theorem Kb.trans {qs : List (Option Nat)} (h : Kb rs w w1) (h2 : Kb qs w1 w2) (hq : ∀ k, some k ∈ qs → some k ∈ rs ∨ w.heap.size ≤ k) : Kb rs w w2 := by
  refine ⟨h2.os.trans h.os, h2.tape.trans h.tape, h2.output.trans h.output, Nat.le_trans h.size h2.size, fun b hb hn => ?_⟩
  rw [h2.block b (Nat.lt_of_lt_of_le hb h.size) (fun e => ?_), h.block b hb hn]
  rcases hq b e with h3 | h3
  · exact hn h3
  · omega
end
end Go.Proofs.YtkdgpdijbobmkaaGreat
namespace Go.Proofs.YtkdgpdijbobmkaaGreat
set_option linter.all false
open Go Go.RowKit
/-- cells of an array, from i on, put anew -/
def putN (cs : Array Value) : Nat → List Value → Array Value
  | _, [] => cs
  | i, v :: vs => putN (cs.setIfInBounds i v) (i + 1) vs
theorem putN_all : ∀ (vs : List Value) (i : Nat) (cs : Array Value), i + vs.length = cs.size → putN cs i vs = (cs.toList.take i ++ vs).toArray
  | [], i, cs, h => by
    show cs = _
    rw [List.append_nil, List.take_of_length_le (by simp at h; simp; omega)]
  | v :: vs, i, cs, h => by
    simp only [List.length_cons] at h
    show putN (cs.setIfInBounds i v) (i + 1) vs = _
    rw [putN_all vs (i + 1) _ (by simp; omega)]
    congr 1
    have hi : i < cs.toList.length := by simp; omega
    rw [Array.toList_setIfInBounds, List.take_add_one, List.take_set_of_le (Nat.le_refl _), List.getElem?_set_self hi]
    simp
section
variable {g k : Nat} {t : TypeId}
theorem Bk.setP : ∀ {vs : List Value} {i : Nat} {w : World} {cs : Array Value}, Bk w g t cs → Bk (w.setCells g i vs) g t (putN cs i vs)
  | [], _, _, _, h => h
  | v :: vs, i, w, cs, h => (h.set_ i v).setP
/-- all cells of a block -/
theorem Bk.setCs {vs : List Value} {w : World} {cs : Array Value} (h : Bk w g t cs) (hl : vs.length = cs.size) : Bk (w.setCells g 0 vs) g t vs.toArray := by
  have := h.setP (vs := vs) (i := 0)
  rw [putN_all vs 0 cs (by omega)] at this
  simpa using this
theorem Bk.farCs {cs : Array Value} (hg : k ≠ g) : ∀ {vs : List Value} {i : Nat} {w : World}, Bk w k t cs → Bk (w.setCells g i vs) k t cs
  | [], _, _, h => h
  | v :: vs, i, w, h => by have := Bk.farCs hg (vs := vs) (i := i + 1) (h.far (p := ⟨g, i, none⟩) hg v); exact this
theorem below_Cs {w : World} {lo : Nat} (hg : lo ≤ g) : ∀ {vs : List Value} {i : Nat} {w1 : World}, Below lo w w1 → Below lo w (w1.setCells g i vs)
  | [], _, _, h => h
  | v :: vs, i, _, h => by have := below_Cs hg (vs := vs) (i := i + 1) (h.setCell (p := ⟨g, i, none⟩) hg v); exact this
theorem Bk.there {w : World} {cs : Array Value} (h : Bk w g t cs) : w.there g 0 cs.size := fun j hj => by
  rw [Nat.zero_add]
  exact ⟨by rw [h.cell, Array.getElem?_eq_getElem hj]; rfl, h.free j⟩
theorem Bk.there_at {w : World} {cs : Array Value} (h : Bk w g t cs) {o n : Nat} (ho : o + n ≤ cs.size) : w.there g o n := fun j hj => by
  exact ⟨by rw [h.cell, Array.getElem?_eq_getElem (by omega)]; rfl, h.free _⟩
theorem Bk.range {w : World} {cs : Array Value} (h : Bk w g t cs) : w.rangeAt g 0 cs.toList := fun j v hv => by
  rw [Nat.zero_add, h.cell, ← hv, Array.getElem?_toList]
end
/-- two results: a variable that lies in memory, and a slot -/
theorem results_ct {P : Program} {fn : Func} {tmps : Array Value} {c d : Nat} {t : TypeId} {w : World} {p : Addr} {v u : Value} (hf : fn.results = #[.cell c t, .tmp d]) (hc : tmps.getD c undef = .pointer (some p)) (hd : tmps.getD d undef = u) (hl : (loadVar t p).run P w = .ok v w) : (results fn tmps).run P w = .ok (.tuple #[v, u]) w := by
  have hc' : tmps[c]?.getD undef = .pointer (some p) := by rw [← hc, Array.getD_eq_getD_getElem?]
  have hd' : tmps[d]?.getD undef = u := by rw [← hd, Array.getD_eq_getD_getElem?]
  unfold results
  rw [hf]
  generalize loadVar = F at hl ⊢
  simp [hc', hd', hl, asAddr, go_sem]
end Go.Proofs.YtkdgpdijbobmkaaGreat
namespace Go.Proofs.YtkdgpdijbobmkaaGreat
set_option linter.all false
open Go Go.RowKit
section
variable {g : Nat}
theorem grown_Cs : ∀ {vs : List Value} {i : Nat} {w : World}, w.grownBy (w.setCells g i vs) (some g)
  | [], _, w => grown_refl w _
  | v :: vs, i, w => (grown_set w ⟨g, i, none⟩ v).trans grown_Cs
end
end Go.Proofs.YtkdgpdijbobmkaaGreat
namespace Go.Proofs.YtkdgpdijbobmkaaGreat
set_option linter.all false
open Go Go.RowKit
theorem ords_take (l : List Order) (i : Nat) : ords (l.take i) = (ords l).take (i * 8) := by
  induction l generalizing i with
  | nil => simp [ords]
  | cons r t ih =>
    cases i with
    | zero => simp [ords]
    | succ i =>
      rw [List.take_succ_cons, ords_cons, ords_cons, ih, show (i + 1) * 8 = r.vals.length + i * 8 by rw [Order.vals_len]; omega, List.take_length_add_append]
theorem ords_drop (l : List Order) (i : Nat) : ords (l.drop i) = (ords l).drop (i * 8) := by
  induction l generalizing i with
  | nil => simp [ords]
  | cons r t ih =>
    cases i with
    | zero => simp
    | succ i =>
      rw [List.drop_succ_cons, ords_cons, ih, show (i + 1) * 8 = r.vals.length + i * 8 by rw [Order.vals_len]; omega, List.drop_length_add_append]
theorem ords_erase (l : List Order) (i : Nat) : ords (l.eraseIdx i) = (ords l).take (i * 8) ++ (ords l).drop ((i + 1) * 8) := by
  rw [List.eraseIdx_eq_take_drop_succ, ords_app, ords_take, ords_drop]
theorem zero_ord (w : World) : (zeroValue 31).run Tryz.prog w = .ok (.agg #[.int .i64 0, .int .i64 0, .int .i64 0, .int .i64 0, .int .i64 0, .int .i64 0, .int .i64 0, .int .i64 0]) w := by kernel_rfl
/-- how Delete ends -/
def DelOPost (l : List Order) (i : Nat) (A : Option Addr) (c base : Nat) (w : World) (e : Ending) (w' : World) : Prop :=
  e = .returned (.slice A (l.eraseIdx i).length c) ∧ OwnS w' base 8 A (l.eraseIdx i).length c (ords (l.eraseIdx i)) ∧ w.grownBy w' (rowOf A c)
set_option maxRecDepth 100000 in
set_option maxHeartbeats 1000000 in
theorem delete_ords (l : List Order) (A : Option Addr) (c base i m : Nat) (w : World) (h : OwnS w base 8 A l.length c (ords l)) (hi : l.length = i + 1 + m) (hl : l.length ≤ 100) :
    Calls Tryz.prog 127 #[.slice A l.length c, .int .i64 i, .int .i64 (i + 1)] w (DelOPost l i A c base w) := by
  have hle := h.le
  have hmx := h.max
  unfold maxLen at hmx
  obtain ⟨g, off, rfl, hb, hlt, h1, h2⟩ := h.cell (by omega)
  have hrl := ords_len l
  rw [hi] at h h1 hle hl hrl ⊢
  have hcut := Lib.hid (OwnS.cut (w := w.drew) (s := 8) (n := i + m) (i := i) (zs := [.int .i64 0, .int .i64 0, .int .i64 0, .int .i64 0, .int .i64 0, .int .i64 0, .int .i64 0, .int .i64 0]) (by have := h.drew; rwa [show i + 1 + m = i + m + 1 by omega] at this) (by omega) rfl)
  obtain ⟨i0, hi0, hz0, hz1, hz2⟩ := info_parts info_ord
  have HI := Lib.hid hi0; have H1 := Lib.hid hz1
  clear hi0 hz0 hz1 hz2
  have f1 : (0 : Int) ≤ (i : Int) := by omega
  have f2 : (i : Int) ≤ (c : Int) := by omega
  have f3 : (i : Int) + 1 ≤ (c : Int) := by omega
  have f6 : (0 : Int) ≤ (i : Int) + 1 := by omega
  have f7 : (i : Int) + 1 ≤ (i : Int) + 1 + (m : Int) := by omega
  have f4 : i ≤ c := by omega
  have f5 : i + 1 ≤ c := by omega
  have e1 : ((i : Int) == (i : Int) + 1) = false := by simp; omega
  have e2 : Hid (((ords l).drop ((i + 1) * 8)).length = m * 8) := Lib.hid (by rw [List.length_drop, hrl]; omega)
  have s2 : Hid (∀ u ∈ (ords l).drop ((i + 1) * 8), u.oneCell' = true) := fun u hu => ords_one l u (List.mem_of_mem_drop hu)
  have s3 : Hid (∀ j, j < ((ords l).drop ((i + 1) * 8)).length → (w.drew.cell? ⟨g, off + i * 8 + j, none⟩).isSome = true ∧ w.drew.frozen? ⟨g, off + i * 8 + j, none⟩ = false) := by
    intro j hj
    rw [e2.out] at hj
    have := h2 (i * 8 + j) (by omega)
    rw [Nat.add_assoc]
    exact this
  have HH1 := Lib.hid h1
  have HH2 := Lib.hid h2
  have HHI := Lib.hid hi
  clear h h1 h2 hi
  generalize hnews : (ords l).drop ((i + 1) * 8) = news at *
  obtain ⟨W1, hW1⟩ : ∃ W1, W1 = w.drew.setCells g (off + i * 8) news := ⟨_, rfl⟩
  have hW := Lib.hid hW1
  clear hW1
  have hcl : ∀ ty, (Builtin.clear_ #[45] ty #[.slice (some ⟨g, off + (i + m) * 8, none⟩) 1 (c - (i + m))]).run Tryz.prog W1 = .ok (.tuple #[]) (W1.setCells g (off + (i + m) * 8) [.int .i64 0, .int .i64 0, .int .i64 0, .int .i64 0, .int .i64 0, .int .i64 0, .int .i64 0, .int .i64 0]) := by
    intro ty
    obtain ⟨g', off', e, _, _, _, h4⟩ := hcut.out.2.2.lies (by omega)
    cases e
    rw [← hW.out] at h4
    refine run_clear_one W1 _ _ ty _ Tryz.underlying45 zero_ord ord0.vals_one g _ _ (fun j hj => ?_) (fun j hj => ?_)
    all_goals
      have hj' : j < 8 := hj
      rw [Nat.add_assoc]
      first | exact (h4 ((i + m) * 8 + j) (by omega)).1 | exact (h4 ((i + m) * 8 + j) (by omega)).2
  have HCL := Lib.hid hcl
  have HE := Lib.hid (ords_erase l i)
  have HEL := Lib.hid (show (l.eraseIdx i).length = i + m by rw [List.length_eraseIdx_of_lt (by rw [HHI.out]; omega), HHI.out]; omega)
  have HN := Lib.hid hnews
  have f8 : (0 : Int) ≤ (i : Int) + (m : Int) := by omega
  have f9 : (i : Int) + (m : Int) ≤ (i : Int) + 1 + (m : Int) := by omega
  have f10 : (i : Int) + 1 + (m : Int) ≤ (c : Int) := by omega
  have f11 : i + 1 + m - (i + m) = 1 := by omega
  have f12 : ¬ c = i + m := by omega
  have f13 : i + m ≤ c := by omega
  have f14 : i + m ≤ i + 1 + m := by omega
  have f15 : i + 1 + m ≤ c := by omega
  have HF := Lib.hid f11
  clear f11 hcl
  have fin : ∀ W2, W2 = W1.setCells g (off + (i + m) * 8) [.int .i64 0, .int .i64 0, .int .i64 0, .int .i64 0, .int .i64 0, .int .i64 0, .int .i64 0, .int .i64 0] → DelOPost l i (some ⟨g, off, none⟩) c base w (.returned (.slice (some ⟨g, off, none⟩) (i + m) c)) W2 := by
    intro W2 e
    rw [hW.out] at e
    subst e
    refine ⟨by rw [HEL.out], ?_, ?_⟩
    · rw [HEL.out, HE.out, HN.out]; exact hcut.out.1
    · rw [rowOf_some (by omega)]
      have := hcut.out.2.1
      exact ⟨this.os, this.tape, this.output, this.size, this.block⟩
  have FIN := Lib.hid fin
  clear fin
  have HSRC : Hid (∀ j u, news[j]? = some u → ∀ ad : Addr, ad = ⟨g, off + (i + 1) * 8, none⟩ → w.drew.cell? (ad.add j) = some u) := by
    intro j u hu ad had
    subst had
    rw [← HN.out, List.getElem?_drop] at hu
    have hj : (i + 1) * 8 + j < (i + 1 + m) * 8 := by rw [← hrl]; exact (List.getElem?_eq_some_iff.1 hu).1
    have := HH1.out _ hj
    rw [Addr.add_lit, Nat.add_assoc]
    exact (show w.cell? _ = _ from this).trans hu
  clear hnews
  by_cases hjc : c = i + 1
  · obtain rfl : m = 0 := by omega
    subst hjc
    have f16 : (i : Int) ≤ (i : Int) + 1 := by omega
    have hsrc : Hid (∀ j u, news[j]? = some u → w.drew.cell? ((⟨g, off, none⟩ : Addr).add j) = some u) := by
      intro j u hu
      have := (List.getElem?_eq_some_iff.1 hu).1
      rw [e2.out] at this
      omega
    clear HH1 HH2
    go_enter Tryz.func127, Tryz.ntmps127
    go_wp2_with fail
    go_region_law (refine step_append_room rfl (.tmp 22) (.tmp 25) 45 rfl 31 i0 8 Tryz.underlying45 HI.out H1.out g off i (i + 1) (by simp [Act.eval, Act.put]) ⟨g, off, none⟩ 0 0 news (by simp [Act.eval, Act.put]) e2.out hsrc.out s2.out (by omega) s3.out ?_; rw [← hW.out])
    have hcl := HCL.out
    simp only [Nat.add_zero, Nat.add_sub_cancel_left] at hcl
    go_wp2
    go_ret
    exact FIN.out _ rfl
  · have hsrc : Hid (∀ j u, news[j]? = some u → w.drew.cell? ((⟨g, off + (i + 1) * 8, none⟩ : Addr).add j) = some u) := fun j u hu => HSRC.out j u hu _ rfl
    clear HH1 HH2
    go_enter Tryz.func127, Tryz.ntmps127
    go_wp2_with fail
    go_region_law (refine step_append_room rfl (.tmp 22) (.tmp 25) 45 rfl 31 i0 8 Tryz.underlying45 HI.out H1.out g off i c (by simp [Act.eval, Act.put]) ⟨g, off + (i + 1) * 8, none⟩ m (c - (i + 1)) news (by simp [Act.eval, Act.put]) e2.out hsrc.out s2.out (by omega) s3.out ?_; rw [← hW.out])
    have hcl := HCL.out
    have f11 := HF.out
    go_wp2
    go_ret
    exact FIN.out _ rfl
end Go.Proofs.YtkdgpdijbobmkaaGreat
namespace Go.Proofs.YtkdgpdijbobmkaaGreat
set_option linter.all false
open Go Go.RowKit
/-- what is wrong with an order that comes to wait -/
def waitE (l : List Order) (o : Order) : Int := if o.err ≠ 0 then o.err else if o.stop = 0 then 6 else if 0 ≤ whereI l o.id then 7 else if 20 ≤ l.length then 4 else 0
def waitL (l : List Order) (o : Order) : List Order := if waitE l o = 0 then l ++ [o] else l
theorem wnew_any (w : World) : Calls Tryz.prog 43 #[] w fun e w' => e = .returned (.pointer (some ⟨w.heap.size, 0, none⟩)) ∧ w' = w.alloc (.cells #[.slice none 0 0] 139) := by
  go_enter Tryz.func43, Tryz.ntmps43
  go_wp2
  go_ret
  exact ⟨rfl, rfl⟩
theorem StM.new (w : World) (base : Nat) : StM (w.alloc (.cells #[.slice none 0 0] 139)) w.heap.size base none 0 [] := ⟨Bk.new w _ _, OwnS.nil _ _ _ _, .inr (by simp [rowOf]), fun _ => rfl⟩
def AllPost (l : List Order) (w : World) (e : Ending) (w' : World) : Prop := ∃ A c, e = .returned (.slice A l.length c) ∧ OwnS w' w.heap.size 8 A l.length c (ords l) ∧ Below w.heap.size w w'
theorem wall_any (l : List Order) (g base : Nat) (A : Option Addr) (c : Nat) (w : World) (h : StM w g base A c l) (hl : l.length ≤ 1000) :
    Calls Tryz.prog 41 #[.pointer (some ⟨g, 0, none⟩)] w (AllPost l w) := by
  have hz := h.z
  have hn : A = none → l.length = 0 := fun e => by have := h.own.le; rw [hz e] at this; omega
  have c0 : w.cell? ⟨g, 0, none⟩ = some (.slice A l.length c) := by simpa using h.b.cell 0
  have cC := Lib.hid (clone_ords l A c w h.own.rdO (by omega) (fun e => ⟨hn e, hz e⟩))
  clear h hz hn
  go_enter Tryz.func41, Tryz.ntmps41
  go_wp2_with fail
  go_at_call 78
  refine cC.out.mono ?_
  rintro e w1 ⟨A', c', rfl, ho, hb, _⟩
  have HO := Lib.hid ho
  clear ho c0
  go_wp2
  go_ret
  exact ⟨A', c', rfl, HO.out, hb⟩
/-- how Put ends -/
def PutS (l : List Order) (o : Order) (g base : Nat) (A : Option Addr) (c : Nat) (w : World) (e : Ending) (w' : World) : Prop :=
  e = .returned (errV (waitE l o)) ∧ ∃ A' c', Hid (StM w' g base A' c' (waitL l o)) ∧ Hid (Kb [some g, rowOf A c] w w') ∧ (rowOf A' c' = rowOf A c ∨ ∀ k, rowOf A' c' = some k → w.heap.size ≤ k)
theorem putS_bad {l : List Order} {o : Order} {g base c : Nat} {A : Option Addr} {w w' : World} {k : Int} (h : StM w g base A c l) (he : waitE l o = k) (h0 : k ≠ 0) (hb : Below w.heap.size w w') : PutS l o g base A c w (.returned (er k)) w' :=
  ⟨by rw [he, errV, if_neg h0], A, c, Lib.hid (by rw [waitL, if_neg (by rw [he]; exact h0)]; exact h.below hb), Lib.hid (Kb.of_below hb), .inl rfl⟩
theorem putS_ok {l : List Order} {o : Order} {g base c c' : Nat} {A A' : Option Addr} {w w3 w6 : World} (h : StM w g base A c l) (he : waitE l o = 0) (hb : Below w.heap.size w w3) {cs : Obj} (gr : Grew (w3.alloc cs).drew base 8 A c (l.length + 1) (ords l ++ o.vals) A' c' w6) (hbw : base ≤ w.heap.size) :
    PutS l o g base A c w (.returned .nilIface) (w6.setCell ⟨g, 0, none⟩ (.slice A' (l.length + 1) c')) := by
  have hgl : g < w.heap.size := h.b.lt
  have hz3 : w.heap.size ≤ w3.heap.size := hb.size
  have hz : w.heap.size ≤ (w3.alloc cs).drew.heap.size := by simp; omega
  have hba : Below w.heap.size w (w3.alloc cs).drew := (hb.alloc hz3 cs).drew
  have hgA : some g ≠ rowOf A c := fun e => by
    rcases h.apart with h1 | h1
    · have := (h.own.row_lt g e.symm).1; omega
    · exact h1 e.symm
  have hrow : rowOf A' c' = rowOf A c ∨ ∀ k, rowOf A' c' = some k → w.heap.size ≤ k := by
    rcases gr.row with e | e
    · exact .inl e
    · exact .inr (fun k hk => by rw [e] at hk; cases hk; exact hz)
  have hgA' : rowOf A' c' ≠ some g := fun e => by
    rcases hrow with h1 | h1
    · exact hgA (e.symm.trans h1)
    · have := h1 g e; omega
  have hb6 : Bk w6 g 139 #[.slice A l.length c] := ((h.b.below hba hgl)).grown gr.grown hgA
  refine ⟨by rw [he]; rfl, A', c', Lib.hid ⟨?_, ?_, .inr hgA', ?_⟩, Lib.hid ?_, hrow⟩
  · have := hb6.set_ 0 (.slice A' (l.length + 1) c')
    rw [waitL, if_pos he]
    simpa using this
  · rw [waitL, if_pos he, ords_app, List.length_append, show ords [o] = o.vals from by simp [ords]]
    exact gr.own.far (p := ⟨g, 0, none⟩) hgA' _
  · intro e
    rcases Nat.eq_zero_or_pos c' with h0 | h0
    · exact h0
    · obtain ⟨b, off, e', _⟩ := gr.own.lies h0
      rw [e] at e'; cases e'
  · exact ((Kb.of_below hba).grown gr.grown (.inl (by simp))).set (.inl (by simp)) _
theorem cell_far0 {w : World} {p q : Addr} {v a : Value} (h : w.cell? p = some v) (hg : p.block ≠ q.block) : (w.setCell q a).cell? p = some v := by
  rw [World.cell?_setCell_other w _ _ a (fun e => hg (by rw [e]))]; exact h
set_option maxRecDepth 100000 in
set_option maxHeartbeats 4000000 in
theorem wput_any (l : List Order) (o : Order) (g base : Nat) (A : Option Addr) (c : Nat) (w : World) (h : StM w g base A c l) (hl : l.length ≤ 100) (hbw : base ≤ w.heap.size) (hgb : g < base ∨ base ≤ g) :
    Calls Tryz.prog 96 #[.pointer (some ⟨g, 0, none⟩), .agg #[.int .i64 o.id, .int .i64 o.who, .int .i64 o.side, .int .i64 o.kind, .int .i64 o.price, .int .i64 o.qty, .int .i64 o.show_, .int .i64 o.stop]] w (PutS l o g base A c w) := by
  have H := Lib.hid h
  have hgl : g < w.heap.size := h.b.lt
  have hb : Below w.heap.size w (w.alloc (.cells #[.int .i64 o.id, .int .i64 o.who, .int .i64 o.side, .int .i64 o.kind, .int .i64 o.price, .int .i64 o.qty, .int .i64 o.show_, .int .i64 o.stop] 31)) := (Below.refl _ _).alloc (Nat.le_refl _) _
  have bo := Bk.new w 31 #[.int .i64 o.id, .int .i64 o.who, .int .i64 o.side, .int .i64 o.kind, .int .i64 o.price, .int .i64 o.qty, .int .i64 o.show_, .int .i64 o.stop]
  have cC := Lib.hid (fun w => check_any o w)
  clear h
  go_enter Tryz.func96, Tryz.ntmps96
  go_upto_region 1 with fail
  generalize w.alloc (.cells #[.int .i64 o.id, .int .i64 o.who, .int .i64 o.side, .int .i64 o.kind, .int .i64 o.price, .int .i64 o.qty, .int .i64 o.show_, .int .i64 o.stop] 31) = w1 at *
  obtain ⟨o0, o1, o2, o3, o4, o5, o6, o7⟩ := obox bo
  go_wp2_with fail
  go_at_call 53
  refine (cC.out _).mono ?_
  rintro e w2 ⟨rfl, hw2⟩
  have hba : Below w1.heap.size w1 w2 := by rw [hw2]; exact (Below.refl _ _).alloc (Nat.le_refl _) _
  replace bo := bo.keep hba; replace hb := below_then hba hb
  clear hw2 hba o0 o1 o2 o3 o4 o5 o6 o7 cC
  by_cases h1 : o.err = 0
  case neg => as_aux_lemma =>
    have HE := Lib.hid (show waitE l o = o.err from if_pos h1)
    have HN := Lib.hid h1
    rw [show errV o.err = er o.err by rw [errV, if_neg h1]]
    clear h1 bo
    generalize o.err = k at *
    go_wp2
    go_ret
    exact putS_bad H.out HE.out HN.out hb
  have HE1 := Lib.hid (show waitE l o = if o.stop = 0 then 6 else if 0 ≤ whereI l o.id then 7 else if 20 ≤ l.length then 4 else 0 from if_neg (by simpa using h1))
  rw [h1, show errV 0 = .nilIface from rfl]
  clear h1
  obtain ⟨o0, o1, o2, o3, o4, o5, o6, o7⟩ := obox bo
  by_cases h2 : o.stop = 0
  · as_aux_lemma =>
    have HE := Lib.hid (show waitE l o = 6 by rw [HE1.out, if_pos h2])
    have e2 : (o.stop == 0) = true := by simpa using h2
    clear h2 bo
    go_wp2
    go_ret
    exact putS_bad H.out HE.out (by decide) hb
  have HE2 := Lib.hid (show waitE l o = if 0 ≤ whereI l o.id then 7 else if 20 ≤ l.length then 4 else 0 by rw [HE1.out, if_neg h2])
  have e2 : (o.stop == 0) = false := by simpa using h2
  have cW := Lib.hid (wwhere_any l g base A c o.id w2 (H.out.below hb) hl)
  clear h2 HE1
  go_wp2_with fail
  go_at_call 94
  refine cW.out.mono ?_
  rintro e w3 ⟨rfl, hb3⟩
  replace bo := bo.keep hb3; replace hb := below_then hb3 hb
  clear hb3 cW o0 o1 o2 o3 o4 o5 o6 o7 e2
  by_cases h3 : 0 ≤ whereI l o.id
  · as_aux_lemma =>
    have HE := Lib.hid (show waitE l o = 7 by rw [HE2.out, if_pos h3])
    clear bo
    generalize whereI l o.id = k at *
    go_wp2
    go_ret
    exact putS_bad H.out HE.out (by decide) hb
  have HE3 := Lib.hid (show waitE l o = if 20 ≤ l.length then 4 else 0 by rw [HE2.out, if_neg h3])
  have e3 : decide (whereI l o.id ≥ 0) = false := decide_eq_false h3
  clear HE2
  generalize whereI l o.id = k at *
  have st := H.out.below hb
  have c0 : w3.cell? ⟨g, 0, none⟩ = some (.slice A l.length c) := by simpa using st.b.cell 0
  have ST := Lib.hid st
  clear st
  by_cases h4 : 20 ≤ l.length
  · as_aux_lemma =>
    have HE := Lib.hid (show waitE l o = 4 by rw [HE3.out, if_pos h4])
    have e4 : decide ((l.length : Int) ≥ 20) = true := decide_eq_true (by omega)
    clear bo
    go_wp2
    go_ret
    exact putS_bad H.out HE.out (by decide) hb
  have HE := Lib.hid (show waitE l o = 0 by rw [HE3.out, if_neg h4])
  have e4 : decide ((l.length : Int) ≥ 20) = false := decide_eq_false (by omega)
  clear HE3
  go_upto_region 10 with fail
  obtain ⟨o0, o1, o2, o3, o4, o5, o6, o7⟩ := obox bo
  have f0 := ST.out.b.free 0
  obtain ⟨i0, hi, hz0, hz1, hz2⟩ := info_parts info_ord
  have HI := Lib.hid hi; have H0 := Lib.hid hz0; have H1 := Lib.hid hz1; have H2 := Lib.hid hz2; clear hi hz0 hz1 hz2
  have hgA : some g ≠ rowOf A c := fun e => by
    rcases ST.out.apart with h | h
    · have := (ST.out.own.row_lt g e.symm).1; omega
    · exact h e.symm
  have hoA : some w.heap.size ≠ rowOf A c := fun e => by have := (H.out.own.row_lt _ e.symm).2; omega
  have hgo : g ≠ w.heap.size := by omega
  have hgz : base ≤ w3.heap.size := by have := hb.size; omega
  have BO := Lib.hid bo
  have d0 := cell_drew c0
  have a0 := cell_alloc c0 (.cells #[.int .i64 o.id, .int .i64 o.who, .int .i64 o.side, .int .i64 o.kind, .int .i64 o.price, .int .i64 o.qty, .int .i64 o.show_, .int .i64 o.stop] 31)
  refine wp_region_noPanic ?_
  refine wp_region_held_drew (S := (fun w' => w'.cell? ⟨w.heap.size, 0, none⟩ = some (.int .i64 o.id) ∧ w'.cell? ⟨w.heap.size, 1, none⟩ = some (.int .i64 o.who) ∧ w'.cell? ⟨w.heap.size, 2, none⟩ = some (.int .i64 o.side) ∧ w'.cell? ⟨w.heap.size, 3, none⟩ = some (.int .i64 o.kind) ∧ w'.cell? ⟨w.heap.size, 4, none⟩ = some (.int .i64 o.price) ∧ w'.cell? ⟨w.heap.size, 5, none⟩ = some (.int .i64 o.qty) ∧ w'.cell? ⟨w.heap.size, 6, none⟩ = some (.int .i64 o.show_) ∧ w'.cell? ⟨w.heap.size, 7, none⟩ = some (.int .i64 o.stop))) (by kernel_rfl) ?_ (fun hHeld => ?_)
  · (try dsimp only); ((repeat' apply And.intro) <;> (first | (with_reducible assumption) | (with_reducible exact cell_drew (by assumption)) | (with_reducible exact cell_alloc (by assumption) _) | (with_reducible exact cell_alloc_drew (by assumption) _) | (with_reducible exact cell_far0 (by assumption) (by simp; omega))))
  (refine wpAnyH_take (i := 0) (v := ?_) rfl (by kernel_rfl) (by kernel_rfl) (by kernel_rfl) (fun _ _ _ h => h) (Or.inl ⟨by rfl, ?_⟩) (by assumption) ?_); rotate_left; (focus (intro w hSw; (try dsimp only at hSw); go_simp; try (with_reducible rfl))); (try simp only [Act.put, List.setIfInBounds_toArray, List.set_cons_zero, List.set_cons_succ])
  (refine wpAnyH_take (i := 1) (v := ?_) rfl (by kernel_rfl) (by kernel_rfl) (by kernel_rfl) (fun _ _ _ h => h) (Or.inl ⟨by rfl, ?_⟩) (by assumption) ?_); rotate_left; (focus (intro w hSw; (try dsimp only at hSw); go_simp; try (with_reducible rfl))); (try simp only [Act.put, List.setIfInBounds_toArray, List.set_cons_zero, List.set_cons_succ])
  (refine wpAnyH_take (i := 2) (v := ?_) rfl (by kernel_rfl) (by kernel_rfl) (by kernel_rfl) (fun _ _ _ h => h) (Or.inl ⟨by rfl, ?_⟩) (by assumption) ?_); rotate_left; (focus (intro w hSw; (try dsimp only at hSw); go_simp; try (with_reducible rfl))); (try simp only [Act.put, List.setIfInBounds_toArray, List.set_cons_zero, List.set_cons_succ])
  (refine wpAnyH_take (i := 3) (v := ?_) rfl (by kernel_rfl) (by kernel_rfl) (by kernel_rfl) (fun _ _ _ h => h) (Or.inl ⟨by rfl, ?_⟩) (by assumption) ?_); rotate_left; (focus (intro w hSw; (try dsimp only at hSw); go_simp; try (with_reducible rfl))); (try simp only [Act.put, List.setIfInBounds_toArray, List.set_cons_zero, List.set_cons_succ])
  (refine wpAnyH_take (i := 5) (v := ?_) rfl (by kernel_rfl) (by kernel_rfl) (by kernel_rfl) (fun _ _ _ h => h) (Or.inl ⟨by rfl, ?_⟩) (by assumption) ?_); rotate_left; (focus (intro w hSw; (try dsimp only at hSw); go_simp; try (with_reducible rfl))); (try simp only [Act.put, List.setIfInBounds_toArray, List.set_cons_zero, List.set_cons_succ])
  refine wpAnyH_ready (rs := [4, 6]) (by kernel_rfl) (by simp) ?_
  refine AllReadyH.cons rfl (fun KK KH => ?_) (AllReadyH.cons rfl (fun KK KH => ?_) AllReadyH.nil)
  · go_simp
    (refine KH.out _ _ (by (try dsimp only); ((repeat' apply And.intro) <;> (first | (with_reducible assumption) | (with_reducible exact cell_drew (by assumption)) | (with_reducible exact cell_alloc (by assumption) _) | (with_reducible exact cell_alloc_drew (by assumption) _) | (with_reducible exact cell_far0 (by assumption) (by simp; omega))))) (fun hHeld => ?_); clear KH KK; (try simp only [Act.put, List.setIfInBounds_toArray, List.set_cons_zero, List.set_cons_succ]))
    (refine wpAnyH_ready (rs := [6]) (by kernel_rfl) (by simp) ?_; refine AllReadyH.cons rfl (fun KK KH => ?_) AllReadyH.nil)
    go_simp
    (refine KH.out _ _ (by (try dsimp only); ((repeat' apply And.intro) <;> (first | (with_reducible assumption) | (with_reducible exact cell_drew (by assumption)) | (with_reducible exact cell_alloc (by assumption) _) | (with_reducible exact cell_alloc_drew (by assumption) _) | (with_reducible exact cell_far0 (by assumption) (by simp; omega))))) (fun hHeld => ?_); clear KH KK; (try simp only [Act.put, List.setIfInBounds_toArray, List.set_cons_zero, List.set_cons_succ]))
    ((refine wpAnyH_ready (rs := [7]) (by kernel_rfl) (by simp) ?_; refine AllReadyH.cons rfl (fun KK KH => ?_) AllReadyH.nil); refine step_append_S (base := base) (s := 8) (n := l.length) (xs := ords l) (by rfl) _ _ _ _ (by rfl) 31 i0 _ 64 Tryz.underlying45 HI.out H0.out H1.out H2.out rfl (by rfl) ((ST.out.own.alloc _).drew) (by simp; omega) _ (by rfl) 1 o.vals (src_block (m := 1) (Bk.new w3 31 #[.int .i64 o.id, .int .i64 o.who, .int .i64 o.side, .int .i64 o.kind, .int .i64 o.price, .int .i64 o.qty, .int .i64 o.show_, .int .i64 o.stop]).drew Tryz.underlying45 rfl o.vals_one 1) (by unfold maxLen; omega) (by omega) ?_; intro A' c' w6 gr; have b6 := ((BO.out.alloc _).drew).grown gr.grown hoA; obtain ⟨o0, o1, o2, o3, o4, o5, o6, o7⟩ := obox b6; have s6 := ((ST.out.b.alloc _).drew).grown gr.grown hgA; have c6 := s6.cell 0; (simp at c6); have f6 := s6.free 0; (refine KH.out _ _ (by (try dsimp only); ((repeat' apply And.intro) <;> (first | (with_reducible assumption) | (with_reducible exact cell_drew (by assumption)) | (with_reducible exact cell_alloc (by assumption) _) | (with_reducible exact cell_alloc_drew (by assumption) _) | (with_reducible exact cell_far0 (by assumption) (by simp; omega))))) (fun hHeld => ?_); clear KH KK; (try simp only [Act.put, List.setIfInBounds_toArray, List.set_cons_zero, List.set_cons_succ])))
    ((refine wpAnyH_take (i := 8) (v := ?_) rfl (by kernel_rfl) (by kernel_rfl) (by kernel_rfl) (fun _ _ _ h => h) (Or.inl ⟨by rfl, ?_⟩) (by assumption) ?_); rotate_left; (focus (intro w hSw; (try dsimp only at hSw); go_simp; try (with_reducible rfl))); (try simp only [Act.put, List.setIfInBounds_toArray, List.set_cons_zero, List.set_cons_succ]); (refine wpAnyH_take (i := 9) (v := ?_) rfl (by kernel_rfl) (by kernel_rfl) (by kernel_rfl) (fun _ _ _ h => h) (Or.inl ⟨by rfl, ?_⟩) (by assumption) ?_); rotate_left; (focus (intro w hSw; (try dsimp only at hSw); go_simp; try (with_reducible rfl))); (try simp only [Act.put, List.setIfInBounds_toArray, List.set_cons_zero, List.set_cons_succ]); (refine wpAnyH_ready (rs := [10]) (by kernel_rfl) (by simp) ?_; refine AllReadyH.cons rfl (fun KK KH => ?_) AllReadyH.nil); go_simp; (refine KH.out _ _ (by (try dsimp only); ((repeat' apply And.intro) <;> (first | (with_reducible assumption) | (with_reducible exact cell_drew (by assumption)) | (with_reducible exact cell_alloc (by assumption) _) | (with_reducible exact cell_alloc_drew (by assumption) _) | (with_reducible exact cell_far0 (by assumption) (by simp; omega))))) (fun hHeld => ?_); clear KH KK; (try simp only [Act.put, List.setIfInBounds_toArray, List.set_cons_zero, List.set_cons_succ])); refine wpAnyH_done (by kernel_rfl) ?_ _; refine NoPanic.normal ?_; have GR := Lib.hid gr; clear gr b6 s6 o0 o1 o2 o3 o4 o5 o6 o7 c6 f6 d0 a0; go_wp2; go_ret; exact putS_ok H.out HE.out hb GR.out hbw)
  · go_simp
    (refine KH.out _ _ (by (try dsimp only); ((repeat' apply And.intro) <;> (first | (with_reducible assumption) | (with_reducible exact cell_drew (by assumption)) | (with_reducible exact cell_alloc (by assumption) _) | (with_reducible exact cell_alloc_drew (by assumption) _) | (with_reducible exact cell_far0 (by assumption) (by simp; omega))))) (fun hHeld => ?_); clear KH KK; (try simp only [Act.put, List.setIfInBounds_toArray, List.set_cons_zero, List.set_cons_succ]))
    (refine wpAnyH_ready (rs := [4]) (by kernel_rfl) (by simp) ?_; refine AllReadyH.cons rfl (fun KK KH => ?_) AllReadyH.nil)
    go_simp
    (refine KH.out _ _ (by (try dsimp only); ((repeat' apply And.intro) <;> (first | (with_reducible assumption) | (with_reducible exact cell_drew (by assumption)) | (with_reducible exact cell_alloc (by assumption) _) | (with_reducible exact cell_alloc_drew (by assumption) _) | (with_reducible exact cell_far0 (by assumption) (by simp; omega))))) (fun hHeld => ?_); clear KH KK; (try simp only [Act.put, List.setIfInBounds_toArray, List.set_cons_zero, List.set_cons_succ]))
    ((refine wpAnyH_ready (rs := [7]) (by kernel_rfl) (by simp) ?_; refine AllReadyH.cons rfl (fun KK KH => ?_) AllReadyH.nil); refine step_append_S (base := base) (s := 8) (n := l.length) (xs := ords l) (by rfl) _ _ _ _ (by rfl) 31 i0 _ 64 Tryz.underlying45 HI.out H0.out H1.out H2.out rfl (by rfl) ((ST.out.own.alloc _).drew) (by simp; omega) _ (by rfl) 1 o.vals (src_block (m := 1) (Bk.new w3 31 #[.int .i64 o.id, .int .i64 o.who, .int .i64 o.side, .int .i64 o.kind, .int .i64 o.price, .int .i64 o.qty, .int .i64 o.show_, .int .i64 o.stop]).drew Tryz.underlying45 rfl o.vals_one 1) (by unfold maxLen; omega) (by omega) ?_; intro A' c' w6 gr; have b6 := ((BO.out.alloc _).drew).grown gr.grown hoA; obtain ⟨o0, o1, o2, o3, o4, o5, o6, o7⟩ := obox b6; have s6 := ((ST.out.b.alloc _).drew).grown gr.grown hgA; have c6 := s6.cell 0; (simp at c6); have f6 := s6.free 0; (refine KH.out _ _ (by (try dsimp only); ((repeat' apply And.intro) <;> (first | (with_reducible assumption) | (with_reducible exact cell_drew (by assumption)) | (with_reducible exact cell_alloc (by assumption) _) | (with_reducible exact cell_alloc_drew (by assumption) _) | (with_reducible exact cell_far0 (by assumption) (by simp; omega))))) (fun hHeld => ?_); clear KH KK; (try simp only [Act.put, List.setIfInBounds_toArray, List.set_cons_zero, List.set_cons_succ])))
    ((refine wpAnyH_take (i := 8) (v := ?_) rfl (by kernel_rfl) (by kernel_rfl) (by kernel_rfl) (fun _ _ _ h => h) (Or.inl ⟨by rfl, ?_⟩) (by assumption) ?_); rotate_left; (focus (intro w hSw; (try dsimp only at hSw); go_simp; try (with_reducible rfl))); (try simp only [Act.put, List.setIfInBounds_toArray, List.set_cons_zero, List.set_cons_succ]); (refine wpAnyH_take (i := 9) (v := ?_) rfl (by kernel_rfl) (by kernel_rfl) (by kernel_rfl) (fun _ _ _ h => h) (Or.inl ⟨by rfl, ?_⟩) (by assumption) ?_); rotate_left; (focus (intro w hSw; (try dsimp only at hSw); go_simp; try (with_reducible rfl))); (try simp only [Act.put, List.setIfInBounds_toArray, List.set_cons_zero, List.set_cons_succ]); (refine wpAnyH_ready (rs := [10]) (by kernel_rfl) (by simp) ?_; refine AllReadyH.cons rfl (fun KK KH => ?_) AllReadyH.nil); go_simp; (refine KH.out _ _ (by (try dsimp only); ((repeat' apply And.intro) <;> (first | (with_reducible assumption) | (with_reducible exact cell_drew (by assumption)) | (with_reducible exact cell_alloc (by assumption) _) | (with_reducible exact cell_alloc_drew (by assumption) _) | (with_reducible exact cell_far0 (by assumption) (by simp; omega))))) (fun hHeld => ?_); clear KH KK; (try simp only [Act.put, List.setIfInBounds_toArray, List.set_cons_zero, List.set_cons_succ])); refine wpAnyH_done (by kernel_rfl) ?_ _; refine NoPanic.normal ?_; have GR := Lib.hid gr; clear gr b6 s6 o0 o1 o2 o3 o4 o5 o6 o7 c6 f6 d0 a0; go_wp2; go_ret; exact putS_ok H.out HE.out hb GR.out hbw)
end Go.Proofs.YtkdgpdijbobmkaaGreat
namespace Go.Proofs.YtkdgpdijbobmkaaGreat
set_option linter.all false
open Go Go.RowKit
def CopyPost (l : List Order) (w : World) (e : Ending) (w' : World) : Prop := ∃ A c g, e = .returned (.pointer (some ⟨g, 0, none⟩)) ∧ Hid (StM w' g w.heap.size A c l) ∧ w.heap.size ≤ g ∧ Below w.heap.size w w' ∧ rowOf A c ≠ some g
theorem wcopy_any (l : List Order) (g base : Nat) (A : Option Addr) (c : Nat) (w : World) (h : StM w g base A c l) (hl : l.length ≤ 1000) :
    Calls Tryz.prog 67 #[.pointer (some ⟨g, 0, none⟩)] w (CopyPost l w) := by
  have hz := h.z
  have hn : A = none → l.length = 0 := fun e => by have := h.own.le; rw [hz e] at this; omega
  have c0 : w.cell? ⟨g, 0, none⟩ = some (.slice A l.length c) := by simpa using h.b.cell 0
  have cC := Lib.hid (clone_ords l A c w h.own.rdO (by omega) (fun e => ⟨hn e, hz e⟩))
  clear h hz hn
  go_enter Tryz.func67, Tryz.ntmps67
  go_wp2_with fail
  go_at_call 78
  refine cC.out.mono ?_
  rintro e w1 ⟨A', c', rfl, ho, hb, hA⟩
  have hrow : rowOf A' c' ≠ some w1.heap.size := fun e => by have := (ho.row_lt _ e).2; omega
  have HE := Lib.hid (show StM (w1.alloc (.cells #[.slice A' l.length c'] 139)) w1.heap.size w.heap.size A' c' l from ⟨Bk.new w1 _ _, ho.alloc _, .inr hrow, hA⟩)
  have HR := Lib.hid hrow
  clear ho c0 hrow
  go_wp2
  go_ret
  exact ⟨A', c', _, rfl, HE.out, hb.size, hb.alloc hb.size _, HR.out⟩
/-- what is wrong with who goes; who it is; who waits on -/
def goneE (l : List Order) (id : Int) : Int := if whereI l id < 0 then 5 else 0
def goneO (l : List Order) (id : Int) : Order := if whereI l id < 0 then ord0 else l.getD (whereI l id).toNat ord0
def goneL (l : List Order) (id : Int) : List Order := if whereI l id < 0 then l else l.eraseIdx (whereI l id).toNat
theorem whereI_at {l : List Order} {id : Int} (h : ¬ whereI l id < 0) : ∃ (k : Nat) (o : Order), whereI l id = k ∧ l[k]? = some o ∧ o.id = id := by
  unfold whereI at h ⊢
  cases hf : l.findIdx? (fun r => r.id == id) with
  | none => rw [hf] at h; exact absurd (by decide) h
  | some i =>
    rw [List.findIdx?_eq_some_iff_getElem] at hf
    obtain ⟨hi, hp, _⟩ := hf
    exact ⟨i, l[i], rfl, List.getElem?_eq_getElem hi, by simpa using hp⟩
theorem ord_size8 : (Tryz.prog.info? 31).map (·.size) = some 8 := by kernel_rfl
theorem ord_one8 {a0 a1 a2 a3 a4 a5 a6 a7 : Int} : (#[Value.int .i64 a0, .int .i64 a1, .int .i64 a2, .int .i64 a3, .int .i64 a4, .int .i64 a5, .int .i64 a6, .int .i64 a7] : Array Value).all (·.oneCell') = true := all_oneCell_toArray (cs := [_, _, _, _, _, _, _, _]) (Order.vals_one ⟨a0, a1, a2, a3, a4, a5, a6, a7⟩)
theorem ord_read {w : World} {g : Nat} {cs : Array Value} (h : Bk w g 31 cs) (hl : cs.size = 8) : (loadVar 31 ⟨g, 0, none⟩).run Tryz.prog w = .ok (.agg cs) w := by
  have := run_loadVar_mid (P := Tryz.prog) w g 0 31 cs.toList _ h.range Tryz.underlying31 rfl (by rw [ord_size8]; simp [hl])
  simpa using this
theorem StM.setCs {w : World} {g base c k i : Nat} {A : Option Addr} {l : List Order} {vs : List Value} (h : StM w g base A c l) (hk : g ≠ k) (hr : rowOf A c ≠ some k) : StM (w.setCells k i vs) g base A c l := ⟨h.b.farCs hk, h.own.keep grown_Cs (.inr hr), h.apart, h.z⟩
/-- how Drop ends -/
def DropS (l : List Order) (id : Int) (g base : Nat) (A : Option Addr) (c : Nat) (w : World) (e : Ending) (w' : World) : Prop :=
  e = .returned (.tuple #[.agg #[.int .i64 (goneO l id).id, .int .i64 (goneO l id).who, .int .i64 (goneO l id).side, .int .i64 (goneO l id).kind, .int .i64 (goneO l id).price, .int .i64 (goneO l id).qty, .int .i64 (goneO l id).show_, .int .i64 (goneO l id).stop], errV (goneE l id)]) ∧ Hid (StM w' g base A c (goneL l id)) ∧ Hid (Kb [some g, rowOf A c] w w')
set_option maxRecDepth 100000 in
set_option maxHeartbeats 4000000 in
theorem wdrop_any (l : List Order) (id : Int) (g base : Nat) (A : Option Addr) (c : Nat) (w : World) (h : StM w g base A c l) (hl : l.length ≤ 100) (hbw : base ≤ w.heap.size) :
    Calls Tryz.prog 97 #[.pointer (some ⟨g, 0, none⟩), .int .i64 id] w (DropS l id g base A c w) := by
  have hgl : g < w.heap.size := h.b.lt
  have br := Bk.new w 31 #[.int .i64 0, .int .i64 0, .int .i64 0, .int .i64 0, .int .i64 0, .int .i64 0, .int .i64 0, .int .i64 0]
  have hb : Below w.heap.size w (w.alloc (.cells #[.int .i64 0, .int .i64 0, .int .i64 0, .int .i64 0, .int .i64 0, .int .i64 0, .int .i64 0, .int .i64 0] 31)) := (Below.refl _ _).alloc (Nat.le_refl _) _
  have hst := h.below hb
  have cW := Lib.hid (wwhere_any l g base A c id _ hst hl)
  have HST := Lib.hid hst
  have HS0 := Lib.hid h
  clear h hst
  go_enter Tryz.func97, Tryz.ntmps97
  go_upto_region 1 with fail
  generalize w.alloc (.cells #[.int .i64 0, .int .i64 0, .int .i64 0, .int .i64 0, .int .i64 0, .int .i64 0, .int .i64 0, .int .i64 0] 31) = w1 at *
  go_wp2_with fail
  go_at_call 94
  refine cW.out.mono ?_
  rintro e w2 ⟨rfl, hb2⟩
  have hst := HST.out.below hb2
  replace br := br.keep hb2; replace hb := below_then hb2 hb
  have HS2 := Lib.hid hst
  have hb2z := Lib.hid (show w.heap.size + 1 ≤ w2.heap.size by have := br.lt; omega)
  clear cW hb2 HST hst
  by_cases hw : whereI l id < 0
  · have HE := Lib.hid (show goneE l id = 5 ∧ goneO l id = ord0 ∧ goneL l id = l from ⟨if_pos hw, if_pos hw, if_pos hw⟩)
    have HTH := Lib.hid br.there; have HBX := Lib.hid (br.setCs (vs := (#[.int .i64 0, .int .i64 0, .int .i64 0, .int .i64 0, .int .i64 0, .int .i64 0, .int .i64 0, .int .i64 0] : Array Value).toList) rfl)
    have HRD := Lib.hid (ord_read HBX.out rfl)
    have hgne : g ≠ w.heap.size := by omega
    have HST := Lib.hid (StM.setCs (vs := (#[.int .i64 0, .int .i64 0, .int .i64 0, .int .i64 0, .int .i64 0, .int .i64 0, .int .i64 0, .int .i64 0] : Array Value).toList) (i := 0) HS2.out hgne (fun e => by have := (HS0.out.own.row_lt _ e).2; omega))
    have HKB := Lib.hid (Kb.of_below (rs := [some g, rowOf A c]) (below_Cs (vs := (#[.int .i64 0, .int .i64 0, .int .i64 0, .int .i64 0, .int .i64 0, .int .i64 0, .int .i64 0, .int .i64 0] : Array Value).toList) (i := 0) (g := w.heap.size) (Nat.le_refl _) hb))
    have hw' : whereI l id < 0 := hw
    clear hw br hb hgne
    generalize whereI l id = kk at *
    go_wp2_with (refine wpList_store_mid (by rfl) 31 _ _ (by rfl) _ 0 #[.int .i64 0, .int .i64 0, .int .i64 0, .int .i64 0, .int .i64 0, .int .i64 0, .int .i64 0, .int .i64 0] (by rfl) (by rfl) HTH.out ord_size8 ord_one8 ?_)
    exact bodyPost_ret (v := .tuple #[.agg #[.int .i64 0, .int .i64 0, .int .i64 0, .int .i64 0, .int .i64 0, .int .i64 0, .int .i64 0, .int .i64 0], er 5]) (results_ct Tryz.results97 rfl rfl HRD.out) rfl ⟨by rw [HE.out.1, HE.out.2.1]; rfl, by rw [HE.out.2.2]; exact HST, HKB⟩
  · obtain ⟨k, o, hk, ho, hid⟩ := whereI_at hw
    have hkl : k < l.length := (List.getElem?_eq_some_iff.1 ho).1
    have HE := Lib.hid (show goneE l id = 0 ∧ goneO l id = o ∧ goneL l id = l.eraseIdx k from ⟨if_neg hw, by rw [goneO, if_neg hw, hk]; simp [List.getD_eq_getElem?_getD, ho], by rw [goneL, if_neg hw, hk]; simp⟩)
    rw [hk]
    have c0 : w2.cell? ⟨g, 0, none⟩ = some (.slice A l.length c) := by simpa using HS2.out.b.cell 0
    obtain ⟨b, off, t, hA, hbl, ht, e0, e1, e2, e3, e4, e5, e6, e7⟩ := ord_at HS2.out.own.rdO hkl
    obtain rfl : o = t := Option.some.inj (ho.symm.trans ht)
    have hA2 := hA
    rw [hA] at c0
    have j0 : (0 : Int) ≤ (k : Int) := by omega
    have j1 : (k : Int) < (l.length : Int) := by omega
    have j2 : ¬ (k : Int) < 0 := by omega
    have bo := Bk.new w2 31 #[.int .i64 o.id, .int .i64 o.who, .int .i64 o.side, .int .i64 o.kind, .int .i64 o.price, .int .i64 o.qty, .int .i64 o.show_, .int .i64 o.stop]
    have hba : Below w2.heap.size w2 (w2.alloc (.cells #[.int .i64 o.id, .int .i64 o.who, .int .i64 o.side, .int .i64 o.kind, .int .i64 o.price, .int .i64 o.qty, .int .i64 o.show_, .int .i64 o.stop] 31)) := (Below.refl _ _).alloc (Nat.le_refl _) _
    have HS3 := Lib.hid (HS2.out.below hba)
    replace br := br.keep hba; replace hb := below_then hba hb
    clear hba hw hk ht ho hid
    go_upto_region 5 with fail
    generalize w2.alloc (.cells #[.int .i64 o.id, .int .i64 o.who, .int .i64 o.side, .int .i64 o.kind, .int .i64 o.price, .int .i64 o.qty, .int .i64 o.show_, .int .i64 o.stop] 31) = w3 at *
    clear c0 e0 e1 e2 e3 e4 e5 e6 e7
    have c0 : w3.cell? ⟨g, 0, none⟩ = some (.slice A l.length c) := by simpa using HS3.out.b.cell 0
    rw [← hA]
    obtain ⟨m, hm⟩ : ∃ m, l.length = k + 1 + m := ⟨l.length - (k + 1), by omega⟩
    have cD := Lib.hid (delete_ords l A c base k m w3 HS3.out.own hm hl)
    have f0 := HS3.out.b.free 0
    clear hA hA2 hm
    go_wp2_with fail
    go_at_call 127
    refine cD.out.mono ?_
    rintro e w4 ⟨rfl, ho4, hg4⟩
    have hgA : rowOf A c ≠ some g := fun e => by
      rcases HS0.out.apart with h | h
      · have := (HS0.out.own.row_lt g e).1; omega
      · exact h e
    have hrA : rowOf A c ≠ some w.heap.size := fun e => by have := (HS0.out.own.row_lt _ e).2; omega
    have hgne : g ≠ w.heap.size := by omega
    have hwz : w.heap.size < w2.heap.size := hb2z.out
    have sb4 := HS3.out.b.grown hg4 (Ne.symm hgA)
    have br4 := br.grown hg4 (Ne.symm hrA)
    have bo4 := bo.grown hg4 (fun e => by have := (HS2.out.own.row_lt _ e.symm).2; omega)
    have hkb4 : Kb [some g, rowOf A c] w w4 := (Kb.of_below hb).grown hg4 (.inl (by simp))
    have c4 : w4.cell? ⟨g, 0, none⟩ = some (.slice A l.length c) := by simpa using sb4.cell 0
    have f4 := sb4.free 0
    have sb5 : Bk (w4.setCell ⟨g, 0, none⟩ (.slice A (l.eraseIdx k).length c)) g 139 #[.slice A (l.eraseIdx k).length c] := by simpa using sb4.set_ 0 (.slice A (l.eraseIdx k).length c)
    have st5 : StM (w4.setCell ⟨g, 0, none⟩ (.slice A (l.eraseIdx k).length c)) g base A c (l.eraseIdx k) := ⟨sb5, ho4.far (p := ⟨g, 0, none⟩) hgA _, HS0.out.apart, HS0.out.z⟩
    have br5 := br4.far (p := ⟨g, 0, none⟩) (Ne.symm hgne) (.slice A (l.eraseIdx k).length c)
    have bo5 := bo4.far (p := ⟨g, 0, none⟩) (show w2.heap.size ≠ g by omega) (.slice A (l.eraseIdx k).length c)
    have kb5 := hkb4.set (p := ⟨g, 0, none⟩) (.inl (by simp)) (.slice A (l.eraseIdx k).length c)
    have HALL := Lib.hid (And.intro st5 (And.intro br5 (And.intro bo5 (And.intro kb5 (And.intro hgne hrA)))))
    clear sb4 br4 bo4 hkb4 sb5 st5 br5 bo5 kb5 hgne hrA hgA ho4 hg4 cD c0 f0 bo br hb
    go_upto_region 6 with fail
    obtain ⟨st, br, bo, kb, hgne, hrA⟩ := HALL.out
    clear HALL c4 f4
    generalize w4.setCell ⟨g, 0, none⟩ (.slice A (l.eraseIdx k).length c) = w5 at *
    have HRG := Lib.hid bo.range
    have HTH := Lib.hid br.there
    have HBX := Lib.hid (br.setCs (vs := (#[.int .i64 o.id, .int .i64 o.who, .int .i64 o.side, .int .i64 o.kind, .int .i64 o.price, .int .i64 o.qty, .int .i64 o.show_, .int .i64 o.stop] : Array Value).toList) rfl)
    have HRD := Lib.hid (ord_read HBX.out rfl)
    have HST := Lib.hid (StM.setCs (vs := (#[.int .i64 o.id, .int .i64 o.who, .int .i64 o.side, .int .i64 o.kind, .int .i64 o.price, .int .i64 o.qty, .int .i64 o.show_, .int .i64 o.stop] : Array Value).toList) (i := 0) st hgne hrA)
    have HKB := Lib.hid (kb.grown (grown_Cs (g := w.heap.size) (vs := (#[.int .i64 o.id, .int .i64 o.who, .int .i64 o.side, .int .i64 o.kind, .int .i64 o.price, .int .i64 o.qty, .int .i64 o.show_, .int .i64 o.stop] : Array Value).toList) (i := 0)) (.inr (.inr ⟨_, rfl, Nat.le_refl _⟩)))
    clear st br bo kb hgne hrA
    go_wp2_with (first | (refine wpList_store_mid (by rfl) 31 _ _ (by rfl) _ 0 #[.int .i64 o.id, .int .i64 o.who, .int .i64 o.side, .int .i64 o.kind, .int .i64 o.price, .int .i64 o.qty, .int .i64 o.show_, .int .i64 o.stop] (by rfl) (by rfl) HTH.out ord_size8 ord_one8 ?_) | (refine wpList_load_mid (by rfl) 31 _ (by rfl) w2.heap.size 0 (by rfl) (#[.int .i64 o.id, .int .i64 o.who, .int .i64 o.side, .int .i64 o.kind, .int .i64 o.price, .int .i64 o.qty, .int .i64 o.show_, .int .i64 o.stop] : Array Value).toList _ HRG.out Tryz.underlying31 rfl ord_size8 ?_))
    exact bodyPost_ret (v := .tuple #[.agg #[.int .i64 o.id, .int .i64 o.who, .int .i64 o.side, .int .i64 o.kind, .int .i64 o.price, .int .i64 o.qty, .int .i64 o.show_, .int .i64 o.stop], .nilIface]) (results_ct Tryz.results97 rfl rfl HRD.out) rfl ⟨by rw [HE.out.1, HE.out.2.1]; rfl, by rw [HE.out.2.2]; exact HST, HKB⟩
end Go.Proofs.YtkdgpdijbobmkaaGreat
namespace Go.Proofs.YtkdgpdijbobmkaaGreat
set_option linter.all false
open Go
section
variable {α : Type} (lt : α → α → Bool)
/-- x put behind all that it is not ahead of: a list from its end -/
def insR (x : α) : List α → List α
  | [] => [x]
  | y :: r => if lt x y = true then y :: insR x r else x :: y :: r
/-- sorted, stable -/
def isort (l : List α) : List α := (l.foldl (fun r x => insR lt x r) []).reverse
theorem insR_perm (x : α) : ∀ r : List α, (insR lt x r).Perm (x :: r)
  | [] => List.Perm.refl _
  | y :: r => by
    unfold insR
    split
    · exact ((insR_perm x r).cons y).trans (List.Perm.swap x y r)
    · exact List.Perm.refl _
theorem fold_perm : ∀ (l r : List α), (l.foldl (fun r x => insR lt x r) r).Perm (l ++ r)
  | [], r => List.Perm.refl _
  | x :: l, r => by
    rw [List.foldl_cons]
    refine (fold_perm l _).trans ?_
    refine ((insR_perm lt x r).append_left l).trans ?_
    exact List.perm_middle
theorem isort_perm (l : List α) : (isort lt l).Perm l := by
  have := fold_perm lt l []
  rw [List.append_nil] at this
  exact (List.reverse_perm _).trans this
theorem isort_len (l : List α) : (isort lt l).length = l.length := (isort_perm lt l).length_eq
theorem isort_mem {l : List α} {x : α} : x ∈ isort lt l ↔ x ∈ l := (isort_perm lt l).mem_iff
/-- a relation that holds ahead of the sort from each to each later one that is not ahead of it, and of lt from one to what it is ahead of, holds behind it -/
theorem insR_pair {R : α → α → Prop} (hn : ∀ x y z, lt y x = false → lt z y = false → lt z x = false) {x : α} : ∀ {r : List α}, r.Pairwise (fun a b => R b a ∧ lt a b = false) → (∀ y ∈ r, (lt x y = false → R y x) ∧ (lt x y = true → R x y ∧ lt y x = false)) → (insR lt x r).Pairwise (fun a b => R b a ∧ lt a b = false)
  | [], _, _ => List.pairwise_singleton _ _
  | y :: r, hp, hx => by
    rw [List.pairwise_cons] at hp
    unfold insR
    split
    · rename_i h
      rw [List.pairwise_cons]
      refine ⟨fun z hz => ?_, insR_pair hn hp.2 (fun z hz => hx z (by simp [hz]))⟩
      rcases (insR_perm lt x r).mem_iff.1 hz with _ | ⟨_, hz⟩
      · exact (hx y (by simp)).2 h
      · exact hp.1 z hz
    · rename_i h
      have h : lt x y = false := by simpa using h
      rw [List.pairwise_cons]
      refine ⟨fun z hz => ?_, List.pairwise_cons.2 hp⟩
      have hz2 : lt x z = false := by
        rcases List.mem_cons.1 hz with rfl | hz
        · exact h
        · exact hn z y x (hp.1 z hz).2 h
      exact ⟨(hx z hz).1 hz2, hz2⟩
theorem isort_pair {R : α → α → Prop} (hn : ∀ x y z, lt y x = false → lt z y = false → lt z x = false) (ha : ∀ x y, lt x y = true → lt y x = false) (hR : ∀ x y, lt x y = true → R x y) {l : List α} (hl : l.Pairwise fun a b => lt b a = false → R a b) :
    (isort lt l).Pairwise fun a b => R a b ∧ lt b a = false := by
  have : ∀ (l r : List α), l.Pairwise (fun a b => lt b a = false → R a b) → r.Pairwise (fun a b => R b a ∧ lt a b = false) → (∀ y ∈ r, ∀ x ∈ l, lt x y = false → R y x) → (l.foldl (fun r x => insR lt x r) r).Pairwise (fun a b => R b a ∧ lt a b = false) := by
    intro l
    induction l with
    | nil => intro r _ h _; exact h
    | cons x l ih =>
      intro r hl hr hx
      rw [List.pairwise_cons] at hl
      rw [List.foldl_cons]
      refine ih _ hl.2 (insR_pair lt hn hr fun y hy => ⟨hx y hy x (by simp), fun h => ⟨hR _ _ h, ha _ _ h⟩⟩) fun y hy z hz => ?_
      rcases (insR_perm lt x r).mem_iff.1 hy with _ | ⟨_, hy⟩
      · exact hl.1 z hz
      · exact hx y hy z (by simp [hz])
  rw [isort, List.pairwise_reverse]
  exact this l [] hl List.Pairwise.nil (fun y hy => by cases hy)
variable [Inhabited α]
open Go.Sort
theorem arr_get (P S : List α) (x : α) : (P ++ x :: S).toArray[P.length]! = x := by simp
theorem swp_lists (P S : List α) (y x : α) : swp (P ++ y :: x :: S).toArray (P.length + 1) P.length = (P ++ x :: y :: S).toArray := by
  refine Array.ext (by simp [size_swp]) fun i h1 h2 => ?_
  have h1' : i < (P ++ y :: x :: S).length := by simpa [size_swp] using h1
  rw [← getElem!_pos _ i h1, ← getElem!_pos _ i h2, swp_get _ (by simp) (by simp)]
  by_cases a : i = P.length
  · subst a; simp
  · by_cases b : i = P.length + 1
    · subst b; simp
    · simp only [a, b, if_false]
      rcases Nat.lt_or_ge i P.length with h | h
      · simp [List.getElem?_append_left h]
      · obtain ⟨k, rfl⟩ : ∃ k, i = P.length + 2 + k := ⟨i - (P.length + 2), by omega⟩
        simp [List.getElem?_append_right, Nat.add_assoc, show P.length + (2 + k) - P.length = k + 2 by omega]
theorem inner_lists (x : α) (S : List α) : ∀ P : List α, insInner lt 0 P.length (P ++ x :: S).toArray = ((insR lt x P.reverse).reverse ++ S).toArray := by
  intro P
  induction hn : P.length generalizing P S with
  | zero => have : P = [] := List.eq_nil_of_length_eq_zero hn; subst this; rfl
  | succ n ih =>
    obtain ⟨Q, y, rfl⟩ : ∃ Q y, P = Q ++ [y] := by
      rcases List.eq_nil_or_concat P with h | ⟨Q, y, h⟩
      · subst h; simp at hn
      · exact ⟨Q, y, by simpa using h⟩
    have hq : Q.length = n := by simpa using hn
    subst hq
    have e1 : ((Q ++ [y]) ++ x :: S).toArray = (Q ++ y :: x :: S).toArray := by simp
    rw [e1, insInner]
    have g1 : (Q ++ y :: x :: S).toArray[Q.length + 1]! = x := by simp
    have g0 : (Q ++ y :: x :: S).toArray[Q.length]! = y := by simp
    rw [g1, g0]
    have er : (Q ++ [y]).reverse = y :: Q.reverse := by simp
    rw [er, insR]
    cases h : lt x y with
    | true =>
      simp only [Nat.zero_lt_succ, gt_iff_lt, decide_true, Bool.true_and, if_true]
      rw [swp_lists, ih (y :: S) Q rfl]
      simp
    | false => simp
theorem outer_lists : ∀ (S P : List α), insOuter lt 0 (P.length + S.length) P.length (P ++ S).toArray = ((S.foldl (fun r x => insR lt x r) P.reverse).reverse).toArray := by
  intro S
  induction S with
  | nil => intro P; rw [insOuter, if_neg (by simp)]; simp
  | cons x S ih =>
    intro P
    rw [insOuter, if_pos (by simp), inner_lists lt x S P]
    have hl : ((insR lt x P.reverse).reverse).length = P.length + 1 := by rw [List.length_reverse, (insR_perm lt x P.reverse).length_eq]; simp
    have := ih (insR lt x P.reverse).reverse
    rw [hl, List.reverse_reverse] at this
    rw [List.length_cons, show P.length + (S.length + 1) = P.length + 1 + S.length by omega, this]
    rfl
theorem insertion_isort (l : List α) : insertionSort lt l.toArray 0 l.length = (isort lt l).toArray := by
  cases l with
  | nil => rw [insertionSort, insOuter, if_neg (by simp)]; rfl
  | cons x l =>
    have := outer_lists lt l [x]
    rw [insertionSort]
    simp only [List.length_cons, List.length_nil, Nat.zero_add, List.singleton_append, List.reverse_cons, List.reverse_nil, List.nil_append] at this ⊢
    rw [show l.length + 1 = 1 + l.length by omega, this]
    rfl
end
end Go.Proofs.YtkdgpdijbobmkaaGreat
namespace Go.Proofs.YtkdgpdijbobmkaaGreat
set_option linter.all false
open Go Go.RowKit Go.Shelf Go.Sort
/-- the numbers of the sort's function and types here -/
def srho : Ren := ⟨fun _ => 153, fun k => match k with | 0 => 0 | 3 => 3 | 4 => 4 | 22 => 45 | 24 => 31 | _ => 169, fun _ => 0⟩
theorem srho_lays : SlLaysF0.n20 Tryz.prog srho where
  mixed := by kernel_rfl
  f20 := ⟨"slices.insertionSortCmpFunc[pitfloor/api.Order]", by decide, by kernel_rfl⟩
  t0 := by kernel_rfl
  a0 := fun w => by kernel_rfl
  z0 := fun w => by kernel_rfl
  v0 := fun w => by kernel_rfl
  t3 := by kernel_rfl
  a3 := fun w => by kernel_rfl
  z3 := fun w => by kernel_rfl
  v3 := fun w => by kernel_rfl
  t4 := by kernel_rfl
  a4 := fun w => by kernel_rfl
  z4 := fun w => by kernel_rfl
  v4 := fun w => by kernel_rfl
  t22 := by kernel_rfl
  a22 := fun w => by kernel_rfl
  z22 := fun w => by kernel_rfl
  v22 := fun w => by kernel_rfl
  t25 := by kernel_rfl
  a25 := fun w => by kernel_rfl
  z25 := fun w => by kernel_rfl
  v25 := fun w => by kernel_rfl
theorem srho_agg (w : World) : (isAgg (srho.t 24)).run Tryz.prog w = .ok true w := by kernel_rfl
theorem srho_size (w : World) : (Go.sizeOf (srho.t 24)).run Tryz.prog w = .ok 8 w := by kernel_rfl
instance : Inhabited Order := ⟨ord0⟩
theorem flat_ords (l : List Order) : (flatK Order.vals 8 l.toArray).toList = ords l := by
  refine List.ext_getElem? fun j => ?_
  rcases Nat.lt_or_ge j (l.length * 8) with hj | hj
  · have e := ords_get (l := l) (i := j / 8) (j := j % 8) (by omega) (by omega)
    rw [show j / 8 * 8 + j % 8 = j by omega] at e
    have hs : j < (flatK Order.vals 8 l.toArray).size := by rw [size_flatK]; simpa using hj
    have g := get_flatK Order.vals 8 l.toArray j (by simpa using hj)
    rw [e, Array.getElem?_toList, Array.getElem?_eq_getElem hs, ← getElem!_pos _ j hs, g]
    have hd : l.toArray[j / 8]! = l.getD (j / 8) ord0 := by
      have : j / 8 < l.length := by omega
      simp [this]
    rw [hd, ocell]
    have hv : j % 8 < ((l.getD (j / 8) ord0).vals).length := by rw [Order.vals_len]; omega
    rw [List.getElem?_eq_getElem hv, List.getElem!_eq_getElem?_getD, List.getElem?_eq_getElem hv]; rfl
  · rw [List.getElem?_eq_none (by rw [Array.length_toList, size_flatK]; simpa using hj), List.getElem?_eq_none (by rw [ords_len]; exact hj)]
theorem flat_getb (l : List Order) {j : Nat} (hj : j < l.length * 8) : (ords l)[j]? = some ((flatK Order.vals 8 l.toArray)[j]!) := by
  have hs : j < (flatK Order.vals 8 l.toArray).size := by rw [size_flatK]; simpa using hj
  rw [← flat_ords, Array.getElem?_toList, Array.getElem?_eq_getElem hs, ← getElem!_pos _ j hs]
section
variable {w : World} {base cap g off : Nat} {l l' : List Order}
theorem OwnS.holdsK (h : OwnS w base 8 (some ⟨g, off, none⟩) l.length cap (ords l)) (h0 : 0 < l.length) : HoldsK Order.vals 8 w g off l.toArray ∧ g < w.heap.size := by
  obtain ⟨g', off', e, _, hl, h1, h2⟩ := h.cell h0
  cases e
  have hle := h.le
  refine ⟨fun j hj => ?_, hl⟩
  have hj' : j < l.length * 8 := by simpa using hj
  exact ⟨(h1 j hj').trans (flat_getb l hj'), (h2 j (by omega)).2⟩
theorem sort_grown (n : Nat) (d : Array Order) (os : Array Obj) (hl : g < w.heap.size) : w.grownBy (sortWorldK Order.vals 8 w g off n d os) (some g) := by
  refine ⟨rfl, rfl, rfl, ?_, fun k hk hne => ?_⟩
  · exact size_sortWorldK_c Order.vals 8 w g off n d os
  · have hne' : g ≠ k := fun e => hne (by rw [e])
    unfold sortWorldK grow putRowK putRow mapBlock
    simp only [Array.getElem?_append]
    rw [if_pos (by simpa [Go.Sort.ahead] using hk)]
    simp [Go.Sort.ahead, Array.getElem?_modify, hne']
theorem OwnS.sorted (h : OwnS w base 8 (some ⟨g, off, none⟩) l.length cap (ords l)) (h0 : 0 < l.length) (hs : l'.length = l.length) (n : Nat) (os : Array Obj) :
    OwnS (sortWorldK Order.vals 8 w g off n l'.toArray os) base 8 (some ⟨g, off, none⟩) l.length cap (ords l') := by
  obtain ⟨hH, hgl⟩ := h.holdsK h0
  have hH' := holdsK_sortWorldK_c Order.vals 8 w g off l.toArray l'.toArray n os hH hgl (by simpa using hs)
  obtain ⟨g', off', e, hb, hl, h1, h2⟩ := h.cell h0
  cases e
  have hg := sort_grown (off := off) n l'.toArray os hgl
  refine ⟨by rw [ords_len, hs], h.le, h.max, fun _ => ⟨g, off, rfl, hb, Nat.lt_of_lt_of_le hl hg.size, fun j hj => ?_, fun j hj => ?_⟩⟩
  · rw [flat_getb l' (by omega)]
    exact (hH' j (by simpa [hs] using hj)).1
  · by_cases hj' : j < l.length * 8
    · have := hH' j (by simpa [hs] using hj')
      exact ⟨by rw [this.1]; rfl, this.2⟩
    · have hz : (putRowK Order.vals 8 (Go.Sort.ahead w n) g off l'.toArray).heap.size = w.heap.size := by unfold putRowK; rw [size_putRow]; rfl
      have e1 : (sortWorldK Order.vals 8 w g off n l'.toArray os).cell? ⟨g, off + j, none⟩ = w.cell? ⟨g, off + j, none⟩ := by
        unfold sortWorldK
        rw [cell?_grow _ _ _ (by rw [hz]; exact hgl)]
        have hfs : (flatK Order.vals 8 l'.toArray).size = l'.length * 8 := by rw [size_flatK]; simp
        have ho : off + (flatK Order.vals 8 l'.toArray).size ≤ off + j := by rw [hfs]; omega
        exact cell?_putRow_other id (Go.Sort.ahead w n) g off _ _ (.inr (.inr ho))
      have e2 : (sortWorldK Order.vals 8 w g off n l'.toArray os).frozen? ⟨g, off + j, none⟩ = w.frozen? ⟨g, off + j, none⟩ := by
        unfold sortWorldK
        rw [frozen?_grow _ _ _ (by rw [hz]; exact hgl)]
        exact frozen?_putRow id (Go.Sort.ahead w n) g off _ _
      rw [e1, e2]
      exact h2 j hj
end
/-- what a comparison is asked to do -/
def CmpO (g : Nat) (cf : Order → Order → Int) : Prop := ∀ (x y : Order) (w : World), Calls Tryz.prog g #[.agg x.vals.toArray, .agg y.vals.toArray] w fun e w' => e = .returned (.int .i64 (cf x y)) ∧ ∃ q os, w' = grow (w.drewN q) os
def SortPost (l : List Order) (base : Nat) (A : Option Addr) (cap : Nat) (w : World) (e : Ending) (w' : World) : Prop := e = .returned (.tuple #[]) ∧ OwnS w' base 8 A l.length cap (ords l) ∧ w.grownBy w' (rowOf A cap)
theorem isort_size (cf : Order → Order → Int) (l : List Order) : (isort (ltOf cf) l).length = l.length := isort_len _ l
set_option maxRecDepth 100000 in
theorem insert_any (cf : Order → Order → Int) (f : Nat) (eg : ∀ args w, (callFunc f args).run Tryz.prog w = .ok (.enter f args) w) (hc : CmpO f cf) (l : List Order) (base : Nat) (A : Option Addr) (cap : Nat) (w : World) (h : OwnS w base 8 A l.length cap (ords l)) (h0 : 0 < l.length) (hl : l.length ≤ 1000) :
    Calls Tryz.prog 153 #[.slice A l.length cap, .int .i64 0, .int .i64 l.length, .func (.func f) #[] #[]] w (SortPost (isort (ltOf cf) l) base A cap w) := by
  obtain ⟨g, off, rfl, _, hgl, _, _⟩ := h.cell h0
  obtain ⟨hH, _⟩ := h.holdsK h0
  have hle := h.le
  have hsz : l.toArray.size = l.length := by simp
  have := AnyQ.insertionSortCmpFunc srho_lays 8 srho_agg srho_size Order.vals Order.vals_len Order.vals_one cf f #[] g off cap 0 l.length l.toArray w eg (fun m os dk _ x y => hc x y _) hH hgl (Nat.zero_le _) (by rw [hsz]; exact Nat.le_refl _) (by rw [hsz]; omega)
  rw [hsz] at this
  refine this.mono ?_
  rintro e w' ⟨rfl, n, os, rfl⟩
  rw [insertion_isort]
  have hr : rowOf (some (⟨g, off, none⟩ : Addr)) cap = some g := by rw [rowOf, if_neg (by omega)]; rfl
  exact ⟨rfl, by rw [isort_size]; exact h.sorted h0 (isort_size cf l) n os, by rw [hr]; exact sort_grown n _ os hgl⟩
end Go.Proofs.YtkdgpdijbobmkaaGreat
namespace Go.Proofs.YtkdgpdijbobmkaaGreat
set_option linter.all false
open Go Go.RowKit Go.Sort
theorem insert_none (A : Option Addr) (n c : Nat) (a b : Int) (h : b ≤ a + 1) (h1 : 0 ≤ a) (h2 : a ≤ 1000) (v : Value) (w : World) :
    Calls Tryz.prog 153 #[.slice A n c, .int .i64 a, .int .i64 b, v] w fun e w' => e = .returned (.tuple #[]) ∧ w = w' := by
  have h3 : ¬ a + 1 < b := by omega
  go_enter Tryz.func153, Tryz.ntmps153
  go_wp2
  refine wp_loop_rounds 1 ?_
  rw [rounds_succ]
  go_wp2
  go_end0
  exact ⟨rfl, rfl⟩
set_option maxRecDepth 100000 in
theorem stable_any (cf : Order → Order → Int) (f : Nat) (eg : ∀ args w, (callFunc f args).run Tryz.prog w = .ok (.enter f args) w) (hc : CmpO f cf) (l : List Order) (base : Nat) (A : Option Addr) (cap : Nat) (w : World) (h : OwnS w base 8 A l.length cap (ords l)) (hl : l.length ≤ 20) :
    Calls Tryz.prog 131 #[.slice A l.length cap, .int .i64 l.length, .func (.func f) #[] #[]] w (SortPost (isort (ltOf cf) l) base A cap w) := by
  have hi : Calls Tryz.prog 153 #[.slice A l.length cap, .int .i64 0, .int .i64 l.length, .func (.func f) #[] #[]] w (SortPost (isort (ltOf cf) l) base A cap w) := by
    rcases Nat.eq_zero_or_pos l.length with h0 | h0
    · obtain rfl := List.eq_nil_of_length_eq_zero h0
      refine (insert_none A 0 cap 0 0 (by decide) (by decide) (by decide) _ w).mono ?_
      rintro e w' ⟨rfl, rfl⟩
      exact ⟨rfl, h, grown_refl _ _⟩
    · exact insert_any cf f eg hc l base A cap w h h0 (by omega)
  have HI := Lib.hid hi
  clear h hc eg hi
  generalize isort (ltOf cf) l = l' at *
  by_cases h20 : l.length = 20
  · have hn := Lib.hid (fun w => insert_none A 20 cap 20 20 (by decide) (by decide) (by decide) (.func (.func f) #[] #[]) w)
    rw [h20] at HI ⊢
    clear hl h20
    go_enter Tryz.func131, Tryz.ntmps131
    go_wp2
    refine wp_loop_rounds 2 ?_
    rw [rounds_succ]
    go_wp2_with fail
    go_at_call 153
    refine HI.out.mono ?_
    rintro e w1 ⟨rfl, HO, HG⟩
    go_wp2
    rw [rounds_succ]
    go_wp2_with fail
    go_at_call 153
    refine (hn.out _).mono ?_
    rintro e w2 ⟨rfl, rfl⟩
    go_wp2
    refine wp_loop_rounds 1 ?_
    rw [rounds_succ]
    go_wp2
    go_end0
    exact ⟨rfl, HO, HG⟩
  · have hlt : ¬ (20 : Int) ≤ (l.length : Int) := by omega
    have hlt2 : ¬ (20 : Int) < (l.length : Int) := by omega
    have d1 : decide ((20 : Int) ≤ (l.length : Int)) = false := decide_eq_false hlt
    have d2 : decide ((20 : Int) < (l.length : Int)) = false := decide_eq_false hlt2
    clear hl h20 hlt hlt2
    go_enter Tryz.func131, Tryz.ntmps131
    go_wp2
    refine wp_loop_rounds 1 ?_
    rw [rounds_succ]
    go_wp2_with fail
    go_at_call 153
    refine HI.out.mono ?_
    rintro e w1 ⟨rfl, HO, HG⟩
    go_wp2
    refine wp_loop_rounds 1 ?_
    rw [rounds_succ]
    go_wp2
    go_end0
    exact ⟨rfl, HO, HG⟩
theorem sortst_any (cf : Order → Order → Int) (f : Nat) (eg : ∀ args w, (callFunc f args).run Tryz.prog w = .ok (.enter f args) w) (hc : CmpO f cf) (l : List Order) (base : Nat) (A : Option Addr) (cap : Nat) (w : World) (h : OwnS w base 8 A l.length cap (ords l)) (hl : l.length ≤ 20) :
    Calls Tryz.prog 103 #[.slice A l.length cap, .func (.func f) #[] #[]] w (SortPost (isort (ltOf cf) l) base A cap w) := by
  have HI := Lib.hid (stable_any cf f eg hc l base A cap w h hl)
  clear h hc eg
  generalize isort (ltOf cf) l = l' at *
  go_enter Tryz.func103, Tryz.ntmps103
  go_wp2_with fail
  go_at_call 131
  refine HI.out.mono ?_
  rintro e w1 ⟨rfl, HO, HG⟩
  go_wp2
  go_end0
  exact ⟨rfl, HO, HG⟩
end Go.Proofs.YtkdgpdijbobmkaaGreat
namespace Go.Proofs.YtkdgpdijbobmkaaGreat
set_option linter.all false
open Go Go.RowKit Go.Sort
def cmpI (a b : Int) : Int := if a < b then -1 else if b < a then 1 else 0
theorem isnan_any (a : Int) (w : World) : Calls Tryz.prog 132 #[.int .i64 a] w fun e w' => e = .returned (.bool false) ∧ w = w' := by
  have h : (a != a) = false := by simp
  go_enter Tryz.func132, Tryz.ntmps132
  go_wp2
  go_ret
  exact ⟨rfl, rfl⟩
theorem compare_any (a b : Int) (w : World) : Calls Tryz.prog 106 #[.int .i64 a, .int .i64 b] w fun e w' => e = .returned (.int .i64 (cmpI a b)) ∧ w = w' := by
  have ways : a < b ∨ (¬ a < b ∧ b < a) ∨ (¬ a < b ∧ ¬ b < a) := by omega
  have cN := Lib.hid (fun a w => isnan_any a w)
  rcases ways with h | ⟨h, h2⟩ | ⟨h, h2⟩
  · have e : cmpI a b = -1 := if_pos h
    rw [e]; clear e
    go_enter Tryz.func106, Tryz.ntmps106
    go_wp2_with (go_at_call 132; refine (cN.out _ _).mono ?_; rintro e w' ⟨rfl, rfl⟩)
    go_ret
    exact ⟨rfl, rfl⟩
  · have e : cmpI a b = 1 := by rw [cmpI, if_neg h, if_pos h2]
    rw [e]; clear e
    go_enter Tryz.func106, Tryz.ntmps106
    go_wp2_with (go_at_call 132; refine (cN.out _ _).mono ?_; rintro e w' ⟨rfl, rfl⟩)
    go_ret
    exact ⟨rfl, rfl⟩
  · have e : cmpI a b = 0 := by rw [cmpI, if_neg h, if_neg h2]
    rw [e]; clear e
    go_enter Tryz.func106, Tryz.ntmps106
    go_wp2_with (go_at_call 132; refine (cN.out _ _).mono ?_; rintro e w' ⟨rfl, rfl⟩)
    go_ret
    exact ⟨rfl, rfl⟩
def or2 (x y : Int) : Int := if x = 0 then y else x
theorem or_any (x y : Int) (g : Nat) (w : World) (h0 : w.cell? ⟨g, 0, none⟩ = some (.int .i64 x)) (h1 : w.cell? ⟨g, 1, none⟩ = some (.int .i64 y)) : Calls Tryz.prog 105 #[.slice (some ⟨g, 0, none⟩) 2 2] w fun e w' => e = .returned (.int .i64 (or2 x y)) ∧ w = w' := by
  by_cases hx : x = 0
  · by_cases hy : y = 0
    · subst hx; subst hy
      go_enter Tryz.func105, Tryz.ntmps105
      go_wp2
      refine wp_loop_rounds 3 ?_
      rw [rounds_succ]
      go_wp2
      rw [rounds_succ]
      go_wp2
      rw [rounds_succ]
      go_wp2
      go_ret
      exact ⟨rfl, rfl⟩
    · subst hx
      have e1 : (y != 0) = true := by simpa using hy
      have e : or2 0 y = y := rfl
      rw [e]; clear e hy
      go_enter Tryz.func105, Tryz.ntmps105
      go_wp2
      refine wp_loop_rounds 3 ?_
      rw [rounds_succ]
      go_wp2
      rw [rounds_succ]
      go_wp2
      go_ret
      exact ⟨rfl, rfl⟩
  · have e1 : (x != 0) = true := by simpa using hx
    have e : or2 x y = x := if_neg hx
    rw [e]; clear e hx
    go_enter Tryz.func105, Tryz.ntmps105
    go_wp2
    refine wp_loop_rounds 3 ?_
    rw [rounds_succ]
    go_wp2
    go_ret
    exact ⟨rfl, rfl⟩
/-- who wakes first -/
def wcf (a b : Order) : Int := if a.side = b.side ∧ a.side ≠ 1 then cmpI b.stop a.stop else or2 (cmpI a.side b.side) (cmpI a.stop b.stop)
set_option maxRecDepth 100000 in
theorem wcf_any : CmpO 104 wcf := by
  intro a b w
  show Calls Tryz.prog 104 #[.agg #[.int .i64 a.id, .int .i64 a.who, .int .i64 a.side, .int .i64 a.kind, .int .i64 a.price, .int .i64 a.qty, .int .i64 a.show_, .int .i64 a.stop], .agg #[.int .i64 b.id, .int .i64 b.who, .int .i64 b.side, .int .i64 b.kind, .int .i64 b.price, .int .i64 b.qty, .int .i64 b.show_, .int .i64 b.stop]] w fun e w' => e = .returned (.int .i64 (wcf a b)) ∧ ∃ q os, w' = grow (w.drewN q) os
  have bA := (Bk.new w 31 #[.int .i64 a.id, .int .i64 a.who, .int .i64 a.side, .int .i64 a.kind, .int .i64 a.price, .int .i64 a.qty, .int .i64 a.show_, .int .i64 a.stop]).alloc (.cells #[.int .i64 b.id, .int .i64 b.who, .int .i64 b.side, .int .i64 b.kind, .int .i64 b.price, .int .i64 b.qty, .int .i64 b.show_, .int .i64 b.stop] 31)
  have bB := Bk.at_ (w := w.alloc (.cells #[.int .i64 a.id, .int .i64 a.who, .int .i64 a.side, .int .i64 a.kind, .int .i64 a.price, .int .i64 a.qty, .int .i64 a.show_, .int .i64 a.stop] 31)) (g' := w.heap.size + 1) (by simp) 31 #[.int .i64 b.id, .int .i64 b.who, .int .i64 b.side, .int .i64 b.kind, .int .i64 b.price, .int .i64 b.qty, .int .i64 b.show_, .int .i64 b.stop]
  have HW : Hid ((w.alloc (.cells #[.int .i64 a.id, .int .i64 a.who, .int .i64 a.side, .int .i64 a.kind, .int .i64 a.price, .int .i64 a.qty, .int .i64 a.show_, .int .i64 a.stop] 31)).alloc (.cells #[.int .i64 b.id, .int .i64 b.who, .int .i64 b.side, .int .i64 b.kind, .int .i64 b.price, .int .i64 b.qty, .int .i64 b.show_, .int .i64 b.stop] 31) = grow w #[.cells #[.int .i64 a.id, .int .i64 a.who, .int .i64 a.side, .int .i64 a.kind, .int .i64 a.price, .int .i64 a.qty, .int .i64 a.show_, .int .i64 a.stop] 31, .cells #[.int .i64 b.id, .int .i64 b.who, .int .i64 b.side, .int .i64 b.kind, .int .i64 b.price, .int .i64 b.qty, .int .i64 b.show_, .int .i64 b.stop] 31]) := by rw [alloc_eq_grow, alloc_eq_grow, grow_grow]; exact Lib.hid rfl
  have cC := Lib.hid (fun a b w => compare_any a b w)
  have cE := Lib.hid (fun a b w => (compare_any a b w).mono fun e w' (h : _ ∧ _) => (And.intro h.1 h.2.symm : e = .returned (.int .i64 (cmpI a b)) ∧ w' = w))
  by_cases hs : a.side = b.side ∧ a.side ≠ 1
  · have e1 : (a.side != b.side) = false := by simp [hs.1]
    have e2 : (a.side == 1) = false := by simpa using hs.2
    have HE := Lib.hid (show wcf a b = cmpI b.stop a.stop from if_pos hs)
    clear hs
    go_enter Tryz.func104, Tryz.ntmps104
    go_upto_region 1 with fail
    generalize (w.alloc (.cells #[.int .i64 a.id, .int .i64 a.who, .int .i64 a.side, .int .i64 a.kind, .int .i64 a.price, .int .i64 a.qty, .int .i64 a.show_, .int .i64 a.stop] 31)).alloc (.cells #[.int .i64 b.id, .int .i64 b.who, .int .i64 b.side, .int .i64 b.kind, .int .i64 b.price, .int .i64 b.qty, .int .i64 b.show_, .int .i64 b.stop] 31) = w1 at *
    obtain ⟨a0, a1, a2, a3, a4, a5, a6, a7⟩ := obox bA
    obtain ⟨b0, b1, b2, b3, b4, b5, b6, b7⟩ := obox bB
    clear bA bB
    go_wp2_with (go_at_call 106; refine (cC.out _ _ _).mono ?_; rintro e w' ⟨rfl, rfl⟩)
    go_ret
    exact ⟨by rw [HE.out]; rfl, 0, _, by rw [HW.out]; rfl⟩
  · have HE := Lib.hid (show wcf a b = or2 (cmpI a.side b.side) (cmpI a.stop b.stop) from if_neg hs)
    have e12 : (a.side != b.side) = true ∨ (a.side != b.side) = false ∧ (a.side == 1) = true := by
      by_cases h : a.side = b.side
      · exact .inr ⟨by simp [h], by simpa using (show a.side = 1 by by_cases h1 : a.side = 1; exact h1; exact absurd ⟨h, h1⟩ hs)⟩
      · exact .inl (by simpa using h)
    clear hs
    go_enter Tryz.func104, Tryz.ntmps104
    go_upto_region 1 with fail
    generalize (w.alloc (.cells #[.int .i64 a.id, .int .i64 a.who, .int .i64 a.side, .int .i64 a.kind, .int .i64 a.price, .int .i64 a.qty, .int .i64 a.show_, .int .i64 a.stop] 31)).alloc (.cells #[.int .i64 b.id, .int .i64 b.who, .int .i64 b.side, .int .i64 b.kind, .int .i64 b.price, .int .i64 b.qty, .int .i64 b.show_, .int .i64 b.stop] 31) = w1 at *
    obtain ⟨a0, a1, a2, a3, a4, a5, a6, a7⟩ := obox bA
    obtain ⟨b0, b1, b2, b3, b4, b5, b6, b7⟩ := obox bB
    clear bA bB
    have hreg : True := trivial
    rcases e12 with e1 | ⟨e1, e2⟩
    all_goals
      go_upto_region 2 with fail
      refine wp_region_still_tail 10 (by kernel_rfl) (by kernel_rfl) ?_
      simp only [List.take_succ_cons, List.take_zero, List.drop_succ_cons, List.drop_zero]
      repeat still_step
      still_call (cE.out _ _ _)
      repeat still_step
      still_call (cE.out _ _ _)
      refine wpStill_nil ?_
      change wpList _ _ _ _ _ w1.drew
      have cO := Lib.hid (fun g w h0 h1 => or_any (cmpI a.side b.side) (cmpI a.stop b.stop) g w h0 h1)
      clear cE cC a0 a1 a2 a3 a4 a5 a6 a7 b0 b1 b2 b3 b4 b5 b6 b7
      generalize cmpI a.side b.side = X at *
      generalize cmpI a.stop b.stop = Y at *
      have k := pair2 (Bk.new w1.drew 3 #[.int .i64 X, .int .i64 Y])
      go_wp2_with (go_at_call 105; refine (cO.out _ _ k.1 k.2).mono ?_; rintro e w' ⟨rfl, rfl⟩)
      go_ret
      exact ⟨by rw [HE.out]; rfl, 1, _, by rw [HW.out, alloc_eq_grow]; exact (grow_grow (w.drewN 1) _ _)⟩
end Go.Proofs.YtkdgpdijbobmkaaGreat
namespace Go.Proofs.YtkdgpdijbobmkaaGreat
set_option linter.all false
open Go Go.RowKit Go.Sort
/-- does an order wake at a price? -/
def wakesB (p : Int) (o : Order) : Bool := decide (o.stop = p) || ahd' o.side o.stop p
theorem wakes_any (o : Order) (p : Int) (w : World) : Calls Tryz.prog 102 #[.agg #[.int .i64 o.id, .int .i64 o.who, .int .i64 o.side, .int .i64 o.kind, .int .i64 o.price, .int .i64 o.qty, .int .i64 o.show_, .int .i64 o.stop], .int .i64 p] w fun e w' => e = .returned (.bool (wakesB p o)) ∧ w' = w.alloc (.cells #[.int .i64 o.id, .int .i64 o.who, .int .i64 o.side, .int .i64 o.kind, .int .i64 o.price, .int .i64 o.qty, .int .i64 o.show_, .int .i64 o.stop] 31) := by
  have cA := Lib.hid (fun s a b w => ahead_any s a b w)
  by_cases h : o.stop = p
  · have e1 : (o.stop == p) = true := by simpa using h
    have HE := Lib.hid (show wakesB p o = true by simp [wakesB, h])
    clear h
    go_enter Tryz.func102, Tryz.ntmps102
    go_wp2
    go_ret
    exact ⟨by rw [HE.out]; rfl, rfl⟩
  · have e1 : (o.stop == p) = false := by simpa using h
    have HE := Lib.hid (show wakesB p o = ahd' o.side o.stop p by simp [wakesB, h])
    clear h
    go_enter Tryz.func102, Tryz.ntmps102
    go_wp2_with (go_at_call 112; refine (cA.out _ _ _ _).mono ?_; rintro e w' ⟨rfl, rfl⟩)
    go_ret
    exact ⟨by rw [HE.out]; rfl, rfl⟩
def wokenL (p : Int) (l : List Order) : List Order := l.filter (wakesB p)
def leftS (p : Int) (l : List Order) : List Order := l.filter fun o => !wakesB p o
def stop0 (o : Order) : Order := ⟨o.id, o.who, o.side, o.kind, o.price, o.qty, o.show_, 0⟩
/-- who wakes, in order -/
def wakeL (p : Int) (l : List Order) : List Order := (isort (ltOf wcf) (wokenL p l)).map stop0
theorem wokenL_take {p : Int} {l : List Order} {k : Nat} {o : Order} (h : l[k]? = some o) : wokenL p (l.take (k + 1)) = if wakesB p o = true then wokenL p (l.take k) ++ [o] else wokenL p (l.take k) := by
  rw [wokenL, List.take_add_one, h, List.filter_append]
  by_cases e : wakesB p o = true
  · rw [if_pos e]; simp [wokenL, e]
  · rw [if_neg e]; simp [wokenL, e]
theorem leftS_take {p : Int} {l : List Order} {k : Nat} {o : Order} (h : l[k]? = some o) : leftS p (l.take (k + 1)) = if wakesB p o = true then leftS p (l.take k) else leftS p (l.take k) ++ [o] := by
  rw [leftS, List.take_add_one, h, List.filter_append]
  by_cases e : wakesB p o = true
  · rw [if_pos e]; simp [leftS, e]
  · rw [if_neg e]; simp [leftS, e]
theorem wokenL_len (p : Int) (l : List Order) : (wokenL p l).length ≤ l.length := List.length_filter_le _ _
theorem leftS_len (p : Int) (l : List Order) : (leftS p l).length ≤ l.length := List.length_filter_le _ _
/-- how Wake ends, at a price -/
def WakeS (p : Int) (l : List Order) (g base : Nat) (w : World) (e : Ending) (w' : World) : Prop :=
  ∃ AO cO A' c', e = .returned (.tuple #[.slice AO (wakeL p l).length cO, .nilIface]) ∧ Hid (OwnS w' w.heap.size 8 AO (wakeL p l).length cO (ords (wakeL p l))) ∧ Hid (StM w' g base A' c' (leftS p l)) ∧ Hid (Kb [some g] w w') ∧ (∀ k, rowOf A' c' = some k → w.heap.size ≤ k) ∧ (rowOf AO cO = none ∨ rowOf AO cO ≠ rowOf A' c')
theorem wwake_bad (p : Int) (g : Nat) (w : World) (hp : vp p = false) : Calls Tryz.prog 74 #[.pointer (some ⟨g, 0, none⟩), .int .i64 p] w fun e w' => e = .returned (.tuple #[.slice none 0 0, er 1]) ∧ w = w' := by
  have cP := Lib.hid (fun w => sprice_any p w)
  rw [show (if vp p = true then (0 : Int) else 1) = 1 by simp [hp], show errV 1 = er 1 from rfl] at cP
  clear hp
  go_enter Tryz.func74, Tryz.ntmps74
  go_wp2_with fail
  go_at_call 22
  refine (cP.out _).mono ?_
  rintro e w1 ⟨rfl, rfl⟩
  clear cP
  go_wp2
  go_ret2
  exact ⟨rfl, rfl⟩
theorem ords_stop0 (a : List Order) (o : Order) (b : List Order) : (ords (a ++ o :: b)).set (a.length * 8 + 7) (.int .i64 0) = ords (a ++ stop0 o :: b) := by
  rw [ords_app, ords_app, ords_cons, ords_cons, List.set_append_right _ _ (by rw [ords_len]; omega), ords_len, show a.length * 8 + 7 - a.length * 8 = 7 by omega]
  rfl
theorem OwnS.apart0 {w w' : World} {base s n c : Nat} {B : Option Addr} {xs : List Value} {row : Option Nat} (o : OwnS w base s B n c xs) (hg : w.grownBy w' row) (hp : rowOf B c = none ∨ rowOf B c ≠ row) : OwnS w' base s B n c xs := by
  rcases hp with e | e
  · refine ⟨o.len, o.le, o.max, fun hc => ?_⟩
    obtain ⟨g, off, e', _⟩ := o.lies hc
    rw [rowOf, if_neg (by omega), e'] at e; cases e
  · exact o.keep hg (.inr e)
set_option maxRecDepth 100000 in
set_option maxHeartbeats 8000000 in
theorem wwake_any (p : Int) (l : List Order) (g base : Nat) (A : Option Addr) (c : Nat) (w : World) (h : StM w g base A c l) (hl : l.length ≤ 20) (hp : vp p = true) (hbw : base ≤ w.heap.size) :
    Calls Tryz.prog 74 #[.pointer (some ⟨g, 0, none⟩), .int .i64 p] w (WakeS p l g base w) := by
  have hgl : g < w.heap.size := h.b.lt
  have c0 : w.cell? ⟨g, 0, none⟩ = some (.slice A l.length c) := by simpa using h.b.cell 0
  have cP := Lib.hid (fun w => sprice_any p w)
  rw [show (if vp p = true then (0 : Int) else 1) = 0 by simp [hp], show errV 0 = .nilIface from rfl] at cP
  have HR := Lib.hid h.own.rdO
  have HB := Lib.hid h.b
  have cW := Lib.hid (fun o w => wakes_any o p w)
  obtain ⟨i0, hi, hz0, hz1, hz2⟩ := info_parts info_ord
  have HI := Lib.hid hi; have H0 := Lib.hid hz0; have H1 := Lib.hid hz1; have H2 := Lib.hid hz2
  clear hi hz0 hz1 hz2 hp h
  go_enter Tryz.func74, Tryz.ntmps74
  go_wp2_with fail
  go_at_call 22
  refine (cP.out _).mono ?_
  rintro e w1 ⟨rfl, rfl⟩
  clear cP
  go_wp2
  go_loopw [7, 8, 22] (fun o s i wr => ∃ (k : Nat) (AO AL : Option Addr) (nO nL cO cL : Nat), k ≤ l.length ∧ i = .int .i64 k ∧ o = .slice AO nO cO ∧ s = .slice AL nL cL ∧ nO ≤ k ∧ nL ≤ k ∧
      Hid (nO = (wokenL p (l.take k)).length ∧ nL = (leftS p (l.take k)).length ∧ OwnS wr w.heap.size 8 AO nO cO (ords (wokenL p (l.take k))) ∧ OwnS wr w.heap.size 8 AL nL cL (ords (leftS p (l.take k))) ∧ (rowOf AO cO = none ∨ rowOf AO cO ≠ rowOf AL cL)) ∧ Below w.heap.size w wr) (fun _ _ i _ => l.length - (intOf i).toNat)
  case atStart => exact ⟨0, none, none, 0, 0, 0, 0, by omega, rfl, rfl, rfl, by omega, by omega, Lib.hid ⟨rfl, rfl, OwnS.nil _ _ _ _, OwnS.nil _ _ _ _, .inl rfl⟩, Below.refl _ _⟩
  case round =>
    obtain ⟨k, AO, AL, nO, nL, cO, cL, hk, rfl, rfl, rfl, hnO, hnL, HO, hb⟩ := hrel
    by_cases hlt : k < l.length
    · obtain ⟨b, off, o, rfl, hbl, ht, e0, e1, e2, e3, e4, e5, e6, e7⟩ := ord_at (HR.out.below hb) hlt
      have j0 : (0 : Int) ≤ (k : Int) := by omega
      have j1 : (k : Int) < (l.length : Int) := by omega
      have HT := Lib.hid ht
      clear ht c0
      have bx := Bk.new wr 31 #[.int .i64 o.id, .int .i64 o.who, .int .i64 o.side, .int .i64 o.kind, .int .i64 o.price, .int .i64 o.qty, .int .i64 o.show_, .int .i64 o.stop]
      have hba : Below wr.heap.size wr (wr.alloc (.cells #[.int .i64 o.id, .int .i64 o.who, .int .i64 o.side, .int .i64 o.kind, .int .i64 o.price, .int .i64 o.qty, .int .i64 o.show_, .int .i64 o.stop] 31)) := (Below.refl _ _).alloc (Nat.le_refl _) _
      have HO2 := Lib.hid (And.intro (HO.out.2.2.1.below hba) (HO.out.2.2.2.1.below hba))
      replace hb := below_then hba hb
      have HSZ := Lib.hid (show (wr.alloc (.cells #[.int .i64 o.id, .int .i64 o.who, .int .i64 o.side, .int .i64 o.kind, .int .i64 o.price, .int .i64 o.qty, .int .i64 o.show_, .int .i64 o.stop] 31)).heap.size = wr.heap.size + 1 by simp)
      clear hba
      go_upto_region 8 with fail
      generalize wr.alloc (.cells #[.int .i64 o.id, .int .i64 o.who, .int .i64 o.side, .int .i64 o.kind, .int .i64 o.price, .int .i64 o.qty, .int .i64 o.show_, .int .i64 o.stop] 31) = w2 at *
      obtain ⟨o0, o1, o2, o3, o4, o5, o6, o7⟩ := obox bx
      go_wp2_with fail
      go_at_call 102
      refine (cW.out _ _).mono ?_
      rintro e w3 ⟨rfl, hw3⟩
      have hba : Below w2.heap.size w2 w3 := by rw [hw3]; exact (Below.refl _ _).alloc (Nat.le_refl _) _
      replace bx := bx.keep hba; replace hb := below_then hba hb
      have HO3 := Lib.hid (And.intro (HO2.out.1.below hba) (HO2.out.2.below hba))
      clear hw3 hba o0 o1 o2 o3 o4 o5 o6 o7 HO2 HSZ e0 e1 e2 e3 e4 e5 e6 e7
      obtain ⟨o0, o1, o2, o3, o4, o5, o6, o7⟩ := obox bx
      have hz := hb.size
      rcases (show wakesB p o = true ∨ wakesB p o = false by cases wakesB p o <;> simp) with hwk | hwk
      · rw [hwk]
        have HK := Lib.hid hwk
        clear hwk
        go_wp2_with (at_builtin; go_loud (refine wpList_append_S (base := w.heap.size) (s := 8) (n := nO) (cap := cO) rfl _ _ _ _ rfl 31 i0 _ 64 Tryz.underlying45 HI.out H0.out H1.out H2.out rfl rfl (HO3.out.1.alloc _) (by simp; omega) _ rfl 1 o.vals (src_block (m := 1) (Bk.new w3 31 #[.int .i64 o.id, .int .i64 o.who, .int .i64 o.side, .int .i64 o.kind, .int .i64 o.price, .int .i64 o.qty, .int .i64 o.show_, .int .i64 o.stop]) Tryz.underlying45 rfl o.vals_one 1) (by unfold maxLen; omega) (by omega) ?_); intro A' cap' w' gr)
        have hb4 := hb.alloc hz (.cells #[.int .i64 o.id, .int .i64 o.who, .int .i64 o.side, .int .i64 o.kind, .int .i64 o.price, .int .i64 o.qty, .int .i64 o.show_, .int .i64 o.stop] 31)
        have hrow := fun k hk => (HO3.out.1.row_lt k hk).1
        have hbf := Below.grown hb4 gr.grown (by simp; omega) hrow
        have hap := HO.out.2.2.2.2
        have hrowL := HO3.out.2.row_lt
        have oL : OwnS w' w.heap.size 8 AL nL cL (ords (leftS p (l.take k))) := (HO3.out.2.alloc _).keep gr.grown (by
          rcases hap with e | e
          · exact .inl e
          · exact .inr (Ne.symm e))
        have HN := Lib.hid (show nO + 1 = (wokenL p (l.take (k + 1))).length ∧ nL = (leftS p (l.take (k + 1))).length ∧ OwnS w' w.heap.size 8 A' (nO + 1) cap' (ords (wokenL p (l.take (k + 1)))) ∧ OwnS w' w.heap.size 8 AL nL cL (ords (leftS p (l.take (k + 1)))) ∧ (rowOf A' cap' = none ∨ rowOf A' cap' ≠ rowOf AL cL) from by
          rw [wokenL_take HT.out, if_pos HK.out, leftS_take HT.out, if_pos HK.out, List.length_append, ords_app, show ords [o] = o.vals by simp [ords]]
          refine ⟨by rw [HO.out.1]; rfl, HO.out.2.1, gr.own, oL, ?_⟩
          rcases gr.row with e | e
          · rw [e]; exact hap
          · rw [e]; right; intro e2; have := (hrowL _ e2.symm).2; simp at this; omega)
        clear gr oL hap hrow hrowL hb4 hz
        go_roundw
        case rel => exact ⟨k + 1, A', AL, nO + 1, nL, cap', cL, by omega, by go_num, by simp, rfl, by omega, by omega, HN, hbf⟩
        case measure => simp [intOf]; omega
      · rw [hwk]
        have HK := Lib.hid hwk
        clear hwk
        go_wp2_with (at_builtin; go_loud (refine wpList_append_S (base := w.heap.size) (s := 8) (n := nL) (cap := cL) rfl _ _ _ _ rfl 31 i0 _ 64 Tryz.underlying45 HI.out H0.out H1.out H2.out rfl rfl (HO3.out.2.alloc _) (by simp; omega) _ rfl 1 o.vals (src_block (m := 1) (Bk.new w3 31 #[.int .i64 o.id, .int .i64 o.who, .int .i64 o.side, .int .i64 o.kind, .int .i64 o.price, .int .i64 o.qty, .int .i64 o.show_, .int .i64 o.stop]) Tryz.underlying45 rfl o.vals_one 1) (by unfold maxLen; omega) (by omega) ?_); intro A' cap' w' gr)
        have hb4 := hb.alloc hz (.cells #[.int .i64 o.id, .int .i64 o.who, .int .i64 o.side, .int .i64 o.kind, .int .i64 o.price, .int .i64 o.qty, .int .i64 o.show_, .int .i64 o.stop] 31)
        have hrow := fun k hk => (HO3.out.2.row_lt k hk).1
        have hbf := Below.grown hb4 gr.grown (by simp; omega) hrow
        have hap := HO.out.2.2.2.2
        have hrowO := HO3.out.1.row_lt
        have oO : OwnS w' w.heap.size 8 AO nO cO (ords (wokenL p (l.take k))) := (HO3.out.1.alloc _).apart0 gr.grown hap
        have HN := Lib.hid (show nO = (wokenL p (l.take (k + 1))).length ∧ nL + 1 = (leftS p (l.take (k + 1))).length ∧ OwnS w' w.heap.size 8 AO nO cO (ords (wokenL p (l.take (k + 1)))) ∧ OwnS w' w.heap.size 8 A' (nL + 1) cap' (ords (leftS p (l.take (k + 1)))) ∧ (rowOf AO cO = none ∨ rowOf AO cO ≠ rowOf A' cap') from by
          have hk : ¬ wakesB p o = true := by rw [HK.out]; decide
          rw [wokenL_take HT.out, if_neg hk, leftS_take HT.out, if_neg hk, List.length_append, ords_app, show ords [o] = o.vals by simp [ords]]
          refine ⟨HO.out.1, by rw [HO.out.2.1]; rfl, oO, gr.own, ?_⟩
          rcases gr.row with e | e
          · rw [e]; exact hap
          · rw [e]; right; intro e2; have := (hrowO _ e2).2; simp at this; omega)
        clear gr oO hap hrow hrowO hb4 hz
        go_roundw
        case rel => exact ⟨k + 1, AO, A', nO, nL + 1, cO, cap', by omega, by go_num, rfl, by simp, by omega, by omega, HN, hbf⟩
        case measure => simp [intOf]; omega
    · obtain rfl : k = l.length := by omega
      rw [List.take_length] at HO
      have stb := HB.out.below hb hgl
      have d0 : wr.cell? ⟨g, 0, none⟩ = some (.slice A l.length c) := by simpa using stb.cell 0
      have f0 := stb.free 0
      obtain ⟨hO1, hL1, oO, oL, hap⟩ := HO.out
      have hO20 := wokenL_len p l
      have hrowO := fun k hk => (oO.row_lt k hk).1
      have hrowL := fun k hk => (oL.row_lt k hk).1
      have hzr := hb.size
      have hgO : rowOf AO cO ≠ some g := fun e => by have := hrowO g e; omega
      have hgL : rowOf AL cL ≠ some g := fun e => by have := hrowL g e; omega
      have oO2 := oO.far (p := ⟨g, 0, none⟩) hgO (.slice AL nL cL)
      have oL2 := oL.far (p := ⟨g, 0, none⟩) hgL (.slice AL nL cL)
      have sb2 : Bk (wr.setCell ⟨g, 0, none⟩ (.slice AL nL cL)) g 139 #[.slice AL nL cL] := by simpa using stb.set_ 0 (.slice AL nL cL)
      have kb2 : Kb [some g] w (wr.setCell ⟨g, 0, none⟩ (.slice AL nL cL)) := (Kb.of_below hb).set (.inl (by simp)) _
      rw [hO1] at oO2
      have cS := Lib.hid (sortst_any wcf 104 (enters_of Tryz.func104 (by kernel_rfl) rfl) wcf_any (wokenL p l) w.heap.size AO cO _ oO2 (by omega))
      have HALL := Lib.hid (And.intro oL2 (And.intro sb2 (And.intro kb2 (And.intro hL1 (And.intro hap (And.intro hrowO (And.intro hrowL (And.intro hgO hgL))))))))
      have hsl : (isort (ltOf wcf) (wokenL p l)).length = nO := by rw [isort_size, hO1]
      rw [← hO1] at cS
      clear oO oL oO2 oL2 sb2 kb2 hL1 hap hrowO hrowL hgO hgL HO stb HR hlt hk hO20 hnL hO1
      obtain ⟨sl, hs⟩ : ∃ s, s = isort (ltOf wcf) (wokenL p l) := ⟨_, rfl⟩
      rw [← hs] at cS hsl
      have HS := Lib.hid hs
      clear hs
      go_wp2_with fail
      go_at_call 103
      refine cS.out.mono ?_
      rintro e w4 ⟨rfl, ho4, hg4⟩
      rw [hsl] at ho4
      have hL4 := HALL.out.1.keep hg4 (by
        rcases HALL.out.2.2.2.2.1 with e | e
        · exact .inl e
        · exact .inr (Ne.symm e))
      obtain ⟨_, sb2, kb2, hL1, hap, hrowO, hrowL, hgO, hgL⟩ := HALL.out
      have sb4 := sb2.grown hg4 (Ne.symm hgO)
      rw [hL1] at sb4
      have hst : StM w4 g base AL cL (leftS p l) := ⟨sb4, by rw [hL1] at hL4; exact hL4.lower hbw, .inr hgL, fun e => by
        rcases Nat.eq_zero_or_pos cL with h0 | h0
        · exact h0
        · obtain ⟨b, off, e', _⟩ := hL4.lies h0
          rw [e] at e'; cases e'⟩
      have hkb : Kb [some g] w w4 := kb2.grown hg4 (by
        cases hr : rowOf AO cO with
        | none => exact .inr (.inl rfl)
        | some k => exact .inr (.inr ⟨k, rfl, hrowO k hr⟩))
      have HC := Lib.hid (And.intro hap (And.intro hrowO (And.intro hrowL (And.intro hgO hgL))))
      have HST := Lib.hid hst; have HKB := Lib.hid hkb; have HO4 := Lib.hid ho4
      clear hL4 sb2 sb4 kb2 hL1 hap hrowO hrowL hgO hgL hst hkb ho4 hg4 HALL cS d0 f0 hb hzr
      go_wp2
      go_loopw [11, 46] (fun _ i wr => ∃ k : Nat, k ≤ nO ∧ i = .int .i64 k ∧ Hid (OwnS wr w.heap.size 8 AO nO cO (ords ((sl.take k).map stop0 ++ sl.drop k))) ∧ Hid (StM wr g base AL cL (leftS p l)) ∧ Hid (Kb [some g] w wr)) (fun _ i _ => nO - (intOf i).toNat)
      case atStart => exact ⟨0, by omega, rfl, by simpa using HO4, HST, HKB⟩
      case round =>
        obtain ⟨k, hk, rfl, HO5, HS5, HK5⟩ := hrel
        clear HST HKB HO4
        by_cases hlt : k < nO
        · obtain ⟨b, off, rfl, hbb, hbl, hc1, hc2⟩ := HO5.out.cell (by omega)
          have hle := HO5.out.le
          have hr : rowOf (some (⟨b, off, none⟩ : Addr)) cO = some b := by rw [rowOf, if_neg (by omega)]; rfl
          obtain ⟨o, ho⟩ : ∃ o, sl[k]? = some o := ⟨sl[k]'(by omega), List.getElem?_eq_getElem (by omega)⟩
          have hd : sl.drop k = o :: sl.drop (k + 1) := by
            have := List.getElem?_eq_some_iff.1 ho
            rw [List.drop_eq_getElem_cons this.1, this.2]
          have htk : sl.take (k + 1) = sl.take k ++ [o] := by rw [List.take_add_one, ho]; rfl
          have hkl : ((sl.take k).map stop0).length = k := by rw [List.length_map, List.length_take]; omega
          have c7 := (hc2 (k * 8 + 7) (by omega)).1
          have f7 := (hc2 (k * 8 + 7) (by omega)).2
          rw [← Nat.add_assoc] at c7 f7
          obtain ⟨v7, c7⟩ := Option.isSome_iff_exists.1 c7
          have hnext := HO5.out.set (j := k * 8 + 7) (by omega) (.int .i64 0)
          have hset : (ords ((sl.take k).map stop0 ++ sl.drop k)).set (k * 8 + 7) (.int .i64 0) = ords ((sl.take (k + 1)).map stop0 ++ sl.drop (k + 1)) := by
            rw [hd]
            have := ords_stop0 ((sl.take k).map stop0) o (sl.drop (k + 1))
            rw [hkl] at this
            rw [this, htk, List.map_append]
            simp
          rw [hset, ← Nat.add_assoc] at hnext
          have hgb : g ≠ b := by omega
          have hLb : rowOf AL cL ≠ some b := by
            rcases HC.out.1 with e | e
            · rw [hr] at e; cases e
            · rw [hr] at e; exact Ne.symm e
          have HN := Lib.hid (And.intro hnext (And.intro (show StM _ g base AL cL (leftS p l) from ⟨HS5.out.b.far (p := ⟨b, off + k * 8 + 7, none⟩) hgb (.int .i64 0), HS5.out.own.far (p := ⟨b, off + k * 8 + 7, none⟩) hLb (.int .i64 0), HS5.out.apart, HS5.out.z⟩) (HK5.out.set (p := ⟨b, off + k * 8 + 7, none⟩) (.inr hbb) (.int .i64 0))))
          have j0 : (0 : Int) ≤ (k : Int) := by omega
          have j1 : (k : Int) < (nO : Int) := by omega
          clear hc1 hc2 hnext hset hd htk ho hgb hLb hr hkl hbl
          go_wp2
          go_roundw
          case rel => exact ⟨k + 1, by omega, by go_num, Lib.hid HN.out.1, Lib.hid HN.out.2.1, Lib.hid HN.out.2.2⟩
          case measure => simp [intOf]; omega
        · have hkn : k = nO := by omega
          subst k
          have hfin : (sl.take nO).map stop0 ++ sl.drop nO = wakeL p l := by
            rw [← hsl, List.take_length, List.drop_length, List.append_nil, HS.out]; rfl
          have hlen : (wakeL p l).length = nO := by rw [wakeL, List.length_map, ← HS.out]; exact hsl
          rw [hfin, ← hlen] at HO5
          rw [← hlen]
          have HC2 := Lib.hid (And.intro HC.out.2.2.1 HC.out.1)
          clear hfin hlen hsl HC
          go_wp2
          go_ret2
          exact ⟨AO, cO, AL, cL, rfl, HO5, HS5, HK5, HC2.out.1, HC2.out.2⟩
end Go.Proofs.YtkdgpdijbobmkaaGreat
namespace Go.Proofs.YtkdgpdijbobmkaaGreat
set_option linter.all false
open Go Go.RowKit
/-- stops that are right -/
structure StOk (S : List Order) : Prop where
  few : S.length ≤ 20
  sound : ∀ o ∈ S, o.err = 0 ∧ o.stop ≠ 0
  once : (S.map Order.id).Nodup
section
variable {S : List Order} {o : Order} {p : Int}
theorem StOk.nil : StOk [] := ⟨by simp, fun o h => (by cases h), List.nodup_nil⟩
theorem waitE_ok (h : waitE S o = 0) : o.err = 0 ∧ o.stop ≠ 0 ∧ whereI S o.id < 0 ∧ S.length < 20 := by
  unfold waitE at h
  split at h
  · rename_i h1; exact absurd h h1
  · rename_i h1
    split at h
    · omega
    · split at h
      · omega
      · split at h
        · omega
        · exact ⟨by simpa using h1, by assumption, by omega, by omega⟩
theorem StOk.wait (h : StOk S) (o : Order) : StOk (waitL S o) := by
  unfold waitL
  split
  · rename_i he
    obtain ⟨h1, h2, h3, h4⟩ := waitE_ok he
    refine ⟨by simp; omega, fun x hx => ?_, ?_⟩
    · rcases List.mem_append.1 hx with hx | hx
      · exact h.sound x hx
      · rw [List.mem_singleton] at hx; subst hx; exact ⟨h1, h2⟩
    · rw [List.map_append, List.nodup_append]
      refine ⟨h.once, by simp, fun a ha b hb => ?_⟩
      obtain ⟨x, hx, rfl⟩ := List.mem_map.1 ha
      simp only [List.map_cons, List.map_nil, List.mem_singleton] at hb
      subst hb
      exact whereI_lt h3 x hx
  · exact h
theorem StOk.left (h : StOk S) (p : Int) : StOk (leftS p S) := ⟨by have := leftS_len p S; have := h.few; omega, fun o ho => h.sound o (List.mem_filter.1 ho).1, h.once.sublist (List.filter_sublist.map _)⟩
theorem stop0_err (h : o.err = 0) : (stop0 o).err = 0 := by
  unfold Order.err stop0 at *
  split at h
  · omega
  · rename_i h1
    split at h
    · omega
    · rename_i h2
      split at h
      · omega
      · rename_i h3
        split at h
        · omega
        · rename_i h4
          rw [if_neg h1, if_neg h2, if_neg h3, if_neg h4]
          rfl
theorem wakeL_at {i : Nat} (h : StOk S) (ho : (wakeL p S)[i]? = some o) : o.stop = 0 ∧ o.err = 0 := by
  rw [wakeL, List.getElem?_map, Option.map_eq_some_iff] at ho
  obtain ⟨o', ho', rfl⟩ := ho
  have := (isort_mem _).1 (List.mem_of_getElem? ho')
  exact ⟨rfl, stop0_err (h.sound o' (List.mem_filter.1 this).1).1⟩
theorem wakeL_ids (h : StOk S) : ((wakeL p S).map Order.id).Nodup := by
  rw [wakeL, List.map_map, show Order.id ∘ stop0 = Order.id from rfl]
  have hp := (isort_perm (ltOf wcf) (wokenL p S)).map Order.id
  exact hp.nodup_iff.2 (h.once.sublist (List.filter_sublist.map _))
theorem wakeL_ne {i k : Nat} {a b : Order} (h : StOk S) (hk : k < i) (ha : (wakeL p S)[k]? = some a) (hb : (wakeL p S)[i]? = some b) : a.id ≠ b.id := by
  have hn := wakeL_ids (p := p) h
  rw [List.Nodup, List.pairwise_iff_getElem] at hn
  obtain ⟨i1, i2⟩ := List.getElem?_eq_some_iff.1 ha
  obtain ⟨j1, j2⟩ := List.getElem?_eq_some_iff.1 hb
  have := hn k i (by simpa using i1) (by simpa using j1) hk
  simpa [i2, j2] using this
theorem leftS_at {i : Nat} (h : StOk S) (ho : (leftS p S)[i]? = some o) : (o.side = 1 → p < o.stop) ∧ (o.side = 2 → o.stop < p) := by
  have hm := List.mem_filter.1 (List.mem_of_getElem? ho)
  have hw : wakesB p o = false := by simpa using hm.2
  unfold wakesB ahd' at hw
  simp only [Bool.or_eq_false_iff, decide_eq_false_iff_not] at hw
  constructor
  · intro hs; rw [if_pos hs] at hw; have := hw.2; simp at this; omega
  · intro hs; rw [if_neg (by omega)] at hw; have := hw.2; simp at this; omega
theorem left_woken : wokenL p (leftS p S) = [] := by
  rw [wokenL, leftS, List.filter_filter, List.filter_eq_nil_iff]
  intro o _
  cases wakesB p o <;> simp
theorem wake_left : wakeL p (leftS p S) = [] := by rw [wakeL, left_woken]; rfl
theorem wake_all : (wakeL p S).length + (leftS p S).length = S.length := by
  rw [wakeL, List.length_map, isort_len, wokenL, leftS]
  induction S with
  | nil => rfl
  | cons a l ih => rw [List.filter_cons, List.filter_cons]; cases wakesB p a <;> simp <;> omega
end
end Go.Proofs.YtkdgpdijbobmkaaGreat
