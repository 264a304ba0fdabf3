/- The contracts of wake.Drop, Copy. -/
import Derived.Test.YtiaofbkhnodbhaaDoorWakePut
import Derived.Test.YtiaofbkhnodbhaaDoorDelOrd
import Derived.Test.YtiaofbkhnodbhaaDoorSetC
namespace Go.Proofs.YtiaofbkhnodbhaaDoor
set_option linter.all false
open Go Go.RowKit
/-- what is wrong with who goes; who it is; who waits on -/
def goneE (l : List Order) (id : Int) : Int := if whereI l id < 0 then 5 else 0
def goneO (l : List Order) (id : Int) : Order := if whereI l id < 0 then ord0 else l.getD (whereI l id).toNat ord0
def goneL (l : List Order) (id : Int) : List Order := if whereI l id < 0 then l else l.eraseIdx (whereI l id).toNat
theorem whereI_at {l : List Order} {id : Int} (h : ¬ whereI l id < 0) : ∃ (k : Nat) (o : Order), whereI l id = k ∧ l[k]? = some o ∧ o.id = id := by
  unfold whereI at h ⊢
  cases hf : l.findIdx? (fun r => r.id == id) with
  | none => rw [hf] at h; exact absurd (by decide) h
  | some i =>
    rw [List.findIdx?_eq_some_iff_getElem] at hf
    obtain ⟨hi, hp, _⟩ := hf
    exact ⟨i, l[i], rfl, List.getElem?_eq_getElem hi, by simpa using hp⟩
theorem ord_size8 : (Tryd.prog.info? 58).map (·.size) = some 8 := by kernel_rfl
theorem ord_one8 {a0 a1 a2 a3 a4 a5 a6 a7 : Int} : (#[Value.int .i64 a0, .int .i64 a1, .int .i64 a2, .int .i64 a3, .int .i64 a4, .int .i64 a5, .int .i64 a6, .int .i64 a7] : Array Value).all (·.oneCell') = true := all_oneCell_toArray (cs := [_, _, _, _, _, _, _, _]) (Order.vals_one ⟨a0, a1, a2, a3, a4, a5, a6, a7⟩)
theorem ord_read {w : World} {g : Nat} {cs : Array Value} (h : Bk w g 58 cs) (hl : cs.size = 8) : (loadVar 58 ⟨g, 0, none⟩).run Tryd.prog w = .ok (.agg cs) w := by
  have := run_loadVar_mid (P := Tryd.prog) w g 0 58 cs.toList _ h.range Tryd.underlying58 rfl (by rw [ord_size8]; simp [hl])
  simpa using this
theorem StM.setCs {w : World} {g base c k i : Nat} {A : Option Addr} {l : List Order} {vs : List Value} (h : StM w g base A c l) (hk : g ≠ k) (hr : rowOf A c ≠ some k) : StM (w.setCells k i vs) g base A c l := ⟨h.b.farCs hk, h.own.keep grown_Cs (.inr hr), h.apart, h.z⟩
/-- how Drop ends -/
def DropS (l : List Order) (id : Int) (g base : Nat) (A : Option Addr) (c : Nat) (w : World) (e : Ending) (w' : World) : Prop :=
  e = .returned (.tuple #[.agg #[.int .i64 (goneO l id).id, .int .i64 (goneO l id).who, .int .i64 (goneO l id).side, .int .i64 (goneO l id).kind, .int .i64 (goneO l id).price, .int .i64 (goneO l id).qty, .int .i64 (goneO l id).show_, .int .i64 (goneO l id).stop], errV (goneE l id)]) ∧ Hid (StM w' g base A c (goneL l id)) ∧ Hid (Kb [some g, rowOf A c] w w')
set_option maxRecDepth 100000 in
set_option maxHeartbeats 4000000 in
theorem wdrop_any (l : List Order) (id : Int) (g base : Nat) (A : Option Addr) (c : Nat) (w : World) (h : StM w g base A c l) (hl : l.length ≤ 100) (hbw : base ≤ w.heap.size) :
    Calls Tryd.prog 24 #[.pointer (some ⟨g, 0, none⟩), .int .i64 id] w (DropS l id g base A c w) := by
  have hgl : g < w.heap.size := h.b.lt
  have br := Bk.new w 58 #[.int .i64 0, .int .i64 0, .int .i64 0, .int .i64 0, .int .i64 0, .int .i64 0, .int .i64 0, .int .i64 0]
  have hb : Below w.heap.size w (w.alloc (.cells #[.int .i64 0, .int .i64 0, .int .i64 0, .int .i64 0, .int .i64 0, .int .i64 0, .int .i64 0, .int .i64 0] 58)) := (Below.refl _ _).alloc (Nat.le_refl _) _
  have hst := h.below hb
  have cW := Lib.hid (wwhere_any l g base A c id _ hst hl)
  have HST := Lib.hid hst
  have HS0 := Lib.hid h
  clear h hst
  go_enter Tryd.func24, Tryd.ntmps24
  go_upto_region 1 with fail
  generalize w.alloc (.cells #[.int .i64 0, .int .i64 0, .int .i64 0, .int .i64 0, .int .i64 0, .int .i64 0, .int .i64 0, .int .i64 0] 58) = w1 at *
  go_wp2_with fail
  go_at_call 68
  refine cW.out.mono ?_
  rintro e w2 ⟨rfl, hb2⟩
  have hst := HST.out.below hb2
  replace br := br.keep hb2; replace hb := below_then hb2 hb
  have HS2 := Lib.hid hst
  have hb2z := Lib.hid (show w.heap.size + 1 ≤ w2.heap.size by have := br.lt; omega)
  clear cW hb2 HST hst
  by_cases hw : whereI l id < 0
  · have HE := Lib.hid (show goneE l id = 5 ∧ goneO l id = ord0 ∧ goneL l id = l from ⟨if_pos hw, if_pos hw, if_pos hw⟩)
    have HTH := Lib.hid br.there; have HBX := Lib.hid (br.setCs (vs := (#[.int .i64 0, .int .i64 0, .int .i64 0, .int .i64 0, .int .i64 0, .int .i64 0, .int .i64 0, .int .i64 0] : Array Value).toList) rfl)
    have HRD := Lib.hid (ord_read HBX.out rfl)
    have hgne : g ≠ w.heap.size := by omega
    have HST := Lib.hid (StM.setCs (vs := (#[.int .i64 0, .int .i64 0, .int .i64 0, .int .i64 0, .int .i64 0, .int .i64 0, .int .i64 0, .int .i64 0] : Array Value).toList) (i := 0) HS2.out hgne (fun e => by have := (HS0.out.own.row_lt _ e).2; omega))
    have HKB := Lib.hid (Kb.of_below (rs := [some g, rowOf A c]) (below_Cs (vs := (#[.int .i64 0, .int .i64 0, .int .i64 0, .int .i64 0, .int .i64 0, .int .i64 0, .int .i64 0, .int .i64 0] : Array Value).toList) (i := 0) (g := w.heap.size) (Nat.le_refl _) hb))
    have hw' : whereI l id < 0 := hw
    clear hw br hb hgne
    generalize whereI l id = kk at *
    go_wp2_with (refine wpList_store_mid (by rfl) 58 _ _ (by rfl) _ 0 #[.int .i64 0, .int .i64 0, .int .i64 0, .int .i64 0, .int .i64 0, .int .i64 0, .int .i64 0, .int .i64 0] (by rfl) (by rfl) HTH.out ord_size8 ord_one8 ?_)
    exact bodyPost_ret (v := .tuple #[.agg #[.int .i64 0, .int .i64 0, .int .i64 0, .int .i64 0, .int .i64 0, .int .i64 0, .int .i64 0, .int .i64 0], er 5]) (results_ct Tryd.results24 rfl rfl HRD.out) rfl ⟨by rw [HE.out.1, HE.out.2.1]; rfl, by rw [HE.out.2.2]; exact HST, HKB⟩
  · obtain ⟨k, o, hk, ho, hid⟩ := whereI_at hw
    have hkl : k < l.length := (List.getElem?_eq_some_iff.1 ho).1
    have HE := Lib.hid (show goneE l id = 0 ∧ goneO l id = o ∧ goneL l id = l.eraseIdx k from ⟨if_neg hw, by rw [goneO, if_neg hw, hk]; simp [List.getD_eq_getElem?_getD, ho], by rw [goneL, if_neg hw, hk]; simp⟩)
    rw [hk]
    have c0 : w2.cell? ⟨g, 0, none⟩ = some (.slice A l.length c) := by simpa using HS2.out.b.cell 0
    obtain ⟨b, off, t, hA, hbl, ht, e0, e1, e2, e3, e4, e5, e6, e7⟩ := ord_at HS2.out.own.rdO hkl
    obtain rfl : o = t := Option.some.inj (ho.symm.trans ht)
    have hA2 := hA
    rw [hA] at c0
    have j0 : (0 : Int) ≤ (k : Int) := by omega
    have j1 : (k : Int) < (l.length : Int) := by omega
    have j2 : ¬ (k : Int) < 0 := by omega
    have bo := Bk.new w2 58 #[.int .i64 o.id, .int .i64 o.who, .int .i64 o.side, .int .i64 o.kind, .int .i64 o.price, .int .i64 o.qty, .int .i64 o.show_, .int .i64 o.stop]
    have hba : Below w2.heap.size w2 (w2.alloc (.cells #[.int .i64 o.id, .int .i64 o.who, .int .i64 o.side, .int .i64 o.kind, .int .i64 o.price, .int .i64 o.qty, .int .i64 o.show_, .int .i64 o.stop] 58)) := (Below.refl _ _).alloc (Nat.le_refl _) _
    have HS3 := Lib.hid (HS2.out.below hba)
    replace br := br.keep hba; replace hb := below_then hba hb
    clear hba hw hk ht ho hid
    go_upto_region 5 with fail
    generalize w2.alloc (.cells #[.int .i64 o.id, .int .i64 o.who, .int .i64 o.side, .int .i64 o.kind, .int .i64 o.price, .int .i64 o.qty, .int .i64 o.show_, .int .i64 o.stop] 58) = w3 at *
    clear c0 e0 e1 e2 e3 e4 e5 e6 e7
    have c0 : w3.cell? ⟨g, 0, none⟩ = some (.slice A l.length c) := by simpa using HS3.out.b.cell 0
    rw [← hA]
    obtain ⟨m, hm⟩ : ∃ m, l.length = k + 1 + m := ⟨l.length - (k + 1), by omega⟩
    have cD := Lib.hid (delete_ords l A c base k m w3 HS3.out.own hm hl)
    have f0 := HS3.out.b.free 0
    clear hA hA2 hm
    go_wp2_with fail
    go_at_call 69
    refine cD.out.mono ?_
    rintro e w4 ⟨rfl, ho4, hg4⟩
    have hgA : rowOf A c ≠ some g := fun e => by
      rcases HS0.out.apart with h | h
      · have := (HS0.out.own.row_lt g e).1; omega
      · exact h e
    have hrA : rowOf A c ≠ some w.heap.size := fun e => by have := (HS0.out.own.row_lt _ e).2; omega
    have hgne : g ≠ w.heap.size := by omega
    have hwz : w.heap.size < w2.heap.size := hb2z.out
    have sb4 := HS3.out.b.grown hg4 (Ne.symm hgA)
    have br4 := br.grown hg4 (Ne.symm hrA)
    have bo4 := bo.grown hg4 (fun e => by have := (HS2.out.own.row_lt _ e.symm).2; omega)
    have hkb4 : Kb [some g, rowOf A c] w w4 := (Kb.of_below hb).grown hg4 (.inl (by simp))
    have c4 : w4.cell? ⟨g, 0, none⟩ = some (.slice A l.length c) := by simpa using sb4.cell 0
    have f4 := sb4.free 0
    have sb5 : Bk (w4.setCell ⟨g, 0, none⟩ (.slice A (l.eraseIdx k).length c)) g 121 #[.slice A (l.eraseIdx k).length c] := by simpa using sb4.set_ 0 (.slice A (l.eraseIdx k).length c)
    have st5 : StM (w4.setCell ⟨g, 0, none⟩ (.slice A (l.eraseIdx k).length c)) g base A c (l.eraseIdx k) := ⟨sb5, ho4.far (p := ⟨g, 0, none⟩) hgA _, HS0.out.apart, HS0.out.z⟩
    have br5 := br4.far (p := ⟨g, 0, none⟩) (Ne.symm hgne) (.slice A (l.eraseIdx k).length c)
    have bo5 := bo4.far (p := ⟨g, 0, none⟩) (show w2.heap.size ≠ g by omega) (.slice A (l.eraseIdx k).length c)
    have kb5 := hkb4.set (p := ⟨g, 0, none⟩) (.inl (by simp)) (.slice A (l.eraseIdx k).length c)
    have HALL := Lib.hid (And.intro st5 (And.intro br5 (And.intro bo5 (And.intro kb5 (And.intro hgne hrA)))))
    clear sb4 br4 bo4 hkb4 sb5 st5 br5 bo5 kb5 hgne hrA hgA ho4 hg4 cD c0 f0 bo br hb
    go_upto_region 6 with fail
    obtain ⟨st, br, bo, kb, hgne, hrA⟩ := HALL.out
    clear HALL c4 f4
    generalize w4.setCell ⟨g, 0, none⟩ (.slice A (l.eraseIdx k).length c) = w5 at *
    have HRG := Lib.hid bo.range
    have HTH := Lib.hid br.there
    have HBX := Lib.hid (br.setCs (vs := (#[.int .i64 o.id, .int .i64 o.who, .int .i64 o.side, .int .i64 o.kind, .int .i64 o.price, .int .i64 o.qty, .int .i64 o.show_, .int .i64 o.stop] : Array Value).toList) rfl)
    have HRD := Lib.hid (ord_read HBX.out rfl)
    have HST := Lib.hid (StM.setCs (vs := (#[.int .i64 o.id, .int .i64 o.who, .int .i64 o.side, .int .i64 o.kind, .int .i64 o.price, .int .i64 o.qty, .int .i64 o.show_, .int .i64 o.stop] : Array Value).toList) (i := 0) st hgne hrA)
    have HKB := Lib.hid (kb.grown (grown_Cs (g := w.heap.size) (vs := (#[.int .i64 o.id, .int .i64 o.who, .int .i64 o.side, .int .i64 o.kind, .int .i64 o.price, .int .i64 o.qty, .int .i64 o.show_, .int .i64 o.stop] : Array Value).toList) (i := 0)) (.inr (.inr ⟨_, rfl, Nat.le_refl _⟩)))
    clear st br bo kb hgne hrA
    go_wp2_with (first | (refine wpList_store_mid (by rfl) 58 _ _ (by rfl) _ 0 #[.int .i64 o.id, .int .i64 o.who, .int .i64 o.side, .int .i64 o.kind, .int .i64 o.price, .int .i64 o.qty, .int .i64 o.show_, .int .i64 o.stop] (by rfl) (by rfl) HTH.out ord_size8 ord_one8 ?_) | (refine wpList_load_mid (by rfl) 58 _ (by rfl) w2.heap.size 0 (by rfl) (#[.int .i64 o.id, .int .i64 o.who, .int .i64 o.side, .int .i64 o.kind, .int .i64 o.price, .int .i64 o.qty, .int .i64 o.show_, .int .i64 o.stop] : Array Value).toList _ HRG.out Tryd.underlying58 rfl ord_size8 ?_))
    exact bodyPost_ret (v := .tuple #[.agg #[.int .i64 o.id, .int .i64 o.who, .int .i64 o.side, .int .i64 o.kind, .int .i64 o.price, .int .i64 o.qty, .int .i64 o.show_, .int .i64 o.stop], .nilIface]) (results_ct Tryd.results24 rfl rfl HRD.out) rfl ⟨by rw [HE.out.1, HE.out.2.1]; rfl, by rw [HE.out.2.2]; exact HST, HKB⟩
end Go.Proofs.YtiaofbkhnodbhaaDoor
