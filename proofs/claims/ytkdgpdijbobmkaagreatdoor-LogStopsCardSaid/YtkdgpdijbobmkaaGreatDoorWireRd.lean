/- The contract of wire.ReadCommand. -/
import Derived.Test.YtkdgpdijbobmkaaGreatDoorWireR
import Derived.Test.YtkdgpdijbobmkaaGreatDoorGrpAA
import Derived.Laws.DeepStrings4
import Derived.Lib.ConvBytes
import Derived.Laws.BitsLemmas
import Derived.Deep.CutBlock
import Derived.Deep.DeepCutAuto
namespace Go.Proofs.YtkdgpdijbobmkaaGreatDoor
set_option linter.all false
open Go Go.RowKit
/-- how ReadCommand ends -/
def RdPost (r : Option Cmd) (w : World) (e : Ending) (w' : World) : Prop :=
  e = .returned (.tuple #[.agg (r.getD cmd0).cells, errV (if r.isSome then 0 else 2)]) ∧ Below w.heap.size w w'
theorem rd_bad {r : Option Cmd} {w w' : World} (h : r = none) (hb : Below w.heap.size w w') : RdPost r w (.returned (.tuple #[.agg #[.int .i64 0, .int .i64 0, .int .i64 0, .int .i64 0, .int .i64 0, .int .i64 0, .int .i64 0, .int .i64 0, .int .i64 0, .int .i64 0, .int .i64 0], er 2])) w' := by
  subst h; exact ⟨rfl, hb⟩
theorem rd_good {r : Option Cmd} {c : Cmd} {w w' : World} (h : r = some c) (hb : Below w.heap.size w w') : RdPost r w (.returned (.tuple #[.agg c.cells, .nilIface])) w' := by
  subst h; exact ⟨rfl, hb⟩
set_option maxRecDepth 100000 in
theorem read_short (b : ByteArray) (hb : b.size < 2) (w : World) : Calls Tryz.prog 143 #[.string b] w (RdPost (rdC b) w) := by
  have HR := Lib.hid (rdC_none (b := b) (by rw [rawC, if_pos hb]))
  have hb' : (b.size : Int) < 2 := by omega
  clear hb
  go_enter Tryz.func143, Tryz.ntmps143
  go_wp2
  refine bodyPost_ret (v := .tuple #[.agg #[.int .i64 0, .int .i64 0, .int .i64 0, .int .i64 0, .int .i64 0, .int .i64 0, .int .i64 0, .int .i64 0, .int .i64 0, .int .i64 0, .int .i64 0], er 2]) (by simp [results, Tryz.results143, go_sem]) rfl (rd_bad HR.out ?_)
  (repeat (first | exact Below.refl _ _ | assumption | (refine below_then (by assumption) ?_) | (refine below_then_alloc ?_) | (refine Below.drew ?_)))
theorem off_in {k : Int} {q : Nat} (h : q < (fieldOffs k).length) : ∃ o, (fieldOffs k)[q]? = some o ∧ o < 11 := by
  have hx : ∀ o ∈ fieldOffs k, o < 11 := by
    intro o ho
    unfold fieldOffs at ho
    split at ho
    · simp only [List.mem_cons, List.not_mem_nil, or_false] at ho; omega
    · split at ho <;> (simp only [List.mem_cons, List.not_mem_nil, or_false] at ho; omega)
  exact ⟨_, List.getElem?_eq_getElem h, hx _ (List.getElem_mem h)⟩
/-- the cells behind q numbers -/
def fillA (b : ByteArray) (k : Int) : Nat → Array Value
  | 0 => #[.int .i64 k, .int .i64 0, .int .i64 0, .int .i64 0, .int .i64 0, .int .i64 0, .int .i64 0, .int .i64 0, .int .i64 0, .int .i64 0, .int .i64 0]
  | q + 1 => (fillA b k q).setIfInBounds ((fieldOffs k).getD q 0) (.int .i64 (w2 b q))
theorem fillA_size (b : ByteArray) (k : Int) : ∀ q, (fillA b k q).size = 11
  | 0 => rfl
  | q + 1 => by rw [fillA, Array.size_setIfInBounds, fillA_size b k q]
theorem str_ne {s t : ByteArray} (h : s ≠ t) : (s.toList == t.toList) = false := by
  rw [beq_eq_false_iff_ne, ByteArray.toList_eq, ByteArray.toList_eq]
  intro e
  exact h (ByteArray.ext (Array.toList_inj.1 e))
theorem or_bytes {x y : Int} (hx : 0 ≤ x) (hx2 : x ≤ 255) (hy : 0 ≤ y) (hy2 : y ≤ 255) : bits .or .i64 (wrap64 (wrap64 x * 256)) (wrap64 y) = x * 256 + y := by
  have e1 : wrap64 x = x := by unfold wrap64; omega
  have e2 : wrap64 y = y := by unfold wrap64; omega
  have e3 : wrap64 (x * 256) = x * 256 := by unfold wrap64; omega
  rw [e1, e2, e3]
  exact bits_join .i64 32 (by decide) (fun n h0 h1 => IntWalk.i64_in _ (by omega)) 8 _ _ (by omega) (by omega) (by omega) hy (by omega) (by omega)
theorem ext_byt (b : ByteArray) (n i : Nat) (h : i < (b.extract 1 n).size) : (((b.extract 1 n)[i]'h).toNat : Int) = byt b (1 + i) := by
  have hs : 1 + i < b.size := by rw [ByteArray.size_extract] at h; omega
  rw [byt, dif_pos hs]
  rw [ByteArray.getElem_extract]
theorem or_w2 {b : ByteArray} {n q : Nat} (h1 : 2 * q < (b.extract 1 n).size) (h2 : 2 * q + 1 < (b.extract 1 n).size) : bits .or .i64 (wrap64 (wrap64 (((b.extract 1 n)[2 * q]'h1).toNat : Int) * 256)) (wrap64 (((b.extract 1 n)[2 * q + 1]'h2).toNat : Int)) = w2 b q := by
  rw [ext_byt, ext_byt, or_bytes (byt_in _ _).1 (byt_in _ _).2 (byt_in _ _).1 (byt_in _ _).2, w2, show 1 + (2 * q + 1) = 2 + 2 * q by omega]
theorem fill_next {b : ByteArray} {k v : Int} {q o g : Nat} {T : TypeId} {wr : World} (h : Bk wr g T (fillA b k q)) (ho : (fieldOffs k)[q]? = some o) (hv : v = w2 b q) : Bk (wr.setCell ⟨g, o, none⟩ (.int .i64 v)).drew g T (fillA b k (q + 1)) := by
  subst hv
  have e : (fieldOffs k).getD q 0 = o := by simp [ho]
  rw [fillA, e]
  exact h.set_ o _
set_option maxRecDepth 100000 in
set_option maxHeartbeats 8000000 in
theorem read_f1 (b : ByteArray) (hsz : b.size = 18) (h0 : byt b 0 = 1) (c : Cmd) (hc : fillA b 1 8 = c.cells) (hr : rawC b = some c) (w : World) : Calls Tryz.prog 143 #[.string b] w (RdPost (rdC b) w) := by
    have hb2 : (0 : Int) < (b.size : Int) := by omega
    have h0' : ((b[0]'(by omega)).toNat : Int) = 1 := by rw [← h0, byt, dif_pos (by omega)]
    have HR := Lib.hid hr; have HC := Lib.hid hc; have HF := Lib.hid (fun g w h => fields_any g 1 (by omega) w h)
    clear hr hc h0
    go_enter Tryz.func143, Tryz.ntmps143
    go_upto_region 10 with fail
    have b0 := (Bk.new w 47 #[.int .i64 0, .int .i64 0, .int .i64 0, .int .i64 0, .int .i64 0, .int .i64 0, .int .i64 0, .int .i64 0, .int .i64 0, .int .i64 0, .int .i64 0]).alloc (.cells #[.int .i64 1, .int .i64 0, .int .i64 0, .int .i64 0, .int .i64 0, .int .i64 0, .int .i64 0, .int .i64 0, .int .i64 0, .int .i64 0, .int .i64 0] 47)
    have b1 := Bk.at_ (w := w.alloc (.cells #[.int .i64 0, .int .i64 0, .int .i64 0, .int .i64 0, .int .i64 0, .int .i64 0, .int .i64 0, .int .i64 0, .int .i64 0, .int .i64 0, .int .i64 0] 47)) (g' := w.heap.size + 1) (by simp) 47 #[.int .i64 1, .int .i64 0, .int .i64 0, .int .i64 0, .int .i64 0, .int .i64 0, .int .i64 0, .int .i64 0, .int .i64 0, .int .i64 0, .int .i64 0]
    have hb : Below w.heap.size w ((w.alloc (.cells #[.int .i64 0, .int .i64 0, .int .i64 0, .int .i64 0, .int .i64 0, .int .i64 0, .int .i64 0, .int .i64 0, .int .i64 0, .int .i64 0, .int .i64 0] 47)).alloc (.cells #[.int .i64 1, .int .i64 0, .int .i64 0, .int .i64 0, .int .i64 0, .int .i64 0, .int .i64 0, .int .i64 0, .int .i64 0, .int .i64 0, .int .i64 0] 47)) := below_then_alloc ((Below.refl _ _).alloc (Nat.le_refl _) _)
    generalize (w.alloc (.cells #[.int .i64 0, .int .i64 0, .int .i64 0, .int .i64 0, .int .i64 0, .int .i64 0, .int .i64 0, .int .i64 0, .int .i64 0, .int .i64 0, .int .i64 0] 47)).alloc (.cells #[.int .i64 1, .int .i64 0, .int .i64 0, .int .i64 0, .int .i64 0, .int .i64 0, .int .i64 0, .int .i64 0, .int .i64 0, .int .i64 0, .int .i64 0] 47) = w0 at *
    have hg := b1.lt
    go_wp2_with fail
    go_at_call 142
    refine (HF.out _ _ (b1.cell 0)).mono ?_
    rintro e w1 ⟨rfl, hp, hb1⟩
    rw [show (fieldOffs 1).length = 8 from rfl]
    replace b0 := b0.keep hb1; replace b1 := b1.keep hb1; replace hb := below_then hb1 hb
    clear hb1 HF
    generalize w0.heap.size = gp at *
    go_wp2_with fail
    go_loopw [44] (fun i wr => ∃ q : Nat, q ≤ 8 ∧ i = .int .i64 q ∧ Bk wr w.heap.size 47 #[.int .i64 0, .int .i64 0, .int .i64 0, .int .i64 0, .int .i64 0, .int .i64 0, .int .i64 0, .int .i64 0, .int .i64 0, .int .i64 0, .int .i64 0] ∧ Bk wr (w.heap.size + 1) 47 (fillA b 1 q) ∧ Bk wr gp 226 ((fieldOffs 1).map fun o => Value.pointer (some ⟨w.heap.size + 1, o, none⟩)).toArray ∧ Below w.heap.size w wr) (fun i _ => 8 - (intOf i).toNat)
    case atStart => exact ⟨0, by omega, rfl, b0, b1, hp, hb⟩
    case round =>
      clear b0 b1 hp hb
      obtain ⟨q, hq, rfl, b0, b1, hp, hb⟩ := hrel
      by_cases hlt : q < 8
      · obtain ⟨o, ho, ho2⟩ : ∃ o, (fieldOffs 1)[q]? = some o ∧ o < 11 := off_in (by simp [fieldOffs]; omega)
        have hq1 : wr.cell? ⟨gp, q, none⟩ = some (.pointer (some ⟨w.heap.size + 1, o, none⟩)) := by rw [hp.cell]; simp [ho]
        obtain ⟨u, hq2⟩ : ∃ u, wr.cell? ⟨w.heap.size + 1, o, none⟩ = some u := by rw [b1.cell, Array.getElem?_eq_getElem (by rw [fillA_size]; exact ho2)]; exact ⟨_, rfl⟩
        have hq3 := b1.free o
        have HB := Lib.hid (And.intro b0 (And.intro b1 (And.intro hp (And.intro hb ho))))
        clear b0 b1 hp hb ho
        have i1 : (0 : Int) ≤ 2 * (q : Int) := by omega
        have i2 : 2 * (q : Int) < 16 := by omega
        have i3 : (0 : Int) ≤ 2 * (q : Int) + 1 := by omega
        have i4 : 2 * (q : Int) + 1 < 16 := by omega
        have t1 : (2 * (q : Int)).toNat = 2 * q := by omega
        have t2 : (2 * (q : Int) + 1).toNat = 2 * q + 1 := by omega
        go_wp2
        have w1 : IntKind.i64.wrap (2 * (q : Int)) = 2 * (q : Int) := IntWalk.i64_in _ (by omega)
        have w2 : IntKind.i64.wrap (2 * (q : Int) + 1) = 2 * (q : Int) + 1 := IntWalk.i64_in _ (by omega)
        go_region
        clear w1 w2
        go_wp2
        go_roundw
        case rel => exact ⟨q + 1, by omega, by go_num, (HB.out.1.far (by simp) _).drew, fill_next HB.out.2.1 HB.out.2.2.2.2 (or_w2 _ _), (HB.out.2.2.1.far (by simp; omega) _).drew, (HB.out.2.2.2.1.setCell (by simp) _).drew⟩
        case measure => simp [intOf]; omega
      · obtain rfl : q = 8 := by omega
        rw [HC.out] at b1
        clear hp HC
        obtain ⟨e0, e1, e2, e3, e4, e5, e6, e7, e8, e9, e10⟩ := box11 b1
        rcases Classical.em (c.err = 0 ∧ enc c = b) with ⟨hc, he⟩ | hn
        · have cK := Lib.hid (fun w => command_ok c hc w)
          have HRR := Lib.hid (rdC_some HR.out hc he)
          change Hid (∀ w, Calls _ _ _ _ fun e w' => e = .returned (.tuple #[.string (enc c), .nilIface]) ∧ Below w.heap.size w w') at cK
          rw [he] at cK
          clear he hc HR
          go_wp2_with fail
          go_at_call 102
          refine (cK.out _).mono ?_
          rintro e w4 ⟨rfl, hb4⟩
          replace b0 := b0.keep hb4; replace b1 := b1.keep hb4; replace hb := below_then hb4 hb
          clear e0 e1 e2 e3 e4 e5 e6 e7 e8 e9 e10 hb4
          obtain ⟨e0, e1, e2, e3, e4, e5, e6, e7, e8, e9, e10⟩ := box11 b1
          have HTH := Lib.hid b0.there
          have HRD := Lib.hid (cmd_read (b0.setCs (vs := c.cells.toList) rfl) rfl)
          have HF := Lib.hid (below_Cs (vs := c.cells.toList) (i := 0) (g := w.heap.size) (by omega) hb)
          clear b0 b1 hb
          go_wp2_with (refine wpList_store_mid (by rfl) 47 _ _ (by rfl) _ 0 c.cells (by rfl) (by rfl) HTH.out cmd_size (cmd_one c) ?_)
          exact bodyPost_ret (v := .tuple #[.agg c.cells, .nilIface]) (results_ct Tryz.results143 rfl rfl HRD.out) rfl (rd_good HRR.out HF.out)
        · have HRR := Lib.hid (rdC_bad HR.out hn)
          by_cases hc : c.err = 0
          · have he : enc c ≠ b := fun h => hn ⟨hc, h⟩
            have cK := Lib.hid (fun w => command_ok c hc w)
            change Hid (∀ w, Calls _ _ _ _ fun e w' => e = .returned (.tuple #[.string (enc c), .nilIface]) ∧ Below w.heap.size w w') at cK
            generalize enc c = S at *
            have e11 : (S.toList == b.toList) = false := str_ne he
            clear hc HR hn he
            go_wp2_with fail
            go_at_call 102
            refine (cK.out _).mono ?_
            rintro e w4 ⟨rfl, hb4⟩
            replace b0 := b0.keep hb4; replace hb := below_then hb4 hb
            have HTH := Lib.hid b0.there
            have HRD := Lib.hid (cmd_read (b0.setCs (vs := (#[.int .i64 0, .int .i64 0, .int .i64 0, .int .i64 0, .int .i64 0, .int .i64 0, .int .i64 0, .int .i64 0, .int .i64 0, .int .i64 0, .int .i64 0] : Array Value).toList) rfl) rfl)
            have HF := Lib.hid (below_Cs (vs := (#[.int .i64 0, .int .i64 0, .int .i64 0, .int .i64 0, .int .i64 0, .int .i64 0, .int .i64 0, .int .i64 0, .int .i64 0, .int .i64 0, .int .i64 0] : Array Value).toList) (i := 0) (g := w.heap.size) (by omega) hb)
            have cz := cmd_zero
            clear b0 b1 hb e0 e1 e2 e3 e4 e5 e6 e7 e8 e9 e10 hb4
            go_wp2_with (refine wpList_store_mid (by rfl) 47 _ _ (by rfl) _ 0 #[.int .i64 0, .int .i64 0, .int .i64 0, .int .i64 0, .int .i64 0, .int .i64 0, .int .i64 0, .int .i64 0, .int .i64 0, .int .i64 0, .int .i64 0] (by rfl) (by rfl) HTH.out cmd_size (cmd_one cmd0) ?_)
            exact bodyPost_ret (v := .tuple #[.agg #[.int .i64 0, .int .i64 0, .int .i64 0, .int .i64 0, .int .i64 0, .int .i64 0, .int .i64 0, .int .i64 0, .int .i64 0, .int .i64 0, .int .i64 0], er 2]) (results_ct Tryz.results143 rfl rfl HRD.out) rfl (rd_bad HRR.out HF.out)
          · have cK := Lib.hid (fun w => wcommand_bad c hc w)
            clear hc HR hn
            generalize c.err = r at *
            go_wp2_with fail
            go_at_call 102
            refine (cK.out _).mono ?_
            rintro e w4 ⟨rfl, hb4⟩
            replace b0 := b0.keep hb4; replace hb := below_then hb4 hb
            have HTH := Lib.hid b0.there
            have HRD := Lib.hid (cmd_read (b0.setCs (vs := (#[.int .i64 0, .int .i64 0, .int .i64 0, .int .i64 0, .int .i64 0, .int .i64 0, .int .i64 0, .int .i64 0, .int .i64 0, .int .i64 0, .int .i64 0] : Array Value).toList) rfl) rfl)
            have HF := Lib.hid (below_Cs (vs := (#[.int .i64 0, .int .i64 0, .int .i64 0, .int .i64 0, .int .i64 0, .int .i64 0, .int .i64 0, .int .i64 0, .int .i64 0, .int .i64 0, .int .i64 0] : Array Value).toList) (i := 0) (g := w.heap.size) (by omega) hb)
            have cz := cmd_zero
            clear b0 b1 hb e0 e1 e2 e3 e4 e5 e6 e7 e8 e9 e10 hb4
            go_wp2_with (refine wpList_store_mid (by rfl) 47 _ _ (by rfl) _ 0 #[.int .i64 0, .int .i64 0, .int .i64 0, .int .i64 0, .int .i64 0, .int .i64 0, .int .i64 0, .int .i64 0, .int .i64 0, .int .i64 0, .int .i64 0] (by rfl) (by rfl) HTH.out cmd_size (cmd_one cmd0) ?_)
            exact bodyPost_ret (v := .tuple #[.agg #[.int .i64 0, .int .i64 0, .int .i64 0, .int .i64 0, .int .i64 0, .int .i64 0, .int .i64 0, .int .i64 0, .int .i64 0, .int .i64 0, .int .i64 0], er 2]) (results_ct Tryz.results143 rfl rfl HRD.out) rfl (rd_bad HRR.out HF.out)
set_option maxRecDepth 100000 in
set_option maxHeartbeats 8000000 in
theorem read_f2 (b : ByteArray) (hsz : b.size = 4) (h0 : byt b 0 = 2) (c : Cmd) (hc : fillA b 2 1 = c.cells) (hr : rawC b = some c) (w : World) : Calls Tryz.prog 143 #[.string b] w (RdPost (rdC b) w) := by
    have hb2 : (0 : Int) < (b.size : Int) := by omega
    have h0' : ((b[0]'(by omega)).toNat : Int) = 2 := by rw [← h0, byt, dif_pos (by omega)]
    have HR := Lib.hid hr; have HC := Lib.hid hc; have HF := Lib.hid (fun g w h => fields_any g 2 (by omega) w h)
    clear hr hc h0
    go_enter Tryz.func143, Tryz.ntmps143
    go_upto_region 10 with fail
    have b0 := (Bk.new w 47 #[.int .i64 0, .int .i64 0, .int .i64 0, .int .i64 0, .int .i64 0, .int .i64 0, .int .i64 0, .int .i64 0, .int .i64 0, .int .i64 0, .int .i64 0]).alloc (.cells #[.int .i64 2, .int .i64 0, .int .i64 0, .int .i64 0, .int .i64 0, .int .i64 0, .int .i64 0, .int .i64 0, .int .i64 0, .int .i64 0, .int .i64 0] 47)
    have b1 := Bk.at_ (w := w.alloc (.cells #[.int .i64 0, .int .i64 0, .int .i64 0, .int .i64 0, .int .i64 0, .int .i64 0, .int .i64 0, .int .i64 0, .int .i64 0, .int .i64 0, .int .i64 0] 47)) (g' := w.heap.size + 1) (by simp) 47 #[.int .i64 2, .int .i64 0, .int .i64 0, .int .i64 0, .int .i64 0, .int .i64 0, .int .i64 0, .int .i64 0, .int .i64 0, .int .i64 0, .int .i64 0]
    have hb : Below w.heap.size w ((w.alloc (.cells #[.int .i64 0, .int .i64 0, .int .i64 0, .int .i64 0, .int .i64 0, .int .i64 0, .int .i64 0, .int .i64 0, .int .i64 0, .int .i64 0, .int .i64 0] 47)).alloc (.cells #[.int .i64 2, .int .i64 0, .int .i64 0, .int .i64 0, .int .i64 0, .int .i64 0, .int .i64 0, .int .i64 0, .int .i64 0, .int .i64 0, .int .i64 0] 47)) := below_then_alloc ((Below.refl _ _).alloc (Nat.le_refl _) _)
    generalize (w.alloc (.cells #[.int .i64 0, .int .i64 0, .int .i64 0, .int .i64 0, .int .i64 0, .int .i64 0, .int .i64 0, .int .i64 0, .int .i64 0, .int .i64 0, .int .i64 0] 47)).alloc (.cells #[.int .i64 2, .int .i64 0, .int .i64 0, .int .i64 0, .int .i64 0, .int .i64 0, .int .i64 0, .int .i64 0, .int .i64 0, .int .i64 0, .int .i64 0] 47) = w0 at *
    have hg := b1.lt
    go_wp2_with fail
    go_at_call 142
    refine (HF.out _ _ (b1.cell 0)).mono ?_
    rintro e w1 ⟨rfl, hp, hb1⟩
    rw [show (fieldOffs 2).length = 1 from rfl]
    replace b0 := b0.keep hb1; replace b1 := b1.keep hb1; replace hb := below_then hb1 hb
    clear hb1 HF
    generalize w0.heap.size = gp at *
    go_wp2_with fail
    go_loopw [44] (fun i wr => ∃ q : Nat, q ≤ 1 ∧ i = .int .i64 q ∧ Bk wr w.heap.size 47 #[.int .i64 0, .int .i64 0, .int .i64 0, .int .i64 0, .int .i64 0, .int .i64 0, .int .i64 0, .int .i64 0, .int .i64 0, .int .i64 0, .int .i64 0] ∧ Bk wr (w.heap.size + 1) 47 (fillA b 2 q) ∧ Bk wr gp 226 ((fieldOffs 2).map fun o => Value.pointer (some ⟨w.heap.size + 1, o, none⟩)).toArray ∧ Below w.heap.size w wr) (fun i _ => 1 - (intOf i).toNat)
    case atStart => exact ⟨0, by omega, rfl, b0, b1, hp, hb⟩
    case round =>
      clear b0 b1 hp hb
      obtain ⟨q, hq, rfl, b0, b1, hp, hb⟩ := hrel
      by_cases hlt : q < 1
      · obtain ⟨o, ho, ho2⟩ : ∃ o, (fieldOffs 2)[q]? = some o ∧ o < 11 := off_in (by simp [fieldOffs]; omega)
        have hq1 : wr.cell? ⟨gp, q, none⟩ = some (.pointer (some ⟨w.heap.size + 1, o, none⟩)) := by rw [hp.cell]; simp [ho]
        obtain ⟨u, hq2⟩ : ∃ u, wr.cell? ⟨w.heap.size + 1, o, none⟩ = some u := by rw [b1.cell, Array.getElem?_eq_getElem (by rw [fillA_size]; exact ho2)]; exact ⟨_, rfl⟩
        have hq3 := b1.free o
        have HB := Lib.hid (And.intro b0 (And.intro b1 (And.intro hp (And.intro hb ho))))
        clear b0 b1 hp hb ho
        have i1 : (0 : Int) ≤ 2 * (q : Int) := by omega
        have i2 : 2 * (q : Int) < 2 := by omega
        have i3 : (0 : Int) ≤ 2 * (q : Int) + 1 := by omega
        have i4 : 2 * (q : Int) + 1 < 2 := by omega
        have t1 : (2 * (q : Int)).toNat = 2 * q := by omega
        have t2 : (2 * (q : Int) + 1).toNat = 2 * q + 1 := by omega
        go_wp2
        have w1 : IntKind.i64.wrap (2 * (q : Int)) = 2 * (q : Int) := IntWalk.i64_in _ (by omega)
        have w2 : IntKind.i64.wrap (2 * (q : Int) + 1) = 2 * (q : Int) + 1 := IntWalk.i64_in _ (by omega)
        go_region
        clear w1 w2
        go_wp2
        go_roundw
        case rel => exact ⟨q + 1, by omega, by go_num, (HB.out.1.far (by simp) _).drew, fill_next HB.out.2.1 HB.out.2.2.2.2 (or_w2 _ _), (HB.out.2.2.1.far (by simp; omega) _).drew, (HB.out.2.2.2.1.setCell (by simp) _).drew⟩
        case measure => simp [intOf]; omega
      · obtain rfl : q = 1 := by omega
        rw [HC.out] at b1
        clear hp HC
        obtain ⟨e0, e1, e2, e3, e4, e5, e6, e7, e8, e9, e10⟩ := box11 b1
        rcases Classical.em (c.err = 0 ∧ enc c = b) with ⟨hc, he⟩ | hn
        · have cK := Lib.hid (fun w => command_ok c hc w)
          have HRR := Lib.hid (rdC_some HR.out hc he)
          change Hid (∀ w, Calls _ _ _ _ fun e w' => e = .returned (.tuple #[.string (enc c), .nilIface]) ∧ Below w.heap.size w w') at cK
          rw [he] at cK
          clear he hc HR
          go_wp2_with fail
          go_at_call 102
          refine (cK.out _).mono ?_
          rintro e w4 ⟨rfl, hb4⟩
          replace b0 := b0.keep hb4; replace b1 := b1.keep hb4; replace hb := below_then hb4 hb
          clear e0 e1 e2 e3 e4 e5 e6 e7 e8 e9 e10 hb4
          obtain ⟨e0, e1, e2, e3, e4, e5, e6, e7, e8, e9, e10⟩ := box11 b1
          have HTH := Lib.hid b0.there
          have HRD := Lib.hid (cmd_read (b0.setCs (vs := c.cells.toList) rfl) rfl)
          have HF := Lib.hid (below_Cs (vs := c.cells.toList) (i := 0) (g := w.heap.size) (by omega) hb)
          clear b0 b1 hb
          go_wp2_with (refine wpList_store_mid (by rfl) 47 _ _ (by rfl) _ 0 c.cells (by rfl) (by rfl) HTH.out cmd_size (cmd_one c) ?_)
          exact bodyPost_ret (v := .tuple #[.agg c.cells, .nilIface]) (results_ct Tryz.results143 rfl rfl HRD.out) rfl (rd_good HRR.out HF.out)
        · have HRR := Lib.hid (rdC_bad HR.out hn)
          by_cases hc : c.err = 0
          · have he : enc c ≠ b := fun h => hn ⟨hc, h⟩
            have cK := Lib.hid (fun w => command_ok c hc w)
            change Hid (∀ w, Calls _ _ _ _ fun e w' => e = .returned (.tuple #[.string (enc c), .nilIface]) ∧ Below w.heap.size w w') at cK
            generalize enc c = S at *
            have e11 : (S.toList == b.toList) = false := str_ne he
            clear hc HR hn he
            go_wp2_with fail
            go_at_call 102
            refine (cK.out _).mono ?_
            rintro e w4 ⟨rfl, hb4⟩
            replace b0 := b0.keep hb4; replace hb := below_then hb4 hb
            have HTH := Lib.hid b0.there
            have HRD := Lib.hid (cmd_read (b0.setCs (vs := (#[.int .i64 0, .int .i64 0, .int .i64 0, .int .i64 0, .int .i64 0, .int .i64 0, .int .i64 0, .int .i64 0, .int .i64 0, .int .i64 0, .int .i64 0] : Array Value).toList) rfl) rfl)
            have HF := Lib.hid (below_Cs (vs := (#[.int .i64 0, .int .i64 0, .int .i64 0, .int .i64 0, .int .i64 0, .int .i64 0, .int .i64 0, .int .i64 0, .int .i64 0, .int .i64 0, .int .i64 0] : Array Value).toList) (i := 0) (g := w.heap.size) (by omega) hb)
            have cz := cmd_zero
            clear b0 b1 hb e0 e1 e2 e3 e4 e5 e6 e7 e8 e9 e10 hb4
            go_wp2_with (refine wpList_store_mid (by rfl) 47 _ _ (by rfl) _ 0 #[.int .i64 0, .int .i64 0, .int .i64 0, .int .i64 0, .int .i64 0, .int .i64 0, .int .i64 0, .int .i64 0, .int .i64 0, .int .i64 0, .int .i64 0] (by rfl) (by rfl) HTH.out cmd_size (cmd_one cmd0) ?_)
            exact bodyPost_ret (v := .tuple #[.agg #[.int .i64 0, .int .i64 0, .int .i64 0, .int .i64 0, .int .i64 0, .int .i64 0, .int .i64 0, .int .i64 0, .int .i64 0, .int .i64 0, .int .i64 0], er 2]) (results_ct Tryz.results143 rfl rfl HRD.out) rfl (rd_bad HRR.out HF.out)
          · have cK := Lib.hid (fun w => wcommand_bad c hc w)
            clear hc HR hn
            generalize c.err = r at *
            go_wp2_with fail
            go_at_call 102
            refine (cK.out _).mono ?_
            rintro e w4 ⟨rfl, hb4⟩
            replace b0 := b0.keep hb4; replace hb := below_then hb4 hb
            have HTH := Lib.hid b0.there
            have HRD := Lib.hid (cmd_read (b0.setCs (vs := (#[.int .i64 0, .int .i64 0, .int .i64 0, .int .i64 0, .int .i64 0, .int .i64 0, .int .i64 0, .int .i64 0, .int .i64 0, .int .i64 0, .int .i64 0] : Array Value).toList) rfl) rfl)
            have HF := Lib.hid (below_Cs (vs := (#[.int .i64 0, .int .i64 0, .int .i64 0, .int .i64 0, .int .i64 0, .int .i64 0, .int .i64 0, .int .i64 0, .int .i64 0, .int .i64 0, .int .i64 0] : Array Value).toList) (i := 0) (g := w.heap.size) (by omega) hb)
            have cz := cmd_zero
            clear b0 b1 hb e0 e1 e2 e3 e4 e5 e6 e7 e8 e9 e10 hb4
            go_wp2_with (refine wpList_store_mid (by rfl) 47 _ _ (by rfl) _ 0 #[.int .i64 0, .int .i64 0, .int .i64 0, .int .i64 0, .int .i64 0, .int .i64 0, .int .i64 0, .int .i64 0, .int .i64 0, .int .i64 0, .int .i64 0] (by rfl) (by rfl) HTH.out cmd_size (cmd_one cmd0) ?_)
            exact bodyPost_ret (v := .tuple #[.agg #[.int .i64 0, .int .i64 0, .int .i64 0, .int .i64 0, .int .i64 0, .int .i64 0, .int .i64 0, .int .i64 0, .int .i64 0, .int .i64 0, .int .i64 0], er 2]) (results_ct Tryz.results143 rfl rfl HRD.out) rfl (rd_bad HRR.out HF.out)
set_option maxRecDepth 100000 in
set_option maxHeartbeats 8000000 in
theorem read_f3 (b : ByteArray) (hsz : b.size = 8) (h0 : byt b 0 = 3) (c : Cmd) (hc : fillA b 3 3 = c.cells) (hr : rawC b = some c) (w : World) : Calls Tryz.prog 143 #[.string b] w (RdPost (rdC b) w) := by
    have hb2 : (0 : Int) < (b.size : Int) := by omega
    have h0' : ((b[0]'(by omega)).toNat : Int) = 3 := by rw [← h0, byt, dif_pos (by omega)]
    have HR := Lib.hid hr; have HC := Lib.hid hc; have HF := Lib.hid (fun g w h => fields_any g 3 (by omega) w h)
    clear hr hc h0
    go_enter Tryz.func143, Tryz.ntmps143
    go_upto_region 10 with fail
    have b0 := (Bk.new w 47 #[.int .i64 0, .int .i64 0, .int .i64 0, .int .i64 0, .int .i64 0, .int .i64 0, .int .i64 0, .int .i64 0, .int .i64 0, .int .i64 0, .int .i64 0]).alloc (.cells #[.int .i64 3, .int .i64 0, .int .i64 0, .int .i64 0, .int .i64 0, .int .i64 0, .int .i64 0, .int .i64 0, .int .i64 0, .int .i64 0, .int .i64 0] 47)
    have b1 := Bk.at_ (w := w.alloc (.cells #[.int .i64 0, .int .i64 0, .int .i64 0, .int .i64 0, .int .i64 0, .int .i64 0, .int .i64 0, .int .i64 0, .int .i64 0, .int .i64 0, .int .i64 0] 47)) (g' := w.heap.size + 1) (by simp) 47 #[.int .i64 3, .int .i64 0, .int .i64 0, .int .i64 0, .int .i64 0, .int .i64 0, .int .i64 0, .int .i64 0, .int .i64 0, .int .i64 0, .int .i64 0]
    have hb : Below w.heap.size w ((w.alloc (.cells #[.int .i64 0, .int .i64 0, .int .i64 0, .int .i64 0, .int .i64 0, .int .i64 0, .int .i64 0, .int .i64 0, .int .i64 0, .int .i64 0, .int .i64 0] 47)).alloc (.cells #[.int .i64 3, .int .i64 0, .int .i64 0, .int .i64 0, .int .i64 0, .int .i64 0, .int .i64 0, .int .i64 0, .int .i64 0, .int .i64 0, .int .i64 0] 47)) := below_then_alloc ((Below.refl _ _).alloc (Nat.le_refl _) _)
    generalize (w.alloc (.cells #[.int .i64 0, .int .i64 0, .int .i64 0, .int .i64 0, .int .i64 0, .int .i64 0, .int .i64 0, .int .i64 0, .int .i64 0, .int .i64 0, .int .i64 0] 47)).alloc (.cells #[.int .i64 3, .int .i64 0, .int .i64 0, .int .i64 0, .int .i64 0, .int .i64 0, .int .i64 0, .int .i64 0, .int .i64 0, .int .i64 0, .int .i64 0] 47) = w0 at *
    have hg := b1.lt
    go_wp2_with fail
    go_at_call 142
    refine (HF.out _ _ (b1.cell 0)).mono ?_
    rintro e w1 ⟨rfl, hp, hb1⟩
    rw [show (fieldOffs 3).length = 3 from rfl]
    replace b0 := b0.keep hb1; replace b1 := b1.keep hb1; replace hb := below_then hb1 hb
    clear hb1 HF
    generalize w0.heap.size = gp at *
    go_wp2_with fail
    go_loopw [44] (fun i wr => ∃ q : Nat, q ≤ 3 ∧ i = .int .i64 q ∧ Bk wr w.heap.size 47 #[.int .i64 0, .int .i64 0, .int .i64 0, .int .i64 0, .int .i64 0, .int .i64 0, .int .i64 0, .int .i64 0, .int .i64 0, .int .i64 0, .int .i64 0] ∧ Bk wr (w.heap.size + 1) 47 (fillA b 3 q) ∧ Bk wr gp 226 ((fieldOffs 3).map fun o => Value.pointer (some ⟨w.heap.size + 1, o, none⟩)).toArray ∧ Below w.heap.size w wr) (fun i _ => 3 - (intOf i).toNat)
    case atStart => exact ⟨0, by omega, rfl, b0, b1, hp, hb⟩
    case round =>
      clear b0 b1 hp hb
      obtain ⟨q, hq, rfl, b0, b1, hp, hb⟩ := hrel
      by_cases hlt : q < 3
      · obtain ⟨o, ho, ho2⟩ : ∃ o, (fieldOffs 3)[q]? = some o ∧ o < 11 := off_in (by simp [fieldOffs]; omega)
        have hq1 : wr.cell? ⟨gp, q, none⟩ = some (.pointer (some ⟨w.heap.size + 1, o, none⟩)) := by rw [hp.cell]; simp [ho]
        obtain ⟨u, hq2⟩ : ∃ u, wr.cell? ⟨w.heap.size + 1, o, none⟩ = some u := by rw [b1.cell, Array.getElem?_eq_getElem (by rw [fillA_size]; exact ho2)]; exact ⟨_, rfl⟩
        have hq3 := b1.free o
        have HB := Lib.hid (And.intro b0 (And.intro b1 (And.intro hp (And.intro hb ho))))
        clear b0 b1 hp hb ho
        have i1 : (0 : Int) ≤ 2 * (q : Int) := by omega
        have i2 : 2 * (q : Int) < 6 := by omega
        have i3 : (0 : Int) ≤ 2 * (q : Int) + 1 := by omega
        have i4 : 2 * (q : Int) + 1 < 6 := by omega
        have t1 : (2 * (q : Int)).toNat = 2 * q := by omega
        have t2 : (2 * (q : Int) + 1).toNat = 2 * q + 1 := by omega
        go_wp2
        have w1 : IntKind.i64.wrap (2 * (q : Int)) = 2 * (q : Int) := IntWalk.i64_in _ (by omega)
        have w2 : IntKind.i64.wrap (2 * (q : Int) + 1) = 2 * (q : Int) + 1 := IntWalk.i64_in _ (by omega)
        go_region
        clear w1 w2
        go_wp2
        go_roundw
        case rel => exact ⟨q + 1, by omega, by go_num, (HB.out.1.far (by simp) _).drew, fill_next HB.out.2.1 HB.out.2.2.2.2 (or_w2 _ _), (HB.out.2.2.1.far (by simp; omega) _).drew, (HB.out.2.2.2.1.setCell (by simp) _).drew⟩
        case measure => simp [intOf]; omega
      · obtain rfl : q = 3 := by omega
        rw [HC.out] at b1
        clear hp HC
        obtain ⟨e0, e1, e2, e3, e4, e5, e6, e7, e8, e9, e10⟩ := box11 b1
        rcases Classical.em (c.err = 0 ∧ enc c = b) with ⟨hc, he⟩ | hn
        · have cK := Lib.hid (fun w => command_ok c hc w)
          have HRR := Lib.hid (rdC_some HR.out hc he)
          change Hid (∀ w, Calls _ _ _ _ fun e w' => e = .returned (.tuple #[.string (enc c), .nilIface]) ∧ Below w.heap.size w w') at cK
          rw [he] at cK
          clear he hc HR
          go_wp2_with fail
          go_at_call 102
          refine (cK.out _).mono ?_
          rintro e w4 ⟨rfl, hb4⟩
          replace b0 := b0.keep hb4; replace b1 := b1.keep hb4; replace hb := below_then hb4 hb
          clear e0 e1 e2 e3 e4 e5 e6 e7 e8 e9 e10 hb4
          obtain ⟨e0, e1, e2, e3, e4, e5, e6, e7, e8, e9, e10⟩ := box11 b1
          have HTH := Lib.hid b0.there
          have HRD := Lib.hid (cmd_read (b0.setCs (vs := c.cells.toList) rfl) rfl)
          have HF := Lib.hid (below_Cs (vs := c.cells.toList) (i := 0) (g := w.heap.size) (by omega) hb)
          clear b0 b1 hb
          go_wp2_with (refine wpList_store_mid (by rfl) 47 _ _ (by rfl) _ 0 c.cells (by rfl) (by rfl) HTH.out cmd_size (cmd_one c) ?_)
          exact bodyPost_ret (v := .tuple #[.agg c.cells, .nilIface]) (results_ct Tryz.results143 rfl rfl HRD.out) rfl (rd_good HRR.out HF.out)
        · have HRR := Lib.hid (rdC_bad HR.out hn)
          by_cases hc : c.err = 0
          · have he : enc c ≠ b := fun h => hn ⟨hc, h⟩
            have cK := Lib.hid (fun w => command_ok c hc w)
            change Hid (∀ w, Calls _ _ _ _ fun e w' => e = .returned (.tuple #[.string (enc c), .nilIface]) ∧ Below w.heap.size w w') at cK
            generalize enc c = S at *
            have e11 : (S.toList == b.toList) = false := str_ne he
            clear hc HR hn he
            go_wp2_with fail
            go_at_call 102
            refine (cK.out _).mono ?_
            rintro e w4 ⟨rfl, hb4⟩
            replace b0 := b0.keep hb4; replace hb := below_then hb4 hb
            have HTH := Lib.hid b0.there
            have HRD := Lib.hid (cmd_read (b0.setCs (vs := (#[.int .i64 0, .int .i64 0, .int .i64 0, .int .i64 0, .int .i64 0, .int .i64 0, .int .i64 0, .int .i64 0, .int .i64 0, .int .i64 0, .int .i64 0] : Array Value).toList) rfl) rfl)
            have HF := Lib.hid (below_Cs (vs := (#[.int .i64 0, .int .i64 0, .int .i64 0, .int .i64 0, .int .i64 0, .int .i64 0, .int .i64 0, .int .i64 0, .int .i64 0, .int .i64 0, .int .i64 0] : Array Value).toList) (i := 0) (g := w.heap.size) (by omega) hb)
            have cz := cmd_zero
            clear b0 b1 hb e0 e1 e2 e3 e4 e5 e6 e7 e8 e9 e10 hb4
            go_wp2_with (refine wpList_store_mid (by rfl) 47 _ _ (by rfl) _ 0 #[.int .i64 0, .int .i64 0, .int .i64 0, .int .i64 0, .int .i64 0, .int .i64 0, .int .i64 0, .int .i64 0, .int .i64 0, .int .i64 0, .int .i64 0] (by rfl) (by rfl) HTH.out cmd_size (cmd_one cmd0) ?_)
            exact bodyPost_ret (v := .tuple #[.agg #[.int .i64 0, .int .i64 0, .int .i64 0, .int .i64 0, .int .i64 0, .int .i64 0, .int .i64 0, .int .i64 0, .int .i64 0, .int .i64 0, .int .i64 0], er 2]) (results_ct Tryz.results143 rfl rfl HRD.out) rfl (rd_bad HRR.out HF.out)
          · have cK := Lib.hid (fun w => wcommand_bad c hc w)
            clear hc HR hn
            generalize c.err = r at *
            go_wp2_with fail
            go_at_call 102
            refine (cK.out _).mono ?_
            rintro e w4 ⟨rfl, hb4⟩
            replace b0 := b0.keep hb4; replace hb := below_then hb4 hb
            have HTH := Lib.hid b0.there
            have HRD := Lib.hid (cmd_read (b0.setCs (vs := (#[.int .i64 0, .int .i64 0, .int .i64 0, .int .i64 0, .int .i64 0, .int .i64 0, .int .i64 0, .int .i64 0, .int .i64 0, .int .i64 0, .int .i64 0] : Array Value).toList) rfl) rfl)
            have HF := Lib.hid (below_Cs (vs := (#[.int .i64 0, .int .i64 0, .int .i64 0, .int .i64 0, .int .i64 0, .int .i64 0, .int .i64 0, .int .i64 0, .int .i64 0, .int .i64 0, .int .i64 0] : Array Value).toList) (i := 0) (g := w.heap.size) (by omega) hb)
            have cz := cmd_zero
            clear b0 b1 hb e0 e1 e2 e3 e4 e5 e6 e7 e8 e9 e10 hb4
            go_wp2_with (refine wpList_store_mid (by rfl) 47 _ _ (by rfl) _ 0 #[.int .i64 0, .int .i64 0, .int .i64 0, .int .i64 0, .int .i64 0, .int .i64 0, .int .i64 0, .int .i64 0, .int .i64 0, .int .i64 0, .int .i64 0] (by rfl) (by rfl) HTH.out cmd_size (cmd_one cmd0) ?_)
            exact bodyPost_ret (v := .tuple #[.agg #[.int .i64 0, .int .i64 0, .int .i64 0, .int .i64 0, .int .i64 0, .int .i64 0, .int .i64 0, .int .i64 0, .int .i64 0, .int .i64 0, .int .i64 0], er 2]) (results_ct Tryz.results143 rfl rfl HRD.out) rfl (rd_bad HRR.out HF.out)
/-- the number of q bytes -/
def payN (b : ByteArray) : Nat → Int
  | 0 => 0
  | q + 1 => payN b q * 256 + byt b (2 + q)
theorem payN_in (b : ByteArray) : ∀ q, q ≤ 4 → 0 ≤ payN b q ∧ payN b q ≤ 4294967295 := by
  intro q hq
  have h0 := byt_in b (2 + 0); have h1 := byt_in b (2 + 1); have h2 := byt_in b (2 + 2); have h3 := byt_in b (2 + 3)
  match q, hq with
  | 0, _ => simp [payN]
  | 1, _ => simp only [payN]; omega
  | 2, _ => simp only [payN]; omega
  | 3, _ => simp only [payN]; omega
  | 4, _ => simp only [payN]; omega
theorem or_pay {x y : Int} (hx : 0 ≤ x) (hx2 : x ≤ 4294967295) (hy : 0 ≤ y) (hy2 : y ≤ 255) : bits .or .i64 (x * 256) y = x * 256 + y :=
  bits_join .i64 48 (by decide) (fun n h0 h1 => IntWalk.i64_in _ (by omega)) 8 _ _ (by omega) (by omega) (by omega) hy (by omega) (by omega)
theorem bytes_bk {w : World} {g : Nat} {t : TypeId} {cs : Array Value} (h : Bk w g t cs) (e : TypeId) (s : ByteArray) : Bk (Lib.bytesWorld w e s) g t cs := (Lib.bytesWorld_at_old w e s g h.lt).trans h
theorem bytes_below {w w1 : World} (h : Below w.heap.size w w1) (e : TypeId) (s : ByteArray) : Below w.heap.size w (Lib.bytesWorld w1 e s) :=
  below_then (show Below w1.heap.size w1 _ from ⟨rfl, rfl, rfl, by rw [Lib.bytesWorld_size]; omega, fun i hi => Lib.bytesWorld_at_old w1 e s i hi⟩) h
theorem getD_get (s : ByteArray) {j : Nat} (h : j < s.size) : s.data.toList.getD j 0 = s[j]'h := by
  have h2 : j < s.data.toList.length := by simpa using h
  rw [List.getD_eq_getElem?_getD, List.getElem?_eq_getElem h2]
  rfl
theorem tail_cell {w : World} {e : TypeId} {b : ByteArray} (h : b.size = 7) {j : Nat} (hj : j < 4) : (Lib.bytesWorld w e ((b.extract 1 6).extract 1 5)).cell? ⟨w.heap.size, j, none⟩ = some (.int .u8 (byt b (2 + j))) := by
  have hs : ((b.extract 1 6).extract 1 5).size = 4 := by simp [ByteArray.size_extract, h]
  rw [Lib.bytesWorld_cell _ _ _ _ (by omega)]
  rw [getD_get _ (by omega), byt, dif_pos (by omega), ByteArray.getElem_extract, ByteArray.getElem_extract]
  have e : 1 + (1 + j) = 2 + j := by omega
  simp only [e]
set_option maxRecDepth 100000 in
set_option maxHeartbeats 8000000 in
theorem read_p4 (b : ByteArray) (hsz : b.size = 7) (h0 : byt b 0 = 4) (c : Cmd) (hc : (#[.int .i64 4, .int .i64 0, .int .i64 0, .int .i64 0, .int .i64 0, .int .i64 0, .int .i64 0, .int .i64 0, .int .i64 0, .int .i64 (byt b 1), .int .i64 (payN b 4)] : Array Value) = c.cells) (hr : rawC b = some c) (w : World) : Calls Tryz.prog 143 #[.string b] w (RdPost (rdC b) w) := by
    have hb2 : (0 : Int) < (b.size : Int) := by omega
    have h0' : ((b[0]'(by omega)).toNat : Int) = 4 := by rw [← h0, byt, dif_pos (by omega)]
    have HR := Lib.hid hr; have HC := Lib.hid hc
    have hy : wrap64 (((b.extract 1 6)[0]'(by rw [ByteArray.size_extract]; omega)).toNat : Int) = byt b 1 := by rw [ext_byt]; have := byt_in b 1; simp only [Nat.add_zero]; unfold wrap64; omega
    clear hr hc h0
    go_enter Tryz.func143, Tryz.ntmps143
    go_upto_region 23 with fail
    have b0 := (Bk.new w 47 #[.int .i64 0, .int .i64 0, .int .i64 0, .int .i64 0, .int .i64 0, .int .i64 0, .int .i64 0, .int .i64 0, .int .i64 0, .int .i64 0, .int .i64 0]).alloc (.cells #[.int .i64 4, .int .i64 0, .int .i64 0, .int .i64 0, .int .i64 0, .int .i64 0, .int .i64 0, .int .i64 0, .int .i64 0, .int .i64 (byt b 1), .int .i64 0] 47)
    have b1 := Bk.at_ (w := w.alloc (.cells #[.int .i64 0, .int .i64 0, .int .i64 0, .int .i64 0, .int .i64 0, .int .i64 0, .int .i64 0, .int .i64 0, .int .i64 0, .int .i64 0, .int .i64 0] 47)) (g' := w.heap.size + 1) (by simp) 47 #[.int .i64 4, .int .i64 0, .int .i64 0, .int .i64 0, .int .i64 0, .int .i64 0, .int .i64 0, .int .i64 0, .int .i64 0, .int .i64 (byt b 1), .int .i64 0]
    have hb : Below w.heap.size w ((w.alloc (.cells #[.int .i64 0, .int .i64 0, .int .i64 0, .int .i64 0, .int .i64 0, .int .i64 0, .int .i64 0, .int .i64 0, .int .i64 0, .int .i64 0, .int .i64 0] 47)).alloc (.cells #[.int .i64 4, .int .i64 0, .int .i64 0, .int .i64 0, .int .i64 0, .int .i64 0, .int .i64 0, .int .i64 0, .int .i64 0, .int .i64 (byt b 1), .int .i64 0] 47)) := below_then_alloc ((Below.refl _ _).alloc (Nat.le_refl _) _)
    generalize (w.alloc (.cells #[.int .i64 0, .int .i64 0, .int .i64 0, .int .i64 0, .int .i64 0, .int .i64 0, .int .i64 0, .int .i64 0, .int .i64 0, .int .i64 0, .int .i64 0] 47)).alloc (.cells #[.int .i64 4, .int .i64 0, .int .i64 0, .int .i64 0, .int .i64 0, .int .i64 0, .int .i64 0, .int .i64 0, .int .i64 0, .int .i64 (byt b 1), .int .i64 0] 47) = w0 at *
    have hg := b1.lt
    have cv := Lib.run_convert_string_bytes (P := Tryz.prog) w0 9 170 5 ((b.extract 1 6).extract 1 5) (u := .string) Tryz.underlying9 Tryz.underlying170 Tryz.underlying5
    have hs4 : ((b.extract 1 6).extract 1 5).size = 4 := by simp [ByteArray.size_extract, hsz]
    have HP := Lib.hid (fun j (h : j < 4) => tail_cell (w := w0) (e := 5) hsz h)
    have HZ := Lib.hid (Lib.bytesWorld_size w0 5 ((b.extract 1 6).extract 1 5))
    replace hb := bytes_below hb 5 ((b.extract 1 6).extract 1 5)
    replace b0 := bytes_bk b0 5 ((b.extract 1 6).extract 1 5)
    replace b1 := bytes_bk b1 5 ((b.extract 1 6).extract 1 5)
    generalize Lib.bytesWorld w0 5 ((b.extract 1 6).extract 1 5) = w1 at *
    rw [hs4] at cv
    generalize w0.heap.size = gp at *
    generalize grownCap w0 4 0 5 = gc at *
    go_wp2_with fail
    clear cv hs4 hy h0'
    go_loopw [81] (fun i wr => ∃ q : Nat, q ≤ 4 ∧ i = .int .i64 q ∧ Bk wr w.heap.size 47 #[.int .i64 0, .int .i64 0, .int .i64 0, .int .i64 0, .int .i64 0, .int .i64 0, .int .i64 0, .int .i64 0, .int .i64 0, .int .i64 0, .int .i64 0] ∧ Bk wr (w.heap.size + 1) 47 #[.int .i64 4, .int .i64 0, .int .i64 0, .int .i64 0, .int .i64 0, .int .i64 0, .int .i64 0, .int .i64 0, .int .i64 0, .int .i64 (byt b 1), .int .i64 (payN b q)] ∧ Hid (∀ j, j < 4 → wr.cell? ⟨gp, j, none⟩ = some (.int .u8 (byt b (2 + j)))) ∧ Below w.heap.size w wr) (fun i _ => 4 - (intOf i).toNat)
    case atStart => exact ⟨0, by omega, rfl, b0, b1, HP, hb⟩
    case round =>
      clear b0 b1 HP hb
      obtain ⟨q, hq, rfl, b0, b1, HP, hb⟩ := hrel
      by_cases hlt : q < 4
      · have hcell := HP.out q hlt
        have e10 : wr.cell? ⟨w.heap.size + 1, 10, none⟩ = some (.int .i64 (payN b q)) := b1.cell 10
        have e11 := b1.free 10
        have hN := payN_in b q (by omega)
        have hX := byt_in b (2 + q)
        have HB := Lib.hid (And.intro b0 (And.intro b1 hb))
        have HV := Lib.hid (show payN b (q + 1) = payN b q * 256 + byt b (2 + q) from rfl)
        obtain ⟨N, hNN⟩ : ∃ N, N = payN b q := ⟨_, rfl⟩
        obtain ⟨x, hxx⟩ : ∃ x, x = byt b (2 + q) := ⟨_, rfl⟩
        rw [← hNN] at HV e10 hN HB
        rw [← hxx] at HV hX hcell
        have HN := Lib.hid hNN; have HX := Lib.hid hxx
        obtain ⟨n1, n2⟩ := hN; obtain ⟨x1, x2⟩ := hX
        have hor := or_pay n1 n2 x1 x2
        clear b0 b1 hb hNN hxx
        go_wp2
        go_roundw
        case rel =>
          refine ⟨q + 1, by omega, by go_num, HB.out.1.far (by simp) _, ?_, Lib.hid (fun j hj => (World.cell?_setCell_other wr _ _ _ (by intro e; injection e with e1; omega)).trans (HP.out j hj)), HB.out.2.2.setCell (by simp) _⟩
          rw [HV.out]
          exact HB.out.2.1.set_ 10 _
        case measure => simp [intOf]; omega
      · obtain rfl : q = 4 := by omega
        rw [HC.out] at b1
        clear HP HC
        obtain ⟨e0, e1, e2, e3, e4, e5, e6, e7, e8, e9, e10⟩ := box11 b1
        rcases Classical.em (c.err = 0 ∧ enc c = b) with ⟨hc, he⟩ | hn
        · have cK := Lib.hid (fun w => command_ok c hc w)
          have HRR := Lib.hid (rdC_some HR.out hc he)
          change Hid (∀ w, Calls _ _ _ _ fun e w' => e = .returned (.tuple #[.string (enc c), .nilIface]) ∧ Below w.heap.size w w') at cK
          rw [he] at cK
          clear he hc HR
          go_wp2_with fail
          go_at_call 102
          refine (cK.out _).mono ?_
          rintro e w4 ⟨rfl, hb4⟩
          replace b0 := b0.keep hb4; replace b1 := b1.keep hb4; replace hb := below_then hb4 hb
          clear e0 e1 e2 e3 e4 e5 e6 e7 e8 e9 e10 hb4
          obtain ⟨e0, e1, e2, e3, e4, e5, e6, e7, e8, e9, e10⟩ := box11 b1
          have HTH := Lib.hid b0.there
          have HRD := Lib.hid (cmd_read (b0.setCs (vs := c.cells.toList) rfl) rfl)
          have HF := Lib.hid (below_Cs (vs := c.cells.toList) (i := 0) (g := w.heap.size) (by omega) hb)
          clear b0 b1 hb
          go_wp2_with (refine wpList_store_mid (by rfl) 47 _ _ (by rfl) _ 0 c.cells (by rfl) (by rfl) HTH.out cmd_size (cmd_one c) ?_)
          exact bodyPost_ret (v := .tuple #[.agg c.cells, .nilIface]) (results_ct Tryz.results143 rfl rfl HRD.out) rfl (rd_good HRR.out HF.out)
        · have HRR := Lib.hid (rdC_bad HR.out hn)
          by_cases hc : c.err = 0
          · have he : enc c ≠ b := fun h => hn ⟨hc, h⟩
            have cK := Lib.hid (fun w => command_ok c hc w)
            change Hid (∀ w, Calls _ _ _ _ fun e w' => e = .returned (.tuple #[.string (enc c), .nilIface]) ∧ Below w.heap.size w w') at cK
            generalize enc c = S at *
            have e11 : (S.toList == b.toList) = false := str_ne he
            clear hc HR hn he
            go_wp2_with fail
            go_at_call 102
            refine (cK.out _).mono ?_
            rintro e w4 ⟨rfl, hb4⟩
            replace b0 := b0.keep hb4; replace hb := below_then hb4 hb
            have HTH := Lib.hid b0.there
            have HRD := Lib.hid (cmd_read (b0.setCs (vs := (#[.int .i64 0, .int .i64 0, .int .i64 0, .int .i64 0, .int .i64 0, .int .i64 0, .int .i64 0, .int .i64 0, .int .i64 0, .int .i64 0, .int .i64 0] : Array Value).toList) rfl) rfl)
            have HF := Lib.hid (below_Cs (vs := (#[.int .i64 0, .int .i64 0, .int .i64 0, .int .i64 0, .int .i64 0, .int .i64 0, .int .i64 0, .int .i64 0, .int .i64 0, .int .i64 0, .int .i64 0] : Array Value).toList) (i := 0) (g := w.heap.size) (by omega) hb)
            have cz := cmd_zero
            clear b0 b1 hb e0 e1 e2 e3 e4 e5 e6 e7 e8 e9 e10 hb4
            go_wp2_with (refine wpList_store_mid (by rfl) 47 _ _ (by rfl) _ 0 #[.int .i64 0, .int .i64 0, .int .i64 0, .int .i64 0, .int .i64 0, .int .i64 0, .int .i64 0, .int .i64 0, .int .i64 0, .int .i64 0, .int .i64 0] (by rfl) (by rfl) HTH.out cmd_size (cmd_one cmd0) ?_)
            exact bodyPost_ret (v := .tuple #[.agg #[.int .i64 0, .int .i64 0, .int .i64 0, .int .i64 0, .int .i64 0, .int .i64 0, .int .i64 0, .int .i64 0, .int .i64 0, .int .i64 0, .int .i64 0], er 2]) (results_ct Tryz.results143 rfl rfl HRD.out) rfl (rd_bad HRR.out HF.out)
          · have cK := Lib.hid (fun w => wcommand_bad c hc w)
            clear hc HR hn
            generalize c.err = r at *
            go_wp2_with fail
            go_at_call 102
            refine (cK.out _).mono ?_
            rintro e w4 ⟨rfl, hb4⟩
            replace b0 := b0.keep hb4; replace hb := below_then hb4 hb
            have HTH := Lib.hid b0.there
            have HRD := Lib.hid (cmd_read (b0.setCs (vs := (#[.int .i64 0, .int .i64 0, .int .i64 0, .int .i64 0, .int .i64 0, .int .i64 0, .int .i64 0, .int .i64 0, .int .i64 0, .int .i64 0, .int .i64 0] : Array Value).toList) rfl) rfl)
            have HF := Lib.hid (below_Cs (vs := (#[.int .i64 0, .int .i64 0, .int .i64 0, .int .i64 0, .int .i64 0, .int .i64 0, .int .i64 0, .int .i64 0, .int .i64 0, .int .i64 0, .int .i64 0] : Array Value).toList) (i := 0) (g := w.heap.size) (by omega) hb)
            have cz := cmd_zero
            clear b0 b1 hb e0 e1 e2 e3 e4 e5 e6 e7 e8 e9 e10 hb4
            go_wp2_with (refine wpList_store_mid (by rfl) 47 _ _ (by rfl) _ 0 #[.int .i64 0, .int .i64 0, .int .i64 0, .int .i64 0, .int .i64 0, .int .i64 0, .int .i64 0, .int .i64 0, .int .i64 0, .int .i64 0, .int .i64 0] (by rfl) (by rfl) HTH.out cmd_size (cmd_one cmd0) ?_)
            exact bodyPost_ret (v := .tuple #[.agg #[.int .i64 0, .int .i64 0, .int .i64 0, .int .i64 0, .int .i64 0, .int .i64 0, .int .i64 0, .int .i64 0, .int .i64 0, .int .i64 0, .int .i64 0], er 2]) (results_ct Tryz.results143 rfl rfl HRD.out) rfl (rd_bad HRR.out HF.out)
set_option maxRecDepth 100000 in
set_option maxHeartbeats 8000000 in
theorem read_p5 (b : ByteArray) (hsz : b.size = 7) (h0 : byt b 0 = 5) (c : Cmd) (hc : (#[.int .i64 5, .int .i64 0, .int .i64 0, .int .i64 0, .int .i64 0, .int .i64 0, .int .i64 0, .int .i64 0, .int .i64 0, .int .i64 (byt b 1), .int .i64 (payN b 4)] : Array Value) = c.cells) (hr : rawC b = some c) (w : World) : Calls Tryz.prog 143 #[.string b] w (RdPost (rdC b) w) := by
    have hb2 : (0 : Int) < (b.size : Int) := by omega
    have h0' : ((b[0]'(by omega)).toNat : Int) = 5 := by rw [← h0, byt, dif_pos (by omega)]
    have HR := Lib.hid hr; have HC := Lib.hid hc
    have hy : wrap64 (((b.extract 1 6)[0]'(by rw [ByteArray.size_extract]; omega)).toNat : Int) = byt b 1 := by rw [ext_byt]; have := byt_in b 1; simp only [Nat.add_zero]; unfold wrap64; omega
    clear hr hc h0
    go_enter Tryz.func143, Tryz.ntmps143
    go_upto_region 23 with fail
    have b0 := (Bk.new w 47 #[.int .i64 0, .int .i64 0, .int .i64 0, .int .i64 0, .int .i64 0, .int .i64 0, .int .i64 0, .int .i64 0, .int .i64 0, .int .i64 0, .int .i64 0]).alloc (.cells #[.int .i64 5, .int .i64 0, .int .i64 0, .int .i64 0, .int .i64 0, .int .i64 0, .int .i64 0, .int .i64 0, .int .i64 0, .int .i64 (byt b 1), .int .i64 0] 47)
    have b1 := Bk.at_ (w := w.alloc (.cells #[.int .i64 0, .int .i64 0, .int .i64 0, .int .i64 0, .int .i64 0, .int .i64 0, .int .i64 0, .int .i64 0, .int .i64 0, .int .i64 0, .int .i64 0] 47)) (g' := w.heap.size + 1) (by simp) 47 #[.int .i64 5, .int .i64 0, .int .i64 0, .int .i64 0, .int .i64 0, .int .i64 0, .int .i64 0, .int .i64 0, .int .i64 0, .int .i64 (byt b 1), .int .i64 0]
    have hb : Below w.heap.size w ((w.alloc (.cells #[.int .i64 0, .int .i64 0, .int .i64 0, .int .i64 0, .int .i64 0, .int .i64 0, .int .i64 0, .int .i64 0, .int .i64 0, .int .i64 0, .int .i64 0] 47)).alloc (.cells #[.int .i64 5, .int .i64 0, .int .i64 0, .int .i64 0, .int .i64 0, .int .i64 0, .int .i64 0, .int .i64 0, .int .i64 0, .int .i64 (byt b 1), .int .i64 0] 47)) := below_then_alloc ((Below.refl _ _).alloc (Nat.le_refl _) _)
    generalize (w.alloc (.cells #[.int .i64 0, .int .i64 0, .int .i64 0, .int .i64 0, .int .i64 0, .int .i64 0, .int .i64 0, .int .i64 0, .int .i64 0, .int .i64 0, .int .i64 0] 47)).alloc (.cells #[.int .i64 5, .int .i64 0, .int .i64 0, .int .i64 0, .int .i64 0, .int .i64 0, .int .i64 0, .int .i64 0, .int .i64 0, .int .i64 (byt b 1), .int .i64 0] 47) = w0 at *
    have hg := b1.lt
    have cv := Lib.run_convert_string_bytes (P := Tryz.prog) w0 9 170 5 ((b.extract 1 6).extract 1 5) (u := .string) Tryz.underlying9 Tryz.underlying170 Tryz.underlying5
    have hs4 : ((b.extract 1 6).extract 1 5).size = 4 := by simp [ByteArray.size_extract, hsz]
    have HP := Lib.hid (fun j (h : j < 4) => tail_cell (w := w0) (e := 5) hsz h)
    have HZ := Lib.hid (Lib.bytesWorld_size w0 5 ((b.extract 1 6).extract 1 5))
    replace hb := bytes_below hb 5 ((b.extract 1 6).extract 1 5)
    replace b0 := bytes_bk b0 5 ((b.extract 1 6).extract 1 5)
    replace b1 := bytes_bk b1 5 ((b.extract 1 6).extract 1 5)
    generalize Lib.bytesWorld w0 5 ((b.extract 1 6).extract 1 5) = w1 at *
    rw [hs4] at cv
    generalize w0.heap.size = gp at *
    generalize grownCap w0 4 0 5 = gc at *
    go_wp2_with fail
    clear cv hs4 hy h0'
    go_loopw [81] (fun i wr => ∃ q : Nat, q ≤ 4 ∧ i = .int .i64 q ∧ Bk wr w.heap.size 47 #[.int .i64 0, .int .i64 0, .int .i64 0, .int .i64 0, .int .i64 0, .int .i64 0, .int .i64 0, .int .i64 0, .int .i64 0, .int .i64 0, .int .i64 0] ∧ Bk wr (w.heap.size + 1) 47 #[.int .i64 5, .int .i64 0, .int .i64 0, .int .i64 0, .int .i64 0, .int .i64 0, .int .i64 0, .int .i64 0, .int .i64 0, .int .i64 (byt b 1), .int .i64 (payN b q)] ∧ Hid (∀ j, j < 4 → wr.cell? ⟨gp, j, none⟩ = some (.int .u8 (byt b (2 + j)))) ∧ Below w.heap.size w wr) (fun i _ => 4 - (intOf i).toNat)
    case atStart => exact ⟨0, by omega, rfl, b0, b1, HP, hb⟩
    case round =>
      clear b0 b1 HP hb
      obtain ⟨q, hq, rfl, b0, b1, HP, hb⟩ := hrel
      by_cases hlt : q < 4
      · have hcell := HP.out q hlt
        have e10 : wr.cell? ⟨w.heap.size + 1, 10, none⟩ = some (.int .i64 (payN b q)) := b1.cell 10
        have e11 := b1.free 10
        have hN := payN_in b q (by omega)
        have hX := byt_in b (2 + q)
        have HB := Lib.hid (And.intro b0 (And.intro b1 hb))
        have HV := Lib.hid (show payN b (q + 1) = payN b q * 256 + byt b (2 + q) from rfl)
        obtain ⟨N, hNN⟩ : ∃ N, N = payN b q := ⟨_, rfl⟩
        obtain ⟨x, hxx⟩ : ∃ x, x = byt b (2 + q) := ⟨_, rfl⟩
        rw [← hNN] at HV e10 hN HB
        rw [← hxx] at HV hX hcell
        have HN := Lib.hid hNN; have HX := Lib.hid hxx
        obtain ⟨n1, n2⟩ := hN; obtain ⟨x1, x2⟩ := hX
        have hor := or_pay n1 n2 x1 x2
        clear b0 b1 hb hNN hxx
        go_wp2
        go_roundw
        case rel =>
          refine ⟨q + 1, by omega, by go_num, HB.out.1.far (by simp) _, ?_, Lib.hid (fun j hj => (World.cell?_setCell_other wr _ _ _ (by intro e; injection e with e1; omega)).trans (HP.out j hj)), HB.out.2.2.setCell (by simp) _⟩
          rw [HV.out]
          exact HB.out.2.1.set_ 10 _
        case measure => simp [intOf]; omega
      · obtain rfl : q = 4 := by omega
        rw [HC.out] at b1
        clear HP HC
        obtain ⟨e0, e1, e2, e3, e4, e5, e6, e7, e8, e9, e10⟩ := box11 b1
        rcases Classical.em (c.err = 0 ∧ enc c = b) with ⟨hc, he⟩ | hn
        · have cK := Lib.hid (fun w => command_ok c hc w)
          have HRR := Lib.hid (rdC_some HR.out hc he)
          change Hid (∀ w, Calls _ _ _ _ fun e w' => e = .returned (.tuple #[.string (enc c), .nilIface]) ∧ Below w.heap.size w w') at cK
          rw [he] at cK
          clear he hc HR
          go_wp2_with fail
          go_at_call 102
          refine (cK.out _).mono ?_
          rintro e w4 ⟨rfl, hb4⟩
          replace b0 := b0.keep hb4; replace b1 := b1.keep hb4; replace hb := below_then hb4 hb
          clear e0 e1 e2 e3 e4 e5 e6 e7 e8 e9 e10 hb4
          obtain ⟨e0, e1, e2, e3, e4, e5, e6, e7, e8, e9, e10⟩ := box11 b1
          have HTH := Lib.hid b0.there
          have HRD := Lib.hid (cmd_read (b0.setCs (vs := c.cells.toList) rfl) rfl)
          have HF := Lib.hid (below_Cs (vs := c.cells.toList) (i := 0) (g := w.heap.size) (by omega) hb)
          clear b0 b1 hb
          go_wp2_with (refine wpList_store_mid (by rfl) 47 _ _ (by rfl) _ 0 c.cells (by rfl) (by rfl) HTH.out cmd_size (cmd_one c) ?_)
          exact bodyPost_ret (v := .tuple #[.agg c.cells, .nilIface]) (results_ct Tryz.results143 rfl rfl HRD.out) rfl (rd_good HRR.out HF.out)
        · have HRR := Lib.hid (rdC_bad HR.out hn)
          by_cases hc : c.err = 0
          · have he : enc c ≠ b := fun h => hn ⟨hc, h⟩
            have cK := Lib.hid (fun w => command_ok c hc w)
            change Hid (∀ w, Calls _ _ _ _ fun e w' => e = .returned (.tuple #[.string (enc c), .nilIface]) ∧ Below w.heap.size w w') at cK
            generalize enc c = S at *
            have e11 : (S.toList == b.toList) = false := str_ne he
            clear hc HR hn he
            go_wp2_with fail
            go_at_call 102
            refine (cK.out _).mono ?_
            rintro e w4 ⟨rfl, hb4⟩
            replace b0 := b0.keep hb4; replace hb := below_then hb4 hb
            have HTH := Lib.hid b0.there
            have HRD := Lib.hid (cmd_read (b0.setCs (vs := (#[.int .i64 0, .int .i64 0, .int .i64 0, .int .i64 0, .int .i64 0, .int .i64 0, .int .i64 0, .int .i64 0, .int .i64 0, .int .i64 0, .int .i64 0] : Array Value).toList) rfl) rfl)
            have HF := Lib.hid (below_Cs (vs := (#[.int .i64 0, .int .i64 0, .int .i64 0, .int .i64 0, .int .i64 0, .int .i64 0, .int .i64 0, .int .i64 0, .int .i64 0, .int .i64 0, .int .i64 0] : Array Value).toList) (i := 0) (g := w.heap.size) (by omega) hb)
            have cz := cmd_zero
            clear b0 b1 hb e0 e1 e2 e3 e4 e5 e6 e7 e8 e9 e10 hb4
            go_wp2_with (refine wpList_store_mid (by rfl) 47 _ _ (by rfl) _ 0 #[.int .i64 0, .int .i64 0, .int .i64 0, .int .i64 0, .int .i64 0, .int .i64 0, .int .i64 0, .int .i64 0, .int .i64 0, .int .i64 0, .int .i64 0] (by rfl) (by rfl) HTH.out cmd_size (cmd_one cmd0) ?_)
            exact bodyPost_ret (v := .tuple #[.agg #[.int .i64 0, .int .i64 0, .int .i64 0, .int .i64 0, .int .i64 0, .int .i64 0, .int .i64 0, .int .i64 0, .int .i64 0, .int .i64 0, .int .i64 0], er 2]) (results_ct Tryz.results143 rfl rfl HRD.out) rfl (rd_bad HRR.out HF.out)
          · have cK := Lib.hid (fun w => wcommand_bad c hc w)
            clear hc HR hn
            generalize c.err = r at *
            go_wp2_with fail
            go_at_call 102
            refine (cK.out _).mono ?_
            rintro e w4 ⟨rfl, hb4⟩
            replace b0 := b0.keep hb4; replace hb := below_then hb4 hb
            have HTH := Lib.hid b0.there
            have HRD := Lib.hid (cmd_read (b0.setCs (vs := (#[.int .i64 0, .int .i64 0, .int .i64 0, .int .i64 0, .int .i64 0, .int .i64 0, .int .i64 0, .int .i64 0, .int .i64 0, .int .i64 0, .int .i64 0] : Array Value).toList) rfl) rfl)
            have HF := Lib.hid (below_Cs (vs := (#[.int .i64 0, .int .i64 0, .int .i64 0, .int .i64 0, .int .i64 0, .int .i64 0, .int .i64 0, .int .i64 0, .int .i64 0, .int .i64 0, .int .i64 0] : Array Value).toList) (i := 0) (g := w.heap.size) (by omega) hb)
            have cz := cmd_zero
            clear b0 b1 hb e0 e1 e2 e3 e4 e5 e6 e7 e8 e9 e10 hb4
            go_wp2_with (refine wpList_store_mid (by rfl) 47 _ _ (by rfl) _ 0 #[.int .i64 0, .int .i64 0, .int .i64 0, .int .i64 0, .int .i64 0, .int .i64 0, .int .i64 0, .int .i64 0, .int .i64 0, .int .i64 0, .int .i64 0] (by rfl) (by rfl) HTH.out cmd_size (cmd_one cmd0) ?_)
            exact bodyPost_ret (v := .tuple #[.agg #[.int .i64 0, .int .i64 0, .int .i64 0, .int .i64 0, .int .i64 0, .int .i64 0, .int .i64 0, .int .i64 0, .int .i64 0, .int .i64 0, .int .i64 0], er 2]) (results_ct Tryz.results143 rfl rfl HRD.out) rfl (rd_bad HRR.out HF.out)
set_option maxRecDepth 100000 in
set_option maxHeartbeats 8000000 in
theorem read_s1 (b : ByteArray) (hs2 : 2 ≤ b.size) (hmx : b.size ≤ maxLen) (hsz : b.size ≠ 18) (h0 : byt b 0 = 1) (hr : rawC b = none) (w : World) : Calls Tryz.prog 143 #[.string b] w (RdPost (rdC b) w) := by
    have HR := Lib.hid (rdC_none hr); have HF := Lib.hid (fun g w h => fields_any g 1 (by omega) w h)
    have h0' : ((b[0]'(by omega)).toNat : Int) = 1 := by rw [← h0, byt, dif_pos (by omega)]
    unfold maxLen at hmx
    have hb2 : (0 : Int) < (b.size : Int) := by omega
    have hb3 : ¬ (b.size : Int) < 2 := by omega
    have hb4 : (1 : Int) ≤ (b.size : Int) - 1 := by omega
    have hb5 : (b.size : Int) - 1 ≤ (b.size : Int) := by omega
    have hb6 : (0 : Int) ≤ (b.size : Int) - 1 := by omega
    clear hr h0
    go_enter Tryz.func143, Tryz.ntmps143
    go_upto_region 10 with fail
    have b0 := (Bk.new w 47 #[.int .i64 0, .int .i64 0, .int .i64 0, .int .i64 0, .int .i64 0, .int .i64 0, .int .i64 0, .int .i64 0, .int .i64 0, .int .i64 0, .int .i64 0]).alloc (.cells #[.int .i64 1, .int .i64 0, .int .i64 0, .int .i64 0, .int .i64 0, .int .i64 0, .int .i64 0, .int .i64 0, .int .i64 0, .int .i64 0, .int .i64 0] 47)
    have b1 := Bk.at_ (w := w.alloc (.cells #[.int .i64 0, .int .i64 0, .int .i64 0, .int .i64 0, .int .i64 0, .int .i64 0, .int .i64 0, .int .i64 0, .int .i64 0, .int .i64 0, .int .i64 0] 47)) (g' := w.heap.size + 1) (by simp) 47 #[.int .i64 1, .int .i64 0, .int .i64 0, .int .i64 0, .int .i64 0, .int .i64 0, .int .i64 0, .int .i64 0, .int .i64 0, .int .i64 0, .int .i64 0]
    have hb : Below w.heap.size w ((w.alloc (.cells #[.int .i64 0, .int .i64 0, .int .i64 0, .int .i64 0, .int .i64 0, .int .i64 0, .int .i64 0, .int .i64 0, .int .i64 0, .int .i64 0, .int .i64 0] 47)).alloc (.cells #[.int .i64 1, .int .i64 0, .int .i64 0, .int .i64 0, .int .i64 0, .int .i64 0, .int .i64 0, .int .i64 0, .int .i64 0, .int .i64 0, .int .i64 0] 47)) := below_then_alloc ((Below.refl _ _).alloc (Nat.le_refl _) _)
    generalize (w.alloc (.cells #[.int .i64 0, .int .i64 0, .int .i64 0, .int .i64 0, .int .i64 0, .int .i64 0, .int .i64 0, .int .i64 0, .int .i64 0, .int .i64 0, .int .i64 0] 47)).alloc (.cells #[.int .i64 1, .int .i64 0, .int .i64 0, .int .i64 0, .int .i64 0, .int .i64 0, .int .i64 0, .int .i64 0, .int .i64 0, .int .i64 0, .int .i64 0] 47) = w0 at *
    go_wp2_with fail
    go_at_call 142
    refine (HF.out _ _ (b1.cell 0)).mono ?_
    rintro e w1 ⟨rfl, hp, hb1⟩
    rw [show (fieldOffs 1).length = 8 from rfl]
    replace b0 := b0.keep hb1; replace b1 := b1.keep hb1; replace hb := below_then hb1 hb
    have HTH := Lib.hid b0.there
    have HRD := Lib.hid (cmd_read (b0.setCs (vs := (#[.int .i64 0, .int .i64 0, .int .i64 0, .int .i64 0, .int .i64 0, .int .i64 0, .int .i64 0, .int .i64 0, .int .i64 0, .int .i64 0, .int .i64 0] : Array Value).toList) rfl) rfl)
    have HB := Lib.hid (below_Cs (vs := (#[.int .i64 0, .int .i64 0, .int .i64 0, .int .i64 0, .int .i64 0, .int .i64 0, .int .i64 0, .int .i64 0, .int .i64 0, .int .i64 0, .int .i64 0] : Array Value).toList) (i := 0) (g := w.heap.size) (by omega) hb)
    have cz := cmd_zero
    generalize hS : b.extract 1 (b.size - 1) = S at *
    have e1 : (S.size : Int) = (b.size : Int) - 2 := by rw [← hS, ByteArray.size_extract]; omega
    have e2 : ((S.size : Int) != 16) = true := by simp; omega
    have e3 : ((S.size : Int) == 16) = false := by simp; omega
    clear hb1 HF b0 b1 hb hp h0' hb2 hb3 hb4 hb5 hb6 hS e1 hsz hs2
    go_wp2_with (refine wpList_store_mid (by rfl) 47 _ _ (by rfl) _ 0 #[.int .i64 0, .int .i64 0, .int .i64 0, .int .i64 0, .int .i64 0, .int .i64 0, .int .i64 0, .int .i64 0, .int .i64 0, .int .i64 0, .int .i64 0] (by rfl) (by rfl) HTH.out cmd_size (cmd_one cmd0) ?_)
    exact bodyPost_ret (v := .tuple #[.agg #[.int .i64 0, .int .i64 0, .int .i64 0, .int .i64 0, .int .i64 0, .int .i64 0, .int .i64 0, .int .i64 0, .int .i64 0, .int .i64 0, .int .i64 0], er 2]) (results_ct Tryz.results143 rfl rfl HRD.out) rfl (rd_bad HR.out HB.out)
set_option maxRecDepth 100000 in
set_option maxHeartbeats 8000000 in
theorem read_s2 (b : ByteArray) (hs2 : 2 ≤ b.size) (hmx : b.size ≤ maxLen) (hsz : b.size ≠ 4) (h0 : byt b 0 = 2) (hr : rawC b = none) (w : World) : Calls Tryz.prog 143 #[.string b] w (RdPost (rdC b) w) := by
    have HR := Lib.hid (rdC_none hr); have HF := Lib.hid (fun g w h => fields_any g 2 (by omega) w h)
    have h0' : ((b[0]'(by omega)).toNat : Int) = 2 := by rw [← h0, byt, dif_pos (by omega)]
    unfold maxLen at hmx
    have hb2 : (0 : Int) < (b.size : Int) := by omega
    have hb3 : ¬ (b.size : Int) < 2 := by omega
    have hb4 : (1 : Int) ≤ (b.size : Int) - 1 := by omega
    have hb5 : (b.size : Int) - 1 ≤ (b.size : Int) := by omega
    have hb6 : (0 : Int) ≤ (b.size : Int) - 1 := by omega
    clear hr h0
    go_enter Tryz.func143, Tryz.ntmps143
    go_upto_region 10 with fail
    have b0 := (Bk.new w 47 #[.int .i64 0, .int .i64 0, .int .i64 0, .int .i64 0, .int .i64 0, .int .i64 0, .int .i64 0, .int .i64 0, .int .i64 0, .int .i64 0, .int .i64 0]).alloc (.cells #[.int .i64 2, .int .i64 0, .int .i64 0, .int .i64 0, .int .i64 0, .int .i64 0, .int .i64 0, .int .i64 0, .int .i64 0, .int .i64 0, .int .i64 0] 47)
    have b1 := Bk.at_ (w := w.alloc (.cells #[.int .i64 0, .int .i64 0, .int .i64 0, .int .i64 0, .int .i64 0, .int .i64 0, .int .i64 0, .int .i64 0, .int .i64 0, .int .i64 0, .int .i64 0] 47)) (g' := w.heap.size + 1) (by simp) 47 #[.int .i64 2, .int .i64 0, .int .i64 0, .int .i64 0, .int .i64 0, .int .i64 0, .int .i64 0, .int .i64 0, .int .i64 0, .int .i64 0, .int .i64 0]
    have hb : Below w.heap.size w ((w.alloc (.cells #[.int .i64 0, .int .i64 0, .int .i64 0, .int .i64 0, .int .i64 0, .int .i64 0, .int .i64 0, .int .i64 0, .int .i64 0, .int .i64 0, .int .i64 0] 47)).alloc (.cells #[.int .i64 2, .int .i64 0, .int .i64 0, .int .i64 0, .int .i64 0, .int .i64 0, .int .i64 0, .int .i64 0, .int .i64 0, .int .i64 0, .int .i64 0] 47)) := below_then_alloc ((Below.refl _ _).alloc (Nat.le_refl _) _)
    generalize (w.alloc (.cells #[.int .i64 0, .int .i64 0, .int .i64 0, .int .i64 0, .int .i64 0, .int .i64 0, .int .i64 0, .int .i64 0, .int .i64 0, .int .i64 0, .int .i64 0] 47)).alloc (.cells #[.int .i64 2, .int .i64 0, .int .i64 0, .int .i64 0, .int .i64 0, .int .i64 0, .int .i64 0, .int .i64 0, .int .i64 0, .int .i64 0, .int .i64 0] 47) = w0 at *
    go_wp2_with fail
    go_at_call 142
    refine (HF.out _ _ (b1.cell 0)).mono ?_
    rintro e w1 ⟨rfl, hp, hb1⟩
    rw [show (fieldOffs 2).length = 1 from rfl]
    replace b0 := b0.keep hb1; replace b1 := b1.keep hb1; replace hb := below_then hb1 hb
    have HTH := Lib.hid b0.there
    have HRD := Lib.hid (cmd_read (b0.setCs (vs := (#[.int .i64 0, .int .i64 0, .int .i64 0, .int .i64 0, .int .i64 0, .int .i64 0, .int .i64 0, .int .i64 0, .int .i64 0, .int .i64 0, .int .i64 0] : Array Value).toList) rfl) rfl)
    have HB := Lib.hid (below_Cs (vs := (#[.int .i64 0, .int .i64 0, .int .i64 0, .int .i64 0, .int .i64 0, .int .i64 0, .int .i64 0, .int .i64 0, .int .i64 0, .int .i64 0, .int .i64 0] : Array Value).toList) (i := 0) (g := w.heap.size) (by omega) hb)
    have cz := cmd_zero
    generalize hS : b.extract 1 (b.size - 1) = S at *
    have e1 : (S.size : Int) = (b.size : Int) - 2 := by rw [← hS, ByteArray.size_extract]; omega
    have e2 : ((S.size : Int) != 2) = true := by simp; omega
    have e3 : ((S.size : Int) == 2) = false := by simp; omega
    clear hb1 HF b0 b1 hb hp h0' hb2 hb3 hb4 hb5 hb6 hS e1 hsz hs2
    go_wp2_with (refine wpList_store_mid (by rfl) 47 _ _ (by rfl) _ 0 #[.int .i64 0, .int .i64 0, .int .i64 0, .int .i64 0, .int .i64 0, .int .i64 0, .int .i64 0, .int .i64 0, .int .i64 0, .int .i64 0, .int .i64 0] (by rfl) (by rfl) HTH.out cmd_size (cmd_one cmd0) ?_)
    exact bodyPost_ret (v := .tuple #[.agg #[.int .i64 0, .int .i64 0, .int .i64 0, .int .i64 0, .int .i64 0, .int .i64 0, .int .i64 0, .int .i64 0, .int .i64 0, .int .i64 0, .int .i64 0], er 2]) (results_ct Tryz.results143 rfl rfl HRD.out) rfl (rd_bad HR.out HB.out)
set_option maxRecDepth 100000 in
set_option maxHeartbeats 8000000 in
theorem read_s3 (b : ByteArray) (hs2 : 2 ≤ b.size) (hmx : b.size ≤ maxLen) (hsz : b.size ≠ 8) (h0 : byt b 0 = 3) (hr : rawC b = none) (w : World) : Calls Tryz.prog 143 #[.string b] w (RdPost (rdC b) w) := by
    have HR := Lib.hid (rdC_none hr); have HF := Lib.hid (fun g w h => fields_any g 3 (by omega) w h)
    have h0' : ((b[0]'(by omega)).toNat : Int) = 3 := by rw [← h0, byt, dif_pos (by omega)]
    unfold maxLen at hmx
    have hb2 : (0 : Int) < (b.size : Int) := by omega
    have hb3 : ¬ (b.size : Int) < 2 := by omega
    have hb4 : (1 : Int) ≤ (b.size : Int) - 1 := by omega
    have hb5 : (b.size : Int) - 1 ≤ (b.size : Int) := by omega
    have hb6 : (0 : Int) ≤ (b.size : Int) - 1 := by omega
    clear hr h0
    go_enter Tryz.func143, Tryz.ntmps143
    go_upto_region 10 with fail
    have b0 := (Bk.new w 47 #[.int .i64 0, .int .i64 0, .int .i64 0, .int .i64 0, .int .i64 0, .int .i64 0, .int .i64 0, .int .i64 0, .int .i64 0, .int .i64 0, .int .i64 0]).alloc (.cells #[.int .i64 3, .int .i64 0, .int .i64 0, .int .i64 0, .int .i64 0, .int .i64 0, .int .i64 0, .int .i64 0, .int .i64 0, .int .i64 0, .int .i64 0] 47)
    have b1 := Bk.at_ (w := w.alloc (.cells #[.int .i64 0, .int .i64 0, .int .i64 0, .int .i64 0, .int .i64 0, .int .i64 0, .int .i64 0, .int .i64 0, .int .i64 0, .int .i64 0, .int .i64 0] 47)) (g' := w.heap.size + 1) (by simp) 47 #[.int .i64 3, .int .i64 0, .int .i64 0, .int .i64 0, .int .i64 0, .int .i64 0, .int .i64 0, .int .i64 0, .int .i64 0, .int .i64 0, .int .i64 0]
    have hb : Below w.heap.size w ((w.alloc (.cells #[.int .i64 0, .int .i64 0, .int .i64 0, .int .i64 0, .int .i64 0, .int .i64 0, .int .i64 0, .int .i64 0, .int .i64 0, .int .i64 0, .int .i64 0] 47)).alloc (.cells #[.int .i64 3, .int .i64 0, .int .i64 0, .int .i64 0, .int .i64 0, .int .i64 0, .int .i64 0, .int .i64 0, .int .i64 0, .int .i64 0, .int .i64 0] 47)) := below_then_alloc ((Below.refl _ _).alloc (Nat.le_refl _) _)
    generalize (w.alloc (.cells #[.int .i64 0, .int .i64 0, .int .i64 0, .int .i64 0, .int .i64 0, .int .i64 0, .int .i64 0, .int .i64 0, .int .i64 0, .int .i64 0, .int .i64 0] 47)).alloc (.cells #[.int .i64 3, .int .i64 0, .int .i64 0, .int .i64 0, .int .i64 0, .int .i64 0, .int .i64 0, .int .i64 0, .int .i64 0, .int .i64 0, .int .i64 0] 47) = w0 at *
    go_wp2_with fail
    go_at_call 142
    refine (HF.out _ _ (b1.cell 0)).mono ?_
    rintro e w1 ⟨rfl, hp, hb1⟩
    rw [show (fieldOffs 3).length = 3 from rfl]
    replace b0 := b0.keep hb1; replace b1 := b1.keep hb1; replace hb := below_then hb1 hb
    have HTH := Lib.hid b0.there
    have HRD := Lib.hid (cmd_read (b0.setCs (vs := (#[.int .i64 0, .int .i64 0, .int .i64 0, .int .i64 0, .int .i64 0, .int .i64 0, .int .i64 0, .int .i64 0, .int .i64 0, .int .i64 0, .int .i64 0] : Array Value).toList) rfl) rfl)
    have HB := Lib.hid (below_Cs (vs := (#[.int .i64 0, .int .i64 0, .int .i64 0, .int .i64 0, .int .i64 0, .int .i64 0, .int .i64 0, .int .i64 0, .int .i64 0, .int .i64 0, .int .i64 0] : Array Value).toList) (i := 0) (g := w.heap.size) (by omega) hb)
    have cz := cmd_zero
    generalize hS : b.extract 1 (b.size - 1) = S at *
    have e1 : (S.size : Int) = (b.size : Int) - 2 := by rw [← hS, ByteArray.size_extract]; omega
    have e2 : ((S.size : Int) != 6) = true := by simp; omega
    have e3 : ((S.size : Int) == 6) = false := by simp; omega
    clear hb1 HF b0 b1 hb hp h0' hb2 hb3 hb4 hb5 hb6 hS e1 hsz hs2
    go_wp2_with (refine wpList_store_mid (by rfl) 47 _ _ (by rfl) _ 0 #[.int .i64 0, .int .i64 0, .int .i64 0, .int .i64 0, .int .i64 0, .int .i64 0, .int .i64 0, .int .i64 0, .int .i64 0, .int .i64 0, .int .i64 0] (by rfl) (by rfl) HTH.out cmd_size (cmd_one cmd0) ?_)
    exact bodyPost_ret (v := .tuple #[.agg #[.int .i64 0, .int .i64 0, .int .i64 0, .int .i64 0, .int .i64 0, .int .i64 0, .int .i64 0, .int .i64 0, .int .i64 0, .int .i64 0, .int .i64 0], er 2]) (results_ct Tryz.results143 rfl rfl HRD.out) rfl (rd_bad HR.out HB.out)
set_option maxRecDepth 100000 in
set_option maxHeartbeats 8000000 in
theorem read_ps (b : ByteArray) (k : Int) (hk : k = 4 ∨ k = 5) (hs2 : 2 ≤ b.size) (hmx : b.size ≤ maxLen) (hsz : b.size ≠ 7) (h0 : byt b 0 = k) (hr : rawC b = none) (w : World) : Calls Tryz.prog 143 #[.string b] w (RdPost (rdC b) w) := by
    have HR := Lib.hid (rdC_none hr)
    have h0' : ((b[0]'(by omega)).toNat : Int) = k := by rw [← h0, byt, dif_pos (by omega)]
    unfold maxLen at hmx
    have hb2 : (0 : Int) < (b.size : Int) := by omega
    have hb3 : ¬ (b.size : Int) < 2 := by omega
    have hb4 : (1 : Int) ≤ (b.size : Int) - 1 := by omega
    have hb5 : (b.size : Int) - 1 ≤ (b.size : Int) := by omega
    have hb6 : (0 : Int) ≤ (b.size : Int) - 1 := by omega
    clear hr h0
    rcases hk with rfl | rfl
    all_goals
      go_enter Tryz.func143, Tryz.ntmps143
      go_upto_region 20 with fail
      generalize hS : b.extract 1 (b.size - 1) = S at *
      have e1 : (S.size : Int) = (b.size : Int) - 2 := by rw [← hS, ByteArray.size_extract]; omega
      have e2 : ((S.size : Int) != 5) = true := by simp; omega
      have e3 : ((S.size : Int) == 5) = false := by simp; omega
      clear h0' hb2 hb3 hb4 hb5 hb6 hS e1 hsz hs2
      go_wp2
      refine bodyPost_ret (v := .tuple #[.agg #[.int .i64 0, .int .i64 0, .int .i64 0, .int .i64 0, .int .i64 0, .int .i64 0, .int .i64 0, .int .i64 0, .int .i64 0, .int .i64 0, .int .i64 0], er 2]) (by simp [results, Tryz.results143, go_sem]) rfl (rd_bad HR.out ?_)
      (repeat (first | exact Below.refl _ _ | assumption | (refine below_then (by assumption) ?_) | (refine below_then_alloc ?_) | (refine Below.drew ?_)))
set_option maxRecDepth 100000 in
set_option maxHeartbeats 8000000 in
theorem read_odd (b : ByteArray) (k : Int) (hk : k < 1 ∨ 5 < k) (hs2 : 2 ≤ b.size) (hmx : b.size ≤ maxLen) (h0 : byt b 0 = k) (hr : rawC b = some ⟨k, ⟨0, 0, 0, 0, 0, 0, 0, 0⟩, 0, 0⟩) (w : World) : Calls Tryz.prog 143 #[.string b] w (RdPost (rdC b) w) := by
    have hce : (Cmd.mk k ⟨0, 0, 0, 0, 0, 0, 0, 0⟩ 0 0).err = 1 := by
      rw [Cmd.err, if_neg (by dsimp only; omega), if_neg (by dsimp only; omega), if_neg (by dsimp only; omega), if_neg (by dsimp only; omega)]
    have HRR := Lib.hid (rdC_bad hr (by rw [hce]; omega))
    have cK := Lib.hid (fun w => wcommand_bad ⟨k, ⟨0, 0, 0, 0, 0, 0, 0, 0⟩, 0, 0⟩ (by rw [hce]; omega) w)
    rw [hce] at cK
    have h0' : wrap64 ((b[0]'(by omega)).toNat : Int) = k := by rw [← h0, byt, dif_pos (by omega)]; have := (b[0]'(by omega)).toNat_lt; unfold wrap64; omega
    unfold maxLen at hmx
    have hb2 : (0 : Int) < (b.size : Int) := by omega
    have hb3 : ¬ (b.size : Int) < 2 := by omega
    have hb4 : (1 : Int) ≤ (b.size : Int) - 1 := by omega
    have hb5 : (b.size : Int) - 1 ≤ (b.size : Int) := by omega
    have hb6 : (0 : Int) ≤ (b.size : Int) - 1 := by omega
    have a1 : (k == 1) = false := by simp; omega
    have a2 : (k == 2) = false := by simp; omega
    have a3 : (k == 3) = false := by simp; omega
    have a4 : (k == 4) = false := by simp; omega
    have a5 : (k == 5) = false := by simp; omega
    clear hr h0 hce hk
    go_enter Tryz.func143, Tryz.ntmps143
    go_upto_region 28 with fail
    clear h0' a1 a2 a3 a4 a5 hb2 hb3 hb4 hb5 hb6
    go_wp2_with fail
    go_at_call 102
    refine (cK.out _).mono ?_
    rintro e w4 ⟨rfl, hb4⟩
    have b0 : Bk _ w.heap.size 47 #[.int .i64 0, .int .i64 0, .int .i64 0, .int .i64 0, .int .i64 0, .int .i64 0, .int .i64 0, .int .i64 0, .int .i64 0, .int .i64 0, .int .i64 0] := ((Bk.new w 47 #[.int .i64 0, .int .i64 0, .int .i64 0, .int .i64 0, .int .i64 0, .int .i64 0, .int .i64 0, .int .i64 0, .int .i64 0, .int .i64 0, .int .i64 0]).alloc _).keep hb4
    have hb := below_then hb4 (below_then_alloc ((Below.refl w.heap.size w).alloc (Nat.le_refl _) (.cells #[.int .i64 0, .int .i64 0, .int .i64 0, .int .i64 0, .int .i64 0, .int .i64 0, .int .i64 0, .int .i64 0, .int .i64 0, .int .i64 0, .int .i64 0] 47)))
    have HTH := Lib.hid b0.there
    have HRD := Lib.hid (cmd_read (b0.setCs (vs := (#[.int .i64 0, .int .i64 0, .int .i64 0, .int .i64 0, .int .i64 0, .int .i64 0, .int .i64 0, .int .i64 0, .int .i64 0, .int .i64 0, .int .i64 0] : Array Value).toList) rfl) rfl)
    have HF := Lib.hid (below_Cs (vs := (#[.int .i64 0, .int .i64 0, .int .i64 0, .int .i64 0, .int .i64 0, .int .i64 0, .int .i64 0, .int .i64 0, .int .i64 0, .int .i64 0, .int .i64 0] : Array Value).toList) (i := 0) (g := w.heap.size) (by omega) hb)
    have cz := cmd_zero
    clear b0 hb hb4 cK
    go_wp2_with (refine wpList_store_mid (by rfl) 47 _ _ (by rfl) _ 0 #[.int .i64 0, .int .i64 0, .int .i64 0, .int .i64 0, .int .i64 0, .int .i64 0, .int .i64 0, .int .i64 0, .int .i64 0, .int .i64 0, .int .i64 0] (by rfl) (by rfl) HTH.out cmd_size (cmd_one cmd0) ?_)
    exact bodyPost_ret (v := .tuple #[.agg #[.int .i64 0, .int .i64 0, .int .i64 0, .int .i64 0, .int .i64 0, .int .i64 0, .int .i64 0, .int .i64 0, .int .i64 0, .int .i64 0, .int .i64 0], er 2]) (results_ct Tryz.results143 rfl rfl HRD.out) rfl (rd_bad HRR.out HF.out)
theorem fill1 (b : ByteArray) : fillA b 1 8 = (Cmd.mk 1 ⟨w2 b 0, w2 b 1, w2 b 2, w2 b 3, w2 b 4, w2 b 5, w2 b 6, w2 b 7⟩ 0 0).cells := by simp [fillA, fieldOffs]
theorem fill2 (b : ByteArray) : fillA b 2 1 = (Cmd.mk 2 ⟨w2 b 0, 0, 0, 0, 0, 0, 0, 0⟩ 0 0).cells := by simp [fillA, fieldOffs]
theorem fill3 (b : ByteArray) : fillA b 3 3 = (Cmd.mk 3 ⟨w2 b 0, 0, 0, 0, w2 b 1, w2 b 2, 0, 0⟩ 0 0).cells := by simp [fillA, fieldOffs]
/-- ReadCommand, whatever it is given -/
theorem read_any (b : ByteArray) (hmx : b.size ≤ maxLen) (w : World) : Calls Tryz.prog 143 #[.string b] w (RdPost (rdC b) w) := by
  by_cases hs : b.size < 2
  · exact read_short b hs w
  have hs2 : 2 ≤ b.size := by omega
  by_cases k1 : byt b 0 = 1
  · by_cases hz : b.size = 18
    · exact read_f1 b hz k1 ⟨1, ⟨w2 b 0, w2 b 1, w2 b 2, w2 b 3, w2 b 4, w2 b 5, w2 b 6, w2 b 7⟩, 0, 0⟩ (fill1 b) (by rw [rawC, if_neg hs, if_pos k1, if_pos hz]) w
    · exact read_s1 b hs2 hmx hz k1 (by rw [rawC, if_neg hs, if_pos k1, if_neg hz]) w
  by_cases k2 : byt b 0 = 2
  · by_cases hz : b.size = 4
    · exact read_f2 b hz k2 ⟨2, ⟨w2 b 0, 0, 0, 0, 0, 0, 0, 0⟩, 0, 0⟩ (fill2 b) (by rw [rawC, if_neg hs, if_neg k1, if_pos k2, if_pos hz]) w
    · exact read_s2 b hs2 hmx hz k2 (by rw [rawC, if_neg hs, if_neg k1, if_pos k2, if_neg hz]) w
  by_cases k3 : byt b 0 = 3
  · by_cases hz : b.size = 8
    · exact read_f3 b hz k3 ⟨3, ⟨w2 b 0, 0, 0, 0, w2 b 1, w2 b 2, 0, 0⟩, 0, 0⟩ (fill3 b) (by rw [rawC, if_neg hs, if_neg k1, if_neg k2, if_pos k3, if_pos hz]) w
    · exact read_s3 b hs2 hmx hz k3 (by rw [rawC, if_neg hs, if_neg k1, if_neg k2, if_pos k3, if_neg hz]) w
  by_cases k45 : byt b 0 = 4 ∨ byt b 0 = 5
  · by_cases hz : b.size = 7
    · have hp : payN b 4 = ((byt b 2 * 256 + byt b 3) * 256 + byt b 4) * 256 + byt b 5 := by simp [payN]
      have hr : rawC b = some ⟨byt b 0, ⟨0, 0, 0, 0, 0, 0, 0, 0⟩, byt b 1, payN b 4⟩ := by rw [rawC, if_neg hs, if_neg k1, if_neg k2, if_neg k3, if_pos k45, if_pos hz, hp]
      rcases k45 with h | h
      · rw [h] at hr; exact read_p4 b hz h ⟨4, ⟨0, 0, 0, 0, 0, 0, 0, 0⟩, byt b 1, payN b 4⟩ rfl hr w
      · rw [h] at hr; exact read_p5 b hz h ⟨5, ⟨0, 0, 0, 0, 0, 0, 0, 0⟩, byt b 1, payN b 4⟩ rfl hr w
    · exact read_ps b _ k45 hs2 hmx hz rfl (by rw [rawC, if_neg hs, if_neg k1, if_neg k2, if_neg k3, if_pos k45, if_neg hz]) w
  · have := byt_in b 0
    exact read_odd b _ (by omega) hs2 hmx rfl (by rw [rawC, if_neg hs, if_neg k1, if_neg k2, if_neg k3, if_neg k45]) w
end Go.Proofs.YtkdgpdijbobmkaaGreatDoor
