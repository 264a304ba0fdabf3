/- Slices of commands: what they read; are two the same. The contract of wire.Pack. The contract of wire.Next. The contract of wire.Unpack. WireBack, plain: what is packed is unpacked, and the other way. -/
import Derived.Test.YtkdgpdijbobmkaaGreatDoorGrpAA
import Derived.Test.YtkdgpdijbobmkaaGreatDoorGrpC
import Derived.Test.YtkdgpdijbobmkaaGreatDoorWireR
import Derived.Deep.QuietTactic
import Derived.BigQuiet
import Derived.Test.YtkdgpdijbobmkaaGreatDoorWireRd
import Derived.StillTailTactics
import Derived.Deep.CutBlock
import Derived.Deep.DeepCutAuto
namespace Go.Proofs.YtkdgpdijbobmkaaGreatDoor
set_option linter.all false
open Go Go.RowKit
def Cmd.vals (c : Cmd) : List Value := [.int .i64 c.what, .int .i64 c.o.id, .int .i64 c.o.who, .int .i64 c.o.side, .int .i64 c.o.kind, .int .i64 c.o.price, .int .i64 c.o.qty, .int .i64 c.o.show_, .int .i64 c.o.stop, .int .i64 c.who, .int .i64 c.n]
theorem Cmd.vals_len (c : Cmd) : c.vals.length = 11 := rfl
theorem Cmd.vals_one (c : Cmd) : ∀ u ∈ c.vals, u.oneCell' = true := by
  intro u hu
  simp only [Cmd.vals, List.mem_cons, List.not_mem_nil, or_false] at hu
  rcases hu with rfl | rfl | rfl | rfl | rfl | rfl | rfl | rfl | rfl | rfl | rfl <;> rfl
/-- cell j of command i -/
def ccell (l : List Cmd) (i j : Nat) : Value := ((l.getD i cmd0).vals)[j]?.getD undef
theorem cmd_at {l : List Cmd} {w : World} {B k : Nat} {A : Option Addr} (hr : Rd w B A l.length 11 (ccell l)) (hk : k < l.length) :
    ∃ b off t, A = some ⟨b, off, none⟩ ∧ b < B ∧ l[k]? = some t ∧ w.cell? ⟨b, off + k * 11, none⟩ = some (.int .i64 t.what) ∧ w.cell? ⟨b, off + k * 11 + 1, none⟩ = some (.int .i64 t.o.id) ∧ w.cell? ⟨b, off + k * 11 + 2, none⟩ = some (.int .i64 t.o.who) ∧ w.cell? ⟨b, off + k * 11 + 3, none⟩ = some (.int .i64 t.o.side) ∧ w.cell? ⟨b, off + k * 11 + 4, none⟩ = some (.int .i64 t.o.kind) ∧ w.cell? ⟨b, off + k * 11 + 5, none⟩ = some (.int .i64 t.o.price) ∧ w.cell? ⟨b, off + k * 11 + 6, none⟩ = some (.int .i64 t.o.qty) ∧ w.cell? ⟨b, off + k * 11 + 7, none⟩ = some (.int .i64 t.o.show_) ∧ w.cell? ⟨b, off + k * 11 + 8, none⟩ = some (.int .i64 t.o.stop) ∧ w.cell? ⟨b, off + k * 11 + 9, none⟩ = some (.int .i64 t.who) ∧ w.cell? ⟨b, off + k * 11 + 10, none⟩ = some (.int .i64 t.n) := by
  obtain ⟨b, off, e, hb, hc⟩ := hr (by omega)
  have hg : l.getD k cmd0 = l[k] := by simp [hk]
  have h := hc k hk
  have h0 := h 0 (by omega); have h1 := h 1 (by omega); have h2 := h 2 (by omega); have h3 := h 3 (by omega); have h4 := h 4 (by omega); have h5 := h 5 (by omega); have h6 := h 6 (by omega); have h7 := h 7 (by omega); have h8 := h 8 (by omega); have h9 := h 9 (by omega); have h10 := h 10 (by omega)
  simp only [ccell, hg, Cmd.vals] at h0 h1 h2 h3 h4 h5 h6 h7 h8 h9 h10
  exact ⟨b, off, l[k], e, hb, List.getElem?_eq_getElem hk, h0, h1, h2, h3, h4, h5, h6, h7, h8, h9, h10⟩
def cmds (l : List Cmd) : List Value := l.flatMap Cmd.vals
theorem cmds_len (l : List Cmd) : (cmds l).length = l.length * 11 := flat_len (fun r => r.vals_len) l
theorem cmds_get {l : List Cmd} {i j : Nat} (hi : i < l.length) (hj : j < 11) : (cmds l)[i * 11 + j]? = some (ccell l i j) := by
  rw [cmds, flat_get (fun r => r.vals_len) (List.getElem?_eq_getElem hi) hj]
  have hg : l.getD i cmd0 = l[i] := by simp [hi]
  simp only [ccell, hg]
  rw [List.getElem?_eq_getElem (by rw [Cmd.vals_len]; exact hj)]
  rfl
theorem cmds_one (l : List Cmd) : ∀ u ∈ cmds l, u.oneCell' = true := flat_all (fun r u hu => r.vals_one u hu) l
theorem cmds_cons (r : Cmd) (t : List Cmd) : cmds (r :: t) = r.vals ++ cmds t := rfl
theorem cmds_app (a b : List Cmd) : cmds (a ++ b) = cmds a ++ cmds b := List.flatMap_append
theorem info_cmd : (Tryz.prog.info? 47).map (fun i => (i.zero, i.size, i.bytes)) = some (some (.agg #[.int .i64 0, .int .i64 0, .int .i64 0, .int .i64 0, .int .i64 0, .int .i64 0, .int .i64 0, .int .i64 0, .int .i64 0, .int .i64 0, .int .i64 0]), 11, 88) := by kernel_rfl
theorem OwnS.rdC {w : World} {base cap : Nat} {A : Option Addr} {l : List Cmd} (h : OwnS w base 11 A l.length cap (cmds l)) : Rd w w.heap.size A l.length 11 (ccell l) := h.rd (fun i j hi hj => cmds_get hi hj)
end Go.Proofs.YtkdgpdijbobmkaaGreatDoor
namespace Go.Proofs.YtkdgpdijbobmkaaGreatDoor
set_option linter.all false
open Go Go.RowKit
/-- commands that are right, as bytes, each behind how long it is -/
def packB (l : List Cmd) : List UInt8 := l.flatMap fun c => UInt8.ofNat (enc c).size :: (enc c).data.toList
def packS (l : List Cmd) : ByteArray := ⟨(packB l).toArray⟩
def firstE (l : List Cmd) : Int := match l.find? (fun c => c.err != 0) with
  | none => 0
  | some c => c.err
def packE (l : List Cmd) : Int := if 400 < l.length then 4 else firstE l
theorem enc_len {c : Cmd} (h : c.err = 0) : 4 ≤ (enc c).size ∧ (enc c).size ≤ 18 := by
  have hl := enc_size c
  rw [body_len] at hl
  have hk := Cmd.kind0 h
  rcases hk with h1 | h1 | h1 | h1 | h1 <;> (rw [h1] at hl; simp at hl; omega)
theorem packB_app (a b : List Cmd) : packB (a ++ b) = packB a ++ packB b := List.flatMap_append
theorem ba_app (a b : List UInt8) : (⟨(a ++ b).toArray⟩ : ByteArray) = ⟨a.toArray⟩ ++ ⟨b.toArray⟩ := by
  apply ByteArray.ext
  simp
theorem ba_data (s : ByteArray) : (⟨s.data.toList.toArray⟩ : ByteArray) = s := by
  apply ByteArray.ext
  simp
theorem packS_snoc {l : List Cmd} {k : Nat} {c : Cmd} (hc : l[k]? = some c) (h : c.err = 0) : packS (l.take (k + 1)) = packS (l.take k) ++ (strOf [((enc c).size : Int)] ++ enc c) := by
  have e := enc_len h
  have ht : l.take (k + 1) = l.take k ++ [c] := by rw [List.take_add_one, hc]; rfl
  rw [ht, packS, packB_app, ba_app]
  congr 1
  have h1 : strOf [((enc c).size : Int)] = ⟨[UInt8.ofNat (enc c).size].toArray⟩ := by
    apply ByteArray.ext
    rw [← Array.toList_inj, strOf_data]
    simp
  rw [h1]
  conv => rhs; rw [← ba_data (enc c)]
  rw [← ba_app]
  simp [packB]
theorem packS_size {l : List Cmd} (h : ∀ c ∈ l, c.err = 0) : (packS l).size ≤ l.length * 19 := by
  induction l with
  | nil => exact Nat.zero_le _
  | cons c l ih =>
    have := ih (fun x hx => h x (List.mem_cons_of_mem _ hx))
    have := enc_len (h c (List.mem_cons_self ..))
    have e : (packS (c :: l)).size = (1 + (enc c).size) + (packS l).size := by
      simp only [packS, packB, List.flatMap_cons, ByteArray.size, List.size_toArray, List.length_append, List.length_cons, Array.length_toList]
      omega
    rw [e, List.length_cons]
    omega
theorem conv_one (x : Int) (w : World) : (convert 170 9 (.slice (some ⟨w.heap.size, 0, none⟩) 1 1)).run Tryz.prog (w.alloc (.cells #[.int .u8 x] 5)) = .ok (.string (strOf [x])) (w.alloc (.cells #[.int .u8 x] 5)) :=
  own_string (base := w.heap.size) (bs := [x]) (World.ownsRow_lit w _ 1 (Nat.le_refl _) (by decide) rfl) (by decide)
/-- how Pack ends -/
def PkPost (l : List Cmd) (w : World) (e : Ending) (w' : World) : Prop :=
  e = .returned (.tuple #[.string (if packE l = 0 then packS l else ⟨#[]⟩), errV (packE l)]) ∧ Below w.heap.size w w'
theorem firstE_at {l : List Cmd} {k : Nat} {c : Cmd} (hc : l[k]? = some c) (h : c.err ≠ 0) (hno : ∀ j, j < k → ∀ u, l[j]? = some u → u.err = 0) : firstE l = c.err := by
  have hk : k < l.length := (List.getElem?_eq_some_iff.1 hc).1
  have : l.find? (fun c => c.err != 0) = some c := by
    rw [List.find?_eq_some_iff_getElem]
    refine ⟨by simpa using h, k, hk, (List.getElem?_eq_some_iff.1 hc).2, fun j hj => ?_⟩
    have := hno j hj l[j] (List.getElem?_eq_getElem (by omega))
    simpa using this
  rw [firstE, this]
theorem firstE_none {l : List Cmd} (h : ∀ c ∈ l, c.err = 0) : firstE l = 0 := by
  have : l.find? (fun c => c.err != 0) = none := by
    rw [List.find?_eq_none]
    intro x hx
    simpa using h x hx
  rw [firstE, this]
theorem all_of {l : List Cmd} {k : Nat} (hno : ∀ j, j < k → ∀ u, l[j]? = some u → u.err = 0) : ∀ c ∈ l.take k, c.err = 0 := by
  intro c hc
  obtain ⟨j, hj⟩ := List.mem_iff_getElem?.1 hc
  rw [List.getElem?_take] at hj
  split at hj
  · exact hno j (by assumption) c hj
  · cases hj
set_option maxRecDepth 100000 in
set_option maxHeartbeats 4000000 in
theorem pack_any (l : List Cmd) (A : Option Addr) (c : Nat) (w : World) (hr : Rd w w.heap.size A l.length 11 (ccell l)) (hl : l.length ≤ maxLen) :
    Calls Tryz.prog 60 #[.slice A l.length c] w (PkPost l w) := by
  have HR := Lib.hid hr
  unfold maxLen at hl
  clear hr
  by_cases h4 : 400 < l.length
  · have HE := Lib.hid (show packE l = 4 from if_pos h4)
    have h4' : (400 : Int) < (l.length : Int) := by omega
    clear h4
    go_enter Tryz.func60, Tryz.ntmps60
    go_wp2
    go_ret2
    refine ⟨?_, Below.refl _ _⟩
    rw [HE.out]
    rfl
  have HE := Lib.hid (show packE l = firstE l from if_neg h4)
  have h4' : ¬ (400 : Int) < (l.length : Int) := by omega
  have h5 : (l.length : Int) ≤ 400 := by omega
  clear h4
  have cz := conv_one
  go_enter Tryz.func60, Tryz.ntmps60
  go_wp2
  go_loopw [4, 15] (fun s i wr => ∃ k : Nat, k ≤ l.length ∧ i = .int .i64 k ∧ s = .string (packS (l.take k)) ∧ Below w.heap.size w wr ∧ Hid (∀ j, j < k → ∀ u, l[j]? = some u → u.err = 0)) (fun _ i _ => l.length - (intOf i).toNat)
  case atStart => exact ⟨0, by omega, rfl, rfl, Below.refl _ _, Lib.hid (fun j hj => absurd hj (by omega))⟩
  case round =>
    obtain ⟨k, hk, rfl, rfl, hb, hno⟩ := hrel
    by_cases hlt : k < l.length
    · obtain ⟨b, off, t, rfl, hbl, ht, e0, e1, e2, e3, e4, e5, e6, e7, e8, e9, e10⟩ := cmd_at (HR.out.below hb) hlt
      have HT := Lib.hid ht
      have j0 : (0 : Int) ≤ (k : Int) := by omega
      have j1 : (k : Int) < (l.length : Int) := by omega
      clear ht
      by_cases hc : t.err = 0
      · have HN := Lib.hid (packS_snoc HT.out hc)
        have HC := Lib.hid hc
        have cK := Lib.hid (fun w => command_ok t hc w)
        change Hid (∀ w, Calls _ _ _ _ fun e w' => e = .returned (.tuple #[.string (enc t), .nilIface]) ∧ Below w.heap.size w w') at cK
        have hs1 := packS_size (all_of hno.out)
        have hs2 := (enc_len hc).2
        have hs3 : (l.take k).length ≤ 400 := by rw [List.length_take]; omega
        have hs4 : (packS (l.take k)).size ≤ 7600 := by omega
        have hs5 : ∀ x, (strOf [x]).size = 1 := fun x => strOf_size [x]
        generalize packS (l.take k) = S at *
        generalize enc t = E at *
        clear hs1 hs3 hc
        go_wp2_with (go_at_call 102; refine (cK.out _).mono ?_; rintro e w1 ⟨rfl, hb1⟩)
        go_roundw
        case rel =>
          refine ⟨k + 1, by omega, by go_num, by rw [HN.out], ?_, Lib.hid (fun j hj u hu => ?_)⟩
          · (repeat (first | exact Below.refl _ _ | assumption | (refine below_then (by assumption) ?_) | (refine below_then_alloc ?_) | (refine Below.drew ?_)))
          · rcases Nat.lt_or_ge j k with h | h
            · exact hno.out j h u hu
            · obtain rfl : j = k := by omega
              rw [HT.out] at hu
              cases hu
              exact HC.out
        case measure => simp [intOf]; omega
      · have HF := Lib.hid (show packE l = t.err by rw [HE.out]; exact firstE_at HT.out hc hno.out)
        have HC := Lib.hid hc
        have cK := Lib.hid (fun w => wcommand_bad t hc w)
        clear hc
        generalize hr : t.err = r at *
        clear hr
        go_wp2_with (go_at_call 102; refine (cK.out _).mono ?_; rintro e w1 ⟨rfl, hb1⟩)
        go_ret2
        refine ⟨by rw [HF.out, if_neg HC.out, errV, if_neg HC.out]; rfl, ?_⟩
        (repeat (first | exact Below.refl _ _ | assumption | (refine below_then (by assumption) ?_) | (refine below_then_alloc ?_) | (refine Below.drew ?_)))
    · obtain rfl : k = l.length := by omega
      have ha : ∀ c ∈ l, c.err = 0 := by have := all_of hno.out; rwa [List.take_length] at this
      have HF := Lib.hid (show packE l = 0 by rw [HE.out]; exact firstE_none ha)
      have HS := Lib.hid (show packS (l.take l.length) = packS l by rw [List.take_length])
      clear ha
      go_wp2
      go_ret2
      exact ⟨by rw [HF.out, HS.out]; rfl, hb⟩
end Go.Proofs.YtkdgpdijbobmkaaGreatDoor
namespace Go.Proofs.YtkdgpdijbobmkaaGreatDoor
set_option linter.all false
open Go Go.RowKit
/-- where the first command ends -/
def nxE (b : ByteArray) : Nat := 1 + (byt b 0).toNat
open Classical in
/-- the first command of bytes, and what is left -/
noncomputable def nxC (b : ByteArray) : Option (Cmd × ByteArray) :=
  if b.size = 0 ∨ b.size < nxE b then none else match rdC (b.extract 1 (nxE b)) with
  | none => none
  | some c => some (c, b.extract (nxE b) b.size)
/-- how Next ends -/
def NxPost (b : ByteArray) (r : Option (Cmd × ByteArray)) (w : World) (e : Ending) (w' : World) : Prop :=
  (e = match r with
    | none => .returned (.tuple #[.agg cmd0.cells, .string b, .bool false])
    | some (c, t) => .returned (.tuple #[.agg c.cells, .string t, .bool true])) ∧ Below w.heap.size w w'
theorem nx_bad {b : ByteArray} {r : Option (Cmd × ByteArray)} {w w' : World} (h : r = none) (hb : Below w.heap.size w w') : NxPost b r w (.returned (.tuple #[.agg #[.int .i64 0, .int .i64 0, .int .i64 0, .int .i64 0, .int .i64 0, .int .i64 0, .int .i64 0, .int .i64 0, .int .i64 0, .int .i64 0, .int .i64 0], .string b, .bool false])) w' := by
  subst h; exact ⟨rfl, hb⟩
theorem nx_good {b t : ByteArray} {c : Cmd} {r : Option (Cmd × ByteArray)} {w w' : World} (h : r = some (c, t)) (hb : Below w.heap.size w w') : NxPost b r w (.returned (.tuple #[.agg c.cells, .string t, .bool true])) w' := by
  subst h; exact ⟨rfl, hb⟩
/-- three results: a variable that lies in memory, and two slots -/
theorem results_ctt {P : Program} {fn : Func} {tmps : Array Value} {c d d2 : Nat} {t : TypeId} {w : World} {p : Addr} {v u u2 : Value} (hf : fn.results = #[.cell c t, .tmp d, .tmp d2]) (hc : tmps.getD c undef = .pointer (some p)) (hd : tmps.getD d undef = u) (hd2 : tmps.getD d2 undef = u2) (hl : (loadVar t p).run P w = .ok v w) : (results fn tmps).run P w = .ok (.tuple #[v, u, u2]) w := by
  have hc' : tmps[c]?.getD undef = .pointer (some p) := by rw [← hc, Array.getD_eq_getD_getElem?]
  have hd' : tmps[d]?.getD undef = u := by rw [← hd, Array.getD_eq_getD_getElem?]
  have hd2' : tmps[d2]?.getD undef = u2 := by rw [← hd2, Array.getD_eq_getD_getElem?]
  unfold results
  rw [hf]
  generalize loadVar = F at hl ⊢
  simp [hc', hd', hd2', hl, asAddr, go_sem]
theorem size0 {b : ByteArray} (h : b.size = 0) : b = ⟨#[]⟩ := by
  obtain ⟨d⟩ := b
  have : d = #[] := Array.eq_empty_of_size_eq_zero h
  rw [this]
theorem toList_ne {b : ByteArray} (h : b.size ≠ 0) : b.toList ≠ [] := by
  rw [ByteArray.toList_eq]
  intro e
  have : b.data.toList.length = 0 := by rw [e]; rfl
  exact h (by simpa using this)
set_option maxRecDepth 100000 in
set_option maxHeartbeats 4000000 in
theorem next_any (b : ByteArray) (hmx : b.size ≤ maxLen) (w : World) : Calls Tryz.prog 103 #[.string b] w (NxPost b (nxC b) w) := by
  by_cases h0 : b.size = 0
  · have HR := Lib.hid (show nxC b = none by rw [nxC, if_pos (.inl h0)])
    obtain rfl := size0 h0
    clear h0 hmx
    go_enter Tryz.func103, Tryz.ntmps103
    go_wp2
    refine bodyPost_ret (v := .tuple #[.agg #[.int .i64 0, .int .i64 0, .int .i64 0, .int .i64 0, .int .i64 0, .int .i64 0, .int .i64 0, .int .i64 0, .int .i64 0, .int .i64 0, .int .i64 0], .string ⟨#[]⟩, .bool false]) (by simp [results, Tryz.results103, go_sem]) rfl (nx_bad HR.out ?_)
    (repeat (first | exact Below.refl _ _ | assumption | (refine below_then (by assumption) ?_) | (refine below_then_alloc ?_) | (refine Below.drew ?_)))
  have h1 := byt_in b 0
  have hk : (byt b 0).toNat = (b[0]'(by omega)).toNat := by rw [byt, dif_pos (by omega)]; omega
  unfold maxLen at hmx
  have e1 : b.toList ≠ [] := toList_ne h0
  have e2 : b.toList.isEmpty = false := by simpa using e1
  have e3 : (b.toList == []) = false := by simpa using e1
  have g1 : (0 : Int) < (b.size : Int) := by omega
  have hu := (b[0]'(by omega)).toNat_lt
  by_cases h2 : b.size < nxE b
  · have HR := Lib.hid (show nxC b = none by rw [nxC, if_pos (.inr h2)])
    unfold nxE at h2
    rw [hk] at h2
    have g2 : (b.size : Int) < (1 : Int) + ((b[0]'(by omega)).toNat : Int) := by omega
    clear h1 h2 hk
    go_enter Tryz.func103, Tryz.ntmps103
    go_wp2
    refine bodyPost_ret (v := .tuple #[.agg #[.int .i64 0, .int .i64 0, .int .i64 0, .int .i64 0, .int .i64 0, .int .i64 0, .int .i64 0, .int .i64 0, .int .i64 0, .int .i64 0, .int .i64 0], .string b, .bool false]) (by simp [results, Tryz.results103, go_sem]) rfl (nx_bad HR.out ?_)
    (repeat (first | exact Below.refl _ _ | assumption | (refine below_then (by assumption) ?_) | (refine below_then_alloc ?_) | (refine Below.drew ?_)))
  have hmp : (b.extract 1 (nxE b)).size ≤ maxLen := by rw [ByteArray.size_extract]; unfold maxLen; omega
  have cR := Lib.hid (fun w => read_any (b.extract 1 (nxE b)) hmp w)
  have g2 : ¬ (b.size : Int) < (1 : Int) + ((b[0]'(by omega)).toNat : Int) := by unfold nxE at h2; rw [hk] at h2; omega
  have g3 : (1 : Int) + ((b[0]'(by omega)).toNat : Int) ≤ (b.size : Int) := by omega
  have g4 : ((1 : Int) + ((b[0]'(by omega)).toNat : Int)).toNat = nxE b := by unfold nxE; rw [hk]; omega
  have hr : nxC b = match rdC (b.extract 1 (nxE b)) with
    | none => none
    | some c => some (c, b.extract (nxE b) b.size) := by rw [nxC, if_neg (by omega)]
  cases hc : rdC (b.extract 1 (nxE b)) with
  | none =>
    rw [hc] at hr cR
    have HR := Lib.hid hr
    clear hr hc h1 h2 hk hmp
    change Hid (∀ w, Calls _ _ _ _ fun e w' => e = .returned (.tuple #[.agg #[.int .i64 0, .int .i64 0, .int .i64 0, .int .i64 0, .int .i64 0, .int .i64 0, .int .i64 0, .int .i64 0, .int .i64 0, .int .i64 0, .int .i64 0], er 2]) ∧ Below w.heap.size w w') at cR
    have cz := cmd_zero
    go_enter Tryz.func103, Tryz.ntmps103
    go_upto_region 4 with fail
    clear e1 e2 e3
    go_wp2_with fail
    go_at_call 143
    refine (cR.out _).mono ?_
    rintro e w1 ⟨rfl, hb1⟩
    have b0 : Bk _ w.heap.size 47 #[.int .i64 0, .int .i64 0, .int .i64 0, .int .i64 0, .int .i64 0, .int .i64 0, .int .i64 0, .int .i64 0, .int .i64 0, .int .i64 0, .int .i64 0] := ((Bk.new w 47 #[.int .i64 0, .int .i64 0, .int .i64 0, .int .i64 0, .int .i64 0, .int .i64 0, .int .i64 0, .int .i64 0, .int .i64 0, .int .i64 0, .int .i64 0])).keep hb1
    have hb := below_then hb1 ((Below.refl w.heap.size w).alloc (Nat.le_refl _) (.cells #[.int .i64 0, .int .i64 0, .int .i64 0, .int .i64 0, .int .i64 0, .int .i64 0, .int .i64 0, .int .i64 0, .int .i64 0, .int .i64 0, .int .i64 0] 47))
    have HTH := Lib.hid (b0.alloc (.cells #[.int .i64 0, .int .i64 0, .int .i64 0, .int .i64 0, .int .i64 0, .int .i64 0, .int .i64 0, .int .i64 0, .int .i64 0, .int .i64 0, .int .i64 0] 47)).there
    have HRD := Lib.hid (cmd_read ((b0.alloc (.cells #[.int .i64 0, .int .i64 0, .int .i64 0, .int .i64 0, .int .i64 0, .int .i64 0, .int .i64 0, .int .i64 0, .int .i64 0, .int .i64 0, .int .i64 0] 47)).setCs (vs := (#[.int .i64 0, .int .i64 0, .int .i64 0, .int .i64 0, .int .i64 0, .int .i64 0, .int .i64 0, .int .i64 0, .int .i64 0, .int .i64 0, .int .i64 0] : Array Value).toList) rfl) rfl)
    have HF := Lib.hid (below_Cs (vs := (#[.int .i64 0, .int .i64 0, .int .i64 0, .int .i64 0, .int .i64 0, .int .i64 0, .int .i64 0, .int .i64 0, .int .i64 0, .int .i64 0, .int .i64 0] : Array Value).toList) (i := 0) (g := w.heap.size) (by omega) (below_then_alloc (o := .cells #[.int .i64 0, .int .i64 0, .int .i64 0, .int .i64 0, .int .i64 0, .int .i64 0, .int .i64 0, .int .i64 0, .int .i64 0, .int .i64 0, .int .i64 0] 47) hb))
    clear b0 hb hb1 cR g1 g2 g3 g4 hu
    go_wp2_with (refine wpList_store_mid (by rfl) 47 _ _ (by rfl) _ 0 #[.int .i64 0, .int .i64 0, .int .i64 0, .int .i64 0, .int .i64 0, .int .i64 0, .int .i64 0, .int .i64 0, .int .i64 0, .int .i64 0, .int .i64 0] (by rfl) (by rfl) HTH.out cmd_size (cmd_one cmd0) ?_)
    exact bodyPost_ret (v := .tuple #[.agg #[.int .i64 0, .int .i64 0, .int .i64 0, .int .i64 0, .int .i64 0, .int .i64 0, .int .i64 0, .int .i64 0, .int .i64 0, .int .i64 0, .int .i64 0], .string b, .bool false]) (results_ctt Tryz.results103 rfl rfl rfl HRD.out) rfl (nx_bad HR.out HF.out)
  | some c =>
    rw [hc] at hr cR
    have HR := Lib.hid hr
    clear hr hc h1 h2 hk hmp
    change Hid (∀ w, Calls _ _ _ _ fun e w' => e = .returned (.tuple #[.agg c.cells, .nilIface]) ∧ Below w.heap.size w w') at cR
    go_enter Tryz.func103, Tryz.ntmps103
    go_upto_region 4 with fail
    clear e1 e2 e3
    go_upto_region 7 with (go_at_call 143; refine (cR.out _).mono ?_; rintro e w1 ⟨rfl, hb1⟩)
    have b0 : Bk _ w.heap.size 47 #[.int .i64 0, .int .i64 0, .int .i64 0, .int .i64 0, .int .i64 0, .int .i64 0, .int .i64 0, .int .i64 0, .int .i64 0, .int .i64 0, .int .i64 0] := ((Bk.new w 47 #[.int .i64 0, .int .i64 0, .int .i64 0, .int .i64 0, .int .i64 0, .int .i64 0, .int .i64 0, .int .i64 0, .int .i64 0, .int .i64 0, .int .i64 0])).keep hb1
    have hb := below_then_alloc (o := .cells c.cells 47) (below_then hb1 ((Below.refl w.heap.size w).alloc (Nat.le_refl _) (.cells #[.int .i64 0, .int .i64 0, .int .i64 0, .int .i64 0, .int .i64 0, .int .i64 0, .int .i64 0, .int .i64 0, .int .i64 0, .int .i64 0, .int .i64 0] 47)))
    replace b0 := b0.alloc (.cells c.cells 47)
    have b1 := Bk.new w1 47 c.cells
    clear hb1 cR
    generalize w1.alloc (.cells c.cells 47) = w2 at *
    generalize w1.heap.size = gx at *
    obtain ⟨q0, q1, q2, q3, q4, q5, q6, q7, q8, q9, q10⟩ := box11 b1
    obtain ⟨z0, z1, z2, z3, z4, z5, z6, z7, z8, z9, z10⟩ := box11 b0
    have y0 := b0.free 0; have y1 := b0.free 1; have y2 := b0.free 2; have y3 := b0.free 3; have y4 := b0.free 4; have y5 := b0.free 5; have y6 := b0.free 6; have y7 := b0.free 7; have y8 := b0.free 8; have y9 := b0.free 9; have y10 := b0.free 10
    have HB := Lib.hid (And.intro b0 hb)
    clear b0 b1 hb
    go_region
    have HRD := Lib.hid (cmd_read (HB.out.1.set11 (.int .i64 c.what) (.int .i64 c.o.id) (.int .i64 c.o.who) (.int .i64 c.o.side) (.int .i64 c.o.kind) (.int .i64 c.o.price) (.int .i64 c.o.qty) (.int .i64 c.o.show_) (.int .i64 c.o.stop) (.int .i64 c.who) (.int .i64 c.n)).drew rfl)
    clear q0 q1 q2 q3 q4 q5 q6 q7 q8 q9 q10 z0 z1 z2 z3 z4 z5 z6 z7 z8 z9 z10 y0 y1 y2 y3 y4 y5 y6 y7 y8 y9 y10
    go_wp2
    exact bodyPost_ret (v := .tuple #[.agg c.cells, .string (b.extract (nxE b) b.size), .bool true]) (results_ctt Tryz.results103 rfl rfl rfl HRD.out) rfl (nx_good HR.out (below_set11 (Nat.le_refl _) HB.out.2 _ _ _ _ _ _ _ _ _ _ _).drew)
end Go.Proofs.YtkdgpdijbobmkaaGreatDoor
namespace Go.Proofs.YtkdgpdijbobmkaaGreatDoor
set_option linter.all false
open Go Go.RowKit
/-- the commands of bytes: how many at most, those that are read -/
noncomputable def unRun : Nat → ByteArray → List Cmd → Option (List Cmd)
  | 0, _, _ => none
  | n + 1, b, out => if b.size = 0 then some out else match nxC b with
    | none => none
    | some (c, t) => if 400 ≤ out.length then none else unRun n t (out ++ [c])
noncomputable def unC (b : ByteArray) : Option (List Cmd) := unRun (b.size + 1) b []
theorem nx_less {b t : ByteArray} {c : Cmd} (h : nxC b = some (c, t)) : t.size < b.size ∧ t.size + 1 ≤ b.size ∧ b.size ≠ 0 := by
  unfold nxC at h
  split at h
  · cases h
  · rename_i h0
    split at h
    · cases h
    · cases h
      rw [ByteArray.size_extract]
      have : 1 ≤ nxE b := by unfold nxE; omega
      omega
theorem unRun_more : ∀ (n m : Nat) (b : ByteArray) (out : List Cmd), b.size < n → b.size < m → unRun n b out = unRun m b out
  | 0, _, _, _, h, _ => by omega
  | _ + 1, 0, _, _, _, h => by omega
  | n + 1, m + 1, b, out, h1, h2 => by
    unfold unRun
    split
    · rfl
    · cases hn : nxC b with
      | none => rfl
      | some x =>
        obtain ⟨c, t⟩ := x
        have := (nx_less hn).1
        dsimp only
        rw [unRun_more n m t _ (by omega) (by omega)]
theorem un_step {n : Nat} {b : ByteArray} {out : List Cmd} (h : b.size < n) (h0 : b.size ≠ 0) : unRun n b out = match nxC b with
    | none => none
    | some (c, t) => if 400 ≤ out.length then none else unRun n t (out ++ [c]) := by
  obtain ⟨m, rfl⟩ : ∃ m, n = m + 1 := ⟨n - 1, by omega⟩
  conv => lhs; unfold unRun
  rw [if_neg h0]
  cases hn : nxC b with
  | none => rfl
  | some x =>
    obtain ⟨c, t⟩ := x
    have := (nx_less hn).1
    dsimp only
    rw [unRun_more m (m + 1) t _ (by omega) (by omega)]
theorem un_end {n : Nat} {b : ByteArray} {out : List Cmd} (h : b.size < n) (h0 : b.size = 0) : unRun n b out = some out := by
  obtain ⟨m, rfl⟩ : ∃ m, n = m + 1 := ⟨n - 1, by omega⟩
  unfold unRun
  rw [if_pos h0]
/-- how Unpack ends -/
def UnPost (r : Option (List Cmd)) (w : World) (e : Ending) (w' : World) : Prop := match r with
  | none => e = .returned (.tuple #[.slice none 0 0, er 2]) ∧ Below w.heap.size w w'
  | some l => ∃ A c, e = .returned (.tuple #[.slice A l.length c, .nilIface]) ∧ OwnS w' w.heap.size 11 A l.length c (cmds l) ∧ l.length ≤ 400 ∧ Below w.heap.size w w'
theorem un_bad {r : Option (List Cmd)} {w w' : World} (h : r = none) (hb : Below w.heap.size w w') : UnPost r w (.returned (.tuple #[.slice none 0 0, er 2])) w' := by
  subst h; exact ⟨rfl, hb⟩
theorem un_good {r : Option (List Cmd)} {l : List Cmd} {A : Option Addr} {c n : Nat} {w w' : World} (h : r = some l) (hn : n = l.length) (ho : OwnS w' w.heap.size 11 A n c (cmds l)) (hl : l.length ≤ 400) (hb : Below w.heap.size w w') : UnPost r w (.returned (.tuple #[.slice A n c, .nilIface])) w' := by
  subst h; subst hn; exact ⟨A, c, rfl, ho, hl, hb⟩
end Go.Proofs.YtkdgpdijbobmkaaGreatDoor
namespace Go.Proofs.YtkdgpdijbobmkaaGreatDoor
set_option linter.all false
open Go Go.RowKit
theorem ba_mk (b : ByteArray) : ∃ l : List UInt8, b = ⟨l.toArray⟩ := ⟨b.data.toList, by apply ByteArray.ext; simp⟩
theorem ba_size (l : List UInt8) : (⟨l.toArray⟩ : ByteArray).size = l.length := by simp [ByteArray.size]
theorem byt_mk (n : UInt8) (l : List UInt8) : byt ⟨(n :: l).toArray⟩ 0 = (n.toNat : Int) := by
  rw [byt, dif_pos (by rw [ba_size]; simp)]
  rfl
theorem ba_inj {a b : List UInt8} (h : (⟨a.toArray⟩ : ByteArray) = ⟨b.toArray⟩) : a = b := by
  injection h with h
  simpa using congrArg Array.toList h
theorem enc_mk (c : Cmd) : enc c = ⟨(enc c).data.toList.toArray⟩ := (ba_data _).symm
theorem enc_data (c : Cmd) : (enc c).data.toList.length = (enc c).size := by simp
/-- the first command of what is packed -/
theorem nx_pack {c : Cmd} (l : List Cmd) (h : c.err = 0) : nxC (packS (c :: l)) = some (c, packS l) := by
  have he := enc_len h
  have hn : (UInt8.ofNat (enc c).size).toNat = (enc c).size := by rw [UInt8.toNat_ofNat']; omega
  have e0 : packS (c :: l) = ⟨(UInt8.ofNat (enc c).size :: ((enc c).data.toList ++ packB l)).toArray⟩ := by simp [packS, packB]
  have hx : nxE (packS (c :: l)) = 1 + (enc c).size := by rw [nxE, e0, byt_mk, hn]; simp
  have hs : (packS (c :: l)).size = 1 + ((enc c).size + (packB l).length) := by rw [e0, ba_size, List.length_cons, List.length_append, enc_data]; omega
  rw [nxC, if_neg (by rw [hs, hx]; omega), hx]
  have e1 : (packS (c :: l)).extract 1 (1 + (enc c).size) = enc c := by
    rw [e0, ByteArray.extract_mk]
    conv => rhs; rw [enc_mk c]
    congr 2
    rw [List.drop_succ_cons, List.drop_zero, List.take_append_of_le_length (by rw [enc_data]; omega), List.take_of_length_le (by rw [enc_data]; omega)]
  have e2 : (packS (c :: l)).extract (1 + (enc c).size) (packS (c :: l)).size = packS l := by
    rw [hs, e0, ByteArray.extract_mk, packS]
    congr 2
    rw [show 1 + (enc c).size = (enc c).size + 1 by omega, List.drop_succ_cons, List.drop_append_of_le_length (by rw [enc_data]; exact Nat.le_refl _), List.drop_of_length_le (by rw [enc_data]; exact Nat.le_refl _), List.nil_append, List.take_of_length_le (by omega)]
  rw [e1, e2, rdC_iff.2 ⟨h, rfl⟩]
theorem un_pack : ∀ (l : List Cmd) (n : Nat) (out : List Cmd), (∀ c ∈ l, c.err = 0) → out.length + l.length ≤ 400 → (packS l).size < n → unRun n (packS l) out = some (out ++ l)
  | [], n, out, _, _, hn => by rw [List.append_nil]; exact un_end hn rfl
  | c :: l, n, out, h, hl, hn => by
    have hc := h c (List.mem_cons_self ..)
    have hx := nx_pack l hc
    have hz := nx_less hx
    simp only [List.length_cons] at hl
    rw [un_step hn hz.2.2, hx]
    dsimp only
    rw [if_neg (by omega), un_pack l n (out ++ [c]) (fun x hx => h x (List.mem_cons_of_mem _ hx)) (by rw [List.length_append, List.length_singleton]; omega) (by omega), List.append_assoc]
    rfl
theorem firstE_zero {l : List Cmd} (h : firstE l = 0) : ∀ c ∈ l, c.err = 0 := by
  unfold firstE at h
  cases hf : l.find? (fun c => c.err != 0) with
  | none =>
    rw [List.find?_eq_none] at hf
    intro c hc
    simpa using hf c hc
  | some c =>
    rw [hf] at h
    have := List.find?_some hf
    dsimp only at h
    simp [h] at this
theorem packE_zero {l : List Cmd} (h : packE l = 0) : l.length ≤ 400 ∧ ∀ c ∈ l, c.err = 0 := by
  unfold packE at h
  split at h
  · omega
  · exact ⟨by omega, firstE_zero h⟩
/-- what is packed is unpacked -/
theorem unC_pack {l : List Cmd} (h : packE l = 0) : unC (packS l) = some l := by
  obtain ⟨h1, h2⟩ := packE_zero h
  have := un_pack l ((packS l).size + 1) [] h2 (by simpa using h1) (by omega)
  rwa [List.nil_append] at this
/-- the first command of bytes, packed -/
theorem nx_bytes {b t : ByteArray} {c : Cmd} (h : nxC b = some (c, t)) : c.err = 0 ∧ ∀ l : List Cmd, t = packS l → b = packS (c :: l) := by
  have hz := nx_less h
  obtain ⟨L, rfl⟩ := ba_mk b
  cases L with
  | nil => exact absurd rfl hz.2.2
  | cons n L =>
    unfold nxC at h
    split at h
    · cases h
    · rename_i h0
      have hx : nxE ⟨(n :: L).toArray⟩ = 1 + n.toNat := by rw [nxE, byt_mk]; simp
      rw [hx, ba_size, List.length_cons] at h0
      rw [hx] at h
      cases hr : rdC ((⟨(n :: L).toArray⟩ : ByteArray).extract 1 (1 + n.toNat)) with
      | none => rw [hr] at h; cases h
      | some c' =>
        rw [hr] at h
        simp only [Option.some.injEq, Prod.mk.injEq] at h
        obtain ⟨rfl, rfl⟩ := h
        obtain ⟨he, hb⟩ := rdC_iff.1 hr
        refine ⟨he, fun l hl => ?_⟩
        rw [ByteArray.extract_mk, List.drop_succ_cons, List.drop_zero, show 1 + n.toNat - 1 = n.toNat by omega] at hb
        rw [ba_size, ByteArray.extract_mk, show 1 + n.toNat = n.toNat + 1 by omega, List.drop_succ_cons, List.length_cons, List.take_of_length_le (by rw [List.length_drop]; omega)] at hl
        have hl2 : packB l = L.drop n.toNat := (ba_inj hl).symm
        have h2 : (enc c').data.toList = L.take n.toNat := by rw [hb]
        have h3 : (enc c').size = n.toNat := by
          have : L.length + 1 ≠ 0 ∧ n.toNat ≤ L.length := by omega
          rw [← enc_data, h2, List.length_take]; omega
        have e0 : packS (c' :: l) = ⟨(UInt8.ofNat (enc c').size :: ((enc c').data.toList ++ packB l)).toArray⟩ := by simp [packS, packB]
        rw [e0, h2, hl2, List.take_append_drop, h3]
        rw [UInt8.ofNat_toNat]
theorem un_bytes : ∀ (n : Nat) (b : ByteArray) (out x : List Cmd), unRun n b out = some x → out.length ≤ 400 → ∃ l, x = out ++ l ∧ b = packS l ∧ (∀ c ∈ l, c.err = 0) ∧ x.length ≤ 400
  | 0, _, _, _, h, _ => by simp [unRun] at h
  | n + 1, b, out, x, h, ho => by
    unfold unRun at h
    split at h
    · rename_i h0
      cases h
      exact ⟨[], by simp, by rw [size0 h0]; rfl, fun c hc => by simp at hc, ho⟩
    · cases hn : nxC b with
      | none => rw [hn] at h; cases h
      | some p =>
        obtain ⟨c, t⟩ := p
        rw [hn] at h
        dsimp only at h
        split at h
        · cases h
        · obtain ⟨l, rfl, ht, hl, hx⟩ := un_bytes n t _ x h (by rw [List.length_append, List.length_singleton]; omega)
          obtain ⟨h1, h2⟩ := nx_bytes hn
          refine ⟨c :: l, by simp, h2 l ht, fun y hy => ?_, hx⟩
          rcases List.mem_cons.1 hy with rfl | hy
          · exact h1
          · exact hl y hy
/-- what is unpacked is packed -/
theorem pack_unC {b : ByteArray} {x : List Cmd} (h : unC b = some x) : packE x = 0 ∧ packS x = b := by
  obtain ⟨l, rfl, h1, h2, h3⟩ := un_bytes _ _ _ _ h (by simp)
  refine ⟨?_, h1.symm⟩
  rw [packE, if_neg (by omega)]
  exact firstE_none h2
end Go.Proofs.YtkdgpdijbobmkaaGreatDoor
