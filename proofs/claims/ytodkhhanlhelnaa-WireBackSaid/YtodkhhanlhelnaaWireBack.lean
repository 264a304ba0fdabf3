/- The walk of WireBack. -/
import Derived.Test.YtodkhhanlhelnaaWbPlain
import Derived.Test.YtodkhhanlhelnaaCmdsArg
import Derived.Test.YtodkhhanlhelnaaCmdArg
import Derived.ChangeMaps5
namespace Go.Proofs.Ytodkhhanlhelnaa
set_option linter.all false
open Go Go.RowKit Go.ChangeShapes Go.WideShapes
set_option maxRecDepth 100000 in
theorem Arg.str {H : Type} {enc : TypeId × Value → H} {W : World} {base : Nat} {v : Value} {d : DataW H} {p : List MemPlace} (h : Arg enc W base 9 v d p) : ∃ s : ByteArray, v = .string s ∧ s.size ≤ maxLen := by
  obtain ⟨s, h1, _, _, h4⟩ := Go.ChangeMaps.open_string Try.underlying9 h.ok h.rd
  exact ⟨s, h1, h4⟩
set_option maxRecDepth 100000 in
theorem Arg.u8 {H : Type} {enc : TypeId × Value → H} {W : World} {base : Nat} {v : Value} {d : DataW H} {p : List MemPlace} (h : Arg enc W base 5 v d p) : ∃ a : Int, v = .int .u8 a ∧ 0 ≤ a ∧ a ≤ 255 := by
  obtain ⟨a, h1, _, _, h4⟩ := open_int Try.underlying5 h.ok h.rd
  refine ⟨a, h1, ?_⟩
  simp [Lit.wf, IntKind.min, IntKind.max, IntKind.bits, IntKind.signed] at h4
  omega
/-- bytes as a text, wherever they lie -/
theorem bytes_string {w : World} {g n cap : Nat} {bs : List Int} (hl : bs.length = n) (h : ∀ j x, bs[j]? = some x → w.cell? ⟨g, j, none⟩ = some (.int .u8 x)) :
    (convert 33 9 (.slice (some ⟨g, 0, none⟩) n cap)).run Try.prog w = .ok (.string (strOf bs)) w := by
  rw [run_convert_bytes_string w _ _ 5 _ _ _ (by kernel_rfl) (by kernel_rfl) (by kernel_rfl)]
  refine run_bytesToString w _ _ _ bs ?_
  have hc := run_loadCells_list (P := Try.prog) (w := w) ⟨g, 0, none⟩ (u8s bs) fun j u hu => by
    rw [u8s, List.getElem?_map] at hu
    cases hx : bs[j]? with
    | none => rw [hx] at hu; cases hu
    | some x =>
      rw [hx] at hu
      cases hu
      rw [Addr.add_lit, Nat.zero_add]
      exact h j x hx
  rw [u8s_len, hl] at hc
  exact hc
/-- the bytes of a text as numbers -/
def numsOf (b : ByteArray) : List Int := (List.range b.size).map (byt b)
theorem numsOf_len (b : ByteArray) : (numsOf b).length = b.size := by simp [numsOf]
theorem numsOf_at (b : ByteArray) {j : Nat} (h : j < b.size) : (numsOf b)[j]? = some (byt b j) := by simp [numsOf, h]
/-- a text of which one byte is another one -/
def turned (b : ByteArray) (at_ : Nat) (x : Int) : ByteArray := strOf ((numsOf b).set at_ x)
theorem turned_ne {b : ByteArray} {i : Nat} {x : Int} (hi : i < b.size) (h0 : 0 ≤ x) (h1 : x ≤ 255) (hne : byt b i ≠ x) : turned b i x ≠ b := by
  intro e
  have h2 : byt (turned b i x) i = x := byt_strOf (by rw [List.getElem?_set_self (by rw [numsOf_len]; exact hi)]) h0 h1
  rw [e] at h2
  exact hne h2
theorem turned_size (b : ByteArray) (i : Nat) (x : Int) : (turned b i x).size = b.size := by rw [turned, strOf_size, List.length_set, numsOf_len]
/-- the cells of a text's bytes, one of them turned -/
theorem turned_cell {w : World} {b : ByteArray} {i : Nat} {x : Int} (hi : i < b.size) (j : Nat) (y : Int) (h : ((numsOf b).set i x)[j]? = some y) : ((Lib.bytesWorld w 5 b).setCell ⟨w.heap.size, i, none⟩ (.int .u8 x)).cell? ⟨w.heap.size, j, none⟩ = some (.int .u8 y) := by
  have hc : ∀ k, k < b.size → (Lib.bytesWorld w 5 b).cell? ⟨w.heap.size, k, none⟩ = some (.int .u8 (byt b k)) := fun k hk => by
    rw [Lib.bytesWorld_cell _ _ _ _ hk, getD_get _ hk, byt, dif_pos hk]
  have hj : j < b.size := by have := (List.getElem?_eq_some_iff.1 h).1; rw [List.length_set, numsOf_len] at this; exact this
  by_cases e : j = i
  · subst e
    rw [List.getElem?_set_self (by rw [numsOf_len]; exact hj)] at h
    cases h
    exact World.cell?_setCell_same' _ _ _ (by rw [hc j hj]; rfl)
  · rw [List.getElem?_set_ne (Ne.symm e), numsOf_at b hj] at h
    cases h
    rw [World.cell?_setCell_other _ _ _ _ (by intro e'; injection e' with _ e2; exact e e2.symm)]
    exact hc j hj
theorem bytes_free (w : World) (b : ByteArray) (i : Nat) (hi : i < b.size) : (Lib.bytesWorld w 5 b).frozen? ⟨w.heap.size, i, none⟩ = false := by
  have h : i < (Lib.bytesCells w 5 b).size := by simp [Lib.bytesCells]; omega
  simp only [World.frozen?, Lib.bytesWorld_at_new]
  simp
  omega
theorem cmd_ext {z c : Cmd} (h0 : z.what = c.what) (h1 : z.o.id = c.o.id) (h2 : z.o.who = c.o.who) (h3 : z.o.side = c.o.side) (h4 : z.o.kind = c.o.kind) (h5 : z.o.price = c.o.price) (h6 : z.o.qty = c.o.qty) (h7 : z.o.show_ = c.o.show_) (h8 : z.o.stop = c.o.stop) (h9 : z.who = c.who) (h10 : z.n = c.n) : z = c := by
  obtain ⟨a0, ⟨a1, a2, a3, a4, a5, a6, a7, a8⟩, a9, a10⟩ := z
  obtain ⟨b0, ⟨b1, b2, b3, b4, b5, b6, b7, b8⟩, b9, b10⟩ := c
  dsimp only at *
  subst h0 h1 h2 h3 h4 h5 h6 h7 h8 h9 h10
  rfl
theorem rdmC {w w' : World} {A : Option Addr} {n s : Nat} {c : Nat → Nat → Value} (h : Rd w w.heap.size A n s c) (hb : Below w.heap.size w w') : Rd w' w'.heap.size A n s c := (h.below hb).more hb.size
theorem pack_ok {l : List Cmd} (h : packE l = 0) (A : Option Addr) (c : Nat) (w : World) (hr : Rd w w.heap.size A l.length 11 (ccell l)) (hl : l.length ≤ maxLen) :
    Calls Try.prog 9 #[.slice A l.length c] w fun e w' => e = .returned (.tuple #[.string (packS l), .nilIface]) ∧ Below w.heap.size w w' :=
  (pack_any l A c w hr hl).mono fun e w' ⟨h1, h2⟩ => ⟨by rw [h1, if_pos h, h]; rfl, h2⟩
theorem pack_no {l : List Cmd} (h : packE l ≠ 0) (A : Option Addr) (c : Nat) (w : World) (hr : Rd w w.heap.size A l.length 11 (ccell l)) (hl : l.length ≤ maxLen) :
    Calls Try.prog 9 #[.slice A l.length c] w fun e w' => e = .returned (.tuple #[.string ⟨#[]⟩, er (packE l)]) ∧ Below w.heap.size w w' :=
  (pack_any l A c w hr hl).mono fun e w' ⟨h1, h2⟩ => ⟨by rw [h1, if_neg h, errV, if_neg h], h2⟩
theorem unpack_ok {l : List Cmd} (h : packE l = 0) (w : World) :
    Calls Try.prog 10 #[.string (packS l)] w fun e w' => ∃ A c, e = .returned (.tuple #[.slice A l.length c, .nilIface]) ∧ OwnS w' w.heap.size 11 A l.length c (cmds l) ∧ Below w.heap.size w w' := by
  have hs := packS_size (packE_zero h).2
  have hl := (packE_zero h).1
  have := unpack_any (packS l) (by unfold maxLen; omega) w
  rw [unC_pack h] at this
  exact this.mono fun e w' ⟨A, c, h1, h2, _, h3⟩ => ⟨A, c, h1, h2, h3⟩
theorem enc_fact : enc ⟨2, ⟨258, 0, 0, 0, 0, 0, 0, 0⟩, 0, 0⟩ = ⟨#[2, 1, 2, 5]⟩ := by kernel_rfl
set_option maxRecDepth 100000 in
set_option maxHeartbeats 8000000 in
theorem wb_walk (c : Cmd) (l : List Cmd) (A : Option Addr) (cp : Nat) (t : ByteArray) (p x : Int) (w : World) (hr : Rd w w.heap.size A l.length 11 (ccell l)) (hl : l.length ≤ maxLen) (ht : t.size ≤ maxLen) (hx : 0 ≤ x ∧ x ≤ 255) :
    Calls Try.prog 3 #[.agg #[.int .i64 c.what, .int .i64 c.o.id, .int .i64 c.o.who, .int .i64 c.o.side, .int .i64 c.o.kind, .int .i64 c.o.price, .int .i64 c.o.qty, .int .i64 c.o.show_, .int .i64 c.o.stop, .int .i64 c.who, .int .i64 c.n], .slice A l.length cp, .string t, .int .i64 p, .int .u8 x] w fun e w' => e = .returned (.bool true) ∧ Below w.heap.size w w' := by
  have HR := Lib.hid hr; have HL := Lib.hid hl; have HT := Lib.hid ht; have HX := Lib.hid hx
  clear hr hl ht hx
  have k0 : ∀ w, Calls _ _ _ _ _ := fun w => command_ok ⟨2, ⟨258, 0, 0, 0, 0, 0, 0, 0⟩, 0, 0⟩ (by simp [Cmd.err, inb]) w
  change ∀ w, Calls _ _ _ _ fun e w' => e = .returned (.tuple #[.string (enc ⟨2, ⟨258, 0, 0, 0, 0, 0, 0, 0⟩, 0, 0⟩), .nilIface]) ∧ Below w.heap.size w w' at k0
  rw [enc_fact] at k0
  have K0 := Lib.hid k0
  clear k0
  go_enter Try.func3, Try.ntmps3
  go_upto_region 4 with (go_at_call 7; (refine (K0.out _).mono ?_); rintro e w1 ⟨rfl, hb1⟩)
  have b0 := (Bk.new w 25 c.cells).keep hb1
  have hb := below_then hb1 ((Below.refl w.heap.size w).alloc (Nat.le_refl _) (.cells c.cells 25))
  clear hb1 K0
  obtain ⟨q0, q1, q2, q3, q4, q5, q6, q7, q8, q9, q10⟩ := box11 b0
  have HW : Hid (w.heap.size < w1.heap.size) := Lib.hid b0.lt
  by_cases hc : c.err = 0
  case neg => as_aux_lemma =>
    have cK := Lib.hid (fun w => wcommand_bad c hc w)
    clear hc
    generalize c.err = r at *
    go_upto_region 15 with (go_at_call 7; refine (cK.out _).mono ?_; rintro e w2 ⟨rfl, hb2⟩)
    replace hb := below_then hb2 hb
    clear hb2 cK q0 q1 q2 q3 q4 q5 q6 q7 q8 q9 q10 b0
    by_cases hp : packE l = 0
    · have cP := Lib.hid (fun (w' : World) (hb : Below w.heap.size w w') => pack_ok hp A cp w' (rdmC HR.out hb) HL.out)
      have cQ := Lib.hid (fun w => unpack_ok hp w)
      have hl4 := (packE_zero hp).1
      clear hp
      go_wp2_with fail
      go_at_call 9
      refine (cP.out _ hb).mono ?_
      rintro e v1 ⟨rfl, hv1⟩
      replace hb := below_then hv1 hb
      clear hv1 cP
      go_wp2_with fail
      go_at_call 10
      refine (cQ.out _).mono ?_
      rintro e v2 ⟨A2, c2, rfl, own2, hv2⟩
      replace hb := below_then hv2 hb
      have cS := Lib.hid (same_cmds l A2 A c2 cp v2 own2.rdC (rdmC HR.out hb) (by omega))
      clear hv2 cQ own2
      go_wp2_with fail
      go_at_call 11
      refine cS.out.mono ?_
      rintro e v3 ⟨rfl, hv3⟩
      replace hb := below_then hv3 hb
      clear hv3 cS hl4
      cases hu : unC t with
      | none =>
        have cU := Lib.hid (fun w => unpack_any t HT.out w)
        rw [hu] at cU
        change Hid (∀ w, Calls _ _ _ _ fun e w' => e = .returned (.tuple #[.slice none 0 0, er 2]) ∧ Below w.heap.size w w') at cU
        clear hu
        go_wp2_with fail
        go_at_call 10
        refine (cU.out _).mono ?_
        rintro e v4 ⟨rfl, hv4⟩
        replace hb := below_then hv4 hb
        clear hv4 cU
        go_wp2
        go_ret
        exact ⟨rfl, hb⟩
      | some xs =>
        have cU := Lib.hid (fun w => unpack_any t HT.out w)
        rw [hu] at cU
        obtain ⟨hx1, hx2⟩ := pack_unC hu
        have HX1 := Lib.hid hx1; have HX2 := Lib.hid hx2
        clear hu hx1 hx2
        go_wp2_with fail
        go_at_call 10
        refine (cU.out _).mono ?_
        rintro e v4 ⟨A4, c4, rfl, own4, hl4, hv4⟩
        replace hb := below_then hv4 hb
        have cP2 := pack_ok HX1.out A4 c4 v4 own4.rdC (by unfold maxLen; omega)
        rw [HX2.out] at cP2
        have CP2 := Lib.hid cP2
        clear hv4 cU own4 cP2
        go_wp2_with fail
        go_at_call 9
        refine CP2.out.mono ?_
        rintro e v5 ⟨rfl, hv5⟩
        replace hb := below_then hv5 hb
        clear hv5 CP2
        go_wp2
        go_ret
        exact ⟨rfl, hb⟩
    · have cP := Lib.hid (fun (w' : World) (hb : Below w.heap.size w w') => pack_no hp A cp w' (rdmC HR.out hb) HL.out)
      clear hp
      generalize packE l = r at *
      go_wp2_with fail
      go_at_call 9
      refine (cP.out _ hb).mono ?_
      rintro e v1 ⟨rfl, hv1⟩
      replace hb := below_then hv1 hb
      clear hv1 cP
      cases hu : unC t with
      | none =>
        have cU := Lib.hid (fun w => unpack_any t HT.out w)
        rw [hu] at cU
        change Hid (∀ w, Calls _ _ _ _ fun e w' => e = .returned (.tuple #[.slice none 0 0, er 2]) ∧ Below w.heap.size w w') at cU
        clear hu
        go_wp2_with fail
        go_at_call 10
        refine (cU.out _).mono ?_
        rintro e v4 ⟨rfl, hv4⟩
        replace hb := below_then hv4 hb
        clear hv4 cU
        go_wp2
        go_ret
        exact ⟨rfl, hb⟩
      | some xs =>
        have cU := Lib.hid (fun w => unpack_any t HT.out w)
        rw [hu] at cU
        obtain ⟨hx1, hx2⟩ := pack_unC hu
        have HX1 := Lib.hid hx1; have HX2 := Lib.hid hx2
        clear hu hx1 hx2
        go_wp2_with fail
        go_at_call 10
        refine (cU.out _).mono ?_
        rintro e v4 ⟨A4, c4, rfl, own4, hl4, hv4⟩
        replace hb := below_then hv4 hb
        have cP2 := pack_ok HX1.out A4 c4 v4 own4.rdC (by unfold maxLen; omega)
        rw [HX2.out] at cP2
        have CP2 := Lib.hid cP2
        clear hv4 cU own4 cP2
        go_wp2_with fail
        go_at_call 9
        refine CP2.out.mono ?_
        rintro e v5 ⟨rfl, hv5⟩
        replace hb := below_then hv5 hb
        clear hv5 CP2
        go_wp2
        go_ret
        exact ⟨rfl, hb⟩
  have cK := Lib.hid (fun w => command_ok c hc w)
  change Hid (∀ w, Calls _ _ _ _ fun e w' => e = .returned (.tuple #[.string (enc c), .nilIface]) ∧ Below w.heap.size w w') at cK
  have hs := enc_len hc
  have cR := Lib.hid (fun w => read_any (enc c) (by unfold maxLen; omega) w)
  rw [rdC_iff.2 ⟨hc, rfl⟩] at cR
  change Hid (∀ w, Calls _ _ _ _ fun e w' => e = .returned (.tuple #[.agg #[.int .i64 c.what, .int .i64 c.o.id, .int .i64 c.o.who, .int .i64 c.o.side, .int .i64 c.o.kind, .int .i64 c.o.price, .int .i64 c.o.qty, .int .i64 c.o.show_, .int .i64 c.o.stop, .int .i64 c.who, .int .i64 c.n], .nilIface]) ∧ Below w.heap.size w w') at cR
  have HE := Lib.hid (show ∀ z, rdC (enc c) = some z → z = c from fun z h => by rw [rdC_iff.2 ⟨hc, rfl⟩] at h; exact (Option.some.inj h).symm)
  have HRI := Lib.hid (show ∀ s z, s ≠ enc c → rdC s = some z → z ≠ c from fun s z hs hz h => by subst h; exact hs (rdC_iff.1 hz).2.symm)
  clear hc
  generalize enc c = b at *
  go_upto_region 9 with (first | (go_at_call 7; refine (cK.out _).mono ?_; rintro e w2 ⟨rfl, hb2⟩; obtain ⟨g0, g1, g2, g3, g4, g5, g6, g7, g8, g9, g10⟩ := box11 (b0.keep hb2)) | (go_at_call 8; refine (cR.out _).mono ?_; rintro e w3 ⟨rfl, hb3⟩; obtain ⟨f0, f1, f2, f3, f4, f5, f6, f7, f8, f9, f10⟩ := box11 ((b0.keep hb2).keep hb3); have z3 := ((b0.keep hb2).keep hb3).lt))
  replace b0 := (b0.keep hb2).keep hb3
  replace hb := below_then_alloc (o := .cells c.cells 25) (below_then hb3 (below_then hb2 hb))
  replace b0 := b0.alloc (.cells c.cells 25)
  clear g0 g1 g2 g3 g4 g5 g6 g7 g8 g9 g10 f0 f1 f2 f3 f4 f5 f6 f7 f8 f9 f10 q0 q1 q2 q3 q4 q5 q6 q7 q8 q9 q10 HW cR cK hb2 hb3 z3
  generalize w3.alloc (.cells c.cells 25) = w4 at *
  by_cases h1 : p < 0
  · as_aux_lemma =>
    clear b0
    go_upto_region 15 with fail
    by_cases hp : packE l = 0
    · have cP := Lib.hid (fun (w' : World) (hb : Below w.heap.size w w') => pack_ok hp A cp w' (rdmC HR.out hb) HL.out)
      have cQ := Lib.hid (fun w => unpack_ok hp w)
      have hl4 := (packE_zero hp).1
      clear hp
      go_wp2_with fail
      go_at_call 9
      refine (cP.out _ hb).mono ?_
      rintro e v1 ⟨rfl, hv1⟩
      replace hb := below_then hv1 hb
      clear hv1 cP
      go_wp2_with fail
      go_at_call 10
      refine (cQ.out _).mono ?_
      rintro e v2 ⟨A2, c2, rfl, own2, hv2⟩
      replace hb := below_then hv2 hb
      have cS := Lib.hid (same_cmds l A2 A c2 cp v2 own2.rdC (rdmC HR.out hb) (by omega))
      clear hv2 cQ own2
      go_wp2_with fail
      go_at_call 11
      refine cS.out.mono ?_
      rintro e v3 ⟨rfl, hv3⟩
      replace hb := below_then hv3 hb
      clear hv3 cS hl4
      cases hu : unC t with
      | none =>
        have cU := Lib.hid (fun w => unpack_any t HT.out w)
        rw [hu] at cU
        change Hid (∀ w, Calls _ _ _ _ fun e w' => e = .returned (.tuple #[.slice none 0 0, er 2]) ∧ Below w.heap.size w w') at cU
        clear hu
        go_wp2_with fail
        go_at_call 10
        refine (cU.out _).mono ?_
        rintro e v4 ⟨rfl, hv4⟩
        replace hb := below_then hv4 hb
        clear hv4 cU
        go_wp2
        go_ret
        exact ⟨rfl, hb⟩
      | some xs =>
        have cU := Lib.hid (fun w => unpack_any t HT.out w)
        rw [hu] at cU
        obtain ⟨hx1, hx2⟩ := pack_unC hu
        have HX1 := Lib.hid hx1; have HX2 := Lib.hid hx2
        clear hu hx1 hx2
        go_wp2_with fail
        go_at_call 10
        refine (cU.out _).mono ?_
        rintro e v4 ⟨A4, c4, rfl, own4, hl4, hv4⟩
        replace hb := below_then hv4 hb
        have cP2 := pack_ok HX1.out A4 c4 v4 own4.rdC (by unfold maxLen; omega)
        rw [HX2.out] at cP2
        have CP2 := Lib.hid cP2
        clear hv4 cU own4 cP2
        go_wp2_with fail
        go_at_call 9
        refine CP2.out.mono ?_
        rintro e v5 ⟨rfl, hv5⟩
        replace hb := below_then hv5 hb
        clear hv5 CP2
        go_wp2
        go_ret
        exact ⟨rfl, hb⟩
    · have cP := Lib.hid (fun (w' : World) (hb : Below w.heap.size w w') => pack_no hp A cp w' (rdmC HR.out hb) HL.out)
      clear hp
      generalize packE l = r at *
      go_wp2_with fail
      go_at_call 9
      refine (cP.out _ hb).mono ?_
      rintro e v1 ⟨rfl, hv1⟩
      replace hb := below_then hv1 hb
      clear hv1 cP
      cases hu : unC t with
      | none =>
        have cU := Lib.hid (fun w => unpack_any t HT.out w)
        rw [hu] at cU
        change Hid (∀ w, Calls _ _ _ _ fun e w' => e = .returned (.tuple #[.slice none 0 0, er 2]) ∧ Below w.heap.size w w') at cU
        clear hu
        go_wp2_with fail
        go_at_call 10
        refine (cU.out _).mono ?_
        rintro e v4 ⟨rfl, hv4⟩
        replace hb := below_then hv4 hb
        clear hv4 cU
        go_wp2
        go_ret
        exact ⟨rfl, hb⟩
      | some xs =>
        have cU := Lib.hid (fun w => unpack_any t HT.out w)
        rw [hu] at cU
        obtain ⟨hx1, hx2⟩ := pack_unC hu
        have HX1 := Lib.hid hx1; have HX2 := Lib.hid hx2
        clear hu hx1 hx2
        go_wp2_with fail
        go_at_call 10
        refine (cU.out _).mono ?_
        rintro e v4 ⟨A4, c4, rfl, own4, hl4, hv4⟩
        replace hb := below_then hv4 hb
        have cP2 := pack_ok HX1.out A4 c4 v4 own4.rdC (by unfold maxLen; omega)
        rw [HX2.out] at cP2
        have CP2 := Lib.hid cP2
        clear hv4 cU own4 cP2
        go_wp2_with fail
        go_at_call 9
        refine CP2.out.mono ?_
        rintro e v5 ⟨rfl, hv5⟩
        replace hb := below_then hv5 hb
        clear hv5 CP2
        go_wp2
        go_ret
        exact ⟨rfl, hb⟩
  by_cases h2 : (b.size : Int) ≤ p
  · as_aux_lemma =>
    clear b0
    go_upto_region 15 with fail
    by_cases hp : packE l = 0
    · have cP := Lib.hid (fun (w' : World) (hb : Below w.heap.size w w') => pack_ok hp A cp w' (rdmC HR.out hb) HL.out)
      have cQ := Lib.hid (fun w => unpack_ok hp w)
      have hl4 := (packE_zero hp).1
      clear hp
      go_wp2_with fail
      go_at_call 9
      refine (cP.out _ hb).mono ?_
      rintro e v1 ⟨rfl, hv1⟩
      replace hb := below_then hv1 hb
      clear hv1 cP
      go_wp2_with fail
      go_at_call 10
      refine (cQ.out _).mono ?_
      rintro e v2 ⟨A2, c2, rfl, own2, hv2⟩
      replace hb := below_then hv2 hb
      have cS := Lib.hid (same_cmds l A2 A c2 cp v2 own2.rdC (rdmC HR.out hb) (by omega))
      clear hv2 cQ own2
      go_wp2_with fail
      go_at_call 11
      refine cS.out.mono ?_
      rintro e v3 ⟨rfl, hv3⟩
      replace hb := below_then hv3 hb
      clear hv3 cS hl4
      cases hu : unC t with
      | none =>
        have cU := Lib.hid (fun w => unpack_any t HT.out w)
        rw [hu] at cU
        change Hid (∀ w, Calls _ _ _ _ fun e w' => e = .returned (.tuple #[.slice none 0 0, er 2]) ∧ Below w.heap.size w w') at cU
        clear hu
        go_wp2_with fail
        go_at_call 10
        refine (cU.out _).mono ?_
        rintro e v4 ⟨rfl, hv4⟩
        replace hb := below_then hv4 hb
        clear hv4 cU
        go_wp2
        go_ret
        exact ⟨rfl, hb⟩
      | some xs =>
        have cU := Lib.hid (fun w => unpack_any t HT.out w)
        rw [hu] at cU
        obtain ⟨hx1, hx2⟩ := pack_unC hu
        have HX1 := Lib.hid hx1; have HX2 := Lib.hid hx2
        clear hu hx1 hx2
        go_wp2_with fail
        go_at_call 10
        refine (cU.out _).mono ?_
        rintro e v4 ⟨A4, c4, rfl, own4, hl4, hv4⟩
        replace hb := below_then hv4 hb
        have cP2 := pack_ok HX1.out A4 c4 v4 own4.rdC (by unfold maxLen; omega)
        rw [HX2.out] at cP2
        have CP2 := Lib.hid cP2
        clear hv4 cU own4 cP2
        go_wp2_with fail
        go_at_call 9
        refine CP2.out.mono ?_
        rintro e v5 ⟨rfl, hv5⟩
        replace hb := below_then hv5 hb
        clear hv5 CP2
        go_wp2
        go_ret
        exact ⟨rfl, hb⟩
    · have cP := Lib.hid (fun (w' : World) (hb : Below w.heap.size w w') => pack_no hp A cp w' (rdmC HR.out hb) HL.out)
      clear hp
      generalize packE l = r at *
      go_wp2_with fail
      go_at_call 9
      refine (cP.out _ hb).mono ?_
      rintro e v1 ⟨rfl, hv1⟩
      replace hb := below_then hv1 hb
      clear hv1 cP
      cases hu : unC t with
      | none =>
        have cU := Lib.hid (fun w => unpack_any t HT.out w)
        rw [hu] at cU
        change Hid (∀ w, Calls _ _ _ _ fun e w' => e = .returned (.tuple #[.slice none 0 0, er 2]) ∧ Below w.heap.size w w') at cU
        clear hu
        go_wp2_with fail
        go_at_call 10
        refine (cU.out _).mono ?_
        rintro e v4 ⟨rfl, hv4⟩
        replace hb := below_then hv4 hb
        clear hv4 cU
        go_wp2
        go_ret
        exact ⟨rfl, hb⟩
      | some xs =>
        have cU := Lib.hid (fun w => unpack_any t HT.out w)
        rw [hu] at cU
        obtain ⟨hx1, hx2⟩ := pack_unC hu
        have HX1 := Lib.hid hx1; have HX2 := Lib.hid hx2
        clear hu hx1 hx2
        go_wp2_with fail
        go_at_call 10
        refine (cU.out _).mono ?_
        rintro e v4 ⟨A4, c4, rfl, own4, hl4, hv4⟩
        replace hb := below_then hv4 hb
        have cP2 := pack_ok HX1.out A4 c4 v4 own4.rdC (by unfold maxLen; omega)
        rw [HX2.out] at cP2
        have CP2 := Lib.hid cP2
        clear hv4 cU own4 cP2
        go_wp2_with fail
        go_at_call 9
        refine CP2.out.mono ?_
        rintro e v5 ⟨rfl, hv5⟩
        replace hb := below_then hv5 hb
        clear hv5 CP2
        go_wp2
        go_ret
        exact ⟨rfl, hb⟩
  obtain ⟨i, rfl⟩ : ∃ i : Nat, p = i := ⟨p.toNat, by omega⟩
  have h3 : (i : Int) < (b.size : Int) := by omega
  have h4 : i < b.size := by omega
  have hy : (((b[i]'h4).toNat : Int)) = byt b i := by rw [byt, dif_pos h4]
  by_cases h5 : byt b i = x
  · as_aux_lemma =>
    have h6 : (byt b i == x) = true := by simpa using h5
    have h7 : (byt b i != x) = false := by simpa using h5
    clear b0 h5
    go_upto_region 15 with fail
    by_cases hp : packE l = 0
    · have cP := Lib.hid (fun (w' : World) (hb : Below w.heap.size w w') => pack_ok hp A cp w' (rdmC HR.out hb) HL.out)
      have cQ := Lib.hid (fun w => unpack_ok hp w)
      have hl4 := (packE_zero hp).1
      clear hp
      go_wp2_with fail
      go_at_call 9
      refine (cP.out _ hb).mono ?_
      rintro e v1 ⟨rfl, hv1⟩
      replace hb := below_then hv1 hb
      clear hv1 cP
      go_wp2_with fail
      go_at_call 10
      refine (cQ.out _).mono ?_
      rintro e v2 ⟨A2, c2, rfl, own2, hv2⟩
      replace hb := below_then hv2 hb
      have cS := Lib.hid (same_cmds l A2 A c2 cp v2 own2.rdC (rdmC HR.out hb) (by omega))
      clear hv2 cQ own2
      go_wp2_with fail
      go_at_call 11
      refine cS.out.mono ?_
      rintro e v3 ⟨rfl, hv3⟩
      replace hb := below_then hv3 hb
      clear hv3 cS hl4
      cases hu : unC t with
      | none =>
        have cU := Lib.hid (fun w => unpack_any t HT.out w)
        rw [hu] at cU
        change Hid (∀ w, Calls _ _ _ _ fun e w' => e = .returned (.tuple #[.slice none 0 0, er 2]) ∧ Below w.heap.size w w') at cU
        clear hu
        go_wp2_with fail
        go_at_call 10
        refine (cU.out _).mono ?_
        rintro e v4 ⟨rfl, hv4⟩
        replace hb := below_then hv4 hb
        clear hv4 cU
        go_wp2
        go_ret
        exact ⟨rfl, hb⟩
      | some xs =>
        have cU := Lib.hid (fun w => unpack_any t HT.out w)
        rw [hu] at cU
        obtain ⟨hx1, hx2⟩ := pack_unC hu
        have HX1 := Lib.hid hx1; have HX2 := Lib.hid hx2
        clear hu hx1 hx2
        go_wp2_with fail
        go_at_call 10
        refine (cU.out _).mono ?_
        rintro e v4 ⟨A4, c4, rfl, own4, hl4, hv4⟩
        replace hb := below_then hv4 hb
        have cP2 := pack_ok HX1.out A4 c4 v4 own4.rdC (by unfold maxLen; omega)
        rw [HX2.out] at cP2
        have CP2 := Lib.hid cP2
        clear hv4 cU own4 cP2
        go_wp2_with fail
        go_at_call 9
        refine CP2.out.mono ?_
        rintro e v5 ⟨rfl, hv5⟩
        replace hb := below_then hv5 hb
        clear hv5 CP2
        go_wp2
        go_ret
        exact ⟨rfl, hb⟩
    · have cP := Lib.hid (fun (w' : World) (hb : Below w.heap.size w w') => pack_no hp A cp w' (rdmC HR.out hb) HL.out)
      clear hp
      generalize packE l = r at *
      go_wp2_with fail
      go_at_call 9
      refine (cP.out _ hb).mono ?_
      rintro e v1 ⟨rfl, hv1⟩
      replace hb := below_then hv1 hb
      clear hv1 cP
      cases hu : unC t with
      | none =>
        have cU := Lib.hid (fun w => unpack_any t HT.out w)
        rw [hu] at cU
        change Hid (∀ w, Calls _ _ _ _ fun e w' => e = .returned (.tuple #[.slice none 0 0, er 2]) ∧ Below w.heap.size w w') at cU
        clear hu
        go_wp2_with fail
        go_at_call 10
        refine (cU.out _).mono ?_
        rintro e v4 ⟨rfl, hv4⟩
        replace hb := below_then hv4 hb
        clear hv4 cU
        go_wp2
        go_ret
        exact ⟨rfl, hb⟩
      | some xs =>
        have cU := Lib.hid (fun w => unpack_any t HT.out w)
        rw [hu] at cU
        obtain ⟨hx1, hx2⟩ := pack_unC hu
        have HX1 := Lib.hid hx1; have HX2 := Lib.hid hx2
        clear hu hx1 hx2
        go_wp2_with fail
        go_at_call 10
        refine (cU.out _).mono ?_
        rintro e v4 ⟨A4, c4, rfl, own4, hl4, hv4⟩
        replace hb := below_then hv4 hb
        have cP2 := pack_ok HX1.out A4 c4 v4 own4.rdC (by unfold maxLen; omega)
        rw [HX2.out] at cP2
        have CP2 := Lib.hid cP2
        clear hv4 cU own4 cP2
        go_wp2_with fail
        go_at_call 9
        refine CP2.out.mono ?_
        rintro e v5 ⟨rfl, hv5⟩
        replace hb := below_then hv5 hb
        clear hv5 CP2
        go_wp2
        go_ret
        exact ⟨rfl, hb⟩
  have h6 : (byt b i == x) = false := by simpa using h5
  have h7 : (byt b i != x) = true := by simpa using h5
  have HN := Lib.hid h5
  clear h5
  go_upto_region 10 with fail
  have cv := Lib.run_convert_string_bytes (P := Try.prog) w4 9 33 5 b (u := .string) Try.underlying9 Try.underlying33 Try.underlying5
  have y1 : (Lib.bytesWorld w4 5 b).cell? ⟨w4.heap.size, i, none⟩ = some (.int .u8 (byt b i)) := by rw [Lib.bytesWorld_cell _ _ _ _ h4, getD_get _ h4, byt, dif_pos h4]
  have y2 := bytes_free w4 b i h4
  have y3 := bytes_string (w := (Lib.bytesWorld w4 5 b).setCell ⟨w4.heap.size, i, none⟩ (.int .u8 x)) (g := w4.heap.size) (n := b.size) (cap := grownCap w4 b.size 0 5) (bs := (numsOf b).set i x) (by rw [List.length_set, numsOf_len]) (fun j y h => turned_cell h4 j y h)
  have hb5 : Below w.heap.size w ((Lib.bytesWorld w4 5 b).setCell ⟨w4.heap.size, i, none⟩ (.int .u8 x)) := (bytes_below hb 5 b).setCell (p := ⟨w4.heap.size, i, none⟩) hb.size _
  have b5 := (bytes_bk b0 5 b).far (p := ⟨w4.heap.size, i, none⟩) (show w.heap.size ≠ w4.heap.size from by have := b0.lt; omega) (.int .u8 x)
  have HTS := Lib.hid (turned_size b i x)
  have cR := Lib.hid (fun w => read_any (turned b i x) (by rw [turned_size]; unfold maxLen; omega) w)
  have HZ := Lib.hid (HRI.out (turned b i x) · (turned_ne h4 HX.out.1 HX.out.2 HN.out))
  rw [show strOf ((numsOf b).set i x) = turned b i x from rfl] at y3
  have HB5 := Lib.hid hb5; have B5 := Lib.hid b5
  clear hb b0 HRI HE hy HN hb5 b5
  generalize turned b i x = s at *
  generalize grownCap w4 b.size 0 5 = gc at *
  go_upto_region 12 with fail
  clear cv y1 y2
  generalize (Lib.bytesWorld w4 5 b).setCell ⟨w4.heap.size, i, none⟩ (.int .u8 x) = w5 at *
  have hb := HB5.out; have b0 := B5.out
  cases hz : rdC s with
  | none => as_aux_lemma =>
    rw [hz] at cR
    change Hid (∀ w, Calls _ _ _ _ fun e w' => e = .returned (.tuple #[.agg #[.int .i64 0, .int .i64 0, .int .i64 0, .int .i64 0, .int .i64 0, .int .i64 0, .int .i64 0, .int .i64 0, .int .i64 0, .int .i64 0, .int .i64 0], er 2]) ∧ Below w.heap.size w w') at cR
    go_upto_region 15 with (go_at_call 8; refine (cR.out _).mono ?_; rintro e w6 ⟨rfl, hb6⟩)
    replace hb := below_then_alloc (o := .cells #[.int .i64 0, .int .i64 0, .int .i64 0, .int .i64 0, .int .i64 0, .int .i64 0, .int .i64 0, .int .i64 0, .int .i64 0, .int .i64 0, .int .i64 0] 25) (below_then hb6 hb)
    clear hb6 cR b0 hz y3 HB5 B5
    by_cases hp : packE l = 0
    · have cP := Lib.hid (fun (w' : World) (hb : Below w.heap.size w w') => pack_ok hp A cp w' (rdmC HR.out hb) HL.out)
      have cQ := Lib.hid (fun w => unpack_ok hp w)
      have hl4 := (packE_zero hp).1
      clear hp
      go_wp2_with fail
      go_at_call 9
      refine (cP.out _ hb).mono ?_
      rintro e v1 ⟨rfl, hv1⟩
      replace hb := below_then hv1 hb
      clear hv1 cP
      go_wp2_with fail
      go_at_call 10
      refine (cQ.out _).mono ?_
      rintro e v2 ⟨A2, c2, rfl, own2, hv2⟩
      replace hb := below_then hv2 hb
      have cS := Lib.hid (same_cmds l A2 A c2 cp v2 own2.rdC (rdmC HR.out hb) (by omega))
      clear hv2 cQ own2
      go_wp2_with fail
      go_at_call 11
      refine cS.out.mono ?_
      rintro e v3 ⟨rfl, hv3⟩
      replace hb := below_then hv3 hb
      clear hv3 cS hl4
      cases hu : unC t with
      | none =>
        have cU := Lib.hid (fun w => unpack_any t HT.out w)
        rw [hu] at cU
        change Hid (∀ w, Calls _ _ _ _ fun e w' => e = .returned (.tuple #[.slice none 0 0, er 2]) ∧ Below w.heap.size w w') at cU
        clear hu
        go_wp2_with fail
        go_at_call 10
        refine (cU.out _).mono ?_
        rintro e v4 ⟨rfl, hv4⟩
        replace hb := below_then hv4 hb
        clear hv4 cU
        go_wp2
        go_ret
        exact ⟨rfl, hb⟩
      | some xs =>
        have cU := Lib.hid (fun w => unpack_any t HT.out w)
        rw [hu] at cU
        obtain ⟨hx1, hx2⟩ := pack_unC hu
        have HX1 := Lib.hid hx1; have HX2 := Lib.hid hx2
        clear hu hx1 hx2
        go_wp2_with fail
        go_at_call 10
        refine (cU.out _).mono ?_
        rintro e v4 ⟨A4, c4, rfl, own4, hl4, hv4⟩
        replace hb := below_then hv4 hb
        have cP2 := pack_ok HX1.out A4 c4 v4 own4.rdC (by unfold maxLen; omega)
        rw [HX2.out] at cP2
        have CP2 := Lib.hid cP2
        clear hv4 cU own4 cP2
        go_wp2_with fail
        go_at_call 9
        refine CP2.out.mono ?_
        rintro e v5 ⟨rfl, hv5⟩
        replace hb := below_then hv5 hb
        clear hv5 CP2
        go_wp2
        go_ret
        exact ⟨rfl, hb⟩
    · have cP := Lib.hid (fun (w' : World) (hb : Below w.heap.size w w') => pack_no hp A cp w' (rdmC HR.out hb) HL.out)
      clear hp
      generalize packE l = r at *
      go_wp2_with fail
      go_at_call 9
      refine (cP.out _ hb).mono ?_
      rintro e v1 ⟨rfl, hv1⟩
      replace hb := below_then hv1 hb
      clear hv1 cP
      cases hu : unC t with
      | none =>
        have cU := Lib.hid (fun w => unpack_any t HT.out w)
        rw [hu] at cU
        change Hid (∀ w, Calls _ _ _ _ fun e w' => e = .returned (.tuple #[.slice none 0 0, er 2]) ∧ Below w.heap.size w w') at cU
        clear hu
        go_wp2_with fail
        go_at_call 10
        refine (cU.out _).mono ?_
        rintro e v4 ⟨rfl, hv4⟩
        replace hb := below_then hv4 hb
        clear hv4 cU
        go_wp2
        go_ret
        exact ⟨rfl, hb⟩
      | some xs =>
        have cU := Lib.hid (fun w => unpack_any t HT.out w)
        rw [hu] at cU
        obtain ⟨hx1, hx2⟩ := pack_unC hu
        have HX1 := Lib.hid hx1; have HX2 := Lib.hid hx2
        clear hu hx1 hx2
        go_wp2_with fail
        go_at_call 10
        refine (cU.out _).mono ?_
        rintro e v4 ⟨A4, c4, rfl, own4, hl4, hv4⟩
        replace hb := below_then hv4 hb
        have cP2 := pack_ok HX1.out A4 c4 v4 own4.rdC (by unfold maxLen; omega)
        rw [HX2.out] at cP2
        have CP2 := Lib.hid cP2
        clear hv4 cU own4 cP2
        go_wp2_with fail
        go_at_call 9
        refine CP2.out.mono ?_
        rintro e v5 ⟨rfl, hv5⟩
        replace hb := below_then hv5 hb
        clear hv5 CP2
        go_wp2
        go_ret
        exact ⟨rfl, hb⟩
  | some z =>
    rw [hz] at cR
    change Hid (∀ w, Calls _ _ _ _ fun e w' => e = .returned (.tuple #[.agg #[.int .i64 z.what, .int .i64 z.o.id, .int .i64 z.o.who, .int .i64 z.o.side, .int .i64 z.o.kind, .int .i64 z.o.price, .int .i64 z.o.qty, .int .i64 z.o.show_, .int .i64 z.o.stop, .int .i64 z.who, .int .i64 z.n], .nilIface]) ∧ Below w.heap.size w w') at cR
    have HNE := Lib.hid (HZ.out z hz)
    clear hz
    go_upto_region 13 with (go_at_call 8; refine (cR.out _).mono ?_; rintro e w6 ⟨rfl, hb6⟩)
    replace b0 := b0.keep hb6
    replace hb := below_then_alloc (o := .cells #[.int .i64 z.what, .int .i64 z.o.id, .int .i64 z.o.who, .int .i64 z.o.side, .int .i64 z.o.kind, .int .i64 z.o.price, .int .i64 z.o.qty, .int .i64 z.o.show_, .int .i64 z.o.stop, .int .i64 z.who, .int .i64 z.n] 25) (below_then hb6 hb)
    have bz := Bk.new w6 25 #[.int .i64 z.what, .int .i64 z.o.id, .int .i64 z.o.who, .int .i64 z.o.side, .int .i64 z.o.kind, .int .i64 z.o.price, .int .i64 z.o.qty, .int .i64 z.o.show_, .int .i64 z.o.stop, .int .i64 z.who, .int .i64 z.n]
    replace b0 := b0.alloc (.cells #[.int .i64 z.what, .int .i64 z.o.id, .int .i64 z.o.who, .int .i64 z.o.side, .int .i64 z.o.kind, .int .i64 z.o.price, .int .i64 z.o.qty, .int .i64 z.o.show_, .int .i64 z.o.stop, .int .i64 z.who, .int .i64 z.n] 25)
    obtain ⟨q0, q1, q2, q3, q4, q5, q6, q7, q8, q9, q10⟩ := box11 b0
    obtain ⟨f0, f1, f2, f3, f4, f5, f6, f7, f8, f9, f10⟩ := box11 bz
    clear b0 bz hb6 cR y3 HB5 B5 HZ
    generalize w6.alloc (.cells #[.int .i64 z.what, .int .i64 z.o.id, .int .i64 z.o.who, .int .i64 z.o.side, .int .i64 z.o.kind, .int .i64 z.o.price, .int .i64 z.o.qty, .int .i64 z.o.show_, .int .i64 z.o.stop, .int .i64 z.who, .int .i64 z.n] 25) = w7 at *
    generalize w6.heap.size = gz at *
    go_cut [89] (fun v wx => v = .bool false ∧ wx = w7)
    case first =>
      go_wp2
      all_goals first
        | exact absurd (cmd_ext (by assumption) (by assumption) (by assumption) (by assumption) (by assumption) (by assumption) (by assumption) (by assumption) (by assumption) (by assumption) (by assumption)) HNE.out
        | (go_meet; (case rel => exact ⟨rfl, rfl⟩))
    obtain ⟨rfl, rfl⟩ := hcut
    as_aux_lemma =>
    go_upto_region 15 with fail
    by_cases hp : packE l = 0
    · have cP := Lib.hid (fun (w' : World) (hb : Below w.heap.size w w') => pack_ok hp A cp w' (rdmC HR.out hb) HL.out)
      have cQ := Lib.hid (fun w => unpack_ok hp w)
      have hl4 := (packE_zero hp).1
      clear hp
      go_wp2_with fail
      go_at_call 9
      refine (cP.out _ hb).mono ?_
      rintro e v1 ⟨rfl, hv1⟩
      replace hb := below_then hv1 hb
      clear hv1 cP
      go_wp2_with fail
      go_at_call 10
      refine (cQ.out _).mono ?_
      rintro e v2 ⟨A2, c2, rfl, own2, hv2⟩
      replace hb := below_then hv2 hb
      have cS := Lib.hid (same_cmds l A2 A c2 cp v2 own2.rdC (rdmC HR.out hb) (by omega))
      clear hv2 cQ own2
      go_wp2_with fail
      go_at_call 11
      refine cS.out.mono ?_
      rintro e v3 ⟨rfl, hv3⟩
      replace hb := below_then hv3 hb
      clear hv3 cS hl4
      cases hu : unC t with
      | none =>
        have cU := Lib.hid (fun w => unpack_any t HT.out w)
        rw [hu] at cU
        change Hid (∀ w, Calls _ _ _ _ fun e w' => e = .returned (.tuple #[.slice none 0 0, er 2]) ∧ Below w.heap.size w w') at cU
        clear hu
        go_wp2_with fail
        go_at_call 10
        refine (cU.out _).mono ?_
        rintro e v4 ⟨rfl, hv4⟩
        replace hb := below_then hv4 hb
        clear hv4 cU
        go_wp2
        go_ret
        exact ⟨rfl, hb⟩
      | some xs =>
        have cU := Lib.hid (fun w => unpack_any t HT.out w)
        rw [hu] at cU
        obtain ⟨hx1, hx2⟩ := pack_unC hu
        have HX1 := Lib.hid hx1; have HX2 := Lib.hid hx2
        clear hu hx1 hx2
        go_wp2_with fail
        go_at_call 10
        refine (cU.out _).mono ?_
        rintro e v4 ⟨A4, c4, rfl, own4, hl4, hv4⟩
        replace hb := below_then hv4 hb
        have cP2 := pack_ok HX1.out A4 c4 v4 own4.rdC (by unfold maxLen; omega)
        rw [HX2.out] at cP2
        have CP2 := Lib.hid cP2
        clear hv4 cU own4 cP2
        go_wp2_with fail
        go_at_call 9
        refine CP2.out.mono ?_
        rintro e v5 ⟨rfl, hv5⟩
        replace hb := below_then hv5 hb
        clear hv5 CP2
        go_wp2
        go_ret
        exact ⟨rfl, hb⟩
    · have cP := Lib.hid (fun (w' : World) (hb : Below w.heap.size w w') => pack_no hp A cp w' (rdmC HR.out hb) HL.out)
      clear hp
      generalize packE l = r at *
      go_wp2_with fail
      go_at_call 9
      refine (cP.out _ hb).mono ?_
      rintro e v1 ⟨rfl, hv1⟩
      replace hb := below_then hv1 hb
      clear hv1 cP
      cases hu : unC t with
      | none =>
        have cU := Lib.hid (fun w => unpack_any t HT.out w)
        rw [hu] at cU
        change Hid (∀ w, Calls _ _ _ _ fun e w' => e = .returned (.tuple #[.slice none 0 0, er 2]) ∧ Below w.heap.size w w') at cU
        clear hu
        go_wp2_with fail
        go_at_call 10
        refine (cU.out _).mono ?_
        rintro e v4 ⟨rfl, hv4⟩
        replace hb := below_then hv4 hb
        clear hv4 cU
        go_wp2
        go_ret
        exact ⟨rfl, hb⟩
      | some xs =>
        have cU := Lib.hid (fun w => unpack_any t HT.out w)
        rw [hu] at cU
        obtain ⟨hx1, hx2⟩ := pack_unC hu
        have HX1 := Lib.hid hx1; have HX2 := Lib.hid hx2
        clear hu hx1 hx2
        go_wp2_with fail
        go_at_call 10
        refine (cU.out _).mono ?_
        rintro e v4 ⟨A4, c4, rfl, own4, hl4, hv4⟩
        replace hb := below_then hv4 hb
        have cP2 := pack_ok HX1.out A4 c4 v4 own4.rdC (by unfold maxLen; omega)
        rw [HX2.out] at cP2
        have CP2 := Lib.hid cP2
        clear hv4 cU own4 cP2
        go_wp2_with fail
        go_at_call 9
        refine CP2.out.mono ?_
        rintro e v5 ⟨rfl, hv5⟩
        replace hb := below_then hv5 hb
        clear hv5 CP2
        go_wp2
        go_ret
        exact ⟨rfl, hb⟩
theorem wireBack_law {H : Type} {enc : TypeId × Value → H} {v0 v1 v2 v3 v4 : Value} {d0 d1 d2 d3 d4 : DataW H} {p0 p1 p2 p3 p4 : List MemPlace} {base : Nat} {W : World}
    (h0 : Arg enc W base 25 v0 d0 p0) (h1 : Arg enc W base 26 v1 d1 p1) (h2 : Arg enc W base 9 v2 d2 p2) (h3 : Arg enc W base 3 v3 d3 p3) (h4 : Arg enc W base 5 v4 d4 p4) :
    Calls Try.prog 3 #[v0, v1, v2, v3, v4] W fun e w' => e = .returned (.bool true) ∧ Below W.heap.size W w' := by
  obtain ⟨c, rfl⟩ := h0.cmd
  obtain ⟨A, l, cp, rfl, hl, hc, _, hr⟩ := h1.cmds
  obtain ⟨t, rfl, ht⟩ := h2.str
  obtain ⟨p, rfl, _⟩ := h3.int
  obtain ⟨x, rfl, hx⟩ := h4.u8
  exact wb_walk c l A cp t p x W hr (Nat.le_trans hl hc) ht hx
end Go.Proofs.Ytodkhhanlhelnaa
