/- The walk of WakePlays. -/
import Derived.Test.YtiaofbkhnodbhaaDoorRWake
import Derived.Test.YtiaofbkhnodbhaaDoorRWait
import Derived.Test.YtiaofbkhnodbhaaDoorWakeDrop
import Derived.Test.YtiaofbkhnodbhaaDoorSameOrd
import Derived.Test.YtiaofbkhnodbhaaDoorIntTab
import Derived.Test.YtiaofbkhnodbhaaDoorOrdsArg
import Derived.Test.YtiaofbkhnodbhaaDoorGrpT
import Derived.Deep.CutBlock
namespace Go.Proofs.YtiaofbkhnodbhaaDoor
set_option linter.all false
open Go Go.RowKit Go.ChangeShapes Go.WideShapes
/-- the program's stops and the document's are the same -/
structure WD (w : World) (S : List Order) (AS : Option Addr) (cS : Nat) (AM : Option Addr) (cM : Nat) (wr : World) : Prop where
  ok : StOk S
  st : StM wr w.heap.size w.heap.size AS cS S
  rd : Rd wr wr.heap.size AM S.length 8 (ocell S)
  cap : S.length ≤ cM ∧ cM ≤ maxLen
  ap : 0 < S.length → ∀ (b off : Nat), AM = some ⟨b, off, none⟩ → b ≠ w.heap.size ∧ some b ≠ rowOf AS cS
  below : Below w.heap.size w wr
section
variable {w w1 w2 : World} {S T : List Order} {AS AM AT : Option Addr} {cS cM cT : Nat}
theorem WD.later (h : WD w S AS cS AM cM w1) (hb : Below w1.heap.size w1 w2) : WD w S AS cS AM cM w2 :=
  ⟨h.ok, h.st.below hb, (h.rd.below hb).more hb.size, h.cap, h.ap, below_then hb h.below⟩
theorem WD.lt (h : WD w S AS cS AM cM w1) : w.heap.size < w1.heap.size := h.st.b.lt
/-- the program's own changes leave the other's -/
theorem Rd.kb {rs : List (Option Nat)} {n s : Nat} {c : Nat → Nat → Value} (h : Rd w w.heap.size AM n s c) (hk : Kb rs w w1) (hn : 0 < n → ∀ (b off : Nat), AM = some ⟨b, off, none⟩ → some b ∉ rs) : Rd w1 w1.heap.size AM n s c := fun h0 => by
  obtain ⟨b, off, e, hb, hc⟩ := h h0
  exact ⟨b, off, e, Nat.lt_of_lt_of_le hb hk.size, fun i hi j hj => (World.cell?_of_block (a := ⟨b, _, none⟩) (hk.block b hb (hn h0 b off e))).trans (hc i hi j hj)⟩
theorem WD.fresh (h : WD w S AS cS AM cM w1) {b : Nat} (hb : w1.heap.size ≤ b) : b ≠ w.heap.size ∧ some b ≠ rowOf AS cS := ⟨fun e => by have := h.lt; omega, fun e => by have := (h.st.own.row_lt b e.symm).2; omega⟩
/-- the program's step behind the document's -/
theorem WD.join {T : List Order} {AS' AM' : Option Addr} {cS' cM' : Nat} {wa wb : World} {rs : List (Option Nat)} (h : WD w S AS cS AM cM w1) (hok : StOk T) (hst : StM wb w.heap.size w.heap.size AS' cS' T) (hk : Kb rs wa wb) (hrs : ∀ k, some k ∈ rs → k = w.heap.size ∨ some k = rowOf AS cS) (hrd : Rd wa wa.heap.size AM' T.length 8 (ocell T)) (hcap : T.length ≤ cM' ∧ cM' ≤ maxLen)
    (hap : 0 < T.length → ∀ (b off : Nat), AM' = some ⟨b, off, none⟩ → b ≠ w.heap.size ∧ some b ≠ rowOf AS cS) (hrow : rowOf AS' cS' = rowOf AS cS ∨ ∀ k, rowOf AS' cS' = some k → wa.heap.size ≤ k) (hb : Below w1.heap.size w1 wa) : WD w T AS' cS' AM' cM' wb := by
  have hbb := below_then hb h.below
  refine ⟨hok, hst, Rd.kb hrd hk fun h0 b off e hm => ?_, hcap, fun h0 b off e => ⟨(hap h0 b off e).1, ?_⟩, ?_⟩
  · rcases hrs b hm with e1 | e1
    · exact (hap h0 b off e).1 e1
    · exact (hap h0 b off e).2 e1
  · intro e2
    rcases hrow with hr | hr
    · rw [hr] at e2; exact (hap h0 b off e).2 e2
    · obtain ⟨b', off', e', hb', _⟩ := hrd h0
      rw [e] at e'; cases e'
      have := hr b e2.symm
      omega
  · refine hbb.trans (hk.to_below hbb.size fun k hm => ?_)
    rcases hrs k hm with e1 | e1
    · omega
    · exact (h.st.own.row_lt k e1.symm).1
theorem WD.kb_set (h : WD w S AS cS AM cM w1) : ∀ k, some k ∈ [some w.heap.size, rowOf AS cS] → k = w.heap.size ∨ some k = rowOf AS cS := fun k hm => by
  rcases List.mem_cons.1 hm with e | hm
  · exact .inl (Option.some.inj e)
  · exact .inr (List.mem_singleton.1 hm)
end
theorem StOk.gone {S : List Order} (h : StOk S) (id : Int) : StOk (goneL S id) := by
  unfold goneL
  split
  · exact h
  · refine ⟨by have := h.few; rw [List.length_eraseIdx]; split <;> omega, fun o ho => h.sound o (List.mem_of_mem_eraseIdx ho), h.once.sublist ((List.eraseIdx_sublist S _).map _)⟩
theorem two_of {cs : Array Value} (h1 : cs.size = 2) (h2 : ∀ i, i < 2 → ∃ z : Int, cs[i]? = some (.int .i64 z)) : ∃ v0 v1 : Int, cs = #[.int .i64 v0, .int .i64 v1] := by
  obtain ⟨a0, e0⟩ := h2 0 (by omega); obtain ⟨a1, e1⟩ := h2 1 (by omega)
  refine ⟨a0, a1, Array.ext_getElem? fun i => ?_⟩
  match i with
  | 0 => exact e0
  | 1 => exact e1
  | i + 2 => rw [Array.getElem?_eq_none (by omega), Array.getElem?_eq_none (by simp)]
def Two (cs : Array Value) : Prop := cs.size = 2 ∧ ∀ i, i < 2 → ∃ z : Int, cs[i]? = some (.int .i64 z)
theorem two_zero : Two #[.int .i64 0, .int .i64 0] := ⟨rfl, fun i hi => ⟨0, by match i, hi with | 0, _ => rfl | 1, _ => rfl⟩⟩
theorem two_set {cs : Array Value} (h : Two cs) (q : Nat) (z : Int) : Two (cs.setIfInBounds q (.int .i64 z)) := by
  refine ⟨by simpa using h.1, fun i hi => ?_⟩
  rw [Array.getElem?_setIfInBounds]
  split
  · split
    · exact ⟨z, rfl⟩
    · rename_i h1 h2; exact absurd (by rw [h.1]; omega) h2
  · exact h.2 i hi
set_option maxHeartbeats 16000000 in
set_option maxRecDepth 100000 in
theorem wakePlays_any (xs : List Order) (AX : Option Addr) (cX : Nat) (A : Option Addr) (n c : Nat) (w : World) (hx : Rd w w.heap.size AX xs.length 8 (ocell xs)) (hr : RdRows w A n) (hl : Laid w) :
    Calls Tryd.prog 4 #[.slice AX xs.length cX, .slice A n c] w fun e w' => e = .returned (.bool true) ∧ Below w.heap.size w w' := by
  have HR := Lib.hid hr
  have HL := Lib.hid hl
  have HX := Lib.hid hx
  have hmx := hr.1
  unfold maxLen at hmx
  clear hr hl hx
  go_enter Tryd.func4, Tryd.ntmps4
  go_wp2_with fail
  go_at_call 19
  refine (wnew_any _).mono ?_
  rintro e w1 ⟨rfl, hw1⟩
  have hd : WD w [] none 0 none 0 w1 := ⟨StOk.nil, by rw [hw1]; exact StM.new w _, fun h => absurd h (by simp), ⟨Nat.le_refl _, by simp [maxLen]⟩, fun h => absurd h (by simp), by rw [hw1]; exact (Below.refl _ _).alloc (Nat.le_refl _) _⟩
  have HD := Lib.hid hd
  clear hd hw1
  go_wp2
  go_loopw [6, 7] (fun mv i wr => ∃ (k : Nat) (S : List Order) (AS : Option Addr) (cS : Nat) (AM : Option Addr) (cM : Nat), k ≤ n ∧ k ≤ 60 ∧ i = .int .i64 k ∧ mv = .slice AM S.length cM ∧ Hid (WD w S AS cS AM cM wr)) (fun _ i _ => 60 - (intOf i).toNat)
  case atStart => exact ⟨0, [], none, 0, none, 0, by omega, by omega, rfl, rfl, HD⟩
  case round =>
    obtain ⟨k, S, AS, cS, AM, cM, hk, hk60, rfl, rfl, hd⟩ := hrel
    clear HD
    obtain ⟨wo, rfl⟩ : ∃ wo : World, wo = wr := ⟨_, rfl⟩
    have hb := hd.out.below
    by_cases hkn : k < n
    case neg =>
      have hkk : k = n := by omega
      subst k
      clear hd
      go_wp2
      go_ret
      exact ⟨rfl, hb⟩
    case pos =>
    by_cases hk6 : k < 60
    case neg =>
      have hkk : k = 60 := by omega
      subst k
      clear hd
      go_wp2
      go_ret
      exact ⟨rfl, hb⟩
    case pos =>
      obtain ⟨bA, oA, rfl, hbA, hrow⟩ := HR.out.2 (by omega)
      obtain ⟨A', L, C, hc, hL, hin⟩ := hrow k hkn
      unfold maxLen at hL
      have HIN := Lib.hid hin
      have hcr : wo.cell? ⟨bA, oA + k, none⟩ = some (.slice A' L C) := (hb.cell (p := ⟨bA, oA + k, none⟩) hbA).trans hc
      have hbz := hb.size
      have i6 : (k : Int) < 60 := by omega
      have hbAl : bA < wo.heap.size := by omega
      have HD := Lib.hid hd.out
      clear hrow hc hin hd
      go_upto_block 2 with fail
      go_cut [] (fun w2 => ∃ v0 v1 : Int, Bk w2 wo.heap.size 36 #[.int .i64 v0, .int .i64 v1] ∧ Below wo.heap.size wo w2)
      case first =>
        --<fill
        go_wp2_with fail
        go_loopw [9] (fun j wr => ∃ (q : Nat) (cs : Array Value), q ≤ 2 ∧ j = .int .i64 q ∧ Two cs ∧ Bk wr wo.heap.size 36 cs ∧ Below wo.heap.size wo wr) (fun j _ => 2 - (intOf j).toNat)
        case atStart => exact ⟨0, _, by omega, rfl, two_zero, Bk.new _ _ _, (Below.refl _ _).alloc (Nat.le_refl _) _⟩
        case round =>
          obtain ⟨q, cs, hq5, rfl, hcs, hbk, hb2⟩ := hrel
          have hcr2 : wr.cell? ⟨bA, oA + k, none⟩ = some (.slice A' L C) := (hb2.cell (p := ⟨bA, oA + k, none⟩) hbAl).trans hcr
          have hbAl2 : bA < wr.heap.size := Nat.lt_of_lt_of_le hbAl hb2.size
          have i5 : (q : Int) ≤ 2 := by omega
          by_cases hqL : q < L
          case neg =>
            have HB := Lib.hid hbk; have HC := Lib.hid hcs
            clear hbk hcs
            go_wp2
            go_meet
            case rel =>
              obtain ⟨v0, v1, rfl⟩ := two_of HC.out.1 HC.out.2
              exact ⟨v0, v1, HB.out, hb2⟩
          case pos =>
          by_cases hq6 : q < 2
          case neg =>
            have HB := Lib.hid hbk; have HC := Lib.hid hcs
            have hqq : q = 2 := by omega
            subst q
            clear hbk hcs
            go_wp2
            go_meet
            case rel =>
              obtain ⟨v0, v1, rfl⟩ := two_of HC.out.1 HC.out.2
              exact ⟨v0, v1, HB.out, hb2⟩
          case pos =>
            obtain ⟨b', o', rfl, hb', hz⟩ := HIN.out (by omega)
            obtain ⟨z, hz⟩ := hz q hqL
            have hz2 : wr.cell? ⟨b', o' + q, none⟩ = some (.int .i64 z) := (hb2.cell (p := ⟨b', o' + q, none⟩) (by show b' < _; omega)).trans ((hb.cell (p := ⟨b', o' + q, none⟩) hb').trans hz)
            obtain ⟨y, hy⟩ := hcs.2 q hq6
            have hy2 : wr.cell? ⟨wo.heap.size, q, none⟩ = some (.int .i64 y) := (hbk.cell q).trans hy
            have hfr := hbk.free q
            have i7 : (q : Int) < 2 := by omega
            have i8 : (q : Int) < (L : Int) := by omega
            have i9 : (0 : Int) ≤ (q : Int) := by omega
            have HB := Lib.hid (hbk.set_ q (.int .i64 z)); have HC := Lib.hid (two_set hcs q z)
            clear hbk hcs hy hz
            go_wp2
            go_roundw
            case rel => exact ⟨q + 1, _, by omega, by go_num, HC.out, HB.out, hb2.setCell (Nat.le_refl _) _⟩
            case measure => simp [intOf]; omega
        -->fill
      case rest =>
        obtain ⟨v0, v1, hbk, hb2⟩ := hcut
        obtain ⟨w2, rfl⟩ : ∃ z : World, z = wc := ⟨_, rfl⟩
        have hdc := HD.out.later hb2
        obtain ⟨y0, y1⟩ := pair2 hbk
        have HBK := Lib.hid hbk
        have HDC := Lib.hid hdc
        clear HD hbk hdc hcr hbAl HIN hb2
        go_upto_block 4 with fail
        go_cut [10, 6] (fun told mv w3 => told = .bool true ∧ ∃ (S' : List Order) (AS' : Option Addr) (cS' : Nat) (AM' : Option Addr) (cM' : Nat), mv = .slice AM' S'.length cM' ∧ Hid (WD w S' AS' cS' AM' cM' w3))
        case first =>
          --<sw
          clear hb hbz
          go_step
          go_step
          go_cut [86] (fun c w3 => ∃ b : Bool, c = .bool b ∧ (b = true ↔ (v0 = 0 ∨ v0 = 1 ∨ v0 = 2)) ∧ w3 = w2)
          case first =>
            by_cases h0 : v0 = 0
            · subst h0
              go_wp2
              go_meet
              case rel => exact ⟨true, rfl, by simp, rfl⟩
            have e0 : (v0 == 0) = false := by simpa using h0
            by_cases h1 : v0 = 1
            · subst h1
              go_wp2
              go_meet
              case rel => exact ⟨true, rfl, by simp, rfl⟩
            have e1 : (v0 == 1) = false := by simpa using h1
            by_cases h2 : v0 = 2
            · subst h2
              go_wp2
              go_meet
              case rel => exact ⟨true, rfl, by simp, rfl⟩
            have e2 : (v0 == 2) = false := by simpa using h2
            have HN := Lib.hid (And.intro h0 (And.intro h1 h2))
            clear h0 h1 h2
            go_wp2
            go_meet
            case rel => exact ⟨false, rfl, by have := HN.out; simp [this], rfl⟩
          case rest =>
            obtain ⟨bb, rfl, hbb, hw2⟩ := hcut
            have hw3 := hw2.symm
            subst hw3
            clear hw2
            have HBB := Lib.hid hbb
            clear hbb
            cases bb
            case true =>
              --<puts
              clear HBB
              go_upto_if 92 with fail
              go_cut [] (fun w3 => ∃ o : Order, Bk w3 w2.heap.size 58 #[.int .i64 o.id, .int .i64 o.who, .int .i64 o.side, .int .i64 o.kind, .int .i64 o.price, .int .i64 o.qty, .int .i64 o.show_, .int .i64 o.stop] ∧ Below w2.heap.size w2 w3)
              case first =>
                by_cases hxn : xs.length = 0
                · have ex : decide ((xs.length : Int) > 0) = false := decide_eq_false (by omega)
                  go_wp2
                  go_meet
                  case rel => exact ⟨ord0, Bk.new _ _ _, (Below.refl _ _).alloc (Nat.le_refl _) _⟩
                · have ex : decide ((xs.length : Int) > 0) = true := decide_eq_true (by omega)
                  obtain ⟨q, hq⟩ : ∃ q, q = k % xs.length := ⟨_, rfl⟩
                  have hqm : q < xs.length := hq ▸ Nat.mod_lt _ (by omega)
                  have hqk : q ≤ k := hq ▸ Nat.mod_le _ _
                  have er : Int.tmod (k : Int) (xs.length : Int) = (q : Int) := by rw [hq]; rfl
                  have en : ¬ (xs.length : Int) = 0 := by omega
                  have q0 : (0 : Int) ≤ (q : Int) := by omega
                  have q1 : (q : Int) < (xs.length : Int) := by omega
                  obtain ⟨bx, ox, o, hAX, hbx, ho, e0, e1, e2, e3, e4, e5, e6, e7⟩ := ord_at (HX.out.below HDC.out.below) hqm
                  have hbx2 : bx < w2.heap.size := by have := HDC.out.below.size; omega
                  clear hq ho
                  subst hAX
                  go_wp2
                  go_meet
                  case rel => exact ⟨o, Bk.new _ _ _, (Below.refl _ _).alloc (Nat.le_refl _) _⟩
              case rest =>
                obtain ⟨o, bo, hb3⟩ := hcut
                obtain ⟨w3, rfl⟩ : ∃ z : World, z = wc := ⟨_, rfl⟩
                have hd3 := HDC.out.later hb3
                obtain ⟨o0, o1, o2, o3, o4, o5, o6, o7⟩ := obox bo
                have cW := Lib.hid (rwait_any S o AM cM w3 hd3.rd hd3.cap (by have := hd3.ok.few; omega))
                have HD3 := Lib.hid hd3; have BO := Lib.hid bo
                clear bo hb3 hd3 HDC HBK y0 y1
                go_wp2_with fail
                go_at_call 20
                refine cW.out.mono ?_
                rintro e w4 ⟨AM', cM', rfl, hh, hb4⟩
                clear o0 o1 o2 o3 o4 o5 o6 o7 cW
                obtain ⟨o0, o1, o2, o3, o4, o5, o6, o7⟩ := obox (BO.out.keep hb4)
                have cP := Lib.hid (wput_any S o w.heap.size w.heap.size AS cS w4 (HD3.out.st.below hb4) (by have := HD3.out.ok.few; omega) (below_then hb4 HD3.out.below).size (.inr (Nat.le_refl _)))
                have HB4 := Lib.hid hb4
                clear hb4 BO
                go_wp2_with fail
                go_at_call 21
                refine cP.out.mono ?_
                rintro e w5 ⟨rfl, AS', cS', hst5, hkb5, hrow⟩
                have hd5 : WD w (waitL S o) AS' cS' AM' cM' w5 := by
                  refine HD3.out.join (HD3.out.ok.wait o) hst5.out hkb5.out HD3.out.kb_set hh.out.1 ⟨hh.out.2.1, hh.out.2.2.1⟩ (fun h0 b off e => ?_) hrow HB4.out
                  rcases hh.out.2.2.2 with ⟨e1, e2⟩ | hf
                  · exact HD3.out.ap (by rw [e2] at h0; exact h0) b off (e1 ▸ e)
                  · exact HD3.out.fresh (hf b off e)
                have cT := Lib.hid (same_told (waitE S o) w5 (HL.out.below hd5.below))
                have HD5 := Lib.hid hd5
                clear hd5 hst5 hkb5 hrow hh HB4 HD3 cP o0 o1 o2 o3 o4 o5 o6 o7
                go_wp2_with fail
                go_at_call 8
                refine cT.out.mono ?_
                rintro e w6 ⟨rfl, hb6⟩
                have HD6 := Lib.hid (HD5.out.later hb6)
                clear cT HD5 hb6
                go_wp2
                go_meet
                case rel => exact ⟨rfl, waitL S o, AS', cS', AM', cM', rfl, HD6⟩
              -->puts
            case false =>
            by_cases h3 : v0 = 3
            case pos =>
              --<drops
              subst h3
              clear HBB
              have hb3 : ∀ cs : Array Value, Below w2.heap.size w2 (w2.alloc (.cells cs 58)) := fun cs => (Below.refl _ _).alloc (Nat.le_refl _) _
              have hf20 : S.length ≤ 20 := HDC.out.ok.few
              have cW := Lib.hid (rwaits_any S AM cM v1 (w2.alloc (.cells #[.int .i64 0, .int .i64 0, .int .i64 0, .int .i64 0, .int .i64 0, .int .i64 0, .int .i64 0, .int .i64 0] 58)) (HDC.out.later (hb3 _)).rd (by unfold maxLen; omega))
              have hlt2 : wo.heap.size < w2.heap.size := HBK.out.lt
              go_wp2_with fail
              go_at_call 22
              refine cW.out.mono ?_
              rintro e w3 ⟨rfl, rfl⟩
              clear cW
              go_upto_if 119 with fail
              go_cut [14, 6] (fun e mv w4 => e = .int .i64 (goneE S v1) ∧ ∃ (AM' : Option Addr) (cM' : Nat), mv = .slice AM' (goneL S v1).length cM' ∧ Bk w4 w2.heap.size 58 #[.int .i64 (goneO S v1).id, .int .i64 (goneO S v1).who, .int .i64 (goneO S v1).side, .int .i64 (goneO S v1).kind, .int .i64 (goneO S v1).price, .int .i64 (goneO S v1).qty, .int .i64 (goneO S v1).show_, .int .i64 (goneO S v1).stop] ∧ Hid (Rd w4 w4.heap.size AM' (goneL S v1).length 8 (ocell (goneL S v1)) ∧ ((goneL S v1).length ≤ cM' ∧ cM' ≤ maxLen) ∧ (0 < (goneL S v1).length → ∀ (b off : Nat), AM' = some ⟨b, off, none⟩ → b ≠ w.heap.size ∧ some b ≠ rowOf AS cS)) ∧ Below w2.heap.size w2 w4)
              case first =>
                --<find
                by_cases hw : whereI S v1 < 0
                · have HE := Lib.hid (show goneE S v1 = 5 ∧ goneO S v1 = ord0 ∧ goneL S v1 = S from ⟨if_pos hw, if_pos hw, if_pos hw⟩)
                  have HB3 := Lib.hid hb3
                  have ew : decide (whereI S v1 ≥ 0) = false := decide_eq_false (by omega)
                  clear hb3
                  generalize whereI S v1 = kk at *
                  go_wp2
                  go_meet
                  case rel =>
                    have hd3 := HDC.out.later (HB3.out #[.int .i64 0, .int .i64 0, .int .i64 0, .int .i64 0, .int .i64 0, .int .i64 0, .int .i64 0, .int .i64 0])
                    exact ⟨by rw [HE.out.1], AM, cM, by rw [HE.out.2.2], by rw [HE.out.2.1]; exact Bk.new _ _ _, Lib.hid (by rw [HE.out.2.2]; exact ⟨hd3.rd, hd3.cap, hd3.ap⟩), HB3.out _⟩
                · obtain ⟨q, o, hk, ho, hid⟩ := whereI_at hw
                  have hql : q < S.length := (List.getElem?_eq_some_iff.1 ho).1
                  have HE := Lib.hid (show goneE S v1 = 0 ∧ goneO S v1 = o ∧ goneL S v1 = S.eraseIdx q from ⟨if_neg hw, by rw [goneO, if_neg hw, hk]; simp [List.getD_eq_getElem?_getD, ho], by rw [goneL, if_neg hw, hk]; simp⟩)
                  clear hw
                  generalize whereI S v1 = kk at *
                  subst hk
                  obtain ⟨b, off, t, hA, hbl, ht, e0, e1, e2, e3, e4, e5, e6, e7⟩ := ord_at HDC.out.rd hql
                  obtain rfl : o = t := Option.some.inj (ho.symm.trans ht)
                  have q0 : (0 : Int) ≤ (q : Int) := by omega
                  have q1 : (q : Int) < (S.length : Int) := by omega
                  have q2 : ¬ (q : Int) < 0 := by omega
                  have HB3 := Lib.hid hb3
                  have HAm := Lib.hid hA
                  rw [hA]
                  clear hb3 ht ho hid hA
                  go_upto_region 37 with fail
                  have hd3 := HDC.out.later (HB3.out #[.int .i64 o.id, .int .i64 o.who, .int .i64 o.side, .int .i64 o.kind, .int .i64 o.price, .int .i64 o.qty, .int .i64 o.show_, .int .i64 o.stop])
                  have bw := Bk.new w2 58 #[.int .i64 o.id, .int .i64 o.who, .int .i64 o.side, .int .i64 o.kind, .int .i64 o.price, .int .i64 o.qty, .int .i64 o.show_, .int .i64 o.stop]
                  have hb3 := HB3.out #[.int .i64 o.id, .int .i64 o.who, .int .i64 o.side, .int .i64 o.kind, .int .i64 o.price, .int .i64 o.qty, .int .i64 o.show_, .int .i64 o.stop]
                  generalize w2.alloc (.cells #[.int .i64 o.id, .int .i64 o.who, .int .i64 o.side, .int .i64 o.kind, .int .i64 o.price, .int .i64 o.qty, .int .i64 o.show_, .int .i64 o.stop] 58) = w3 at *
                  rw [← HAm.out]
                  clear e0 e1 e2 e3 e4 e5 e6 e7
                  obtain ⟨m, hm⟩ : ∃ m, S.length = q + 1 + m := ⟨S.length - (q + 1), by omega⟩
                  have cO := Lib.hid (roff_any S AM cM q m w3 hd3.rd hm (by omega) hd3.cap.1 hd3.cap.2)
                  have HD3 := Lib.hid hd3; have BW := Lib.hid bw; have HB4 := Lib.hid hb3
                  clear hd3 bw hb3 hm
                  go_wp2_with fail
                  go_at_call 23
                  refine cO.out.mono ?_
                  rintro e w4 ⟨AM', cM', rfl, ho4, hb4⟩
                  have HO4 := Lib.hid ho4; have HB5 := Lib.hid hb4
                  clear ho4 hb4 cO
                  go_wp2
                  go_meet
                  case rel =>
                    exact ⟨by rw [HE.out.1], AM', cM', by rw [HE.out.2.2], by rw [HE.out.2.1]; exact BW.out.keep HB5.out, Lib.hid (by
                      rw [HE.out.2.2]
                      refine ⟨HO4.out.rdO, ⟨HO4.out.le, HO4.out.max⟩, fun h0 b off e => ?_⟩
                      obtain ⟨g', o', e2, hg', _⟩ := HO4.out.cell h0
                      rw [e] at e2; cases e2
                      exact HD3.out.fresh hg'), below_then HB5.out HB4.out⟩
                -->find
              case rest =>
                --<drop
                obtain ⟨rfl, AM', cM', rfl, bw, hh, hb4⟩ := hcut
                obtain ⟨w4, rfl⟩ : ∃ z : World, z = wc := ⟨_, rfl⟩
                have hst4 := HDC.out.st.below hb4
                have hbk4 := HBK.out.keep hb4
                obtain ⟨z0, z1⟩ := pair2 hbk4
                have cD := Lib.hid (wdrop_any S v1 w.heap.size w.heap.size AS cS w4 hst4 (by omega) (below_then hb4 HDC.out.below).size)
                have HB4 := Lib.hid hb4; have BW := Lib.hid bw
                clear hb4 bw hst4 hbk4 y0 y1 hb3
                go_wp2_with fail
                go_at_call 24
                refine cD.out.mono ?_
                rintro e w5 ⟨rfl, hst5, hkb5⟩
                have HD5 := Lib.hid (show WD w (goneL S v1) AS cS AM' cM' w5 from HDC.out.join (HDC.out.ok.gone v1) hst5.out hkb5.out HDC.out.kb_set hh.out.1 hh.out.2.1 hh.out.2.2 (.inl rfl) HB4.out)
                have bw5 := hkb5.out.bk BW.out (fun hm => by
                  rcases HDC.out.kb_set _ hm with e | e
                  · have := HDC.out.lt; omega
                  · have := (HDC.out.st.own.row_lt _ e.symm).2; omega)
                have bw6 := bw5.keep (w' := w5.alloc (.cells #[.int .i64 (goneO S v1).id, .int .i64 (goneO S v1).who, .int .i64 (goneO S v1).side, .int .i64 (goneO S v1).kind, .int .i64 (goneO S v1).price, .int .i64 (goneO S v1).qty, .int .i64 (goneO S v1).show_, .int .i64 (goneO S v1).stop] 58)) ((Below.refl _ _).alloc (Nat.le_refl _) _)
                have bg6 := Bk.new w5 58 #[.int .i64 (goneO S v1).id, .int .i64 (goneO S v1).who, .int .i64 (goneO S v1).side, .int .i64 (goneO S v1).kind, .int .i64 (goneO S v1).price, .int .i64 (goneO S v1).qty, .int .i64 (goneO S v1).show_, .int .i64 (goneO S v1).stop]
                have hd6 := HD5.out.later (w2 := w5.alloc (.cells #[.int .i64 (goneO S v1).id, .int .i64 (goneO S v1).who, .int .i64 (goneO S v1).side, .int .i64 (goneO S v1).kind, .int .i64 (goneO S v1).price, .int .i64 (goneO S v1).qty, .int .i64 (goneO S v1).show_, .int .i64 (goneO S v1).stop] 58)) ((Below.refl _ _).alloc (Nat.le_refl _) _)
                have cT := Lib.hid (same_told (goneE S v1) _ (HL.out.below hd6.below))
                have HD6 := Lib.hid hd6; have BW6 := Lib.hid bw6; have BG6 := Lib.hid bg6
                clear hd6 bw6 bg6 bw5 hst5 hkb5 hh cD HB4 BW HD5 z0 z1
                generalize goneO S v1 = gx at *
                go_upto_region 39 with fail
                generalize w5.alloc (.cells #[.int .i64 gx.id, .int .i64 gx.who, .int .i64 gx.side, .int .i64 gx.kind, .int .i64 gx.price, .int .i64 gx.qty, .int .i64 gx.show_, .int .i64 gx.stop] 58) = w6 at *
                go_wp2_with fail
                go_at_call 8
                refine cT.out.mono ?_
                rintro e w7 ⟨rfl, hb7⟩
                have HD7 := Lib.hid (HD6.out.later hb7)
                obtain ⟨o0, o1, o2, o3, o4, o5, o6, o7⟩ := obox (BW6.out.keep hb7)
                obtain ⟨p0, p1, p2, p3, p4, p5, p6, p7⟩ := obox (BG6.out.keep hb7)
                clear cT HD6 BW6 BG6 hb7
                go_wp2
                go_meet
                case rel => exact ⟨rfl, goneL S v1, AS, cS, AM', cM', rfl, HD7⟩
                -->drop
              -->drops
            case neg =>
              --<wakes
              have e3 : (v0 == 3) = false := by simpa using h3
              clear HBB h3
              have hf20 : S.length ≤ 20 := HDC.out.ok.few
              by_cases hp : vp v1 = true
              case pos =>
                have cP := Lib.hid (rprice_any v1 w2)
                rw [hp] at cP
                have cW := Lib.hid (rwake_any v1 S AM cM w2 HDC.out.rd HDC.out.cap hf20 (fun o ho => (Order.err_ok (HDC.out.ok.sound o ho).1).2.2.1))
                go_wp2_with fail
                go_at_call 25
                refine cP.out.mono ?_
                rintro e w3 ⟨rfl, rfl⟩
                clear cP
                go_wp2_with fail
                go_at_call 26
                refine cW.out.mono ?_
                rintro e w3 ⟨AO, cO, AL, cL, rfl, hh, hb3⟩
                have hst3 := HDC.out.st.below hb3
                have hbk3 := HBK.out.keep hb3
                obtain ⟨z0, z1⟩ := pair2 hbk3
                have cK := Lib.hid (wwake_any v1 S w.heap.size w.heap.size AS cS w3 hst3 hf20 hp (below_then hb3 HDC.out.below).size)
                have HB3 := Lib.hid hb3
                clear hb3 hst3 hbk3 y0 y1 cW
                go_wp2_with fail
                go_at_call 27
                refine cK.out.mono ?_
                rintro e w5 ⟨AG, cG, AS', cS', rfl, hog, hst5, hkb5, hrow, _⟩
                have hd5 : WD w (leftS v1 S) AS' cS' AL cL w5 := by
                  refine HDC.out.join (HDC.out.ok.left v1) hst5.out hkb5.out (fun k hm => .inl (Option.some.inj (List.mem_singleton.1 hm))) hh.out.2.1 ⟨hh.out.2.2.1, hh.out.2.2.2.1⟩ (fun h0 b off e => ?_) (.inr hrow) HB3.out
                  rcases hh.out.2.2.2.2.2 h0 with e1 | hf
                  · exact HDC.out.ap (by have := leftS_len v1 S; omega) b off (e1 ▸ e)
                  · exact HDC.out.fresh (hf b off e)
                have hrd5 := Rd.kb hh.out.1 hkb5.out (fun h0 b off e hm => (HDC.out.fresh (hh.out.2.2.2.2.1 h0 b off e)).1 (Option.some.inj (List.mem_singleton.1 hm)))
                have HD5 := Lib.hid hd5; have HRD5 := Lib.hid hrd5
                have cT := Lib.hid (same_told 0 w5 (HL.out.below hd5.below))
                rw [show errV 0 = .nilIface from rfl] at cT
                clear hd5 hrd5 hst5 hkb5 hrow hh cK HB3 z0 z1
                go_wp2_with fail
                go_at_call 8
                refine cT.out.mono ?_
                rintro e w6 ⟨rfl, hb6⟩
                have HD6 := Lib.hid (HD5.out.later hb6)
                have hwl : (wakeL v1 S).length ≤ 20 := by have := wake_all (p := v1) (S := S); omega
                have cS := Lib.hid (same_ords (wakeL v1 S) AG AO cG cO w6 (hog.out.below hb6).rdO ((HRD5.out.below hb6).more hb6.size) (by omega))
                clear cT HD5 HRD5 hb6 hog
                go_wp2_with fail
                go_at_call 28
                refine cS.out.mono ?_
                rintro e w7 ⟨rfl, hb7⟩
                have HD7 := Lib.hid (HD6.out.later hb7)
                clear cS HD6 hb7
                go_wp2
                go_meet
                case rel => exact ⟨rfl, leftS v1 S, AS', cS', AL, cL, rfl, HD7⟩
              case neg =>
                have hp' : vp v1 = false := by simpa using hp
                have cP := Lib.hid (rprice_any v1 w2)
                rw [hp'] at cP
                have cK := Lib.hid (wwake_bad v1 w.heap.size w2 hp')
                have cT := Lib.hid (same_told 1 w2 (HL.out.below HDC.out.below))
                rw [show errV 1 = er 1 from rfl] at cT
                clear hp hp'
                go_wp2_with fail
                go_at_call 25
                refine cP.out.mono ?_
                rintro e w3 ⟨rfl, rfl⟩
                clear cP
                go_wp2_with fail
                go_at_call 27
                refine cK.out.mono ?_
                rintro e w3 ⟨rfl, rfl⟩
                clear cK
                go_wp2_with fail
                go_at_call 8
                refine cT.out.mono ?_
                rintro e w6 ⟨rfl, hb6⟩
                have HD6 := Lib.hid (HDC.out.later hb6)
                have cS := Lib.hid (same_ords [] none none 0 0 w6 (fun h => absurd h (by simp)) (fun h => absurd h (by simp)) (by simp))
                clear cT hb6 y0 y1
                go_wp2_with fail
                go_at_call 28
                refine cS.out.mono ?_
                rintro e w7 ⟨rfl, hb7⟩
                have HD7 := Lib.hid (HD6.out.later hb7)
                clear cS HD6 hb7
                go_wp2
                go_meet
                case rel => exact ⟨rfl, S, AS, cS, AM, cM, rfl, HD7⟩
              -->wakes
          -->sw
        case rest =>
          --<alls
          obtain ⟨rfl, S', AS', cS', AM', cM', rfl, HD3⟩ := hcut
          clear HDC HBK y0 y1 hb hbz
          obtain ⟨w3, rfl⟩ : ∃ z : World, z = wc := ⟨_, rfl⟩
          have cA := Lib.hid (wall_any S' w.heap.size w.heap.size AS' cS' w3 HD3.out.st (by have := HD3.out.ok.few; omega))
          go_wp2_with fail
          go_at_call 29
          refine cA.out.mono ?_
          rintro e w4 ⟨A4, c4, rfl, ho4, hb4⟩
          have hd4 := HD3.out.later hb4
          have cS := Lib.hid (same_ords S' A4 AM' c4 cM' w4 ho4.rdO hd4.rd (by have := HD3.out.ok.few; omega))
          have HD4 := Lib.hid hd4
          clear hd4 ho4 hb4 cA
          go_wp2_with (go_at_call 28; refine cS.out.mono ?_; rintro e w5 ⟨rfl, hb5⟩; (have HD5 := Lib.hid (HD4.out.later hb5)); clear hb5)
          go_roundw
          case rel => exact ⟨k + 1, S', AS', cS', AM', cM', by omega, by omega, by go_num, rfl, HD5⟩
          case measure => simp [intOf]; omega
          -->alls
theorem wakePlays_law {H : Type} {enc : TypeId × Value → H} {v0 v1 : Value} {d0 d1 : DataW H} {p0 p1 : List MemPlace} {base : Nat} {W : World}
    (h0 : Arg enc W base 52 v0 d0 p0) (h1 : Arg enc W base 53 v1 d1 p1) (hl : Laid W) :
    Calls Tryd.prog 4 #[v0, v1] W fun e w' => e = .returned (.bool true) ∧ Below W.heap.size W w' := by
  obtain ⟨AX, xs, cX, rfl, h2, h3, hx⟩ := h0.ords
  obtain ⟨A, n, c, rfl, hr⟩ := h1.introws
  exact wakePlays_any xs AX cX A n c W hx hr hl
end Go.Proofs.YtiaofbkhnodbhaaDoor
