/- What meet.Do, meet.Trades and the reference's Meet give, whatever comes, in one form. -/
import Derived.Test.YtbnjkcgkdpildaaDoorMeetDo
import Derived.Test.YtbnjkcgkdpildaaDoorRMeet
import Derived.Test.YtbnjkcgkdpildaaDoorMeetLaw
namespace Go.Proofs.YtbnjkcgkdpildaaDoor
set_option linter.all false
open Go Go.RowKit
/-- what comes of a meeting: the fault, both sides, the trades, what is left -/
def MO (L M : List Lv) (o : Order) (E : Int) (K1 K2 : List Lv) (T : List Trade) (left : Int) : Prop :=
  (readyE L M o ≠ 0 ∧ E = readyE L M o ∧ K1 = [] ∧ K2 = [] ∧ T = [] ∧ left = 0) ∨
  (readyE L M o = 0 ∧ met L M o 0 = none ∧ E = 4 ∧ K1 = [] ∧ K2 = [] ∧ T = [] ∧ left = 0) ∨
  (readyE L M o = 0 ∧ ∃ s, met L M o 0 = some s ∧ MOk s ∧ E = 0 ∧ K1 = pick o.side s.L L ∧ K2 = pick o.side M s.L ∧ T = s.T ∧ left = s.left)
theorem met_ok {L M : List Lv} {o : Order} {mode : Int} {s : MSt} (hr : readyE L M o = 0) (h : met L M o mode = some s) : MOk s := by
  have hs := MOk.start (readyE_iff.1 hr).1 (readyE_iff.1 hr).2.1
  obtain ⟨n, hn, e⟩ := met_start (mode := mode) hs
  rw [e] at h
  exact (mRun_ind (fun _ => True) (fun _ _ _ _ => trivial) n _ _ hs trivial hn h).1
theorem mo_ex (L M : List Lv) (o : Order) : ∃ E K1 K2 T left, MO L M o E K1 K2 T left := by
  by_cases h : readyE L M o = 0
  · cases hm : met L M o 0 with
    | none => exact ⟨_, _, _, _, _, .inr (.inl ⟨h, hm, rfl, rfl, rfl, rfl, rfl⟩)⟩
    | some s => exact ⟨_, _, _, _, _, .inr (.inr ⟨h, s, hm, met_ok h hm, rfl, rfl, rfl, rfl, rfl⟩)⟩
  · exact ⟨_, _, _, _, _, .inl ⟨h, rfl, rfl, rfl, rfl, rfl⟩⟩
theorem MOk.short {s : MSt} (h : MOk s) : s.L.length ≤ 60 ∧ ∀ x ∈ s.L, x.rs.length ≤ 60 := by
  refine ⟨?_, fun x hx => Nat.le_trans (len_cnt hx) (by have := h.few; omega)⟩
  have := full_len h.some_; have := h.few; omega
theorem SideOk.short {d : Int} {L : List Lv} (h : SideOk d L) : L.length ≤ 60 ∧ ∀ x ∈ L, x.rs.length ≤ 60 :=
  ⟨Nat.le_trans (full_len h.full) h.few, fun x hx => Nat.le_trans (len_cnt hx) h.few⟩
theorem MO.short {L M K1 K2 : List Lv} {o : Order} {E left : Int} {T : List Trade} (h : MO L M o E K1 K2 T left) : (K1.length ≤ 60 ∧ ∀ x ∈ K1, x.rs.length ≤ 60) ∧ (K2.length ≤ 60 ∧ ∀ x ∈ K2, x.rs.length ≤ 60) ∧ T.length ≤ 400 := by
  rcases h with ⟨_, _, rfl, rfl, rfl, _⟩ | ⟨_, _, _, rfl, rfl, rfl, _⟩ | ⟨hr, s, _, hok, _, rfl, rfl, rfl, _⟩
  · simp
  · simp
  · have hb := (readyE_iff.1 hr).1
    refine ⟨?_, ?_, hok.trades⟩
    · unfold pick; split
      · exact hb.buys.short
      · exact hok.short
    · unfold pick; split
      · exact hok.short
      · exact hb.sells.short
/-- how meet.Do ends -/
def MDoT (E : Int) (K1 K2 : List Lv) (T : List Trade) (left : Int) (w : World) (e : Ending) (w' : World) : Prop :=
  ∃ A1 c1 A2 c2 AT cT, e = .returned (.tuple #[.agg #[.slice A1 K1.length c1, .slice A2 K2.length c2], .slice AT T.length cT, .int .i64 left, errV E]) ∧ Hid (RdLv w' w'.heap.size A1 K1 ∧ RdLv w' w'.heap.size A2 K2 ∧ Rd w' w'.heap.size AT T.length 6 (tcell T)) ∧ Below w.heap.size w w'
theorem rd_nil6 {w : World} {B : Nat} {A : Option Addr} : Rd w B A ([] : List Trade).length 6 (tcell []) := fun h => absurd h (by simp)
theorem mdo_out {L M K1 K2 : List Lv} {o : Order} {E left : Int} {T : List Trade} (h : MO L M o E K1 K2 T left) (A1 A2 : Option Addr) (c1 c2 : Nat) (w : World) (h1 : RdLv w w.heap.size A1 L) (h2 : RdLv w w.heap.size A2 M) (hl1 : L.length ≤ maxLen) (hl2 : M.length ≤ maxLen) (hA1 : A1 = none → c1 = 0) (hA2 : A2 = none → c2 = 0) :
    Calls Tryd.prog 15 #[.agg #[.slice A1 L.length c1, .slice A2 M.length c2], .agg #[.int .i64 o.id, .int .i64 o.who, .int .i64 o.side, .int .i64 o.kind, .int .i64 o.price, .int .i64 o.qty, .int .i64 o.show_, .int .i64 o.stop]] w (MDoT E K1 K2 T left w) := by
  refine (mdo_any L M o A1 A2 c1 c2 w h1 h2 hl1 hl2 hA1 hA2 _ rfl _ rfl).mono ?_
  rintro e w' (⟨hz, rfl, hb⟩ | ⟨hz, hn, rfl, hb⟩ | ⟨hz, s, B1, d1, v1, B2, d2, v2, AT, cT, hs, hok, rfl, o1, o2, ot, hb⟩)
  · rcases h with ⟨_, rfl, rfl, rfl, rfl, rfl⟩ | ⟨h0, _⟩ | ⟨h0, _⟩
    · exact ⟨none, 0, none, 0, none, 0, by rw [errV, if_neg hz]; rfl, Lib.hid ⟨RdLv.nil, RdLv.nil, rd_nil6⟩, hb⟩
    · exact absurd h0 hz
    · exact absurd h0 hz
  · rcases h with ⟨h0, _⟩ | ⟨_, _, rfl, rfl, rfl, rfl, rfl⟩ | ⟨_, s, hs, _⟩
    · exact absurd hz h0
    · exact ⟨none, 0, none, 0, none, 0, rfl, Lib.hid ⟨RdLv.nil, RdLv.nil, rd_nil6⟩, hb⟩
    · rw [hn] at hs; cases hs
  · rcases h with ⟨h0, _⟩ | ⟨_, hn, _⟩ | ⟨_, s', hs', _, rfl, rfl, rfl, rfl, rfl⟩
    · exact absurd hz h0
    · rw [hn] at hs; cases hs
    · rw [hs] at hs'; cases hs'
      exact ⟨_, _, _, _, _, _, rfl, Lib.hid ⟨o1.rd, o2.rd, ot.rd (fun i j hi hj => trows_get hi hj)⟩, hb⟩
/-- how meet.Trades ends -/
def MTrT (E : Int) (T : List Trade) (w : World) (e : Ending) (w' : World) : Prop :=
  ∃ AT cT, e = .returned (.tuple #[.slice AT T.length cT, errV E]) ∧ Hid (Rd w' w'.heap.size AT T.length 6 (tcell T)) ∧ Below w.heap.size w w'
set_option maxHeartbeats 1000000 in
theorem mtrades_out {L M K1 K2 : List Lv} {o : Order} {E left : Int} {T : List Trade} (h : MO L M o E K1 K2 T left) (A1 A2 : Option Addr) (c1 c2 : Nat) (w : World) (h1 : RdLv w w.heap.size A1 L) (h2 : RdLv w w.heap.size A2 M) (hl1 : L.length ≤ maxLen) (hl2 : M.length ≤ maxLen) (hA1 : A1 = none → c1 = 0) (hA2 : A2 = none → c2 = 0) :
    Calls Tryd.prog 18 #[.agg #[.slice A1 L.length c1, .slice A2 M.length c2], .agg #[.int .i64 o.id, .int .i64 o.who, .int .i64 o.side, .int .i64 o.kind, .int .i64 o.price, .int .i64 o.qty, .int .i64 o.show_, .int .i64 o.stop]] w (MTrT E T w) := by
  have hb : Below w.heap.size w ((w.alloc (.cells #[.slice A1 L.length c1, .slice A2 M.length c2] 29)).alloc (.cells #[.int .i64 o.id, .int .i64 o.who, .int .i64 o.side, .int .i64 o.kind, .int .i64 o.price, .int .i64 o.qty, .int .i64 o.show_, .int .i64 o.stop] 36)) := below_then_alloc ((Below.refl _ _).alloc (Nat.le_refl _) _)
  have bb := (Bk.new w 29 #[.slice A1 L.length c1, .slice A2 M.length c2]).alloc (.cells #[.int .i64 o.id, .int .i64 o.who, .int .i64 o.side, .int .i64 o.kind, .int .i64 o.price, .int .i64 o.qty, .int .i64 o.show_, .int .i64 o.stop] 36)
  have bo := Bk.at_ (w := w.alloc (.cells #[.slice A1 L.length c1, .slice A2 M.length c2] 29)) (g' := w.heap.size + 1) (by simp) 36 #[.int .i64 o.id, .int .i64 o.who, .int .i64 o.side, .int .i64 o.kind, .int .i64 o.price, .int .i64 o.qty, .int .i64 o.show_, .int .i64 o.stop]
  have cD := Lib.hid (fun w' a b => mdo_out h A1 A2 c1 c2 w' a b hl1 hl2 hA1 hA2)
  have HL := Lib.hid h1; have HM := Lib.hid h2
  clear h h1 h2 hl1 hl2 hA1 hA2
  go_enter Tryd.func18, Tryd.ntmps18
  go_upto_region 1 with fail
  generalize (w.alloc (.cells #[.slice A1 L.length c1, .slice A2 M.length c2] 29)).alloc (.cells #[.int .i64 o.id, .int .i64 o.who, .int .i64 o.side, .int .i64 o.kind, .int .i64 o.price, .int .i64 o.qty, .int .i64 o.show_, .int .i64 o.stop] 36) = w0 at *
  obtain ⟨q0, q1⟩ := box2 bb
  obtain ⟨y0, y1, y2, y3, y4, y5, y6, y7⟩ := box8o bo
  go_wp2_with fail
  go_at_call 15
  refine (cD.out _ (HL.out.on hb) (HM.out.on hb)).mono ?_
  rintro e w1 ⟨B1, d1, B2, d2, AT, cT, rfl, hr, hb1⟩
  have hba : Below w1.heap.size w1 (w1.alloc (.cells #[.slice B1 K1.length d1, .slice B2 K2.length d2] 29)) := (Below.refl _ _).alloc (Nat.le_refl _) _
  have HF := Lib.hid (below_then (below_then hba hb1) hb)
  have HR := Lib.hid ((hr.out.2.2.below hba).more hba.size)
  clear hr hb1 hba hb bb bo cD q0 q1 y0 y1 y2 y3 y4 y5 y6 y7
  go_wp2
  go_ret2
  exact ⟨AT, cT, rfl, HR, HF.out⟩
/-- how the reference's Meet ends -/
def RMeetT (lo : Nat) (E : Int) (K1 K2 : List Lv) (T : List Trade) (left : Int) (w : World) (e : Ending) (w' : World) : Prop :=
  ∃ A1 c1 A2 c2 AT cT AW nW cW ends, e = .returned (.tuple #[.agg #[.slice A1 K1.length c1, .slice A2 K2.length c2, .slice AT T.length cT, .int .i64 left, .int .i64 0, .slice AW nW cW, .bool ends], .int .i64 E]) ∧ Hid (LvA lo w.heap.size w' A1 K1 ∧ LvA lo w.heap.size w' A2 K2 ∧ OwnS w' w.heap.size 6 AT T.length cT (trows T)) ∧ Below w.heap.size w w'
theorem RP.nil0 {P : Nat → Prop} {w : World} {A : Option Addr} {s : Nat} {xs : List Value} : RP P w A 0 s xs := fun h => absurd h (by simp)
theorem LvA.nil {lo n : Nat} {w : World} : LvA lo n w none [] := ⟨[], RP.nil0, LC.nil⟩
theorem rmeet_out {L M K1 K2 : List Lv} {o : Order} {E left : Int} {T : List Trade} (h : MO L M o E K1 K2 T left) (hr : readyE L M o = 0) (A1 A2 : Option Addr) (c1 c2 : Nat) (w : World) (lo : Nat) (hlo : lo ≤ w.heap.size) (h1 : RdLv w lo A1 L) (h2 : RdLv w lo A2 M) (k1 : L.length ≤ c1 ∧ c1 ≤ maxLen) (k2 : M.length ≤ c2 ∧ c2 ≤ maxLen) :
    Calls Tryd.prog 14 #[.agg #[.slice A1 L.length c1, .slice A2 M.length c2], .agg #[.int .i64 o.id, .int .i64 o.who, .int .i64 o.side, .int .i64 o.kind, .int .i64 o.price, .int .i64 o.qty, .int .i64 o.show_, .int .i64 o.stop], .int .i64 0] w (RMeetT lo E K1 K2 T left w) := by
  refine (rmeet_any L M o 0 A1 A2 c1 c2 w lo hlo h1 h2 (readyE_iff.1 hr).1 (readyE_iff.1 hr).2.1 k1 k2).mono ?_
  rintro e w' (⟨hn, rfl, hb⟩ | ⟨s, B1, d1, B2, d2, AT, cT, AW, cW, hs, hok, rfl, o1, o2, _, _, _, _, ot, _, hb⟩)
  · rcases h with ⟨h0, _⟩ | ⟨_, _, rfl, rfl, rfl, rfl, rfl⟩ | ⟨_, s, hs, _⟩
    · exact absurd hr h0
    · exact ⟨none, 0, none, 0, none, 0, none, 0, 0, false, rfl, Lib.hid ⟨LvA.nil, LvA.nil, OwnS.nil _ _ _ _⟩, hb⟩
    · rw [hn] at hs; cases hs
  · rcases h with ⟨h0, _⟩ | ⟨_, hn, _⟩ | ⟨_, s', hs', _, rfl, rfl, rfl, rfl, rfl⟩
    · exact absurd hr h0
    · rw [hn] at hs; cases hs
    · rw [hs] at hs'; cases hs'
      exact ⟨_, _, _, _, _, _, _, _, _, _, rfl, Lib.hid ⟨o1, o2, ot⟩, hb⟩
end Go.Proofs.YtbnjkcgkdpildaaDoor
