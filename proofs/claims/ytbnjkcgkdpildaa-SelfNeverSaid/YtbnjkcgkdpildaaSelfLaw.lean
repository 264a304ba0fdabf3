/- Nobody trades with oneself: plain, and the contracts of kinds.Do and self.Do where all is well. -/
import Derived.Test.YtbnjkcgkdpildaaKDoLaw
import Derived.Test.YtbnjkcgkdpildaaSelfDo
namespace Go.Proofs.Ytbnjkcgkdpildaa
set_option linter.all false
open Go Go.RowKit
/-- none of a trader's own -/
def NoOwn (o : Order) (L : List Lv) : Prop := ∀ x ∈ L, ∀ r ∈ x.rs, r.who ≠ o.who
theorem mStep_same {o : Order} {mode : Int} {s : MSt} (h : MOk s) (hg : mGo o s = true) (hn : NoOwn o s.L) : mStep o mode s = mStep o 0 s ∧ NoOwn o (mStep o 0 s).L := by
  obtain ⟨p, r, t, L, hL, hm, hl, he, hw⟩ := mStep_way (mode := mode) h hg
  obtain ⟨p', r', t', L', hL', _, _, _, hw'⟩ := mStep_way (mode := 0) h hg
  rw [hL] at hL'
  cases hL'
  have hr : r.who ≠ o.who := hn _ (by rw [hL]; exact List.mem_cons_self ..) r (List.mem_cons_self ..)
  rcases hw with ⟨h1, _⟩ | ⟨h1, _⟩ | ⟨_, e⟩
  · exact absurd h1 hr
  · exact absurd h1 hr
  · rcases hw' with ⟨h1, _⟩ | ⟨h1, _⟩ | ⟨_, e'⟩
    · exact absurd h1 hr
    · exact absurd h1 hr
    · refine ⟨by rw [e, e'], ?_⟩
      rw [e']
      intro x hx q hq
      dsimp only at hx
      rcases mCut_mem hx with ⟨rfl, _⟩ | hx
      · obtain ⟨y, hy, _, e4⟩ := first_from q hq
        rw [← e4]
        exact hn _ (by rw [hL]; exact List.mem_cons_self ..) y hy
      · exact hn x (by rw [hL]; exact List.mem_cons_of_mem _ hx) q hq
theorem mRun_same {o : Order} {mode : Int} : ∀ (n : Nat) (s : MSt), MOk s → NoOwn o s.L → mRun o mode n s = mRun o 0 n s
  | 0, _, _, _ => rfl
  | n + 1, s, h, hn => by
    cases hg : mGo o s with
    | false => rw [mRun_stop hg, mRun_stop hg]
    | true =>
      obtain ⟨e, hn2⟩ := mStep_same (mode := mode) h hg hn
      rw [mRun_go hg, mRun_go hg, e]
      by_cases ht : 400 < (mStep o 0 s).T.length
      · rw [if_pos ht, if_pos ht]
      · rw [if_neg ht, if_neg ht]
        exact mRun_same n _ (mStep_ok2 h hg (by omega)) hn2
theorem met_same {L M : List Lv} {o : Order} {mode : Int} (hb : BookOk L M) (ho : o.err = 0) (hn : NoOwn o (pick o.side L M)) : met L M o mode = met L M o 0 := mRun_same _ _ (MOk.start hb ho) hn
/-- the book that comes of it -/
def KWay (L M : List Lv) (o : Order) (s : MSt) (L' M' : List Lv) : Prop :=
  kOut o (pick o.side L M) s ≤ 1 ∧ L' = kL o.side L s ∧ M' = kM o.side M s ∨ kOut o (pick o.side L M) s = 2 ∧ putE (kL o.side L s) (kM o.side M s) o.side o.price (restOf o s.left) = 0 ∧ L' = putL o.side o.price (restOf o s.left) (kL o.side L s) ∧ M' = putM o.side o.price (restOf o s.left) (kM o.side M s)
theorem KWay.uniq {L M L1 M1 L2 M2 : List Lv} {o : Order} {s : MSt} (h : KWay L M o s L1 M1) (h2 : KWay L M o s L2 M2) : L1 = L2 ∧ M1 = M2 := by
  rcases h with ⟨a, rfl, rfl⟩ | ⟨a, _, rfl, rfl⟩
  · rcases h2 with ⟨_, rfl, rfl⟩ | ⟨b, _⟩
    · exact ⟨rfl, rfl⟩
    · omega
  · rcases h2 with ⟨b, _⟩ | ⟨_, _, rfl, rfl⟩
    · omega
    · exact ⟨rfl, rfl⟩
def kGone (L M : List Lv) (o : Order) (s : MSt) : Int := if kOut o (pick o.side L M) s = 1 then s.left else 0
/-- how Do ends where all is well -/
def WayPost (s : MSt) (g : Int) (L' M' : List Lv) (w : World) (e : Ending) (w' : World) : Prop :=
  ∃ A1 c1 v1 A2 c2 v2 AT cT, e = .returned (.tuple #[.agg #[.slice A1 L'.length c1, .slice A2 M'.length c2], .slice AT s.T.length cT, .int .i64 g, .nilIface]) ∧ Hid (OwnLv w' w.heap.size A1 c1 L' v1 ∧ OwnLv w' w.heap.size A2 c2 M' v2 ∧ OwnS w' w.heap.size 6 AT s.T.length cT (trows s.T)) ∧ Below w.heap.size w w'
def SWayPost (s : MSt) (g : Int) (L' M' : List Lv) (w : World) (e : Ending) (w' : World) : Prop :=
  ∃ A1 c1 v1 A2 c2 v2 AT cT AW cW, e = .returned (.tuple #[.agg #[.slice A1 L'.length c1, .slice A2 M'.length c2], .slice AT s.T.length cT, .int .i64 g, .slice AW s.W.length cW, .nilIface]) ∧ Hid (OwnLv w' w.heap.size A1 c1 L' v1 ∧ OwnLv w' w.heap.size A2 c2 M' v2 ∧ OwnS w' w.heap.size 6 AT s.T.length cT (trows s.T)) ∧ Below w.heap.size w w'
theorem KR.way {L M L' M' : List Lv} {o : Order} {s : MSt} {base : Nat} {w' : World} {A1 A2 AT AW : Option Addr} {n1 c1 n2 c2 nT cT nW cW : Nat} {gone : Int} {ev : Value}
    (h : KR (some s) (kOut o (pick o.side L M)) (fun s => putE (kL o.side L s) (kM o.side M s) o.side o.price (restOf o s.left)) o L M base w' A1 n1 c1 A2 n2 c2 AT nT cT gone AW nW cW ev) (hw : KWay L M o s L' M') :
    ev = .nilIface ∧ n1 = L'.length ∧ n2 = M'.length ∧ nT = s.T.length ∧ nW = s.W.length ∧ gone = kGone L M o s ∧ (∃ v1 v2, OwnLv w' base A1 c1 L' v1 ∧ OwnLv w' base A2 c2 M' v2) ∧ OwnS w' base 6 AT s.T.length cT (trows s.T) := by
  rcases h with ⟨_, h, _⟩ | ⟨s', e1, _, h0 | h0 | ⟨rfl, v1, v2, L2, M2, hw2, rfl, rfl, rfl, rfl, rfl, o1, o2, ot, _⟩⟩
  · cases h
  · cases e1
    exfalso
    rcases hw with h | h
    · have := h.1; have := h0.1; omega
    · have := h.1; have := h0.1; omega
  · cases e1
    exfalso
    rcases hw with h | h
    · have := h.1; have := h0.1; omega
    · exact h0.2.1 h.2.1
  · cases e1
    obtain ⟨rfl, rfl⟩ := KWay.uniq hw hw2
    exact ⟨rfl, rfl, rfl, rfl, rfl, rfl, ⟨v1, v2, o1, o2⟩, ot⟩
theorem kdo_way {L M L' M' : List Lv} {o : Order} {s : MSt} {A1 A2 : Option Addr} {c1 c2 : Nat} {w : World} (h1 : RdLv w w.heap.size A1 L) (h2 : RdLv w w.heap.size A2 M) (hl1 : L.length ≤ maxLen) (hl2 : M.length ≤ maxLen) (hA1 : A1 = none → c1 = 0) (hA2 : A2 = none → c2 = 0)
    (hr : readyE L M o = 0) (hs : met L M o 0 = some s) (hw : KWay L M o s L' M') : Calls Try.prog 28 #[.agg #[.slice A1 L.length c1, .slice A2 M.length c2], .agg #[.int .i64 o.id, .int .i64 o.who, .int .i64 o.side, .int .i64 o.kind, .int .i64 o.price, .int .i64 o.qty, .int .i64 o.show_, .int .i64 o.stop]] w (WayPost s (kGone L M o s) L' M' w) := by
  refine (kdo_any L M o A1 A2 c1 c2 w h1 h2 hl1 hl2 hA1 hA2 0 hr.symm (some s) hs.symm _ rfl _ rfl (fun _ => putCon)).mono ?_
  rintro e w' ⟨B1, n1, d1, B2, n2, d2, AT, nT, cT, gone, ev, rfl, hK, hb⟩
  rcases hK.out with ⟨hy, _⟩ | ⟨_, AW, nW, cW, hK⟩
  · exact absurd rfl hy
  obtain ⟨rfl, rfl, rfl, rfl, rfl, rfl, ⟨v1, v2, o1, o2⟩, ot⟩ := hK.way hw
  exact ⟨_, _, v1, _, _, v2, _, _, rfl, Lib.hid ⟨o1, o2, ot⟩, hb⟩
theorem sdo_way {L M L' M' : List Lv} {o : Order} {mode : Int} {s : MSt} {A1 A2 : Option Addr} {c1 c2 : Nat} {w : World} (h1 : RdLv w w.heap.size A1 L) (h2 : RdLv w w.heap.size A2 M) (hl1 : L.length ≤ maxLen) (hl2 : M.length ≤ maxLen) (hA1 : A1 = none → c1 = 0) (hA2 : A2 = none → c2 = 0)
    (hm : inb mode 0 3 = true) (hr : readyE L M o = 0) (hs : met L M o mode = some s) (hw : KWay L M o s L' M') : Calls Try.prog 29 #[.agg #[.slice A1 L.length c1, .slice A2 M.length c2], .agg #[.int .i64 o.id, .int .i64 o.who, .int .i64 o.side, .int .i64 o.kind, .int .i64 o.price, .int .i64 o.qty, .int .i64 o.show_, .int .i64 o.stop], .int .i64 mode] w (SWayPost s (kGone L M o s) L' M' w) := by
  refine (sdo_any L M o mode A1 A2 c1 c2 w h1 h2 hl1 hl2 hA1 hA2 true hm.symm 0 hr.symm (some s) hs.symm _ rfl _ rfl (fun _ => putCon)).mono ?_
  rintro e w' ⟨B1, n1, d1, B2, n2, d2, AT, nT, cT, gone, AW, nW, cW, ev, rfl, hK, hb⟩
  rcases hK.out with ⟨h, _⟩ | ⟨_, h, _⟩ | ⟨_, _, hK⟩
  · cases h
  · exact absurd rfl h
  obtain ⟨rfl, rfl, rfl, rfl, rfl, rfl, ⟨v1, v2, o1, o2⟩, ot⟩ := hK.way hw
  exact ⟨_, _, v1, _, _, v2, _, _, _, _, rfl, Lib.hid ⟨o1, o2, ot⟩, hb⟩
/-- what self.Do gave, as laws want it -/
def SGave (L M : List Lv) (o : Order) (mode : Int) (base : Nat) (w' : World) (n1 n2 : Nat) (AT : Option Addr) (nT cT : Nat) (gone : Int) (nW : Nat) (ev : Value) : Prop :=
  (∃ z, z ≠ 0 ∧ ev = er z) ∨ (ev = .nilIface ∧ inb mode 0 3 = true ∧ readyE L M o = 0 ∧ ∃ s L' M', met L M o mode = some s ∧ MOk s ∧ KWay L M o s L' M' ∧ n1 = L'.length ∧ n2 = M'.length ∧ nT = s.T.length ∧ nW = s.W.length ∧ gone = kGone L M o s ∧ OwnS w' base 6 AT s.T.length cT (trows s.T))
def SDoLaw (L M : List Lv) (o : Order) (mode : Int) (w : World) (e : Ending) (w' : World) : Prop :=
  ∃ A1 n1 c1 A2 n2 c2 AT nT cT gone AW nW cW ev, e = .returned (.tuple #[.agg #[.slice A1 n1 c1, .slice A2 n2 c2], .slice AT nT cT, .int .i64 gone, .slice AW nW cW, ev]) ∧ Hid (SGave L M o mode w.heap.size w' n1 n2 AT nT cT gone nW ev) ∧ Below w.heap.size w w'
theorem sdo_law (L M : List Lv) (o : Order) (mode : Int) (A1 A2 : Option Addr) (c1 c2 : Nat) (w : World) (h1 : RdLv w w.heap.size A1 L) (h2 : RdLv w w.heap.size A2 M) (hl1 : L.length ≤ maxLen) (hl2 : M.length ≤ maxLen) (hA1 : A1 = none → c1 = 0) (hA2 : A2 = none → c2 = 0) :
    Calls Try.prog 29 #[.agg #[.slice A1 L.length c1, .slice A2 M.length c2], .agg #[.int .i64 o.id, .int .i64 o.who, .int .i64 o.side, .int .i64 o.kind, .int .i64 o.price, .int .i64 o.qty, .int .i64 o.show_, .int .i64 o.stop], .int .i64 mode] w (SDoLaw L M o mode w) := by
  obtain ⟨R, hR⟩ : ∃ R, R = met L M o mode := ⟨_, rfl⟩
  refine (sdo_any L M o mode A1 A2 c1 c2 w h1 h2 hl1 hl2 hA1 hA2 _ rfl _ rfl R hR _ rfl _ rfl (fun _ => putCon)).mono ?_
  rintro e w' ⟨B1, n1, d1, B2, n2, d2, AT, nT, cT, gone, AW, nW, cW, ev, rfl, hK, hb⟩
  refine ⟨_, _, _, _, _, _, _, _, _, _, _, _, _, _, rfl, Lib.hid ?_, hb⟩
  rcases hK.out with ⟨_, rfl, _⟩ | ⟨_, hy, rfl, _⟩ | ⟨hm, hy, hK⟩
  · exact .inl ⟨1, by decide, rfl⟩
  · exact .inl ⟨_, hy, rfl⟩
  rcases hK with ⟨rfl, _⟩ | ⟨s, hs, hok, ⟨h0, rfl, _⟩ | ⟨_, h0, rfl, _⟩ | ⟨rfl, v1, v2, L', M', hw, rfl, rfl, rfl, rfl, rfl, o1, o2, ot, _⟩⟩
  · exact .inl ⟨4, by decide, rfl⟩
  · refine .inl ⟨_, ?_, rfl⟩
    rcases h0 with h | h <;> rw [h] <;> decide
  · exact .inl ⟨_, h0, rfl⟩
  · rw [hR] at hs
    exact .inr ⟨rfl, hm, hy, s, L', M', hs, hok, hw, rfl, rfl, rfl, rfl, rfl, ot⟩
end Go.Proofs.Ytbnjkcgkdpildaa
