/- What kinds.Do, self.Do give, whatever comes, in one form. -/
import Derived.Test.YtiaofbkhnodbhaaGrpO
import Derived.Test.YtiaofbkhnodbhaaGrpP
import Derived.Test.YtiaofbkhnodbhaaGrpK
import Derived.Test.YtiaofbkhnodbhaaGrpR
import Derived.Test.YtiaofbkhnodbhaaGrpQ
namespace Go.Proofs.Ytiaofbkhnodbhaa
set_option linter.all false
open Go Go.RowKit
theorem OwnS.rdI {w : World} {base cap : Nat} {A : Option Addr} {l : List Int} (h : OwnS w base 1 A l.length cap (irows l)) : RdI w w.heap.size A l := fun hn => by
  obtain ⟨b, off, e, _, hb, hc, _⟩ := h.cell hn
  refine ⟨b, off, e, hb, fun i p hi => ?_⟩
  have hil := (List.getElem?_eq_some_iff.1 hi).1
  rw [hc i (by omega)]
  simp [irows, hi]
theorem lv_short {L M : List Lv} (h : BookOk L M) : (L.length ≤ 60 ∧ ∀ x ∈ L, x.rs.length ≤ 60) ∧ (M.length ≤ 60 ∧ ∀ x ∈ M, x.rs.length ≤ 60) := ⟨h.buys.short, h.sells.short⟩
theorem KO.short {L M K1 K2 : List Lv} {o : Order} {mode E gone : Int} {T : List Trade} {W : List Int} (h : KO L M o mode E K1 K2 T gone W) : (K1.length ≤ 61 ∧ ∀ x ∈ K1, x.rs.length ≤ 61) ∧ (K2.length ≤ 61 ∧ ∀ x ∈ K2, x.rs.length ≤ 61) ∧ T.length ≤ 400 ∧ W.length ≤ 60 := by
  rcases h with ⟨_, _, rfl, rfl, rfl, _, rfl⟩ | ⟨_, _, _, rfl, rfl, rfl, _, rfl⟩ | ⟨hr, s, hs, hok, h⟩
  · simp
  · simp
  · have hw := hok.went
    rcases h with ⟨_, _, rfl, rfl, rfl, _, rfl⟩ | ⟨_, _, _, rfl, rfl, rfl, _, rfl⟩ | ⟨_, rfl, rfl, _, h⟩
    · simp
    · simp
    · have hb := met_book (readyE_iff.1 hr).1 (readyE_iff.1 hr).2.1 hs
      obtain ⟨⟨a1, a2⟩, b1, b2⟩ := lv_short hb
      have hvs : vs o.side = true := vs_of (Order.err_ok (readyE_iff.1 hr).2.1).2.2.1
      rcases h with ⟨_, rfl, rfl⟩ | ⟨_, _, rfl, rfl⟩
      · exact ⟨⟨by omega, fun x hx => by have := a2 x hx; omega⟩, ⟨by omega, fun x hx => by have := b2 x hx; omega⟩, hok.trades, by omega⟩
      · obtain ⟨d1, d2⟩ := cnt_put (p := o.price) (r := restOf o s.left) (L := kL o.side L s) (M := kM o.side M s) hvs
        have f1 := hb.buys.few; have f2 := hb.sells.few
        refine ⟨⟨?_, fun x hx => by have := len_cnt hx; omega⟩, ⟨?_, fun x hx => by have := len_cnt hx; omega⟩, hok.trades, by omega⟩
        · unfold putL; split
          · have := len_addL o.side o.price (restOf o s.left) (kL o.side L s); omega
          · omega
        · unfold putM; split
          · omega
          · have := len_addL o.side o.price (restOf o s.left) (kM o.side M s); omega
/-- what was given reads so -/
def GotK (E : Int) (K1 K2 : List Lv) (T : List Trade) (gone : Int) (W : List Int) (w' : World) (A1 : Option Addr) (n1 : Nat) (A2 : Option Addr) (n2 : Nat) (AT : Option Addr) (nT : Nat) (g : Int) (AW : Option Addr) (nW : Nat) (ev : Value) : Prop :=
  ev = errV E ∧ n1 = K1.length ∧ n2 = K2.length ∧ nT = T.length ∧ nW = W.length ∧ g = gone ∧ RdLv w' w'.heap.size A1 K1 ∧ RdLv w' w'.heap.size A2 K2 ∧ Rd w' w'.heap.size AT T.length 6 (tcell T) ∧ RdI w' w'.heap.size AW W
theorem er_errV {z : Int} (h : z ≠ 0) : er z = errV z := by rw [errV, if_neg h]
theorem gotk_zero {E : Int} {w' : World} {A1 A2 AT AW : Option Addr} {ev : Value} (h : ev = errV E) : GotK E [] [] [] 0 [] w' A1 0 A2 0 AT 0 0 AW 0 ev :=
  ⟨h, rfl, rfl, rfl, rfl, rfl, RdLv.nil, RdLv.nil, rd_nil6, fun h => absurd h (by simp)⟩
theorem KR.out {L M K1 K2 : List Lv} {o : Order} {mode E gone : Int} {T : List Trade} {W : List Int} (hko : KO L M o mode E K1 K2 T gone W) (hr : readyE L M o = 0) {base : Nat} {w' : World} {A1 A2 AT AW : Option Addr} {n1 c1 n2 c2 nT cT nW cW : Nat} {g : Int} {ev : Value}
    (h : KR (met L M o mode) (kOut o (pick o.side L M)) (fun s => putE (kL o.side L s) (kM o.side M s) o.side o.price (restOf o s.left)) o L M base w' A1 n1 c1 A2 n2 c2 AT nT cT g AW nW cW ev) :
    GotK E K1 K2 T gone W w' A1 n1 A2 n2 AT nT g AW nW ev := by
  rcases h with ⟨rfl, hn, rfl, rfl, rfl, rfl, rfl⟩ | ⟨s, hs, hok, ⟨hk, rfl, rfl, rfl, rfl, rfl, rfl⟩ | ⟨hk, hz, rfl, rfl, rfl, rfl, rfl, rfl⟩ | ⟨rfl, v1, v2, L', M', hk, rfl, rfl, rfl, rfl, rfl, o1, o2, o3, o4⟩⟩
  · rcases hko with ⟨h0, _⟩ | ⟨_, _, rfl, rfl, rfl, rfl, rfl, rfl⟩ | ⟨_, s, hs, _⟩
    · exact absurd hr h0
    · exact gotk_zero rfl
    · rw [hn] at hs; cases hs
  · rcases hko with ⟨h0, _⟩ | ⟨_, hn, _⟩ | ⟨_, s', hs', _, h3⟩
    · exact absurd hr h0
    · rw [hn] at hs; cases hs
    · rw [hs] at hs'; cases hs'
      rcases h3 with ⟨_, rfl, rfl, rfl, rfl, rfl, rfl⟩ | ⟨h4, _⟩ | ⟨_, _, _, _, ⟨h4, _⟩ | ⟨h4, _⟩⟩
      · exact gotk_zero (er_errV (by omega))
      · omega
      · omega
      · omega
  · rcases hko with ⟨h0, _⟩ | ⟨_, hn, _⟩ | ⟨_, s', hs', _, h3⟩
    · exact absurd hr h0
    · rw [hn] at hs; cases hs
    · rw [hs] at hs'; cases hs'
      rcases h3 with ⟨h4, _⟩ | ⟨_, h4, rfl, rfl, rfl, rfl, rfl, rfl⟩ | ⟨_, _, _, _, ⟨h4, _⟩ | ⟨_, h4, _⟩⟩
      · omega
      · exact gotk_zero (er_errV h4)
      · omega
      · exact absurd h4 hz
  · have hkk : kOut o (pick o.side L M) s ≤ 1 ∨ kOut o (pick o.side L M) s = 2 ∧ putE (kL o.side L s) (kM o.side M s) o.side o.price (restOf o s.left) = 0 := by
      rcases hk with ⟨h, _⟩ | ⟨h, h', _⟩
      · exact .inl h
      · exact .inr ⟨h, h'⟩
    obtain ⟨rfl, rfl, rfl, rfl, g1, g2⟩ := hko.good hr hs hkk
    have hKM : K1 = L' ∧ K2 = M' := by
      rcases hk with ⟨h, rfl, rfl⟩ | ⟨h, _, rfl, rfl⟩
      · exact g1 h
      · exact g2 h
    obtain ⟨rfl, rfl⟩ := hKM
    exact ⟨rfl, rfl, rfl, rfl, rfl, rfl, o1.rd, o2.rd, o3.rd (fun i j hi hj => trows_get hi hj), o4.rdI⟩
/-- how kinds.Do ends -/
def KDoT (E : Int) (K1 K2 : List Lv) (T : List Trade) (gone : Int) (w : World) (e : Ending) (w' : World) : Prop :=
  ∃ A1 c1 A2 c2 AT cT, e = .returned (.tuple #[.agg #[.slice A1 K1.length c1, .slice A2 K2.length c2], .slice AT T.length cT, .int .i64 gone, errV E]) ∧ Hid (RdLv w' w'.heap.size A1 K1 ∧ RdLv w' w'.heap.size A2 K2 ∧ Rd w' w'.heap.size AT T.length 6 (tcell T)) ∧ Below w.heap.size w w'
theorem kdo_out {L M K1 K2 : List Lv} {o : Order} {E gone : Int} {T : List Trade} {W : List Int} (h : KO L M o 0 E K1 K2 T gone W) (A1 A2 : Option Addr) (c1 c2 : Nat) (w : World) (h1 : RdLv w w.heap.size A1 L) (h2 : RdLv w w.heap.size A2 M) (hl1 : L.length ≤ maxLen) (hl2 : M.length ≤ maxLen) (hA1 : A1 = none → c1 = 0) (hA2 : A2 = none → c2 = 0) :
    Calls Try.prog 15 #[.agg #[.slice A1 L.length c1, .slice A2 M.length c2], .agg #[.int .i64 o.id, .int .i64 o.who, .int .i64 o.side, .int .i64 o.kind, .int .i64 o.price, .int .i64 o.qty, .int .i64 o.show_, .int .i64 o.stop]] w (KDoT E K1 K2 T gone w) := by
  refine (kdo_any L M o A1 A2 c1 c2 w h1 h2 hl1 hl2 hA1 hA2 _ rfl _ rfl _ rfl _ rfl (fun _ => putCon)).mono ?_
  rintro e w' ⟨B1, n1, d1, B2, n2, d2, AT, nT, cT, g, ev, rfl, hk, hb⟩
  have hg : ∃ AW nW, GotK E K1 K2 T gone W w' B1 n1 B2 n2 AT nT g AW nW ev := by
    rcases hk.out with ⟨hy, rfl, rfl, rfl, rfl, rfl⟩ | ⟨hy, AW, nW, cW, hk⟩
    · rcases h with ⟨_, rfl, rfl, rfl, rfl, rfl, rfl⟩ | ⟨h0, _⟩ | ⟨h0, _⟩
      · exact ⟨none, 0, gotk_zero (er_errV hy)⟩
      · exact absurd h0 hy
      · exact absurd h0 hy
    · exact ⟨AW, nW, hk.out h hy⟩
  obtain ⟨AW, nW, rfl, rfl, rfl, rfl, _, rfl, r1, r2, r3, _⟩ := hg
  exact ⟨_, _, _, _, _, _, rfl, Lib.hid ⟨r1, r2, r3⟩, hb⟩
end Go.Proofs.Ytiaofbkhnodbhaa
