/- The contract of wire.Unpack. -/
import Derived.Test.YtodkhhanlhelnaaWireNx
import Derived.Test.YtodkhhanlhelnaaCmds
import Derived.Deep.CutBlock
import Derived.Deep.DeepCutAuto
namespace Go.Proofs.Ytodkhhanlhelnaa
set_option linter.all false
open Go Go.RowKit
/-- the commands of bytes: how many at most, those that are read -/
noncomputable def unRun : Nat → ByteArray → List Cmd → Option (List Cmd)
  | 0, _, _ => none
  | n + 1, b, out => if b.size = 0 then some out else match nxC b with
    | none => none
    | some (c, t) => if 400 ≤ out.length then none else unRun n t (out ++ [c])
noncomputable def unC (b : ByteArray) : Option (List Cmd) := unRun (b.size + 1) b []
theorem nx_less {b t : ByteArray} {c : Cmd} (h : nxC b = some (c, t)) : t.size < b.size ∧ t.size + 1 ≤ b.size ∧ b.size ≠ 0 := by
  unfold nxC at h
  split at h
  · cases h
  · rename_i h0
    split at h
    · cases h
    · cases h
      rw [ByteArray.size_extract]
      have : 1 ≤ nxE b := by unfold nxE; omega
      omega
theorem unRun_more : ∀ (n m : Nat) (b : ByteArray) (out : List Cmd), b.size < n → b.size < m → unRun n b out = unRun m b out
  | 0, _, _, _, h, _ => by omega
  | _ + 1, 0, _, _, _, h => by omega
  | n + 1, m + 1, b, out, h1, h2 => by
    unfold unRun
    split
    · rfl
    · cases hn : nxC b with
      | none => rfl
      | some x =>
        obtain ⟨c, t⟩ := x
        have := (nx_less hn).1
        dsimp only
        rw [unRun_more n m t _ (by omega) (by omega)]
theorem un_step {n : Nat} {b : ByteArray} {out : List Cmd} (h : b.size < n) (h0 : b.size ≠ 0) : unRun n b out = match nxC b with
    | none => none
    | some (c, t) => if 400 ≤ out.length then none else unRun n t (out ++ [c]) := by
  obtain ⟨m, rfl⟩ : ∃ m, n = m + 1 := ⟨n - 1, by omega⟩
  conv => lhs; unfold unRun
  rw [if_neg h0]
  cases hn : nxC b with
  | none => rfl
  | some x =>
    obtain ⟨c, t⟩ := x
    have := (nx_less hn).1
    dsimp only
    rw [unRun_more m (m + 1) t _ (by omega) (by omega)]
theorem un_end {n : Nat} {b : ByteArray} {out : List Cmd} (h : b.size < n) (h0 : b.size = 0) : unRun n b out = some out := by
  obtain ⟨m, rfl⟩ : ∃ m, n = m + 1 := ⟨n - 1, by omega⟩
  unfold unRun
  rw [if_pos h0]
/-- how Unpack ends -/
def UnPost (r : Option (List Cmd)) (w : World) (e : Ending) (w' : World) : Prop := match r with
  | none => e = .returned (.tuple #[.slice none 0 0, er 2]) ∧ Below w.heap.size w w'
  | some l => ∃ A c, e = .returned (.tuple #[.slice A l.length c, .nilIface]) ∧ OwnS w' w.heap.size 11 A l.length c (cmds l) ∧ l.length ≤ 400 ∧ Below w.heap.size w w'
theorem un_bad {r : Option (List Cmd)} {w w' : World} (h : r = none) (hb : Below w.heap.size w w') : UnPost r w (.returned (.tuple #[.slice none 0 0, er 2])) w' := by
  subst h; exact ⟨rfl, hb⟩
theorem un_good {r : Option (List Cmd)} {l : List Cmd} {A : Option Addr} {c n : Nat} {w w' : World} (h : r = some l) (hn : n = l.length) (ho : OwnS w' w.heap.size 11 A n c (cmds l)) (hl : l.length ≤ 400) (hb : Below w.heap.size w w') : UnPost r w (.returned (.tuple #[.slice A n c, .nilIface])) w' := by
  subst h; subst hn; exact ⟨A, c, rfl, ho, hl, hb⟩
set_option maxRecDepth 100000 in
set_option maxHeartbeats 4000000 in
theorem unpack_any (b : ByteArray) (hmx : b.size ≤ maxLen) (w : World) : Calls Try.prog 10 #[.string b] w (UnPost (unC b) w) := by
  obtain ⟨i0, hi, hz0, hz1, hz2⟩ := info_parts info_cmd
  have HI := Lib.hid hi; have H0 := Lib.hid hz0; have H1 := Lib.hid hz1; have H2 := Lib.hid hz2; clear hi hz0 hz1 hz2
  obtain ⟨r, hr⟩ : ∃ r, unC b = r := ⟨_, rfl⟩
  rw [hr]
  have HR := Lib.hid hr
  have HM := Lib.hid hmx
  clear hr hmx
  go_enter Try.func10, Try.ntmps10
  go_wp2
  go_loopw [0, 4] (fun s v wr => ∃ (t : ByteArray) (out : List Cmd) (A : Option Addr) (c : Nat), s = .string t ∧ v = .slice A out.length c ∧ out.length ≤ 400 ∧ t.size ≤ b.size ∧ Hid (unRun (b.size + 1) t out = r) ∧ OwnS wr w.heap.size 11 A out.length c (cmds out) ∧ Below w.heap.size w wr) (fun s _ _ => match s with | .string t => t.size | _ => 0)
  case atStart => exact ⟨b, [], none, 0, rfl, rfl, by simp, Nat.le_refl _, HR, OwnS.nil _ _ _ _, Below.refl _ _⟩
  case round =>
    obtain ⟨t, out, A, c, rfl, rfl, hl, ht, hu, hown, hb⟩ := hrel
    by_cases h0 : t.size = 0
    · have HE := Lib.hid (show r = some out by rw [← hu.out]; exact un_end (by omega) h0)
      obtain rfl := size0 h0
      clear h0
      go_wp2
      go_ret2
      exact un_good HE.out rfl hown hl hb
    have e1 : t.toList ≠ [] := toList_ne h0
    have e2 : t.toList.isEmpty = false := by simpa using e1
    have e3 : (t.toList == []) = false := by simpa using e1
    have cN := Lib.hid (fun w => next_any t (Nat.le_trans ht HM.out) w)
    have HS := Lib.hid (un_step (b := t) (out := out) (n := b.size + 1) (by omega) h0)
    cases hn : nxC t with
    | none =>
      rw [hn] at cN
      have HE := Lib.hid (show r = none by rw [← hu.out, HS.out, hn])
      clear hn h0
      go_wp2_with (go_at_call 24; refine (cN.out _).mono ?_; rintro e w1 ⟨rfl, hb1⟩)
      go_ret2
      refine un_bad HE.out ?_
      (repeat (first | exact Below.refl _ _ | assumption | (refine below_then (by assumption) ?_) | (refine below_then_alloc ?_) | (refine Below.drew ?_)))
    | some x =>
      obtain ⟨c', t'⟩ := x
      rw [hn] at cN
      change Hid (∀ w, Calls _ _ _ _ fun e w' => e = .returned (.tuple #[.agg c'.cells, .string t', .bool true]) ∧ Below w.heap.size w w') at cN
      have hless := nx_less hn
      have h5 := hless.1
      by_cases h4 : 400 ≤ out.length
      · have HE := Lib.hid (show r = none by rw [← hu.out, HS.out, hn]; dsimp only; rw [if_pos h4])
        have h4' : (400 : Int) ≤ (out.length : Int) := by omega
        clear hn h0 h4 hless
        go_wp2_with (go_at_call 24; refine (cN.out _).mono ?_; rintro e w1 ⟨rfl, hb1⟩)
        go_ret2
        refine un_bad HE.out ?_
        (repeat (first | exact Below.refl _ _ | assumption | (refine below_then (by assumption) ?_) | (refine below_then_alloc ?_) | (refine Below.drew ?_)))
      · have HE := Lib.hid (show unRun (b.size + 1) t' (out ++ [c']) = r by rw [← hu.out, HS.out, hn]; dsimp only; rw [if_neg h4])
        have h4' : ¬ (400 : Int) ≤ (out.length : Int) := by omega
        have hz := hb.size
        clear hn h0 h4 hless HS hu
        go_upto_region 6 with (go_at_call 24; refine (cN.out _).mono ?_; rintro e w1 ⟨rfl, hb1⟩)
        have b1 := Bk.new w1 25 c'.cells
        have ho1 := (hown.below hb1).alloc (.cells c'.cells 25)
        have hbb := below_then_alloc (o := .cells c'.cells 25) (below_then hb1 hb)
        have hgx : w.heap.size ≤ w1.heap.size := by have := hb1.size; omega
        clear hb1 hb hown cN
        generalize w1.alloc (.cells c'.cells 25) = w2 at *
        generalize w1.heap.size = gx at *
        obtain ⟨q0, q1, q2, q3, q4, q5, q6, q7, q8, q9, q10⟩ := box11 b1
        clear b1
        have HO := Lib.hid ho1
        have hz2 := hbb.size
        clear ho1
        go_wp2_with (at_builtin; go_loud (refine wpList_append_S (base := w.heap.size) (s := 11) rfl _ _ _ _ rfl 25 i0 _ 88 Try.underlying26 HI.out H0.out H1.out H2.out rfl rfl (HO.out.alloc _) (by simp; omega) _ rfl 1 c'.vals (src_block (m := 1) (Bk.at_ rfl 25 c'.cells) Try.underlying26 rfl c'.vals_one 1) (by unfold maxLen; omega) (by omega) ?_); intro A3 c3 w3 gr3)
        go_roundw
        case rel =>
          have hb3 := (below_then_alloc hbb).grown gr3.grown (below_then_alloc hbb).size (fun k hk => (HO.out.row_lt k hk).1)
          exact ⟨t', out ++ [c'], A3, c3, rfl, by rw [List.length_append]; rfl, by rw [List.length_append, List.length_singleton]; omega, by omega, HE, by rw [cmds_app, List.length_append]; exact gr3.own, hb3⟩
        case measure => exact h5
end Go.Proofs.Ytodkhhanlhelnaa
