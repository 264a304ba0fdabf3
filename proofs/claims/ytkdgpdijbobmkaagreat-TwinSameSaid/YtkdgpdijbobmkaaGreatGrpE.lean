/- Levels of a side, as they lie in memory. A map of the call's own whose elements are bools: the look-up; ids that have been seen. The contract of side.Twice. What is wrong with a side: plain. The contract of side.Check. The cells of levels, as they are copied. -/
import Derived.Test.YtkdgpdijbobmkaaGreatGrpB
import Derived.Test.YtkdgpdijbobmkaaGreatGrpA
import Derived.Maps.OwnOps
import Derived.Maps.Views
import Derived.BigQuiet
import Derived.Deep.QuietTactic
import Derived.Test.YtkdgpdijbobmkaaGreatGrpC
namespace Go.Proofs.YtkdgpdijbobmkaaGreat
set_option linter.all false
open Go Go.RowKit
structure Lv where
  price : Int
  rs : List Rest
  deriving DecidableEq
/-- a slice of levels reads as L: all of it below block B -/
def RdLv (w : World) (B : Nat) (A : Option Addr) (L : List Lv) : Prop :=
  0 < L.length → ∃ b off, A = some ⟨b, off, none⟩ ∧ b < B ∧ ∀ i x, L[i]? = some x → w.cell? ⟨b, off + i * 2, none⟩ = some (.int .i64 x.price) ∧
    ∃ Ar cr, w.cell? ⟨b, off + i * 2 + 1, none⟩ = some (.slice Ar x.rs.length cr) ∧ x.rs.length ≤ cr ∧ cr ≤ maxLen ∧ Rd w B Ar x.rs.length 5 (rcell x.rs)
section
variable {w w' : World} {B B' : Nat} {A : Option Addr} {L : List Lv}
theorem RdLv.nil : RdLv w B A [] := fun h => absurd h (by simp)
theorem RdLv.more (h : RdLv w B A L) (hB : B ≤ B') : RdLv w B' A L := fun hn => by
  obtain ⟨b, off, e, hb, hc⟩ := h hn
  refine ⟨b, off, e, by omega, fun i x hx => ?_⟩
  obtain ⟨h1, Ar, cr, h2, h3, h4, h5⟩ := hc i x hx
  exact ⟨h1, Ar, cr, h2, h3, h4, h5.more hB⟩
theorem RdLv.below (h : RdLv w B A L) (hb : Below B w w') : RdLv w' B A L := fun hn => by
  obtain ⟨b, off, e, hbl, hc⟩ := h hn
  refine ⟨b, off, e, hbl, fun i x hx => ?_⟩
  obtain ⟨h1, Ar, cr, h2, h3, h4, h5⟩ := hc i x hx
  exact ⟨(hb.cell (p := ⟨b, _, none⟩) hbl).trans h1, Ar, cr, (hb.cell (p := ⟨b, _, none⟩) hbl).trans h2, h3, h4, h5.below hb⟩
theorem RdLv.on (h : RdLv w w.heap.size A L) (hb : Below w.heap.size w w') : RdLv w' w'.heap.size A L := (h.below hb).more hb.size
theorem lv_at (hr : RdLv w B A L) {k : Nat} (hk : k < L.length) :
    ∃ b off x Ar cr, A = some ⟨b, off, none⟩ ∧ b < B ∧ L[k]? = some x ∧ w.cell? ⟨b, off + k * 2, none⟩ = some (.int .i64 x.price) ∧ w.cell? ⟨b, off + k * 2 + 1, none⟩ = some (.slice Ar x.rs.length cr) ∧ x.rs.length ≤ cr ∧ cr ≤ maxLen ∧ Rd w B Ar x.rs.length 5 (rcell x.rs) := by
  obtain ⟨b, off, e, hb, hc⟩ := hr (by omega)
  obtain ⟨h1, Ar, cr, h2, h3, h4, h5⟩ := hc k L[k] (List.getElem?_eq_getElem hk)
  exact ⟨b, off, L[k], Ar, cr, e, hb, List.getElem?_eq_getElem hk, h1, h2, h3, h4, h5⟩
end
/-- how many rests -/
def cnt (L : List Lv) : Nat := (L.map fun x => x.rs.length).sum
/-- their ids -/
def ids (L : List Lv) : List Int := L.flatMap fun x => x.rs.map Rest.id
theorem cnt_take {L : List Lv} {k : Nat} {x : Lv} (h : L[k]? = some x) : cnt (L.take (k + 1)) = cnt (L.take k) + x.rs.length := by
  rw [List.take_add_one, h]; simp [cnt]
theorem cnt_le (L : List Lv) (k : Nat) : cnt (L.take k) ≤ cnt L := by
  have : cnt L = cnt (L.take k) + cnt (L.drop k) := by
    unfold cnt
    rw [← List.sum_append, ← List.map_append, List.take_append_drop]
  omega
theorem ids_take {L : List Lv} {k : Nat} {x : Lv} (h : L[k]? = some x) : ids (L.take (k + 1)) = ids (L.take k) ++ x.rs.map Rest.id := by
  rw [List.take_add_one, h]; simp [ids]
theorem ids_len (L : List Lv) : (ids L).length = cnt L := by simp [ids, cnt, List.length_flatMap]
/-- the first id that is there twice -/
def twice : List Int → List Int → Bool
  | _, [] => false
  | seen, x :: r => seen.contains x || twice (seen ++ [x]) r
set_option maxHeartbeats 1000000 in
theorem count_any (L : List Lv) (A : Option Addr) (c : Nat) (w : World) (hr : RdLv w w.heap.size A L) (hL : L.length ≤ maxLen) (hc : cnt L ≤ maxLen) :
    Calls Tryz.prog 56 #[.slice A L.length c] w fun e w' => e = .returned (.int .i64 (cnt L)) ∧ Below w.heap.size w w' := by
  have HR := Lib.hid hr
  unfold maxLen at hL hc
  clear hr
  go_enter Tryz.func56, Tryz.ntmps56
  go_wp2
  go_loopw [3, 8] (fun n i wr => ∃ k : Nat, k ≤ L.length ∧ i = .int .i64 k ∧ n = .int .i64 (cnt (L.take k)) ∧ Below w.heap.size w wr) (fun _ i _ => L.length - (intOf i).toNat)
  case atStart => exact ⟨0, by omega, rfl, rfl, Below.refl _ _⟩
  case round =>
    obtain ⟨k, hk, rfl, rfl, hb⟩ := hrel
    by_cases hlt : k < L.length
    · obtain ⟨b, off, x, Ar, cr, rfl, hbl, hx, e0, e1, _, _, _⟩ := lv_at (HR.out.below hb) hlt
      have hs := cnt_take hx
      have hle := cnt_le L (k + 1)
      rw [hs] at hle
      have HS := Lib.hid hs
      clear hs hx
      generalize cnt (L.take k) = a at *
      generalize x.rs.length = m at *
      have x3 : IntKind.i64.wrap ((a : Int) + (m : Int)) = (a : Int) + (m : Int) := IntWalk.i64_in _ (by omega)
      go_wp2
      go_roundw
      case rel => exact ⟨k + 1, by omega, by go_num, by rw [HS.out]; simp, below_then_alloc hb⟩
      case measure => simp [intOf]; omega
    · obtain rfl : k = L.length := by omega
      rw [List.take_length]
      go_wp2
      go_ret
      exact ⟨rfl, hb⟩
end Go.Proofs.YtkdgpdijbobmkaaGreat
namespace Go.Proofs.YtkdgpdijbobmkaaGreat
set_option linter.all false
open Go Go.Maps
theorem plainElem_bool_inv {H : Type} {P : Program} {e : TypeId} (he : P.underlying e = some .bool) {v : Value} {z : DataW H × List MemPlace} (h : plainElem P e v = some z) : ∃ a, v = .bool a ∧ z = (.lit (.bool a), []) := by
  unfold plainElem at h
  rw [he] at h
  cases v <;> simp at h
  exact ⟨_, rfl, h.symm⟩
theorem wpList_lookup_own_bool {H : Type} {P : Program} (w : World) {ops : Array Oper} {rest : List Oper} {o : Oper} {a : Act} {Q : Exit → Act → World → Prop}
    (hg : o.guard = none) (m x : Operand) (t : TypeId) (hop : o.op = Op.lookup t m x false)
    (k e : TypeId) (K : Keyed P k) (ht : P.underlying t = some (.map k e)) (he : P.underlying e = some .bool) (hz : (zeroValue e).run P w = .ok (.bool false) w) (b n : Nat) (D : DataW H)
    (hm : a.eval m = .map (some b)) (hown : w.ownsMap P k (plainElem P e) b n D) (key : Value) (kl : Lit) (hx : a.eval x = key) (hkey : keyOf P k key = some kl)
    (c : Bool) (hc : D.atKey kl (.lit (.bool false)) = .lit (.bool c))
    (hK : wpList P ops Q rest (a.put o.dst (.bool c)) w) :
    wpList P ops Q (o :: rest) a w := by
  refine wpList_plain hg fun K' hK' => ?_
  obtain ⟨v, ps, hrun, hv⟩ := hown.lookup K ht hz (plainElem_bool he false) hkey
  obtain ⟨c', rfl, hc'⟩ := plainElem_bool_inv he hv
  simp only [Prod.mk.injEq] at hc'
  have hcc := hc'.1.symm.trans hc
  simp only [DataW.lit.injEq, Lit.bool.injEq] at hcc
  subst hcc
  unfold Oper.wp
  simp [execOp, hop, hm, hx, hrun, Result.andThen]
  exact hK' _ _ hK
/-- a set of ids, each put to true -/
def SeenD (l : List Int) : DataW Unit := l.foldl (fun D x => D.put (.int .i64 x) (.lit (.bool true))) (.map [])
theorem SeenD_snoc (l : List Int) (x : Int) : SeenD (l ++ [x]) = (SeenD l).put (.int .i64 x) (.lit (.bool true)) := by simp [SeenD]
theorem SeenD_map (l : List Int) : IsMap (SeenD l) := by
  suffices H : ∀ (l : List Int) (D : DataW Unit), IsMap D → IsMap (l.foldl (fun D x => D.put (.int .i64 x) (.lit (.bool true))) D) from H l _ isMap_empty
  intro l
  induction l with
  | nil => intro D h; exact h
  | cons x l ih => intro D h; exact ih _ (h.put _ _)
theorem SeenD_at (l : List Int) (x : Int) : (SeenD l).atKey (.int .i64 x) (.lit (.bool false)) = .lit (.bool (l.contains x)) := by
  suffices H : ∀ (r : List Int), (SeenD r.reverse).atKey (.int .i64 x) (.lit (.bool false)) = .lit (.bool (r.contains x)) by
    have := H l.reverse
    rw [List.reverse_reverse] at this
    rw [this]
    congr 2
    simp [Bool.eq_iff_iff]
  intro r
  induction r with
  | nil => rfl
  | cons y r ih =>
    rw [List.reverse_cons, SeenD_snoc]
    by_cases h : x = y
    · subst h
      rw [atKey_put_same (SeenD_map _) (by trivial)]
      simp
    · rw [atKey_put_other (by intro e; exact h (by cases e; rfl)), ih]
      simp [h]
end Go.Proofs.YtkdgpdijbobmkaaGreat
namespace Go.Proofs.YtkdgpdijbobmkaaGreat
set_option linter.all false
open Go Go.RowKit Go.Maps
theorem twice_app : ∀ (a s b : List Int), twice s (a ++ b) = (twice s a || twice (s ++ a) b) := by
  intro a
  induction a with
  | nil => intro s b; simp [twice]
  | cons x a ih =>
    intro s b
    simp only [List.cons_append, twice, ih, Bool.or_assoc, List.append_assoc, List.singleton_append, List.nil_append]
theorem twice_hit {S r : List Int} {x : Int} (h : S.contains x = true) : twice [] (S ++ x :: r) = true := by
  rw [twice_app, List.nil_append, twice, h]
  simp
theorem twice_no {S : List Int} {x : Int} (h0 : twice [] S = false) (h : S.contains x = false) : twice [] (S ++ [x]) = false := by
  rw [twice_app, h0, List.nil_append, twice, h]
  rfl
theorem ids_split {L : List Lv} {k q : Nat} {x : Lv} {r : Rest} (hx : L[k]? = some x) (hr : x.rs[q]? = some r) : ∃ z, ids L = (ids (L.take k) ++ (x.rs.take q).map Rest.id) ++ r.id :: z := by
  have hk : k < L.length := by
    rcases Nat.lt_or_ge k L.length with h | h
    · exact h
    · rw [List.getElem?_eq_none h] at hx; cases hx
  have hq : q < x.rs.length := by
    rcases Nat.lt_or_ge q x.rs.length with h | h
    · exact h
    · rw [List.getElem?_eq_none h] at hr; cases hr
  rw [List.getElem?_eq_getElem hk] at hx
  rw [List.getElem?_eq_getElem hq] at hr
  have hx := Option.some.inj hx
  have hr := Option.some.inj hr
  refine ⟨(x.rs.drop (q + 1)).map Rest.id ++ ids (L.drop (k + 1)), ?_⟩
  have e1 : L = L.take k ++ x :: L.drop (k + 1) := by
    conv => lhs; rw [← List.take_append_drop k L]
    rw [List.drop_eq_getElem_cons hk, hx]
  have e2 : x.rs = x.rs.take q ++ r :: x.rs.drop (q + 1) := by
    conv => lhs; rw [← List.take_append_drop q x.rs]
    rw [List.drop_eq_getElem_cons hq, hr]
  have e3 : ids L = ids (L.take k) ++ (x.rs.map Rest.id ++ ids (L.drop (k + 1))) := by
    conv => lhs; rw [e1]
    simp [ids]
  have e4 : x.rs.map Rest.id = (x.rs.take q).map Rest.id ++ r.id :: (x.rs.drop (q + 1)).map Rest.id := by
    conv => lhs; rw [e2]
    simp
  rw [e3, e4]
  simp [List.append_assoc]
theorem ids_in {L : List Lv} {k : Nat} {x : Lv} {q : Nat} {r : Rest} (hx : L[k]? = some x) (hr : x.rs[q]? = some r) : r.id ∈ ids L := by
  obtain ⟨z, h⟩ := ids_split hx hr
  rw [h]; simp
theorem rest_take {l : List Rest} {q : Nat} {r : Rest} (h : l[q]? = some r) : (l.take (q + 1)).map Rest.id = (l.take q).map Rest.id ++ [r.id] := by
  rw [List.take_add_one, h]; simp
theorem int_law : Keyed Tryz.prog 3 := int_keyed Tryz.underlying3
theorem zero_bool (w : World) : (zeroValue 4).run Tryz.prog w = .ok (.bool false) w := by kernel_rfl
set_option maxRecDepth 100000 in
set_option maxHeartbeats 1000000 in
theorem twice_any (L : List Lv) (A : Option Addr) (c : Nat) (w : World) (hr : RdLv w w.heap.size A L) (hL : L.length ≤ maxLen) (hc : cnt L ≤ maxLen) (hid : ∀ i ∈ ids L, 1 ≤ i ∧ i ≤ 9999) (hcap : ∀ x ∈ L, x.rs.length ≤ maxLen) :
    Calls Tryz.prog 82 #[.slice A L.length c] w fun e w' => e = .returned (.bool (twice [] (ids L))) ∧ Below w.heap.size w w' := by
  have HR := Lib.hid hr; have HID := Lib.hid hid; have HC := Lib.hid hc; have HCAP := Lib.hid hcap
  unfold maxLen at hL
  clear hr hid hc hcap
  have hmm := @run_makeMap Tryz.prog
  go_enter Tryz.func82, Tryz.ntmps82
  go_wp2_with fail
  clear hmm
  go_loopw [11] (fun i wr => ∃ k : Nat, k ≤ L.length ∧ i = .int .i64 k ∧ wr.ownsMap Tryz.prog 3 (plainElem (H := Unit) Tryz.prog 4) w.heap.size (ids (L.take k)).length (SeenD (ids (L.take k))) ∧ Hid (twice [] (ids (L.take k)) = false) ∧ Below w.heap.size w wr) (fun i _ => L.length - (intOf i).toNat)
  case atStart => exact ⟨0, by omega, rfl, World.ownsMap_made _ _ _ _, Lib.hid rfl, (Below.refl _ _).alloc (Nat.le_refl _) _⟩
  case round =>
    obtain ⟨k, hk, rfl, hown, htw, hb⟩ := hrel
    by_cases hlt : k < L.length
    · obtain ⟨b, off, x, Ar, cr, rfl, hbl, hx, e0, e1, g1, g2, hrr⟩ := lv_at HR.out hlt
      replace e0 := (hb.cell (p := ⟨b, _, none⟩) hbl).trans e0
      replace e1 := (hb.cell (p := ⟨b, _, none⟩) hbl).trans e1
      have hxl := HCAP.out x (List.mem_of_getElem? hx)
      unfold maxLen at hxl
      have HX := Lib.hid hx
      have HRR := Lib.hid hrr
      have HOWN := Lib.hid hown
      clear hx hrr g1 g2 hown
      go_wp2_with fail
      go_loopw [18] (fun j w2 => ∃ q : Nat, q ≤ x.rs.length ∧ j = .int .i64 q ∧ Hid (w2.ownsMap Tryz.prog 3 (plainElem (H := Unit) Tryz.prog 4) w.heap.size (ids (L.take k) ++ (x.rs.take q).map Rest.id).length (SeenD (ids (L.take k) ++ (x.rs.take q).map Rest.id))) ∧ Hid (twice [] (ids (L.take k) ++ (x.rs.take q).map Rest.id) = false) ∧ Below w.heap.size w w2) (fun j _ => x.rs.length - (intOf j).toNat)
      case atStart =>
        refine ⟨0, by omega, rfl, Lib.hid ?_, Lib.hid ?_, below_then_alloc hb⟩
        · rw [List.take_zero, List.map_nil, List.append_nil]; exact HOWN.out.alloc _
        · rw [List.take_zero, List.map_nil, List.append_nil]; exact htw.out
      case round =>
        obtain ⟨q, hq, rfl, hown2, htw2, hb2⟩ := hrel
        clear hb e0 e1
        by_cases hlq : q < x.rs.length
        · obtain ⟨b', off', t, rfl, hbl', ht, d0, d1, d2, d3, d4⟩ := rest_at (HRR.out.below hb2) hlq
          have hin := HID.out t.id (ids_in HX.out ht)
          obtain ⟨hin1, hin2⟩ := hin
          have hlen : (ids (L.take k) ++ (x.rs.take q).map Rest.id).length < maxLen := by
            obtain ⟨z, hz⟩ := ids_split HX.out ht
            have h1 := ids_len L
            rw [hz, List.length_append, List.length_cons] at h1
            have := HC.out
            omega
          have HS := Lib.hid (ids_split HX.out ht)
          have HT := Lib.hid (rest_take ht)
          have HLEN := Lib.hid hlen
          clear ht hlen
          cases hcs : (ids (L.take k) ++ (x.rs.take q).map Rest.id).contains t.id
          · have HAT := Lib.hid (show (SeenD (ids (L.take k) ++ (x.rs.take q).map Rest.id)).atKey (.int .i64 t.id) (.lit (.bool false)) = .lit (.bool false) by rw [SeenD_at, hcs])
            have HNO := Lib.hid (twice_no htw2.out hcs)
            clear hcs
            go_wp2_with (first | (at_lookup; refine wpList_lookup_own_bool _ rfl _ _ 173 rfl 3 4 int_law Tryz.underlying173 Tryz.underlying4 (zero_bool _) w.heap.size _ _ rfl (hown2.out.alloc _) _ _ rfl (keyOf_int_mk Tryz.underlying3 (WalkArith.wf_i64 (by omega))) _ HAT.out ?_) | (at_mapUpdate; refine wpList_mapUpdate_own _ rfl _ _ _ 173 rfl 3 4 int_law Tryz.underlying173 _ w.heap.size _ _ rfl (hown2.out.alloc _) HLEN.out _ _ _ rfl rfl (keyOf_int_mk Tryz.underlying3 (WalkArith.wf_i64 (by omega))) _ [] (plainElem_bool Tryz.underlying4 true) ?_; intro w1 hown1 hgrow1))
            go_roundw
            case rel =>
              refine ⟨q + 1, by omega, by go_num, Lib.hid ?_, Lib.hid ?_, ?_⟩
              · rw [HT.out, ← List.append_assoc, SeenD_snoc, List.length_append, List.length_singleton]
                exact hown1
              · rw [HT.out, ← List.append_assoc]; exact HNO.out
              · exact Below.grown (below_then_alloc hb2) hgrow1 (below_then_alloc hb2).size (fun j hj => by cases hj; exact Nat.le_refl _)
            case measure => simp [intOf]; omega
          · have HAT := Lib.hid (show (SeenD (ids (L.take k) ++ (x.rs.take q).map Rest.id)).atKey (.int .i64 t.id) (.lit (.bool false)) = .lit (.bool true) by rw [SeenD_at, hcs])
            have HYES := Lib.hid (show twice [] (ids L) = true by obtain ⟨z, hz⟩ := HS.out; rw [hz]; exact twice_hit hcs)
            clear hcs
            go_wp2_with (first | (at_lookup; refine wpList_lookup_own_bool _ rfl _ _ 173 rfl 3 4 int_law Tryz.underlying173 Tryz.underlying4 (zero_bool _) w.heap.size _ _ rfl (hown2.out.alloc _) _ _ rfl (keyOf_int_mk Tryz.underlying3 (WalkArith.wf_i64 (by omega))) _ HAT.out ?_))
            go_ret
            exact ⟨by rw [HYES.out]; rfl, below_then_alloc hb2⟩
        · obtain rfl : q = x.rs.length := by omega
          have hown2 := hown2.out
          have htw2 := htw2.out
          rw [List.take_length, ← ids_take HX.out] at hown2 htw2
          have HO := Lib.hid hown2; have HT := Lib.hid htw2
          clear hown2 htw2
          go_wp2
          go_roundw
          case rel => exact ⟨k + 1, by omega, by go_num, HO.out, HT, hb2⟩
          case measure => simp [intOf]; omega
    · obtain rfl : k = L.length := by omega
      rw [List.take_length] at htw
      clear hown
      go_wp2
      go_ret
      exact ⟨by rw [htw.out]; rfl, hb⟩
end Go.Proofs.YtkdgpdijbobmkaaGreat
namespace Go.Proofs.YtkdgpdijbobmkaaGreat
set_option linter.all false
open Go Go.RowKit
/-- does a price of a side stand ahead of another one? -/
def sAhd (s a b : Int) : Bool := ahd' (3 - s) a b
/-- what is wrong at level k -/
def stepL (s : Int) (L : List Lv) (k : Nat) : Int :=
  match L[k]? with
  | none => 0
  | some x => if vp x.price = false then 1 else if x.rs.length = 0 then 3 else if qErr x.rs ≠ 0 then qErr x.rs else
    if k = 0 then 0 else match L[k - 1]? with
    | none => 0
    | some y => if sAhd s y.price x.price then 0 else 7
def lvErr (s : Int) (L : List Lv) : Int := match (List.range L.length).find? (fun k => !(stepL s L k == 0)) with
  | some k => stepL s L k
  | none => 0
def sideE (s : Int) (L : List Lv) : Int := if vs s = false then 1 else if lvErr s L ≠ 0 then lvErr s L else if 60 < cnt L then 4 else if twice [] (ids L) then 7 else 0
theorem lvErr_hit {s : Int} {L : List Lv} {k : Nat} (hk : k < L.length) (h0 : ∀ j, j < k → stepL s L j = 0) (he : stepL s L k ≠ 0) : lvErr s L = stepL s L k := by
  have : (List.range L.length).find? (fun k => !(stepL s L k == 0)) = some k := by
    rw [List.find?_range_eq_some]
    exact ⟨by simpa using he, by simpa using hk, fun j hj => by simp [h0 j hj]⟩
  rw [lvErr, this]
theorem lvErr_none {s : Int} {L : List Lv} (h0 : ∀ j, j < L.length → stepL s L j = 0) : lvErr s L = 0 := by
  have : (List.range L.length).find? (fun k => !(stepL s L k == 0)) = none := by
    rw [List.find?_eq_none]
    intro x hx
    simpa using h0 x (List.mem_range.1 hx)
  rw [lvErr, this]
theorem lvErr_zero {s : Int} {L : List Lv} (h : lvErr s L = 0) : ∀ j, j < L.length → stepL s L j = 0 := by
  intro j hj
  unfold lvErr at h
  split at h
  · rename_i k hk
    have := List.find?_some hk
    simp [h] at this
  · rename_i hn
    rw [List.find?_eq_none] at hn
    simpa using hn j (List.mem_range.2 hj)
theorem qErr_zero {l : List Rest} (h : qErr l = 0) : l.length ≤ 60 ∧ ∀ j, j < l.length → stepE l j = 0 := by
  unfold qErr at h
  split at h
  · omega
  · refine ⟨by omega, fun j hj => ?_⟩
    split at h
    · rename_i k hk
      have := List.find?_some hk
      simp [h] at this
    · rename_i hn
      rw [List.find?_eq_none] at hn
      simpa using hn j (List.mem_range.2 hj)
theorem qErr_rest {l : List Rest} (h : qErr l = 0) : ∀ r ∈ l, r.err = 0 := by
  intro r hr
  obtain ⟨j, hj, rfl⟩ := List.getElem_of_mem hr
  have hs := (qErr_zero h).2 j hj
  unfold stepE at hs
  rw [List.getElem?_eq_getElem hj] at hs
  simp only at hs
  by_cases h0 : l[j].err = 0
  · exact h0
  · rw [if_pos h0] at hs; exact absurd hs h0
theorem rest_id {r : Rest} (h : r.err = 0) : 1 ≤ r.id ∧ r.id ≤ 9999 := by
  unfold Rest.err at h
  cases hi : inb r.id 1 9999
  · rw [hi] at h; simp at h
  · simpa [inb] using hi
/-- level k is right -/
theorem stepL_zero {s : Int} {L : List Lv} {k : Nat} {x : Lv} (hx : L[k]? = some x) (h : stepL s L k = 0) :
    vp x.price = true ∧ x.rs.length ≠ 0 ∧ qErr x.rs = 0 ∧ ∀ y, 0 < k → L[k - 1]? = some y → sAhd s y.price x.price = true := by
  unfold stepL at h
  rw [hx] at h
  simp only at h
  cases hp : vp x.price
  · rw [hp] at h; simp at h
  · rw [hp] at h
    simp only [Bool.true_eq_false, if_false] at h
    by_cases h1 : x.rs.length = 0
    · rw [if_pos h1] at h; omega
    · rw [if_neg h1] at h
      by_cases h2 : qErr x.rs = 0
      · rw [if_neg (by simpa using h2)] at h
        refine ⟨rfl, h1, h2, fun y hk hy => ?_⟩
        rw [if_neg (by omega), hy] at h
        simp only at h
        cases hs : sAhd s y.price x.price
        · rw [hs] at h; simp at h
        · rfl
      · rw [if_pos h2] at h; exact absurd h h2
theorem lv_get {L : List Lv} {k : Nat} (hk : k < L.length) : L[k]? = some L[k] := List.getElem?_eq_getElem hk
/-- the levels of a side that is right are at most ten thousand -/
theorem lv_few {s : Int} {L : List Lv} (hs : vs s = true) (h : ∀ j, j < L.length → stepL s L j = 0) : ∀ k, (hk : k < L.length) → (s = 1 → L[k].price + k ≤ 10000) ∧ (s = 2 → (k : Int) + 1 ≤ L[k].price) := by
  intro k
  induction k with
  | zero =>
    intro hk
    have := vp_t (stepL_zero (lv_get hk) (h 0 hk)).1
    omega
  | succ k ih =>
    intro hk
    have ih := ih (by omega)
    have ha := (stepL_zero (lv_get hk) (h _ hk)).2.2.2 L[k] (by omega) (by simp)
    refine ⟨fun h1 => ?_, fun h2 => ?_⟩
    · subst h1
      have := ih.1 rfl
      simp only [sAhd, ahd'] at ha
      simp at ha
      omega
    · subst h2
      have := ih.2 rfl
      simp only [sAhd, ahd'] at ha
      simp at ha
      omega
theorem cnt_bound {L : List Lv} {m : Nat} (h : ∀ x ∈ L, x.rs.length ≤ m) : cnt L ≤ L.length * m := by
  induction L with
  | nil => simp [cnt]
  | cons x L ih =>
    have h1 := h x (by simp)
    have h2 := ih (fun y hy => h y (by simp [hy]))
    simp only [cnt, List.map_cons, List.sum_cons, List.length_cons, Nat.succ_mul] at *
    omega
theorem lv_ok {s : Int} {L : List Lv} (hs : vs s = true) (h : lvErr s L = 0) : L.length ≤ 10000 ∧ (∀ x ∈ L, x.rs.length ≤ 60) ∧ cnt L ≤ 600000 ∧ ∀ i ∈ ids L, 1 ≤ i ∧ i ≤ 9999 := by
  have h0 := lvErr_zero h
  have h1 : L.length ≤ 10000 := by
    rcases Nat.eq_zero_or_pos L.length with hz | hz
    · omega
    · have hk : L.length - 1 < L.length := by omega
      have hf := lv_few hs h0 (L.length - 1) hk
      have hp := vp_t (stepL_zero (lv_get hk) (h0 _ hk)).1
      rcases (show s = 1 ∨ s = 2 by have := vs_t hs; omega) with rfl | rfl
      · have := hf.1 rfl; omega
      · have := hf.2 rfl; omega
  have h2 : ∀ x ∈ L, x.rs.length ≤ 60 := by
    intro x hx
    obtain ⟨j, hj, rfl⟩ := List.getElem_of_mem hx
    exact (qErr_zero (stepL_zero (lv_get hj) (h0 j hj)).2.2.1).1
  refine ⟨h1, h2, ?_, ?_⟩
  · have := cnt_bound h2; omega
  · intro i hi
    obtain ⟨x, hx, hi⟩ := List.mem_flatMap.1 hi
    obtain ⟨r, hr, rfl⟩ := List.mem_map.1 hi
    obtain ⟨j, hj, rfl⟩ := List.getElem_of_mem hx
    exact rest_id (qErr_rest (stepL_zero (lv_get hj) (h0 j hj)).2.2.1 r hr)
theorem lv_some {s : Int} {L : List Lv} (h : lvErr s L = 0) : ∀ x ∈ L, x.rs.length ≠ 0 := by
  intro x hx
  obtain ⟨j, hj, rfl⟩ := List.getElem_of_mem hx
  exact (stepL_zero (lv_get hj) (lvErr_zero h j hj)).2.1
end Go.Proofs.YtkdgpdijbobmkaaGreat
namespace Go.Proofs.YtkdgpdijbobmkaaGreat
set_option linter.all false
open Go Go.RowKit
theorem other_any (s : Int) (hs : vs s = true) (w : World) : Calls Tryz.prog 113 #[.int .i64 s] w fun e w' => e = .returned (.int .i64 (3 - s)) ∧ w = w' := by
  have h := vs_t hs
  have x1 : IntKind.i64.wrap (3 - s) = 3 - s := IntWalk.i64_in _ (by omega)
  clear hs
  go_enter Tryz.func113, Tryz.ntmps113
  go_wp2
  go_ret
  exact ⟨rfl, rfl⟩
theorem sahead_any (s a b : Int) (hs : vs s = true) (w : World) : Calls Tryz.prog 81 #[.int .i64 s, .int .i64 a, .int .i64 b] w fun e w' => e = .returned (.bool (sAhd s a b)) ∧ w' = w := by
  have cO := fun w => other_any s hs w
  have cA := fun w => ahead_any (3 - s) a b w
  have HD := Lib.hid (show sAhd s a b = ahd' (3 - s) a b from rfl)
  clear hs
  generalize (3 : Int) - s = o at *
  go_enter Tryz.func81, Tryz.ntmps81
  go_wp2_with (first | (go_at_call 113; ((with_reducible refine (cO _).mono ?_); rintro e w' ⟨rfl, rfl⟩)) | (go_at_call 112; ((with_reducible refine (cA _).mono ?_); rintro e w' ⟨rfl, rfl⟩)))
  go_ret
  exact ⟨by rw [HD.out]; rfl, rfl⟩
theorem sprice_any (p : Int) (w : World) : Calls Tryz.prog 22 #[.int .i64 p] w fun e w' => e = .returned (errV (if vp p = true then 0 else 1)) ∧ w = w' := by
  cases h : vp p
  · go_enter Tryz.func22, Tryz.ntmps22
    go_wp2_with (go_at_call 51; refine (valid_any _ _).mono ?_; rintro e w' ⟨rfl, rfl⟩)
    go_ret
    exact ⟨rfl, rfl⟩
  · go_enter Tryz.func22, Tryz.ntmps22
    go_wp2_with (go_at_call 51; refine (valid_any _ _).mono ?_; rintro e w' ⟨rfl, rfl⟩)
    go_ret
    exact ⟨rfl, rfl⟩
theorem retE {a k : Int} (h : a = k) (h0 : k ≠ 0) : Ending.returned (er k) = .returned (errV a) := by rw [h, errV, if_neg h0]
theorem retE0 {a : Int} (h : a = 0) : Ending.returned .nilIface = .returned (errV a) := by rw [h]; rfl
set_option maxRecDepth 100000 in
set_option maxHeartbeats 2000000 in
theorem scheck_any (s : Int) (L : List Lv) (A : Option Addr) (c : Nat) (w : World) (hr : RdLv w w.heap.size A L) (hL : L.length ≤ maxLen) :
    Calls Tryz.prog 46 #[.int .i64 s, .slice A L.length c] w fun e w' => e = .returned (errV (sideE s L)) ∧ Below w.heap.size w w' := by
  unfold maxLen at hL
  cases hvs : vs s
  · have H := Lib.hid (show sideE s L = 1 by rw [sideE, if_pos hvs])
    go_enter Tryz.func46, Tryz.ntmps46
    go_wp2_with (go_at_call 50; refine (side_any _ _).mono ?_; rintro e w' ⟨rfl, rfl⟩)
    go_ret
    exact ⟨retE H.out (by omega), Below.refl _ _⟩
  have HV := Lib.hid hvs
  have HR := Lib.hid hr
  have HE := Lib.hid (show sideE s L = if lvErr s L ≠ 0 then lvErr s L else if 60 < cnt L then 4 else if twice [] (ids L) then 7 else 0 by rw [sideE, if_neg (by rw [hvs]; decide)])
  clear hr
  go_enter Tryz.func46, Tryz.ntmps46
  go_wp2_with (go_at_call 50; refine (side_any _ _).mono ?_; rintro e w' ⟨rfl, rfl⟩)
  clear hvs
  go_loopw [15] (fun i wr => ∃ k : Nat, k ≤ L.length ∧ i = .int .i64 k ∧ Below w.heap.size w wr ∧ Hid (∀ j, j < k → stepL s L j = 0)) (fun i _ => L.length - (intOf i).toNat)
  case atStart => exact ⟨0, by omega, rfl, Below.refl _ _, Lib.hid (fun j hj => absurd hj (by omega))⟩
  case round =>
    obtain ⟨k, hk, rfl, hb, hno⟩ := hrel
    by_cases hlt : k < L.length
    · obtain ⟨b, off, x, Ar, cr, rfl, hbl, hx, e0, e1, g1, g2, hrr⟩ := lv_at HR.out hlt
      have d0 := (hb.cell (p := ⟨b, _, none⟩) hbl).trans e0
      have d1 := (hb.cell (p := ⟨b, _, none⟩) hbl).trans e1
      clear e0 e1
      have HX := Lib.hid hx
      have HRR := Lib.hid hrr
      have G1 := Lib.hid g1
      have cP := fun w => sprice_any x.price w
      have hit : ∀ z, stepL s L k = z → z ≠ 0 → sideE s L = z := fun z hz h0 => by
        rw [HE.out, lvErr_hit hlt hno.out (by rw [hz]; exact h0), hz, if_pos h0]
      have HIT := Lib.hid hit
      have hst : stepL s L k = if vp x.price = false then 1 else if x.rs.length = 0 then 3 else if qErr x.rs ≠ 0 then qErr x.rs else if k = 0 then 0 else match L[k - 1]? with | none => 0 | some y => if sAhd s y.price x.price then 0 else 7 := by
        (simp only [stepL, hx]) <;> rfl
      have HS := Lib.hid hst
      clear hx hrr g1 g2 hit hst
      cases hvp : vp x.price
      · rw [hvp, show errV (if (false : Bool) = true then 0 else 1) = er 1 from rfl] at cP
        have H := HIT.out 1 (by rw [HS.out, if_pos hvp]) (by omega)
        clear hvp
        have H := Lib.hid H
        go_wp2_with (go_at_call 22; ((with_reducible refine (cP _).mono ?_); rintro e w' ⟨rfl, rfl⟩))
        go_ret
        exact ⟨retE H.out (by omega), below_then_alloc hb⟩
      rw [hvp, show errV (if (true : Bool) = true then 0 else 1) = .nilIface from rfl] at cP
      have HS2 := HS.out
      rw [if_neg (by rw [hvp]; decide)] at HS2
      clear HS hvp
      by_cases hl0 : x.rs.length = 0
      · have H := Lib.hid (HIT.out 3 (by rw [HS2, if_pos hl0]) (by omega))
        have hz : ((x.rs.length : Int) == 0) = true := by rw [beq_iff_eq]; omega
        clear hl0 HS2
        generalize x.rs.length = m at *
        go_wp2_with (go_at_call 22; ((with_reducible refine (cP _).mono ?_); rintro e w' ⟨rfl, rfl⟩))
        go_ret
        exact ⟨retE H.out (by omega), below_then_alloc hb⟩
      rw [if_neg hl0] at HS2
      have hz : ((x.rs.length : Int) == 0) = false := beq_eq_false_iff_ne.2 (by omega)
      clear hl0
      have HS2 := Lib.hid HS2
      go_wp2_with (go_at_call 22; ((with_reducible refine (cP _).mono ?_); rintro e w' ⟨rfl, rfl⟩))
      go_at_call 80
      have hb1 := below_then_alloc (o := .cells #[.int .i64 x.price, .slice Ar x.rs.length cr] 60) hb
      have bx := Bk.new wr 60 #[.int .i64 x.price, .slice Ar x.rs.length cr]
      generalize wr.alloc (.cells #[.int .i64 x.price, .slice Ar x.rs.length cr] 60) = w1 at *
      generalize wr.heap.size = gx at *
      refine (qcheck_any x.rs Ar cr w1 ((HRR.out.below hb1).more hb1.size) G1.out).mono ?_
      rintro e w2 ⟨rfl, hb2⟩
      have hb3 := below_then hb2 hb1
      replace bx := bx.keep hb2
      by_cases hq : qErr x.rs = 0
      · rw [hq, show errV 0 = .nilIface from rfl]
        have HS3 := HS2.out
        rw [if_neg (by rw [hq]; decide)] at HS3
        clear hq
        by_cases hk0 : k = 0
        · have H0 := Lib.hid (show stepL s L k = 0 by rw [HS3, if_pos hk0])
          have hg : decide ((0 : Int) < (k : Int)) = false := by simp; omega
          subst hk0
          clear HS3
          go_wp2
          go_quiet (fail)
          go_wp2
          go_roundw
          case rel =>
            refine ⟨0 + 1, by omega, by go_num, below_drewN hb3 _, Lib.hid (fun j hj => ?_)⟩
            obtain rfl : j = 0 := by omega
            exact H0.out
          case measure => simp [intOf]; omega
        · rw [if_neg hk0] at HS3
          obtain ⟨b', off', y, Ay, cy, he, hbl', hy, f0, _, _, _, _⟩ := lv_at (HR.out.below hb3) (k := k - 1) (by omega)
          cases he
          rw [hy] at HS3
          simp only at HS3
          have hg : (0 : Int) < (k : Int) := by omega
          obtain ⟨m, rfl⟩ : ∃ m, k = m + 1 := ⟨k - 1, by omega⟩
          simp only [Nat.add_sub_cancel] at f0 hy
          have x1 : IntKind.i64.wrap (((m + 1 : Nat) : Int) - 1) = (m : Int) := by rw [show ((m + 1 : Nat) : Int) - 1 = (m : Int) by omega]; exact IntWalk.i64_in _ (by omega)
          have hm0 : (0 : Int) ≤ (m : Int) := by omega
          have hm1 : (m : Int) < (L.length : Int) := by omega
          have q0 := bx.cell 0
          simp at q0
          have cA := fun w => sahead_any s y.price x.price HV.out w
          have HB3 := Lib.hid hb3
          clear hy hk0 d0 d1
          cases ha : sAhd s y.price x.price
          · rw [ha] at cA HS3
            have H := Lib.hid (HIT.out 7 (by rw [HS3]; rfl) (by omega))
            clear ha HS3
            have CA := Lib.hid cA
            clear cA
            go_wp2
            go_quiet ((go_at_call 81; exact Calls.quiet_of_same (CA.out _)))
            go_wp2
            go_ret
            exact ⟨retE H.out (by omega), below_drewN HB3.out _⟩
          · rw [ha] at cA HS3
            have H0 := Lib.hid (show stepL s L (m + 1) = 0 by rw [HS3]; rfl)
            clear ha HS3
            have CA := Lib.hid cA
            clear cA
            go_wp2
            go_quiet ((go_at_call 81; exact Calls.quiet_of_same (CA.out _)))
            go_wp2
            go_roundw
            case rel =>
              refine ⟨m + 1 + 1, by omega, by go_num, below_drewN HB3.out _, Lib.hid (fun j hj => ?_)⟩
              by_cases hj2 : j < m + 1
              · exact hno.out j hj2
              · obtain rfl : j = m + 1 := by omega
                exact H0.out
            case measure => simp [intOf]; omega
      · have H := Lib.hid (HIT.out (qErr x.rs) (by rw [HS2.out, if_pos hq]) hq)
        have HQ := Lib.hid hq
        rw [show errV (qErr x.rs) = er (qErr x.rs) by rw [errV, if_neg hq]]
        clear hq
        generalize qErr x.rs = z at *
        go_wp2
        go_ret
        exact ⟨retE H.out HQ.out, hb3⟩
    · obtain rfl : k = L.length := by omega
      have hl0 : lvErr s L = 0 := lvErr_none hno.out
      obtain ⟨hf1, hf2, hf3, hf4⟩ := lv_ok HV.out hl0
      have HE2 := HE.out
      rw [if_neg (by rw [hl0]; decide)] at HE2
      have cC := fun w' hr' => count_any L A c w' hr' (by unfold maxLen; omega) (by unfold maxLen; omega)
      have cT := fun w' hr' => twice_any L A c w' hr' (by unfold maxLen; omega) (by unfold maxLen; omega) hf4 (fun x hx => Nat.le_trans (hf2 x hx) (by unfold maxLen; omega))
      have CT := Lib.hid cT
      clear hl0 hf1 hf2 hf3 hf4 cT HE
      go_wp2_with fail
      go_at_call 56
      refine (cC _ (HR.out.on hb)).mono ?_
      rintro e w2 ⟨rfl, hb2⟩
      replace hb2 := below_then hb2 hb
      clear cC
      by_cases hc : 60 < cnt L
      · rw [if_pos hc] at HE2
        have hc' : (60 : Int) < (cnt L : Int) := by omega
        have H := Lib.hid HE2
        clear hc HE2
        generalize cnt L = n at *
        go_wp2
        go_ret
        exact ⟨retE H.out (by omega), hb2⟩
      · rw [if_neg hc] at HE2
        have hc' : (cnt L : Int) ≤ 60 := by omega
        clear hc
        generalize cnt L = n at *
        cases ht : twice [] (ids L)
        · rw [ht] at HE2 CT
          have H := Lib.hid HE2
          clear HE2 ht
          go_wp2_with fail
          go_at_call 82
          refine (CT.out _ (HR.out.on hb2)).mono ?_
          rintro e w3 ⟨rfl, hb3⟩
          go_wp2
          go_ret
          exact ⟨retE0 H.out, below_then hb3 hb2⟩
        · rw [ht] at HE2 CT
          have H := Lib.hid HE2
          clear HE2 ht
          go_wp2_with fail
          go_at_call 82
          refine (CT.out _ (HR.out.on hb2)).mono ?_
          rintro e w3 ⟨rfl, hb3⟩
          go_wp2
          go_ret
          exact ⟨retE (k := 7) H.out (by omega), below_then hb3 hb2⟩
end Go.Proofs.YtkdgpdijbobmkaaGreat
namespace Go.Proofs.YtkdgpdijbobmkaaGreat
set_option linter.all false
open Go Go.RowKit
/-- xs are the cells of the levels L -/
structure LvC (w : World) (B : Nat) (L : List Lv) (xs : List Value) : Prop where
  len : xs.length = L.length * 2
  at_ : ∀ i x, L[i]? = some x → xs[i * 2]? = some (.int .i64 x.price) ∧ ∃ Ar cr, xs[i * 2 + 1]? = some (.slice Ar x.rs.length cr) ∧ x.rs.length ≤ cr ∧ cr ≤ maxLen ∧ Rd w B Ar x.rs.length 5 (rcell x.rs)
section
variable {w w' : World} {B B' : Nat} {L M : List Lv} {xs ys : List Value} {A : Option Addr}
theorem LvC.nil : LvC w B [] [] := ⟨rfl, fun i x h => by simp at h⟩
theorem LvC.below (h : LvC w B L xs) (hb : Below B w w') : LvC w' B L xs := ⟨h.len, fun i x hx => by
  obtain ⟨h1, Ar, cr, h2, h3, h4, h5⟩ := h.at_ i x hx
  exact ⟨h1, Ar, cr, h2, h3, h4, h5.below hb⟩⟩
theorem LvC.more (h : LvC w B L xs) (hB : B ≤ B') : LvC w B' L xs := ⟨h.len, fun i x hx => by
  obtain ⟨h1, Ar, cr, h2, h3, h4, h5⟩ := h.at_ i x hx
  exact ⟨h1, Ar, cr, h2, h3, h4, h5.more hB⟩⟩
theorem LvC.app (h : LvC w B L xs) (g : LvC w B M ys) : LvC w B (L ++ M) (xs ++ ys) := by
  refine ⟨by rw [List.length_append, List.length_append, h.len, g.len, Nat.add_mul], fun i x hx => ?_⟩
  rcases Nat.lt_or_ge i L.length with hi | hi
  · rw [List.getElem?_append_left hi] at hx
    obtain ⟨h1, Ar, cr, h2, h3⟩ := h.at_ i x hx
    have hl := h.len
    exact ⟨by rw [List.getElem?_append_left (by omega)]; exact h1, Ar, cr, by rw [List.getElem?_append_left (by omega)]; exact h2, h3⟩
  · rw [List.getElem?_append_right hi] at hx
    obtain ⟨h1, Ar, cr, h2, h3⟩ := g.at_ _ x hx
    have hl := h.len
    refine ⟨?_, Ar, cr, ?_, h3⟩
    · rw [List.getElem?_append_right (by omega), ← h1]; congr 1; omega
    · rw [List.getElem?_append_right (by omega), ← h2]; congr 1; omega
theorem LvC.one (h : LvC w B L xs) : ∀ u ∈ xs, u.oneCell' = true := by
  intro u hu
  obtain ⟨k, hk, rfl⟩ := List.getElem_of_mem hu
  have hl := h.len
  obtain ⟨h1, Ar, cr, h2, _⟩ := h.at_ (k / 2) _ (List.getElem?_eq_getElem (by omega))
  rcases Nat.mod_two_eq_zero_or_one k with hm | hm
  · rw [show k / 2 * 2 = k by omega, List.getElem?_eq_getElem hk] at h1
    rw [Option.some.inj h1]; rfl
  · rw [show k / 2 * 2 + 1 = k by omega, List.getElem?_eq_getElem hk] at h2
    rw [Option.some.inj h2]; rfl
/-- levels that read have cells -/
theorem RdLv.cells (h : RdLv w B A L) : ∃ xs, LvC w B L xs ∧ Rd w B A L.length 2 (fun i j => xs.getD (i * 2 + j) undef) := by
  rcases Nat.eq_zero_or_pos L.length with h0 | h0
  · obtain rfl := List.eq_nil_of_length_eq_zero h0
    exact ⟨[], LvC.nil, Rd.nil⟩
  · obtain ⟨b, off, e, hb, hc⟩ := h h0
    refine ⟨(List.range (L.length * 2)).map fun k => (w.cell? ⟨b, off + k, none⟩).getD undef, ⟨by simp, fun i x hx => ?_⟩, fun _ => ⟨b, off, e, hb, fun i hi j hj => ?_⟩⟩
    · have hi : i < L.length := (List.getElem?_eq_some_iff.1 hx).1
      obtain ⟨h1, Ar, cr, h2, h3⟩ := hc i x hx
      refine ⟨?_, Ar, cr, ?_, h3⟩
      · rw [List.getElem?_map, List.getElem?_range (by omega), Option.map_some, h1]; rfl
      · rw [List.getElem?_map, List.getElem?_range (by omega), Option.map_some, ← Nat.add_assoc, h2]; rfl
    · obtain ⟨h1, Ar, cr, h2, h3⟩ := hc i _ (List.getElem?_eq_getElem hi)
      have hk : i * 2 + j < L.length * 2 := by omega
      simp only [List.getD_eq_getElem?_getD, List.getElem?_map, List.getElem?_range hk, Option.map_some, Option.getD_some]
      rcases (show j = 0 ∨ j = 1 by omega) with rfl | rfl
      · rw [Nat.add_zero, h1]; rfl
      · rw [← Nat.add_assoc, h2]; rfl
/-- a slice of its own with these cells reads as the levels -/
theorem OwnS.lv {base cap n : Nat} (h : OwnS w base 2 A n cap xs) (hc : LvC w B L xs) (hn : n = L.length) (hB : B ≤ w.heap.size) : RdLv w w.heap.size A L := by
  intro h0
  subst hn
  obtain ⟨g, off, e, _, hl, h1, _⟩ := h.cell h0
  refine ⟨g, off, e, hl, fun i x hx => ?_⟩
  have hi : i < L.length := (List.getElem?_eq_some_iff.1 hx).1
  obtain ⟨c1, Ar, cr, c2, c3, c4, c5⟩ := hc.at_ i x hx
  exact ⟨(h1 _ (by omega)).trans c1, Ar, cr, by rw [Nat.add_assoc]; exact (h1 _ (by omega)).trans c2, c3, c4, c5.more hB⟩
/-- what is appended -/
theorem src_lv {c tx e : Nat} (h : Rd w B A L.length 2 (fun i j => xs.getD (i * 2 + j) undef)) (hc : LvC w B L xs) (hk : Tryz.prog.underlying tx = some (.slice e)) (hA : A = none → L.length = 0) : Src Tryz.prog 2 tx (.slice A L.length c) L.length xs w :=
  src_rd h hk hc.len (fun i j hi hj => by
    have hl := hc.len
    have hlt : i * 2 + j < xs.length := by omega
    rw [List.getD_eq_getElem?_getD, List.getElem?_eq_getElem hlt]; rfl) hc.one hA
end
end Go.Proofs.YtkdgpdijbobmkaaGreat
