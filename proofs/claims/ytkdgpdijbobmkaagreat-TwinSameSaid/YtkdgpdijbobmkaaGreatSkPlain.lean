/- Who keeps its place: plain. -/
import Derived.Test.YtkdgpdijbobmkaaGreatGrpAB
import Derived.Test.YtkdgpdijbobmkaaGreatGrpO
namespace Go.Proofs.YtkdgpdijbobmkaaGreat
set_option linter.all false
open Go Go.RowKit
/-- prices, and ids, of levels -/
def shp (L : List Lv) : List (Int × List Int) := L.map fun x => (x.price, x.rs.map Rest.id)
theorem findI_ids {l m : List Rest} (h : l.map Rest.id = m.map Rest.id) (id : Int) : findI l id = findI m id := by
  have e : ∀ l : List Rest, l.findIdx? (fun r => r.id == id) = (l.map Rest.id).findIdx? (fun k => k == id) := fun l => by rw [List.findIdx?_map]; rfl
  unfold findI
  rw [e l, e m, h]
theorem shp_len {L L' : List Lv} (h : shp L = shp L') : L.length = L'.length := by have := congrArg List.length h; simpa [shp] using this
theorem shp_at {L L' : List Lv} (h : shp L = shp L') (k : Nat) (d : Lv) : (L.getD k d).price = (L'.getD k d).price ∧ (L.getD k d).rs.map Rest.id = (L'.getD k d).rs.map Rest.id := by
  have e := congrArg (fun l => l[k]?) h
  simp only [shp, List.getElem?_map] at e
  rw [List.getD_eq_getElem?_getD, List.getD_eq_getElem?_getD]
  cases h1 : L[k]? with
  | none => cases h2 : L'[k]? with
    | none => exact ⟨rfl, rfl⟩
    | some y => rw [h1, h2] at e; cases e
  | some x => cases h2 : L'[k]? with
    | none => rw [h1, h2] at e; cases e
    | some y =>
      rw [h1, h2] at e
      have e := Option.some.inj e
      simp only [Prod.mk.injEq] at e
      exact e
theorem whereL_shp {L L' : List Lv} (h : shp L = shp L') (id : Int) : whereL L id = whereL L' id := by
  have e : ∀ k, findI ((L.getD k ⟨0, []⟩).rs) id = findI ((L'.getD k ⟨0, []⟩).rs) id := fun k => findI_ids (shp_at h k ⟨0, []⟩).2 id
  unfold whereL
  rw [shp_len h]
  simp only [e]
theorem ids_shp (L : List Lv) : ids L = (shp L).flatMap (·.2) := by simp [ids, shp, List.flatMap_map]
theorem cnt_shp (L : List Lv) : cnt L = ((shp L).map fun x => x.2.length).sum := by
  induction L with
  | nil => rfl
  | cons x L ih => simp only [cnt, shp, List.map_cons, List.sum_cons, List.length_map] at ih ⊢; omega
theorem price_shp (L : List Lv) : L.map Lv.price = (shp L).map (·.1) := by simp [shp]
theorem setR_shp {L : List Lv} {i k : Nat} {x : Lv} {r r' : Rest} (hx : L[i]? = some x) (hr : x.rs[k]? = some r) (hi : r'.id = r.id) : shp (setR L i k r') = shp L := by
  rw [setR_at hx]
  unfold shp
  rw [List.map_set]
  have hm : (x.rs.set k r').map Rest.id = x.rs.map Rest.id := by
    rw [List.map_set]
    have hk := (List.getElem?_eq_some_iff.1 hr).1
    refine List.ext_getElem? fun j => ?_
    by_cases hj : j = k
    · subst hj
      rw [List.getElem?_set_self (by simpa using hk), List.getElem?_map, hr]; simp [hi]
    · rw [List.getElem?_set_ne (Ne.symm hj)]
  dsimp only
  rw [hm]
  have hl := (List.getElem?_eq_some_iff.1 hx).1
  refine List.ext_getElem? fun j => ?_
  by_cases hj : j = i
  · subst hj
    rw [List.getElem?_set_self (by simpa using hl), List.getElem?_map, hx]; rfl
  · rw [List.getElem?_set_ne (Ne.symm hj)]
theorem setR_ok {d : Int} {L : List Lv} {i k : Nat} {x : Lv} {r r' : Rest} (h : SideOk d L) (hx : L[i]? = some x) (hr : x.rs[k]? = some r) (hi : r'.id = r.id) (he : r'.err = 0) : SideOk d (setR L i k r') := by
  have hs := setR_shp hx hr hi
  have hm : ∀ y ∈ setR L i k r', y = ⟨x.price, x.rs.set k r'⟩ ∨ y ∈ L := fun y hy => by
    rw [setR_at hx] at hy
    rcases List.mem_or_eq_of_mem_set hy with h | h
    · exact .inr h
    · exact .inl h
  have hxm := List.mem_of_getElem? hx
  refine ⟨h.side, fun y hy => ?_, fun y hy => ?_, fun y hy => ?_, ?_, ?_, ?_⟩
  · rcases hm y hy with rfl | h'
    · exact h.price x hxm
    · exact h.price y h'
  · rcases hm y hy with rfl | h'
    · rw [List.length_set]; exact h.full x hxm
    · exact h.full y h'
  · rcases hm y hy with rfl | h'
    · intro t ht
      rcases List.mem_or_eq_of_mem_set ht with h2 | rfl
      · exact h.sound x hxm t h2
      · exact he
    · exact h.sound y h'
  · have := h.sorted
    have e : ∀ K : List Lv, K.Pairwise (fun x y => sAhd d x.price y.price = true) ↔ (K.map Lv.price).Pairwise (fun a b => sAhd d a b = true) := fun K => by rw [List.pairwise_map]
    rw [e, price_shp] at this
    rw [e, price_shp, hs]
    exact this
  · rw [cnt_shp, hs, ← cnt_shp]; exact h.few
  · rw [ids_shp, hs, ← ids_shp]; exact h.once
theorem keptR_err {x : Lv} {r : Rest} {p q : Int} (h : r.err = 0) (hq : 1 ≤ q) (hk : keepB x r p q = true) : (keptR r q).err = 0 := by
  obtain ⟨h1, h2, h3, h4, h5, h6, h7, h8, h9, h10⟩ := err0 h
  have hl := (of_decide_eq_true hk).2
  unfold lessOf at hl
  have e : lessOf r q = r.qty + r.hidden - q := rfl
  refine err_mk (r := keptR r q) h9 h10 ?_ ?_ ?_ ?_ ?_ ?_ ?_ ?_
  all_goals
    simp only [keptR, e]
    omega
/-- what there is behind a swap that kept its place -/
structure Kept (L M : List Lv) (id : Int) (s : Int) (i k : Nat) (x : Lv) (r : Rest) (p q : Int) (K1 K2 : List Lv) : Prop where
  ok : BookOk K1 K2
  at_ : BAt K1 K2 id s i k ⟨x.price, x.rs.set k (keptR r q)⟩ (keptR r q)
  cutl : cutL s i k K1 = cutL s i k L
  cutm : cutM s i k K2 = cutM s i k M
  shp1 : shp K1 = shp L
  shp2 : shp K2 = shp M
  all_ : (keptR r q).qty + (keptR r q).hidden = q
  price : x.price = p
theorem outL_setR {L : List Lv} {i k : Nat} {x : Lv} (r' : Rest) (hx : L[i]? = some x) (hk : k < x.rs.length) : outL (setR L i k r') i k = outL L i k := by
  have hi := (List.getElem?_eq_some_iff.1 hx).1
  have e : (setR L i k r')[i]? = some ⟨x.price, x.rs.set k r'⟩ := by rw [setR_at hx, List.getElem?_set_self hi]
  unfold outL
  rw [e, hx]
  dsimp only
  rw [setR_at hx, List.eraseIdx_set_eq, List.take_set_of_le (Nat.le_refl _), List.drop_set_of_lt (by omega)]
  exact congrArg _ (mCut_price rfl _ _)
theorem kept_of {L M : List Lv} {id s p q : Int} {i k : Nat} {x : Lv} {r : Rest} (hb : BookOk L M) (ha : BAt L M id s i k x r) (hq : 1 ≤ q) (hk : keepB x r p q = true) : Kept L M id s i k x r p q (setRL s i k (keptR r q) L) (setRM s i k (keptR r q) M) := by
  have hx := ha.at_.lv
  have hr := ha.at_.rest
  have hkl := (List.getElem?_eq_some_iff.1 hr).1
  have hpr : x.price = p := (of_decide_eq_true hk).1.symm
  have hall : (keptR r q).qty + (keptR r q).hidden = q := by simp only [keptR]; omega
  have hw := ha.where_
  unfold whereB at hw
  rcases side_two ha.side with rfl | rfl
  · have hx1 : L[i]? = some x := hx
    have hs := setR_shp hx1 hr (r' := keptR r q) rfl
    have he := keptR_err (hb.buys.sound x (List.mem_of_getElem? hx1) r (List.mem_of_getElem? hr)) hq hk
    refine ⟨⟨setR_ok hb.buys hx1 hr rfl he, hb.sells, ?_, ?_, ?_⟩, ⟨?_, rfl, ⟨?_, ?_, ?_, ha.at_.id_⟩⟩, outL_setR _ hx1 hkl, rfl, hs, rfl, hall, hpr⟩
    · intro y hy z hz
      rw [show setRL 1 i k (keptR r q) L = setR L i k (keptR r q) from rfl, setR_at hx1] at hy
      rcases List.mem_or_eq_of_mem_set hy with h | rfl
      · exact hb.apart y h z hz
      · exact hb.apart x (List.mem_of_getElem? hx1) z hz
    · show cnt (setR L i k (keptR r q)) + cnt M ≤ 60
      rw [cnt_shp, hs, ← cnt_shp]; exact hb.few
    · show (ids (setR L i k (keptR r q)) ++ ids M).Nodup
      rw [ids_shp, hs, ← ids_shp]; exact hb.once
    · show whereB (setR L i k (keptR r q)) M id = _
      rw [whereB, whereL_shp hs]; exact ha.where_
    · show whereL (setR L i k (keptR r q)) id = _
      rw [whereL_shp hs]; exact ha.at_.where_
    · show (setR L i k (keptR r q))[i]? = _
      rw [setR_at hx1, List.getElem?_set_self (List.getElem?_eq_some_iff.1 hx1).1]
    · exact List.getElem?_set_self hkl
  · have hx1 : M[i]? = some x := hx
    have hs := setR_shp hx1 hr (r' := keptR r q) rfl
    have he := keptR_err (hb.sells.sound x (List.mem_of_getElem? hx1) r (List.mem_of_getElem? hr)) hq hk
    refine ⟨⟨hb.buys, setR_ok hb.sells hx1 hr rfl he, ?_, ?_, ?_⟩, ⟨?_, rfl, ⟨?_, ?_, ?_, ha.at_.id_⟩⟩, rfl, outL_setR _ hx1 hkl, rfl, hs, hall, hpr⟩
    · intro y hy z hz
      rw [show setRM 2 i k (keptR r q) M = setR M i k (keptR r q) from rfl, setR_at hx1] at hz
      rcases List.mem_or_eq_of_mem_set hz with h | rfl
      · exact hb.apart y hy z h
      · exact hb.apart y hy x (List.mem_of_getElem? hx1)
    · show cnt L + cnt (setR M i k (keptR r q)) ≤ 60
      rw [cnt_shp (setR M i k (keptR r q)), hs, ← cnt_shp]; exact hb.few
    · show (ids L ++ ids (setR M i k (keptR r q))).Nodup
      rw [ids_shp (setR M i k (keptR r q)), hs, ← ids_shp]; exact hb.once
    · show whereB L (setR M i k (keptR r q)) id = _
      rw [whereB, whereL_shp hs]; exact ha.where_
    · show whereL (setR M i k (keptR r q)) id = _
      rw [whereL_shp hs]; exact ha.at_.where_
    · show (setR M i k (keptR r q))[i]? = _
      rw [setR_at hx1, List.getElem?_set_self (List.getElem?_eq_some_iff.1 hx1).1]
    · exact List.getElem?_set_self hkl
/-- how many stand ahead of an id at a price -/
def placeI (L : List Lv) (p id : Int) : Int := match L.find? (fun x => x.price == p) with
  | some x => findI x.rs id
  | none => -1
theorem placeI_shp : ∀ {L L' : List Lv}, shp L = shp L' → ∀ p id : Int, placeI L p id = placeI L' p id
  | [], [], _, _, _ => rfl
  | [], _ :: _, h, _, _ => by cases h
  | _ :: _, [], h, _, _ => by cases h
  | x :: L, y :: L', h, p, id => by
    have h1 : (x.price, x.rs.map Rest.id) = (y.price, y.rs.map Rest.id) := (List.cons.inj h).1
    have h2 : shp L = shp L' := (List.cons.inj h).2
    simp only [Prod.mk.injEq] at h1
    have ih := placeI_shp h2 p id
    unfold placeI at ih ⊢
    rw [List.find?_cons, List.find?_cons, h1.1]
    cases (y.price == p)
    · exact ih
    · exact findI_ids h1.2 id
/-- a Limit order loses nothing where all trade with all -/
theorem ko_limit {L M K1 K2 : List Lv} {o : Order} {gone : Int} {T : List Trade} {W : List Int} (h : KO L M o 0 0 K1 K2 T gone W) (hk : o.kind = 1) : gone = 0 := by
  rcases h with ⟨h0, h1, _⟩ | ⟨_, _, h1, _⟩ | ⟨hr, s, hs, hok, h⟩
  · exact absurd h1.symm h0
  · cases h1
  · rcases h with ⟨h3, h1, _⟩ | ⟨_, h1, h2, _⟩ | ⟨_, _, _, hg, _⟩
    · omega
    · exact absurd h2.symm h1
    · have hne : kOut o (pick o.side L M) s ≠ 1 := by
        have he : s.ends = false := (met_out (readyE_iff.1 hr).1 (readyE_iff.1 hr).2.1 hs).2.1.ends rfl
        unfold kOut
        rw [if_neg (by omega), if_neg (by omega)]
        split
        · decide
        · rw [if_neg (by rintro (h | h); rw [he] at h; cases h; exact h.1 hk)]; decide
      rw [hg, if_neg hne]
end Go.Proofs.YtkdgpdijbobmkaaGreat
