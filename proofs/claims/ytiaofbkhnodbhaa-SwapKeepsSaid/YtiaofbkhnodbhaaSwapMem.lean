/- A rest of the call's own levels is set in its place. -/
import Derived.Test.YtiaofbkhnodbhaaSwapP
import Derived.Test.YtiaofbkhnodbhaaSetN
namespace Go.Proofs.Ytiaofbkhnodbhaa
set_option linter.all false
open Go Go.RowKit
theorem rows_set2 (q' h' : Int) : ∀ {l : List Rest} {k : Nat} {r : Rest}, l[k]? = some r → rows (l.set k ⟨r.id, r.who, q', h', r.show_⟩) = ((rows l).set (k * 5 + 3) (.int .i64 h')).set (k * 5 + 2) (.int .i64 q')
  | [], _, _, h => by simp at h
  | a :: l, 0, r, h => by
    cases h
    rfl
  | a :: l, k + 1, r, h => by
    have ih := rows_set2 q' h' (l := l) (k := k) (r := r) (by simpa using h)
    rw [List.set_cons_succ, rows_cons, ih, rows_cons, show (k + 1) * 5 + 3 = (k * 5 + 3) + 5 by omega, show (k + 1) * 5 + 2 = (k * 5 + 2) + 5 by omega]
    rfl
theorem lvCells_same : ∀ {L : List Lv} {vs : List (Option Addr × Nat)} {i : Nat} {x y : Lv}, L[i]? = some x → y.price = x.price → y.rs.length = x.rs.length → lvCells (L.set i y) vs = lvCells L vs
  | [], _, _, _, _, h, _, _ => by simp at h
  | a :: L, vs, 0, x, y, h, h1, h2 => by
    cases h
    cases vs with
    | nil => simp [lvCells]
    | cons v vs => simp [lvCells, h1, h2]
  | a :: L, vs, i + 1, x, y, h, h1, h2 => by
    cases vs with
    | nil => simp [lvCells]
    | cons v vs =>
      have ih := lvCells_same (vs := vs) (i := i) (x := x) (y := y) (L := L) (by simpa using h) h1 h2
      have e1 : ∀ (L' : List Lv), lvCells (a :: L') (v :: vs) = [.int .i64 a.price, .slice v.1 a.rs.length v.2] ++ lvCells L' vs := fun _ => rfl
      rw [List.set_cons_succ, e1, e1, ih]
theorem OwnLv.setRest {w : World} {base cap i k b off cr : Nat} {A : Option Addr} {L : List Lv} {x : Lv} {r : Rest} {vs : List (Option Addr × Nat)} (h : OwnLv w base A cap L vs) (hx : L[i]? = some x) (hv : vs[i]? = some (some ⟨b, off, none⟩, cr)) (hr : x.rs[k]? = some r) (q' h' : Int) :
    OwnLv ((w.setCell ⟨b, off + (k * 5 + 3), none⟩ (.int .i64 h')).setCell ⟨b, off + (k * 5 + 2), none⟩ (.int .i64 q')) base A cap (L.set i ⟨x.price, x.rs.set k ⟨r.id, r.who, q', h', r.show_⟩⟩) vs := by
  have hk : k < x.rs.length := (List.getElem?_eq_some_iff.1 hr).1
  have hi : i < L.length := (List.getElem?_eq_some_iff.1 hx).1
  obtain ⟨he, hap⟩ := h.each i x _ hx hv
  have hcr : x.rs.length ≤ cr := he.le
  have hrow : rowOf (some (⟨b, off, none⟩ : Addr)) cr = some b := by rw [rowOf, if_neg (by omega)]; rfl
  dsimp only at he hap
  rw [hrow] at hap
  have hg : w.grownBy ((w.setCell ⟨b, off + (k * 5 + 3), none⟩ (.int .i64 h')).setCell ⟨b, off + (k * 5 + 2), none⟩ (.int .i64 q')) (some b) := (grown_set w ⟨b, off + (k * 5 + 3), none⟩ _).trans (grown_set _ ⟨b, off + (k * 5 + 2), none⟩ _)
  refine ⟨by rw [List.length_set]; exact h.len, ?_, fun j y u hy hu => ?_, h.apart⟩
  · rw [lvCells_same (y := ⟨x.price, x.rs.set k ⟨r.id, r.who, q', h', r.show_⟩⟩) hx rfl (by simp), List.length_set]
    exact h.own.apart hg (Ap.symm hap)
  · by_cases hji : j = i
    · subst hji
      rw [List.getElem?_set_self hi] at hy
      cases hy
      rw [hv] at hu
      cases hu
      refine ⟨?_, by rw [hrow]; exact hap⟩
      dsimp only
      rw [List.length_set, rows_set2 q' h' hr]
      exact (he.set (j := k * 5 + 3) (by omega) (.int .i64 h')).set (j := k * 5 + 2) (by omega) (.int .i64 q')
    · rw [List.getElem?_set_ne (Ne.symm hji)] at hy
      obtain ⟨he2, hap2⟩ := h.each j y u hy hu
      refine ⟨he2.apart hg ?_, hap2⟩
      have := h.apart j i u _ hji hu hv
      dsimp only at this
      rw [hrow] at this
      exact this
theorem setR_len (L : List Lv) (i k : Nat) (r : Rest) : (setR L i k r).length = L.length := by unfold setR; split <;> simp
theorem setRL_len (s : Int) (i k : Nat) (r : Rest) (L : List Lv) : (setRL s i k r L).length = L.length := by unfold setRL; split; exact setR_len _ _ _ _; rfl
theorem setRM_len (s : Int) (i k : Nat) (r : Rest) (L : List Lv) : (setRM s i k r L).length = L.length := by unfold setRM; split; rfl; exact setR_len _ _ _ _
theorem own_side {w : World} {base f1 f2 : Nat} {D1 D2 : Option Addr} {L M : List Lv} {u1 u2 : List (Option Addr × Nat)} {s : Int} (hs : vs s = true) (o1 : OwnLv w base D1 f1 L u1) (o2 : OwnLv w base D2 f2 M u2) : OwnLv w base (sid s D1 D2) (sid s f1 f2) (sidL s L M) (sid s u1 u2) := by
  rcases side_two hs with rfl | rfl
  · exact o1
  · exact o2
theorem not_rows {rs : List (Option Nat)} {A : Option Addr} {c b : Nat} {us : List (Option Addr × Nat)} (hf : FarRows rs (rowsOf A c us)) (hb : some b ∈ rs) : some b ∉ rowsOf A c us := fun h => by
  rcases hf _ hb _ h with e | e
  · cases e
  · exact e rfl
theorem in_rows {A : Option Addr} {c i b off cr : Nat} {us : List (Option Addr × Nat)} (hv : us[i]? = some (some (⟨b, off, none⟩ : Addr), cr)) (hc : 0 < cr) : some b ∈ rowsOf A c us := by
  refine List.mem_cons_of_mem _ (List.mem_map.2 ⟨_, List.mem_of_getElem? hv, ?_⟩)
  dsimp only
  rw [rowOf, if_neg (by omega)]
  rfl
/-- one rest of a book of the call's own is set -/
theorem own_setBoth {w : World} {base f1 f2 i k b off cr : Nat} {D1 D2 : Option Addr} {L M : List Lv} {u1 u2 : List (Option Addr × Nat)} {s : Int} {x : Lv} {r : Rest} (hs : vs s = true) (o1 : OwnLv w base D1 f1 L u1) (o2 : OwnLv w base D2 f2 M u2) (hf : FarRows (rowsOf D1 f1 u1) (rowsOf D2 f2 u2))
    (hx : (sidL s L M)[i]? = some x) (hv : (sid s u1 u2)[i]? = some (some ⟨b, off, none⟩, cr)) (hr : x.rs[k]? = some r) (q' h' : Int) :
    OwnLv ((w.setCell ⟨b, off + (k * 5 + 3), none⟩ (.int .i64 h')).setCell ⟨b, off + (k * 5 + 2), none⟩ (.int .i64 q')) base D1 f1 (setRL s i k ⟨r.id, r.who, q', h', r.show_⟩ L) u1 ∧
    OwnLv ((w.setCell ⟨b, off + (k * 5 + 3), none⟩ (.int .i64 h')).setCell ⟨b, off + (k * 5 + 2), none⟩ (.int .i64 q')) base D2 f2 (setRM s i k ⟨r.id, r.who, q', h', r.show_⟩ M) u2 := by
  have hk : k < x.rs.length := (List.getElem?_eq_some_iff.1 hr).1
  rcases side_two hs with rfl | rfl
  · have hc : 0 < cr := by have := ((o1.each i x _ hx hv).1).le; dsimp only at this; omega
    have hn := not_rows hf (in_rows (A := D1) (c := f1) hv hc)
    rw [show setRL 1 i k ⟨r.id, r.who, q', h', r.show_⟩ L = setR L i k ⟨r.id, r.who, q', h', r.show_⟩ from rfl, show setRM 1 i k ⟨r.id, r.who, q', h', r.show_⟩ M = M from rfl, setR_at (L := L) hx]
    exact ⟨o1.setRest hx hv hr q' h', (o2.setNew (p := ⟨b, off + (k * 5 + 3), none⟩) hn _).setNew (p := ⟨b, off + (k * 5 + 2), none⟩) hn _⟩
  · have hc : 0 < cr := by have := ((o2.each i x _ hx hv).1).le; dsimp only at this; omega
    have hn := not_rows hf.symm (in_rows (A := D2) (c := f2) hv hc)
    rw [show setRL 2 i k ⟨r.id, r.who, q', h', r.show_⟩ L = L from rfl, show setRM 2 i k ⟨r.id, r.who, q', h', r.show_⟩ M = setR M i k ⟨r.id, r.who, q', h', r.show_⟩ from rfl, setR_at (L := M) hx]
    exact ⟨(o1.setNew (p := ⟨b, off + (k * 5 + 3), none⟩) hn _).setNew (p := ⟨b, off + (k * 5 + 2), none⟩) hn _, o2.setRest hx hv hr q' h'⟩
/-- where a rest of a level of the call's own lies -/
theorem own_rest {w : World} {base c i k : Nat} {A : Option Addr} {L : List Lv} {x : Lv} {r : Rest} {us : List (Option Addr × Nat)} (h : OwnLv w base A c L us) (hx : L[i]? = some x) (hr : x.rs[k]? = some r) :
    ∃ g o b off cr, A = some ⟨g, o, none⟩ ∧ us[i]? = some (some ⟨b, off, none⟩, cr) ∧ base ≤ b ∧ w.cell? ⟨g, o + i * 2 + 1, none⟩ = some (.slice (some ⟨b, off, none⟩) x.rs.length cr) ∧
      w.cell? ⟨b, off + k * 5 + 2, none⟩ = some (.int .i64 r.qty) ∧ w.cell? ⟨b, off + k * 5 + 3, none⟩ = some (.int .i64 r.hidden) ∧ w.frozen? ⟨b, off + k * 5 + 2, none⟩ = false ∧ w.frozen? ⟨b, off + k * 5 + 3, none⟩ = false := by
  have hi : i < L.length := (List.getElem?_eq_some_iff.1 hx).1
  have hk : k < x.rs.length := (List.getElem?_eq_some_iff.1 hr).1
  have hlen := h.len
  have hv : us[i]? = some (us[i]'(by omega)) := List.getElem?_eq_getElem (by omega)
  generalize us[i]'(by omega) = v at hv
  obtain ⟨Ar, cr⟩ := v
  obtain ⟨ho, _⟩ := h.each i x _ hx hv
  obtain ⟨g, o, rfl, hg0, hgl, hcell, hfree⟩ := h.own.cell (by omega)
  obtain ⟨c0, c1⟩ := lvCells_get hx hv
  obtain ⟨b, off, hA, hb0, hbl, bc, bf⟩ := ho.cell (by omega)
  dsimp only at hA bc bf ho
  subst hA
  have hle := ho.le
  have hg : ∀ j, j < 5 → (rows x.rs)[k * 5 + j]? = some (rcell x.rs k j) := fun j hj => rows_get hk hj
  have hgd : x.rs.getD k rest0 = r := by
    have := (List.getElem?_eq_some_iff.1 hr).2
    simp [hk, this]
  refine ⟨g, o, b, off, cr, rfl, hv, hb0, ?_, ?_, ?_, ?_, ?_⟩
  · rw [Nat.add_assoc, hcell _ (by omega)]; exact c1
  · rw [Nat.add_assoc, bc _ (by omega), hg 2 (by omega), rcell, hgd]; rfl
  · rw [Nat.add_assoc, bc _ (by omega), hg 3 (by omega), rcell, hgd]; rfl
  · rw [Nat.add_assoc]; exact (bf (k * 5 + 2) (by omega)).2
  · rw [Nat.add_assoc]; exact (bf (k * 5 + 3) (by omega)).2
end Go.Proofs.Ytiaofbkhnodbhaa
