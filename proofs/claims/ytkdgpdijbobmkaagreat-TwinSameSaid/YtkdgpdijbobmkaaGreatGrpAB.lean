/- Any number of cells of a block at once, beside levels of the call's own. The nineteen cells of a Swap. A rest of the call's own levels is set in its place. -/
import Derived.Test.YtkdgpdijbobmkaaGreatGrpG
import Derived.Test.YtkdgpdijbobmkaaGreatGrpW
import Derived.Test.YtkdgpdijbobmkaaGreatSwapP
namespace Go.Proofs.YtkdgpdijbobmkaaGreat
set_option linter.all false
open Go Go.RowKit
section
variable {g k : Nat} {t : TypeId}
theorem ap_under {w : World} {base : Nat} {r : Option Nat} (h : ∀ k, r = some k → base ≤ k ∧ k < w.heap.size) (hg : g < base) : Ap r (some g) := by
  cases r with
  | none => exact .inl rfl
  | some k => exact .inr (fun e => by have e := Option.some.inj e; have := (h k rfl).1; omega)
theorem OwnS.underCs {w : World} {base s n cap : Nat} {A : Option Addr} {xs vs : List Value} {i : Nat} (h : OwnS w base s A n cap xs) (hg : g < base) : OwnS (w.setCells g i vs) base s A n cap xs := h.apart grown_Cs (ap_under h.row_lt hg)
theorem OwnLv.underCs {w : World} {base cap : Nat} {A : Option Addr} {L : List Lv} {us : List (Option Addr × Nat)} {vs : List Value} {i : Nat} (h : OwnLv w base A cap L us) (hg : g < base) : OwnLv (w.setCells g i vs) base A cap L us :=
  h.keep grown_Cs (ap_under h.row_lt hg) (fun _ _ hu => ap_under (h.each_lt hu) hg)
end
end Go.Proofs.YtkdgpdijbobmkaaGreat
namespace Go.Proofs.YtkdgpdijbobmkaaGreat
set_option linter.all false
open Go Go.RowKit
theorem one_all {cs : List Value} (h : ∀ v ∈ cs, v.oneCell' = true) : cs.toArray.all (·.oneCell') = true := all_oneCell_toArray h
theorem swap_one {a0 a1 a2 a3 a4 a5 a6 a7 a8 a9 b0 b1 b2 b3 b4 b5 : Int} {k : Bool} {A1 A2 : Option Addr} {n1 c1 n2 c2 : Nat} : (#[Value.int .i64 a0, .int .i64 a1, .int .i64 a2, .int .i64 a3, .int .i64 a4, .int .i64 a5, .int .i64 a6, .bool k, .slice A1 n1 c1, .slice A2 n2 c2, .int .i64 a7, .int .i64 a8, .int .i64 a9, .int .i64 b0, .int .i64 b1, .int .i64 b2, .int .i64 b3, .int .i64 b4, .int .i64 b5] : Array Value).all (·.oneCell') = true := by
  refine one_all (cs := [_, _, _, _, _, _, _, _, _, _, _, _, _, _, _, _, _, _, _]) (fun v hv => ?_)
  simp only [List.mem_cons, List.not_mem_nil, or_false] at hv
  rcases hv with rfl | rfl | rfl | rfl | rfl | rfl | rfl | rfl | rfl | rfl | rfl | rfl | rfl | rfl | rfl | rfl | rfl | rfl | rfl <;> rfl
theorem swap_size : (Tryz.prog.info? 161).map (·.size) = some 19 := by kernel_rfl
theorem box19 {w : World} {x0 x1 x2 x3 x4 x5 x6 x7 x8 x9 x10 x11 x12 x13 x14 x15 x16 x17 x18 : Value} {g : Nat} {t : TypeId} (h : Bk w g t #[x0, x1, x2, x3, x4, x5, x6, x7, x8, x9, x10, x11, x12, x13, x14, x15, x16, x17, x18]) : w.cell? ⟨g, 0, none⟩ = some x0 ∧ w.cell? ⟨g, 1, none⟩ = some x1 ∧ w.cell? ⟨g, 2, none⟩ = some x2 ∧ w.cell? ⟨g, 3, none⟩ = some x3 ∧ w.cell? ⟨g, 4, none⟩ = some x4 ∧ w.cell? ⟨g, 5, none⟩ = some x5 ∧ w.cell? ⟨g, 6, none⟩ = some x6 ∧ w.cell? ⟨g, 7, none⟩ = some x7 ∧ w.cell? ⟨g, 8, none⟩ = some x8 ∧ w.cell? ⟨g, 9, none⟩ = some x9 ∧ w.cell? ⟨g, 10, none⟩ = some x10 ∧ w.cell? ⟨g, 11, none⟩ = some x11 ∧ w.cell? ⟨g, 12, none⟩ = some x12 ∧ w.cell? ⟨g, 13, none⟩ = some x13 ∧ w.cell? ⟨g, 14, none⟩ = some x14 ∧ w.cell? ⟨g, 15, none⟩ = some x15 ∧ w.cell? ⟨g, 16, none⟩ = some x16 ∧ w.cell? ⟨g, 17, none⟩ = some x17 ∧ w.cell? ⟨g, 18, none⟩ = some x18 :=
  ⟨h.cell 0, h.cell 1, h.cell 2, h.cell 3, h.cell 4, h.cell 5, h.cell 6, h.cell 7, h.cell 8, h.cell 9, h.cell 10, h.cell 11, h.cell 12, h.cell 13, h.cell 14, h.cell 15, h.cell 16, h.cell 17, h.cell 18⟩
theorem swap_zero (w : World) : (Instr.build 161 #[]).run Tryz.prog w = .ok (.agg #[.int .i64 0, .int .i64 0, .int .i64 0, .int .i64 0, .int .i64 0, .int .i64 0, .int .i64 0, .bool false, .slice none 0 0, .slice none 0 0, .int .i64 0, .int .i64 0, .int .i64 0, .int .i64 0, .int .i64 0, .int .i64 0, .int .i64 0, .int .i64 0, .int .i64 0]) w := by kernel_rfl
theorem swap_build (s p a b c d e z : Int) (w : World) : (Instr.build 161 #[(0, .int .i64 s), (1, .int .i64 p), (2, .agg #[.int .i64 a, .int .i64 b, .int .i64 c, .int .i64 d, .int .i64 e]), (6, .int .i64 z)]).run Tryz.prog w = .ok (.agg #[.int .i64 s, .int .i64 p, .int .i64 a, .int .i64 b, .int .i64 c, .int .i64 d, .int .i64 e, .bool false, .slice none 0 0, .slice none 0 0, .int .i64 0, .int .i64 0, .int .i64 0, .int .i64 0, .int .i64 0, .int .i64 0, .int .i64 0, .int .i64 0, .int .i64 z]) w := by kernel_rfl
theorem swap_read {w : World} {g : Nat} {cs : Array Value} (h : Bk w g 161 cs) (hl : cs.size = 19) : (loadVar 161 ⟨g, 0, none⟩).run Tryz.prog w = .ok (.agg cs) w := by
  have := run_loadVar_mid (P := Tryz.prog) w g 0 161 cs.toList _ h.range Tryz.underlying161 rfl (by rw [swap_size]; simp [hl])
  simpa using this
theorem Bk.put8 {w : World} {x0 x1 x2 x3 x4 x5 x6 x7 x8 x9 x10 x11 x12 x13 x14 x15 x16 x17 x18 : Value} {g : Nat} {t : TypeId} (h0 : Bk w g t #[x0, x1, x2, x3, x4, x5, x6, x7, x8, x9, x10, x11, x12, x13, x14, x15, x16, x17, x18]) (ya yb yc yd ye yf yg yh : Value) : Bk (w.setCells g 10 [ya, yb, yc, yd, ye, yf, yg, yh]) g t #[x0, x1, x2, x3, x4, x5, x6, x7, x8, x9, ya, yb, yc, yd, ye, yf, yg, yh, x18] := by
  have h1 : Bk _ g t #[x0, x1, x2, x3, x4, x5, x6, x7, x8, x9, ya, x11, x12, x13, x14, x15, x16, x17, x18] := h0.set_ 10 ya
  have h2 : Bk _ g t #[x0, x1, x2, x3, x4, x5, x6, x7, x8, x9, ya, yb, x12, x13, x14, x15, x16, x17, x18] := h1.set_ 11 yb
  have h3 : Bk _ g t #[x0, x1, x2, x3, x4, x5, x6, x7, x8, x9, ya, yb, yc, x13, x14, x15, x16, x17, x18] := h2.set_ 12 yc
  have h4 : Bk _ g t #[x0, x1, x2, x3, x4, x5, x6, x7, x8, x9, ya, yb, yc, yd, x14, x15, x16, x17, x18] := h3.set_ 13 yd
  have h5 : Bk _ g t #[x0, x1, x2, x3, x4, x5, x6, x7, x8, x9, ya, yb, yc, yd, ye, x15, x16, x17, x18] := h4.set_ 14 ye
  have h6 : Bk _ g t #[x0, x1, x2, x3, x4, x5, x6, x7, x8, x9, ya, yb, yc, yd, ye, yf, x16, x17, x18] := h5.set_ 15 yf
  have h7 : Bk _ g t #[x0, x1, x2, x3, x4, x5, x6, x7, x8, x9, ya, yb, yc, yd, ye, yf, yg, x17, x18] := h6.set_ 16 yg
  have h8 : Bk _ g t #[x0, x1, x2, x3, x4, x5, x6, x7, x8, x9, ya, yb, yc, yd, ye, yf, yg, yh, x18] := h7.set_ 17 yh
  exact h8
end Go.Proofs.YtkdgpdijbobmkaaGreat
namespace Go.Proofs.YtkdgpdijbobmkaaGreat
set_option linter.all false
open Go Go.RowKit
theorem rows_set2 (q' h' : Int) : ∀ {l : List Rest} {k : Nat} {r : Rest}, l[k]? = some r → rows (l.set k ⟨r.id, r.who, q', h', r.show_⟩) = ((rows l).set (k * 5 + 3) (.int .i64 h')).set (k * 5 + 2) (.int .i64 q')
  | [], _, _, h => by simp at h
  | a :: l, 0, r, h => by
    cases h
    rfl
  | a :: l, k + 1, r, h => by
    have ih := rows_set2 q' h' (l := l) (k := k) (r := r) (by simpa using h)
    rw [List.set_cons_succ, rows_cons, ih, rows_cons, show (k + 1) * 5 + 3 = (k * 5 + 3) + 5 by omega, show (k + 1) * 5 + 2 = (k * 5 + 2) + 5 by omega]
    rfl
theorem lvCells_same : ∀ {L : List Lv} {vs : List (Option Addr × Nat)} {i : Nat} {x y : Lv}, L[i]? = some x → y.price = x.price → y.rs.length = x.rs.length → lvCells (L.set i y) vs = lvCells L vs
  | [], _, _, _, _, h, _, _ => by simp at h
  | a :: L, vs, 0, x, y, h, h1, h2 => by
    cases h
    cases vs with
    | nil => simp [lvCells]
    | cons v vs => simp [lvCells, h1, h2]
  | a :: L, vs, i + 1, x, y, h, h1, h2 => by
    cases vs with
    | nil => simp [lvCells]
    | cons v vs =>
      have ih := lvCells_same (vs := vs) (i := i) (x := x) (y := y) (L := L) (by simpa using h) h1 h2
      have e1 : ∀ (L' : List Lv), lvCells (a :: L') (v :: vs) = [.int .i64 a.price, .slice v.1 a.rs.length v.2] ++ lvCells L' vs := fun _ => rfl
      rw [List.set_cons_succ, e1, e1, ih]
theorem OwnLv.setRest {w : World} {base cap i k b off cr : Nat} {A : Option Addr} {L : List Lv} {x : Lv} {r : Rest} {vs : List (Option Addr × Nat)} (h : OwnLv w base A cap L vs) (hx : L[i]? = some x) (hv : vs[i]? = some (some ⟨b, off, none⟩, cr)) (hr : x.rs[k]? = some r) (q' h' : Int) :
    OwnLv ((w.setCell ⟨b, off + (k * 5 + 3), none⟩ (.int .i64 h')).setCell ⟨b, off + (k * 5 + 2), none⟩ (.int .i64 q')) base A cap (L.set i ⟨x.price, x.rs.set k ⟨r.id, r.who, q', h', r.show_⟩⟩) vs := by
  have hk : k < x.rs.length := (List.getElem?_eq_some_iff.1 hr).1
  have hi : i < L.length := (List.getElem?_eq_some_iff.1 hx).1
  obtain ⟨he, hap⟩ := h.each i x _ hx hv
  have hcr : x.rs.length ≤ cr := he.le
  have hrow : rowOf (some (⟨b, off, none⟩ : Addr)) cr = some b := by rw [rowOf, if_neg (by omega)]; rfl
  dsimp only at he hap
  rw [hrow] at hap
  have hg : w.grownBy ((w.setCell ⟨b, off + (k * 5 + 3), none⟩ (.int .i64 h')).setCell ⟨b, off + (k * 5 + 2), none⟩ (.int .i64 q')) (some b) := (grown_set w ⟨b, off + (k * 5 + 3), none⟩ _).trans (grown_set _ ⟨b, off + (k * 5 + 2), none⟩ _)
  refine ⟨by rw [List.length_set]; exact h.len, ?_, fun j y u hy hu => ?_, h.apart⟩
  · rw [lvCells_same (y := ⟨x.price, x.rs.set k ⟨r.id, r.who, q', h', r.show_⟩⟩) hx rfl (by simp), List.length_set]
    exact h.own.apart hg (Ap.symm hap)
  · by_cases hji : j = i
    · subst hji
      rw [List.getElem?_set_self hi] at hy
      cases hy
      rw [hv] at hu
      cases hu
      refine ⟨?_, by rw [hrow]; exact hap⟩
      dsimp only
      rw [List.length_set, rows_set2 q' h' hr]
      exact (he.set (j := k * 5 + 3) (by omega) (.int .i64 h')).set (j := k * 5 + 2) (by omega) (.int .i64 q')
    · rw [List.getElem?_set_ne (Ne.symm hji)] at hy
      obtain ⟨he2, hap2⟩ := h.each j y u hy hu
      refine ⟨he2.apart hg ?_, hap2⟩
      have := h.apart j i u _ hji hu hv
      dsimp only at this
      rw [hrow] at this
      exact this
theorem setR_len (L : List Lv) (i k : Nat) (r : Rest) : (setR L i k r).length = L.length := by unfold setR; split <;> simp
theorem setRL_len (s : Int) (i k : Nat) (r : Rest) (L : List Lv) : (setRL s i k r L).length = L.length := by unfold setRL; split; exact setR_len _ _ _ _; rfl
theorem setRM_len (s : Int) (i k : Nat) (r : Rest) (L : List Lv) : (setRM s i k r L).length = L.length := by unfold setRM; split; rfl; exact setR_len _ _ _ _
theorem own_side {w : World} {base f1 f2 : Nat} {D1 D2 : Option Addr} {L M : List Lv} {u1 u2 : List (Option Addr × Nat)} {s : Int} (hs : vs s = true) (o1 : OwnLv w base D1 f1 L u1) (o2 : OwnLv w base D2 f2 M u2) : OwnLv w base (sid s D1 D2) (sid s f1 f2) (sidL s L M) (sid s u1 u2) := by
  rcases side_two hs with rfl | rfl
  · exact o1
  · exact o2
theorem not_rows {rs : List (Option Nat)} {A : Option Addr} {c b : Nat} {us : List (Option Addr × Nat)} (hf : FarRows rs (rowsOf A c us)) (hb : some b ∈ rs) : some b ∉ rowsOf A c us := fun h => by
  rcases hf _ hb _ h with e | e
  · cases e
  · exact e rfl
theorem in_rows {A : Option Addr} {c i b off cr : Nat} {us : List (Option Addr × Nat)} (hv : us[i]? = some (some (⟨b, off, none⟩ : Addr), cr)) (hc : 0 < cr) : some b ∈ rowsOf A c us := by
  refine List.mem_cons_of_mem _ (List.mem_map.2 ⟨_, List.mem_of_getElem? hv, ?_⟩)
  dsimp only
  rw [rowOf, if_neg (by omega)]
  rfl
/-- one rest of a book of the call's own is set -/
theorem own_setBoth {w : World} {base f1 f2 i k b off cr : Nat} {D1 D2 : Option Addr} {L M : List Lv} {u1 u2 : List (Option Addr × Nat)} {s : Int} {x : Lv} {r : Rest} (hs : vs s = true) (o1 : OwnLv w base D1 f1 L u1) (o2 : OwnLv w base D2 f2 M u2) (hf : FarRows (rowsOf D1 f1 u1) (rowsOf D2 f2 u2))
    (hx : (sidL s L M)[i]? = some x) (hv : (sid s u1 u2)[i]? = some (some ⟨b, off, none⟩, cr)) (hr : x.rs[k]? = some r) (q' h' : Int) :
    OwnLv ((w.setCell ⟨b, off + (k * 5 + 3), none⟩ (.int .i64 h')).setCell ⟨b, off + (k * 5 + 2), none⟩ (.int .i64 q')) base D1 f1 (setRL s i k ⟨r.id, r.who, q', h', r.show_⟩ L) u1 ∧
    OwnLv ((w.setCell ⟨b, off + (k * 5 + 3), none⟩ (.int .i64 h')).setCell ⟨b, off + (k * 5 + 2), none⟩ (.int .i64 q')) base D2 f2 (setRM s i k ⟨r.id, r.who, q', h', r.show_⟩ M) u2 := by
  have hk : k < x.rs.length := (List.getElem?_eq_some_iff.1 hr).1
  rcases side_two hs with rfl | rfl
  · have hc : 0 < cr := by have := ((o1.each i x _ hx hv).1).le; dsimp only at this; omega
    have hn := not_rows hf (in_rows (A := D1) (c := f1) hv hc)
    rw [show setRL 1 i k ⟨r.id, r.who, q', h', r.show_⟩ L = setR L i k ⟨r.id, r.who, q', h', r.show_⟩ from rfl, show setRM 1 i k ⟨r.id, r.who, q', h', r.show_⟩ M = M from rfl, setR_at (L := L) hx]
    exact ⟨o1.setRest hx hv hr q' h', (o2.setNew (p := ⟨b, off + (k * 5 + 3), none⟩) hn _).setNew (p := ⟨b, off + (k * 5 + 2), none⟩) hn _⟩
  · have hc : 0 < cr := by have := ((o2.each i x _ hx hv).1).le; dsimp only at this; omega
    have hn := not_rows hf.symm (in_rows (A := D2) (c := f2) hv hc)
    rw [show setRL 2 i k ⟨r.id, r.who, q', h', r.show_⟩ L = L from rfl, show setRM 2 i k ⟨r.id, r.who, q', h', r.show_⟩ M = setR M i k ⟨r.id, r.who, q', h', r.show_⟩ from rfl, setR_at (L := M) hx]
    exact ⟨(o1.setNew (p := ⟨b, off + (k * 5 + 3), none⟩) hn _).setNew (p := ⟨b, off + (k * 5 + 2), none⟩) hn _, o2.setRest hx hv hr q' h'⟩
/-- where a rest of a level of the call's own lies -/
theorem own_rest {w : World} {base c i k : Nat} {A : Option Addr} {L : List Lv} {x : Lv} {r : Rest} {us : List (Option Addr × Nat)} (h : OwnLv w base A c L us) (hx : L[i]? = some x) (hr : x.rs[k]? = some r) :
    ∃ g o b off cr, A = some ⟨g, o, none⟩ ∧ us[i]? = some (some ⟨b, off, none⟩, cr) ∧ base ≤ b ∧ w.cell? ⟨g, o + i * 2 + 1, none⟩ = some (.slice (some ⟨b, off, none⟩) x.rs.length cr) ∧
      w.cell? ⟨b, off + k * 5 + 2, none⟩ = some (.int .i64 r.qty) ∧ w.cell? ⟨b, off + k * 5 + 3, none⟩ = some (.int .i64 r.hidden) ∧ w.frozen? ⟨b, off + k * 5 + 2, none⟩ = false ∧ w.frozen? ⟨b, off + k * 5 + 3, none⟩ = false := by
  have hi : i < L.length := (List.getElem?_eq_some_iff.1 hx).1
  have hk : k < x.rs.length := (List.getElem?_eq_some_iff.1 hr).1
  have hlen := h.len
  have hv : us[i]? = some (us[i]'(by omega)) := List.getElem?_eq_getElem (by omega)
  generalize us[i]'(by omega) = v at hv
  obtain ⟨Ar, cr⟩ := v
  obtain ⟨ho, _⟩ := h.each i x _ hx hv
  obtain ⟨g, o, rfl, hg0, hgl, hcell, hfree⟩ := h.own.cell (by omega)
  obtain ⟨c0, c1⟩ := lvCells_get hx hv
  obtain ⟨b, off, hA, hb0, hbl, bc, bf⟩ := ho.cell (by omega)
  dsimp only at hA bc bf ho
  subst hA
  have hle := ho.le
  have hg : ∀ j, j < 5 → (rows x.rs)[k * 5 + j]? = some (rcell x.rs k j) := fun j hj => rows_get hk hj
  have hgd : x.rs.getD k rest0 = r := by
    have := (List.getElem?_eq_some_iff.1 hr).2
    simp [hk, this]
  refine ⟨g, o, b, off, cr, rfl, hv, hb0, ?_, ?_, ?_, ?_, ?_⟩
  · rw [Nat.add_assoc, hcell _ (by omega)]; exact c1
  · rw [Nat.add_assoc, bc _ (by omega), hg 2 (by omega), rcell, hgd]; rfl
  · rw [Nat.add_assoc, bc _ (by omega), hg 3 (by omega), rcell, hgd]; rfl
  · rw [Nat.add_assoc]; exact (bf (k * 5 + 2) (by omega)).2
  · rw [Nat.add_assoc]; exact (bf (k * 5 + 3) (by omega)).2
end Go.Proofs.YtkdgpdijbobmkaaGreat
