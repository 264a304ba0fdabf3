/- slices.Insert over levels of the call's own: a level without rests put in. -/
import Derived.Test.YtbnjkcgkdpildaaDoorIns2
namespace Go.Proofs.YtbnjkcgkdpildaaDoor
set_option linter.all false
open Go Go.RowKit
/-- put in at i -/
def insAt {α : Type} (l : List α) (i : Nat) (x : α) : List α := l.take i ++ x :: l.drop i
section
variable {α : Type} {l : List α} {i j : Nat} {x : α}
theorem insAt_len (hi : i ≤ l.length) : (insAt l i x).length = l.length + 1 := by simp [insAt]; omega
theorem insAt_lt (hi : i ≤ l.length) (h : j < i) : (insAt l i x)[j]? = l[j]? := by
  rw [insAt, List.getElem?_append_left (by rw [List.length_take]; omega), List.getElem?_take_of_lt h]
theorem insAt_eq (hi : i ≤ l.length) : (insAt l i x)[i]? = some x := by
  rw [insAt, List.getElem?_append_right (by rw [List.length_take]; omega), List.length_take, show i - min i l.length = 0 by omega]; rfl
theorem insAt_gt (hi : i ≤ l.length) (h : i < j) : (insAt l i x)[j]? = l[j - 1]? := by
  rw [insAt, List.getElem?_append_right (by rw [List.length_take]; omega), List.length_take, show j - min i l.length = (j - i - 1) + 1 by omega, List.getElem?_cons_succ, List.getElem?_drop]
  congr 1
  omega
end
theorem zip_take {α β : Type} : ∀ (i : Nat) (l : List α) (m : List β), (l.take i).zip (m.take i) = (l.zip m).take i
  | 0, _, _ => by simp
  | i + 1, [], _ => by simp
  | i + 1, _ :: _, [] => by simp
  | i + 1, a :: l, b :: m => by simp [zip_take i l m]
theorem zip_drop {α β : Type} : ∀ (i : Nat) (l : List α) (m : List β), (l.drop i).zip (m.drop i) = (l.zip m).drop i
  | 0, _, _ => by simp
  | i + 1, [], _ => by simp
  | i + 1, _ :: _, [] => by simp
  | i + 1, a :: l, b :: m => by simp [zip_drop i l m]
theorem lvCells_take {L : List Lv} {vs : List (Option Addr × Nat)} (h : vs.length = L.length) (i : Nat) : lvCells (L.take i) (vs.take i) = (lvCells L vs).take (i * 2) := by
  unfold lvCells
  rw [zip_take]
  generalize L.zip vs = z
  induction z generalizing i with
  | nil => simp
  | cons a z ih =>
    cases i with
    | zero => simp
    | succ i =>
      rw [List.take_succ_cons, List.flatMap_cons, List.flatMap_cons, ih, show (i + 1) * 2 = i * 2 + 1 + 1 by omega]
      rfl
theorem lvCells_drop {L : List Lv} {vs : List (Option Addr × Nat)} (h : vs.length = L.length) (i : Nat) : lvCells (L.drop i) (vs.drop i) = (lvCells L vs).drop (i * 2) := by
  unfold lvCells
  rw [zip_drop]
  generalize L.zip vs = z
  induction z generalizing i with
  | nil => simp
  | cons a z ih =>
    cases i with
    | zero => simp
    | succ i =>
      rw [List.drop_succ_cons, List.flatMap_cons, ih, show (i + 1) * 2 = i * 2 + 1 + 1 by omega]
      rfl
theorem lvCells_ins {L : List Lv} {vs : List (Option Addr × Nat)} (h : vs.length = L.length) {i : Nat} (hi : i ≤ L.length) (p : Int) :
    lvCells (insAt L i ⟨p, []⟩) (insAt vs i (none, 0)) = (lvCells L vs).take (i * 2) ++ [.int .i64 p, .slice none 0 0] ++ (lvCells L vs).drop (i * 2) := by
  rw [← lvCells_take h, ← lvCells_drop h]
  unfold insAt lvCells
  rw [List.zip_append (by rw [List.length_take, List.length_take, h]), List.flatMap_append, List.zip_cons_cons, List.flatMap_cons, List.append_assoc]
  rfl
theorem OwnLv.insert {w w' : World} {base cap c' i : Nat} {A A' : Option Addr} {L : List Lv} {vs : List (Option Addr × Nat)} {p : Int} (h : OwnLv w base A cap L vs) (hi : i ≤ L.length)
    (o : OwnS w' base 2 A' (L.length + 1) c' ((lvCells L vs).take (i * 2) ++ [.int .i64 p, .slice none 0 0] ++ (lvCells L vs).drop (i * 2))) (hg : w.grownBy w' (rowOf A cap)) (hr : rowOf A' c' = rowOf A cap ∨ rowOf A' c' = some w.heap.size) :
    OwnLv w' base A' c' (insAt L i ⟨p, []⟩) (insAt vs i (none, 0)) := by
  have hlen := h.len
  have new : ∀ r : Option Nat, Ap r (rowOf A cap) → (∀ k, r = some k → k < w.heap.size) → Ap r (rowOf A' c') := by
    intro r h1 h2
    rcases hr with e | e
    · rw [e]; exact h1
    · rw [e]
      cases r with
      | none => exact .inl rfl
      | some k => exact .inr fun e2 => by cases e2; have := h2 _ rfl; omega
  refine ⟨by rw [insAt_len hi, insAt_len (by omega), hlen], ?_, ?_, ?_⟩
  · rw [lvCells_ins hlen hi, insAt_len hi]; exact o
  · intro j y u hy hu
    rcases Nat.lt_trichotomy j i with hj | rfl | hj
    · rw [insAt_lt hi hj] at hy
      rw [insAt_lt (by omega) hj] at hu
      have he := h.each j y u hy hu
      exact ⟨he.1.apart hg he.2, new _ he.2 (fun k hk => (he.1.row_lt k hk).2)⟩
    · rw [insAt_eq hi] at hy
      rw [insAt_eq (by omega)] at hu
      cases hy; cases hu
      exact ⟨OwnS.nil _ _ _ _, .inl rfl⟩
    · rw [insAt_gt hi hj] at hy
      rw [insAt_gt (by omega) hj] at hu
      have he := h.each (j - 1) y u hy hu
      exact ⟨he.1.apart hg he.2, new _ he.2 (fun k hk => (he.1.row_lt k hk).2)⟩
  · have key : ∀ (a : Nat) (u : Option Addr × Nat), (insAt vs i (none, 0))[a]? = some u → rowOf u.1 u.2 = none ∨ ∃ b, vs[b]? = some u ∧ (a < i ∧ b = a ∨ i < a ∧ b = a - 1) := by
      intro a u hu
      rcases Nat.lt_trichotomy a i with ha | rfl | ha
      · rw [insAt_lt (by omega) ha] at hu; exact .inr ⟨a, hu, .inl ⟨ha, rfl⟩⟩
      · rw [insAt_eq (by omega)] at hu; cases hu; exact .inl rfl
      · rw [insAt_gt (by omega) ha] at hu; exact .inr ⟨a - 1, hu, .inr ⟨ha, rfl⟩⟩
    intro a b u v hab hu hv
    rcases key a u hu with e | ⟨a', ha', h1⟩
    · exact .inl e
    · rcases key b v hv with e | ⟨b', hb', h2⟩
      · exact (Ap.symm (.inl e))
      · exact h.apart a' b' u v (by omega) ha' hb'
theorem lvCells_one {L : List Lv} {vs : List (Option Addr × Nat)} : ∀ v ∈ lvCells L vs, v.oneCell' = true := by
  refine flat_all (fun r u hu => ?_) _
  simp only [List.mem_cons, List.not_mem_nil, or_false] at hu
  rcases hu with rfl | rfl <;> rfl
/-- Insert, whatever the room -/
theorem insert_lv {L : List Lv} {vs : List (Option Addr × Nat)} (i : Nat) (p : Int) (A : Option Addr) (c base vb : Nat) (w : World) (h : OwnLv w base A c L vs) (hb : base ≤ w.heap.size) (hv : Bk w vb 26 #[.int .i64 p, .slice none 0 0]) (hne : some vb ≠ rowOf A c) (hi : i ≤ L.length) (hn : L.length ≤ 1000) :
    Calls Tryd.prog 63 #[.slice A L.length c, .int .i64 i, .slice (some ⟨vb, 0, none⟩) 1 1] w fun e w' => ∃ A' c', e = .returned (.slice A' (insAt L i ⟨p, []⟩).length c') ∧ OwnLv w' base A' c' (insAt L i ⟨p, []⟩) (insAt vs i (none, 0)) ∧ w.grownBy w' (rowOf A c) ∧ (rowOf A' c' = rowOf A c ∨ rowOf A' c' = some w.heap.size) := by
  have fin : ∀ e w', InsPost L.length i p A c base (lvCells L vs) w e w' → ∃ A' c', e = .returned (.slice A' (insAt L i ⟨p, []⟩).length c') ∧ OwnLv w' base A' c' (insAt L i ⟨p, []⟩) (insAt vs i (none, 0)) ∧ w.grownBy w' (rowOf A c) ∧ (rowOf A' c' = rowOf A c ∨ rowOf A' c' = some w.heap.size) := by
    rintro e w' ⟨A', c', rfl, o, hg, hr⟩
    exact ⟨A', c', by rw [insAt_len hi], h.insert hi o hg hr, hg, hr⟩
  by_cases h1 : i = L.length
  · subst h1
    exact (ins_end L.length p A c base vb _ w h.own hb hv hn).mono fin
  · by_cases h2 : L.length + 1 ≤ c
    · exact (ins_shift L.length i p A c base vb _ w h.own lvCells_one hv hne (by omega) h2 hn).mono fin
    · exact (ins_grow L.length i p A c base vb _ w h.own hb lvCells_one hv (by omega) (by omega) hn).mono fin
end Go.Proofs.YtbnjkcgkdpildaaDoor
