/- The contract of meet.Run. -/
import Derived.Test.YtkdgpdijbobmkaaGreatMeetMem2
import Derived.Test.YtkdgpdijbobmkaaGreatGrpG
import Derived.Test.YtkdgpdijbobmkaaGreatGrpA
import Derived.Deep.CutRange
import Derived.Deep.LoopGhost
import Derived.Deep.CutBlock
namespace Go.Proofs.YtkdgpdijbobmkaaGreat
set_option linter.all false
open Go Go.RowKit
/-- of the other side -/
def pick {α : Type} (s : Int) (a b : α) : α := if s = 1 then b else a
theorem pick_1 {α : Type} (a b : α) : pick 1 a b = b := rfl
theorem pick_2 {α : Type} (a b : α) : pick 2 a b = a := rfl
theorem ofx_any (s : Int) (hs : vs s = true) (L M : List Lv) (A1 A2 : Option Addr) (c1 c2 : Nat) (w : World) :
    Calls Tryz.prog 47 #[.agg #[.slice A1 L.length c1, .slice A2 M.length c2], .int .i64 (3 - s)] w fun e w' => e = .returned (.slice (pick s A1 A2) (pick s L M).length (pick s c1 c2)) ∧ Below w.heap.size w w' := by
  rcases side_two hs with rfl | rfl
  · exact of_sell A1 A2 _ _ c1 c2 w
  · exact of_buy A1 A2 _ _ c1 c2 w
theorem withx_any (s : Int) (hs : vs s = true) (L M K : List Lv) (A1 A2 A3 : Option Addr) (c1 c2 c3 : Nat) (w : World) :
    Calls Tryz.prog 129 #[.agg #[.slice A1 L.length c1, .slice A2 M.length c2], .int .i64 (3 - s), .slice A3 K.length c3] w fun e w' => e = .returned (.agg #[.slice (pick s A3 A1) (pick s K L).length (pick s c3 c1), .slice (pick s A2 A3) (pick s M K).length (pick s c2 c3)]) ∧ Below w.heap.size w w' := by
  rcases side_two hs with rfl | rfl
  · exact with_sell A1 A2 A3 _ _ _ c1 c2 c3 w
  · exact with_buy A1 A2 A3 _ _ _ c1 c2 c3 w
theorem SideOk.start {s : Int} {L : List Lv} (h : SideOk s L) {q : Int} (h1 : 1 ≤ q) (h2 : q ≤ 10000) : MOk ⟨L, q, [], [], false⟩ :=
  ⟨h.full, fun x hx r hr => h.sound x hx r hr, h.few, by dsimp only; omega, by dsimp only; omega, by have := h.few; simpa using this, by simp⟩
theorem MOk.start {L M : List Lv} {o : Order} (hb : BookOk L M) (ho : o.err = 0) : MOk ⟨pick o.side L M, o.qty, [], [], false⟩ := by
  have h := Order.err_ok ho
  rcases h.2.2.1 with e | e
  · rw [e]; exact hb.sells.start (by omega) (by omega)
  · rw [e]; exact hb.buys.start (by omega) (by omega)
theorem MOk.lvOk {s : MSt} (h : MOk s) : LvOk s.L := by
  refine ⟨by have := full_len h.some_; have := h.few; omega, fun x hx => Nat.le_trans (len_cnt hx) h.few, by have := h.few; omega, fun i hi => ?_, h.some_⟩
  obtain ⟨x, hx, hi⟩ := List.mem_flatMap.1 hi
  obtain ⟨r, hr, rfl⟩ := List.mem_map.1 hi
  exact rest_id (h.each x hx r hr)
/-- how Run ends -/
def RunPost (L M : List Lv) (o : Order) (mode : Int) (w : World) (e : Ending) (w' : World) : Prop :=
  (met L M o mode = none ∧ e = .returned (.tuple #[.agg #[.slice none 0 0, .slice none 0 0, .slice none 0 0, .int .i64 0, .slice none 0 0, .bool false], er 4]) ∧ Below w.heap.size w w') ∨
  ∃ s A1 c1 v1 A2 c2 v2 AT cT AW cW, met L M o mode = some s ∧ MOk s ∧ e = .returned (.tuple #[.agg #[.slice A1 (pick o.side s.L L).length c1, .slice A2 (pick o.side M s.L).length c2, .slice AT s.T.length cT, .int .i64 s.left, .slice AW s.W.length cW, .bool s.ends], .nilIface]) ∧
    OwnLv w' w.heap.size A1 c1 (pick o.side s.L L) v1 ∧ OwnLv w' w.heap.size A2 c2 (pick o.side M s.L) v2 ∧ OwnS w' w.heap.size 6 AT s.T.length cT (trows s.T) ∧ OwnS w' w.heap.size 1 AW s.W.length cW (irows s.W) ∧ Below w.heap.size w w'
/-- the first level's cells -/
theorem MMem.top {w : World} {base gm cap cT cW : Nat} {A AT AW : Option Addr} {L : List Lv} {x : Lv} {vs : List (Option Addr × Nat)} {T : List Trade} {W : List Int} {left : Int} {ends : Bool} (h : MMem w base gm A cap (x :: L) vs AT cT T AW cW W left ends) :
    ∃ g off v us, A = some ⟨g, off, none⟩ ∧ vs = v :: us ∧ g < w.heap.size ∧ w.cell? ⟨g, off, none⟩ = some (.int .i64 x.price) ∧ w.cell? ⟨g, off + 1, none⟩ = some (.slice v.1 x.rs.length v.2) ∧ w.frozen? ⟨g, off + 1, none⟩ = false ∧ OwnS w base 5 v.1 x.rs.length v.2 (rows x.rs) := by
  have hl := h.lv.len
  obtain ⟨v, us, rfl⟩ : ∃ v us, vs = v :: us := by cases vs with
    | nil => simp at hl
    | cons v us => exact ⟨v, us, rfl⟩
  obtain ⟨g, off, e, _, h2, h3, h4⟩ := h.lv.own.cell (by simp)
  have hle := h.lv.own.le
  have hf := (h4 1 (by simp at hle ⊢; omega)).2
  have c0 := h3 0 (by simp)
  have c1 := h3 1 (by simp only [List.length_cons]; omega)
  exact ⟨g, off, v, us, e, rfl, h2, c0, c1, hf, (h.lv.each 0 x v rfl rfl).1⟩
/-- the first rest's cells -/
theorem OwnS.first {w : World} {base c : Nat} {A : Option Addr} {r : Rest} {t : List Rest} (h : OwnS w base 5 A (t.length + 1) c (rows (r :: t))) :
    ∃ g off, A = some ⟨g, off, none⟩ ∧ g < w.heap.size ∧ w.cell? ⟨g, off, none⟩ = some (.int .i64 r.id) ∧ w.cell? ⟨g, off + 1, none⟩ = some (.int .i64 r.who) ∧ w.cell? ⟨g, off + 2, none⟩ = some (.int .i64 r.qty) ∧ w.cell? ⟨g, off + 3, none⟩ = some (.int .i64 r.hidden) ∧ w.cell? ⟨g, off + 4, none⟩ = some (.int .i64 r.show_) := by
  obtain ⟨g, off, e, _, h2, h3, _⟩ := h.cell (by omega)
  exact ⟨g, off, e, h2, h3 0 (by omega), h3 1 (by omega), h3 2 (by omega), h3 3 (by omega), h3 4 (by omega)⟩
theorem box6 {w' : World} {v0 v1 v2 v3 v4 v5 : Value} {g : Nat} {t : TypeId} (h : Bk w' g t #[v0, v1, v2, v3, v4, v5]) : w'.cell? ⟨g, 0, none⟩ = some v0 ∧ w'.cell? ⟨g, 1, none⟩ = some v1 ∧ w'.cell? ⟨g, 2, none⟩ = some v2 ∧ w'.cell? ⟨g, 3, none⟩ = some v3 ∧ w'.cell? ⟨g, 4, none⟩ = some v4 ∧ w'.cell? ⟨g, 5, none⟩ = some v5 :=
  ⟨h.cell 0, h.cell 1, h.cell 2, h.cell 3, h.cell 4, h.cell 5⟩
theorem box5 {w' : World} {v0 v1 v2 v3 v4 : Value} {g : Nat} {t : TypeId} (h : Bk w' g t #[v0, v1, v2, v3, v4]) : w'.cell? ⟨g, 0, none⟩ = some v0 ∧ w'.cell? ⟨g, 1, none⟩ = some v1 ∧ w'.cell? ⟨g, 2, none⟩ = some v2 ∧ w'.cell? ⟨g, 3, none⟩ = some v3 ∧ w'.cell? ⟨g, 4, none⟩ = some v4 := ⟨h.cell 0, h.cell 1, h.cell 2, h.cell 3, h.cell 4⟩
theorem Bk.set6 {w : World} {g : Nat} {t : TypeId} {x0 x1 x2 x3 x4 x5 : Value} (h : Bk w g t #[x0, x1, x2, x3, x4, x5]) (a b c d e f : Value) :
    Bk ((((((w.setCell ⟨g, 0, none⟩ a).setCell ⟨g, 1, none⟩ b).setCell ⟨g, 2, none⟩ c).setCell ⟨g, 3, none⟩ d).setCell ⟨g, 4, none⟩ e).setCell ⟨g, 5, none⟩ f) g t #[a, b, c, d, e, f] :=
  (((((h.set_ 0 a).set_ 1 b).set_ 2 c).set_ 3 d).set_ 4 e).set_ 5 f
theorem MMem.start {w : World} {base c : Nat} {A : Option Addr} {L : List Lv} {vs : List (Option Addr × Nat)} (h : OwnLv w base A c L vs) (hb : base ≤ w.heap.size) {g : Nat} (hg : g = w.heap.size) {T : List Trade} {W : List Int} {left : Int} {ends : Bool} (hT : T = [] := by rfl) (hW : W = [] := by rfl) :
    MMem (w.alloc (.cells #[.slice none 0 0, .slice none 0 0, .slice none 0 0, .int .i64 left, .slice none 0 0, .bool ends] 146)) base g A c L vs none 0 T none 0 W left ends := by
  subst hT hW hg
  have hn : rowOf none 0 = none := rfl
  refine ⟨h.below ((Below.refl _ _).alloc (Nat.le_refl _) _), OwnS.nil _ _ _ _, OwnS.nil _ _ _ _, Bk.new _ _ _, ?_, ?_, .inl rfl, .inl rfl, .inl rfl, fun _ _ _ => .inl rfl, .inl rfl, fun _ _ _ => .inl rfl, .inl rfl, ?_⟩
  · exact Ap.symm (Ap.new (n := w.heap.size) (fun k hk => by cases hk; exact Nat.le_refl _) (fun k hk => (h.row_lt k hk).2))
  · exact fun i u hu => Ap.symm (Ap.new (n := w.heap.size) (fun k hk => by cases hk; exact Nat.le_refl _) (fun k hk => (h.each_lt hu k hk).2))
  · simp; omega
theorem met_start {L M : List Lv} {o : Order} {mode : Int} (h : MOk ⟨pick o.side L M, o.qty, [], [], false⟩) : ∃ n, mSize ⟨pick o.side L M, o.qty, [], [], false⟩ < n ∧ met L M o mode = mRun o mode n ⟨pick o.side L M, o.qty, [], [], false⟩ := by
  refine ⟨10000 + 60 + 2, ?_, rfl⟩
  have h1 := h.few; have h2 := h.left1; have h3 := h.left0
  dsimp only at h1 h2 h3
  simp only [mSize]
  simp
  omega
theorem mGo_true {o : Order} {L : List Lv} {left : Int} {T : List Trade} {W : List Int} {ends : Bool} (h : mGo o ⟨L, left, T, W, ends⟩ = true) : 0 < left ∧ ends = false ∧ ∃ x L', L = x :: L' := by
  simp only [mGo, Bool.and_eq_true, decide_eq_true_eq, Bool.not_eq_true'] at h
  refine ⟨h.1.1, h.1.2, ?_⟩
  cases L with
  | nil => simp at h
  | cons x L' => exact ⟨x, L', rfl⟩
theorem mStep_trade {o : Order} {mode : Int} {x : Lv} {L : List Lv} {left : Int} {T : List Trade} {W : List Int} {ends : Bool} {r : Rest} {t : List Rest} (hx : x.rs = r :: t) (h : ¬ (r.who = o.who ∧ mode ≠ 0)) :
    mStep o mode ⟨x :: L, left, T, W, ends⟩ = ⟨mCut x (qFirst r t left).2 L, left - (qFirst r t left).1.qty, T ++ [mTr o (qFirst r t left).1 x.price], W, ends⟩ := by
  unfold mStep
  dsimp only
  rw [hx]
  dsimp only
  rw [if_neg h]
theorem MOk.top_rest {p left : Int} {r : Rest} {t : List Rest} {L : List Lv} {T : List Trade} {W : List Int} {ends : Bool} (h : MOk ⟨⟨p, r :: t⟩ :: L, left, T, W, ends⟩) : r.err = 0 ∧ t.length ≤ 100 := by
  refine ⟨h.each _ (List.mem_cons_self ..) r (List.mem_cons_self ..), ?_⟩
  have := h.few
  dsimp only at this
  rw [cnt_cons] at this
  simp only [List.length_cons] at this
  omega
theorem MMem.row_far {w : World} {base gm cap cT cW g off : Nat} {AT AW : Option Addr} {L : List Lv} {vs : List (Option Addr × Nat)} {T : List Trade} {W : List Int} {left : Int} {ends : Bool} {x : Lv} (h : MMem w base gm (some ⟨g, off, none⟩) cap (x :: L) vs AT cT T AW cW W left ends) {i : Nat} {v : Option Addr × Nat} (hv : vs[i]? = some v) : some g ≠ rowOf v.1 v.2 ∧ some gm ≠ rowOf v.1 v.2 := by
  have hcap : 0 < cap := by have := h.lv.own.le; simp at this; omega
  have hrow : rowOf (some ⟨g, off, none⟩) cap = some g := by rw [rowOf, if_neg (by omega)]; rfl
  have hi : i < (x :: L).length := by rw [← h.lv.len]; exact (List.getElem?_eq_some_iff.1 hv).1
  constructor
  · rcases (h.lv.each i _ v (lv_get hi) hv).2 with e | e
    · rw [e]; simp
    · rw [hrow] at e; exact Ne.symm e
  · rcases h.g2 i v hv with e | e
    · rw [e]; simp
    · exact Ne.symm e
theorem cell_far3 {w : World} {p : Addr} {g i j k : Nat} {v a b c : Value} (h : w.cell? p = some v) (hg : p.block ≠ g) : (((w.setCell ⟨g, i, none⟩ a).setCell ⟨g, j, none⟩ b).setCell ⟨g, k, none⟩ c).cell? p = some v := cell_far1 (cell_far2 h hg) hg
theorem grown_of_drew {w w1 : World} {row : Option Nat} (h : w.drew.grownBy w1 row) : w.grownBy w1 row := ⟨h.os, h.tape, h.output, h.size, h.block⟩
theorem grown_of_alloc {w w1 : World} {o : Obj} {row : Option Nat} (h : (w.alloc o).drew.grownBy w1 row) : w.grownBy w1 row := (World.grownBy_alloc w o row).trans (grown_of_drew h)
theorem grown_set3 {w w1 : World} {row : Option Nat} {b i j k : Nat} (h : w.grownBy w1 row) (hb : w.heap.size ≤ b) (x y z : Value) : w.grownBy (((w1.setCell ⟨b, i, none⟩ x).setCell ⟨b, j, none⟩ y).setCell ⟨b, k, none⟩ z) row := by
  have g1 : ∀ {w1 : World} {o : Nat} {u : Value}, w.grownBy w1 row → w.grownBy (w1.setCell ⟨b, o, none⟩ u) row := fun {w1 o u} h1 =>
    ⟨h1.os, h1.tape, h1.output, by have := h1.size; simpa using this, fun k hk hk2 => (Below.heap_setCell w1 _ u k (by simp; omega)).trans (h1.block k hk hk2)⟩
  exact g1 (g1 (g1 h))
theorem row_new {a b : Option Nat} {n m : Nat} (h : a = none ∨ a = b ∨ ∃ k, a = some k ∧ m ≤ k) (hb : some n ≠ b) (hm : n < m) : a ≠ some n := by
  rcases h with e | e | ⟨k, e, hk⟩
  · rw [e]; simp
  · rw [e]; exact Ne.symm hb
  · rw [e]; intro e2; cases e2; omega
theorem row_old {a b : Option Nat} {w : World} {m : Nat} (h : a = none ∨ a = b ∨ ∃ k, a = some k ∧ m ≤ k) (hm : w.heap.size ≤ m) : a = none ∨ a = b ∨ ∃ k, a = some k ∧ w.heap.size ≤ k := by
  rcases h with e | e | ⟨k, e, hk⟩
  · exact .inl e
  · exact .inr (.inl e)
  · exact .inr (.inr ⟨k, e, by omega⟩)
theorem Bk.set3 {w : World} {g : Nat} {t : TypeId} {x0 x1 x2 : Value} (h : Bk w g t #[x0, x1, x2]) (a b c : Value) : Bk (((w.setCell ⟨g, 0, none⟩ a).setCell ⟨g, 1, none⟩ b).setCell ⟨g, 2, none⟩ c) g t #[a, b, c] := ((h.set_ 0 a).set_ 1 b).set_ 2 c
theorem MMem.top_ne {w : World} {base gm cap cT cW g off : Nat} {AT AW : Option Addr} {L : List Lv} {vs : List (Option Addr × Nat)} {T : List Trade} {W : List Int} {left : Int} {ends : Bool} {x : Lv} (h : MMem w base gm (some ⟨g, off, none⟩) cap (x :: L) vs AT cT T AW cW W left ends) : g ≠ gm := by
  have hcap : 0 < cap := by have := h.lv.own.le; simp at this; omega
  have hrow : rowOf (some ⟨g, off, none⟩) cap = some g := by rw [rowOf, if_neg (by omega)]; rfl
  rcases h.g1 with e | e
  · rw [hrow] at e; cases e
  · rw [hrow] at e; exact fun e2 => e (by rw [e2])
theorem box3 {w' : World} {v0 v1 v2 : Value} {g : Nat} {t : TypeId} (h : Bk w' g t #[v0, v1, v2]) : w'.cell? ⟨g, 0, none⟩ = some v0 ∧ w'.cell? ⟨g, 1, none⟩ = some v1 ∧ w'.cell? ⟨g, 2, none⟩ = some v2 := ⟨h.cell 0, h.cell 1, h.cell 2⟩
theorem keepC {w w' : World} {p : Addr} {v : Value} (hb : Below w.heap.size w w') (h : w.cell? p = some v) : w'.cell? p = some v := (hb.cell (World.block_lt_of_cell? w p h)).trans h
theorem MMem.apT {w : World} {base gm cap cT cW : Nat} {A AT AW : Option Addr} {L : List Lv} {vs : List (Option Addr × Nat)} {T : List Trade} {W : List Int} {left : Int} {ends : Bool} (h : MMem w base gm A cap L vs AT cT T AW cW W left ends) : some gm ≠ rowOf AT cT := by
  rcases h.g3 with e | e
  · rw [e]; simp
  · exact Ne.symm e
theorem MMem.apTA {w : World} {base gm cap cT cW g off : Nat} {AT AW : Option Addr} {L : List Lv} {vs : List (Option Addr × Nat)} {T : List Trade} {W : List Int} {left : Int} {ends : Bool} {x : Lv} (h : MMem w base gm (some ⟨g, off, none⟩) cap (x :: L) vs AT cT T AW cW W left ends) : some g ≠ rowOf AT cT := by
  have hcap : 0 < cap := by have := h.lv.own.le; simp at this; omega
  have hrow : rowOf (some ⟨g, off, none⟩) cap = some g := by rw [rowOf, if_neg (by omega)]; rfl
  rcases h.a1 with e | e
  · rw [e]; simp
  · rw [hrow] at e; exact Ne.symm e
theorem MMem.apW {w : World} {base gm cap cT cW : Nat} {A AT AW : Option Addr} {L : List Lv} {vs : List (Option Addr × Nat)} {T : List Trade} {W : List Int} {left : Int} {ends : Bool} (h : MMem w base gm A cap L vs AT cT T AW cW W left ends) : some gm ≠ rowOf AW cW := by
  rcases h.g4 with e | e
  · rw [e]; simp
  · exact Ne.symm e
theorem int_one (a : Int) : ∀ u ∈ (#[Value.int .i64 a] : Array Value).toList, u.oneCell' = true := by
  intro u hu
  simp only [List.mem_cons, List.not_mem_nil, or_false] at hu
  rcases hu with rfl
  rfl
theorem below_set6 {w w1 : World} {g : Nat} (h : Below w.heap.size w w1) (hg : w.heap.size ≤ g) (a b c d e f : Value) : Below w.heap.size w ((((((w1.setCell ⟨g, 0, none⟩ a).setCell ⟨g, 1, none⟩ b).setCell ⟨g, 2, none⟩ c).setCell ⟨g, 3, none⟩ d).setCell ⟨g, 4, none⟩ e).setCell ⟨g, 5, none⟩ f) :=
  (((((h.setCell (p := ⟨g, 0, none⟩) hg a).setCell (p := ⟨g, 1, none⟩) hg b).setCell (p := ⟨g, 2, none⟩) hg c).setCell (p := ⟨g, 3, none⟩) hg d).setCell (p := ⟨g, 4, none⟩) hg e).setCell (p := ⟨g, 5, none⟩) hg f
theorem ends_bool (m : Int) : decide (m ≠ 2) = (m != 2) := by by_cases h : m = 2 <;> simp [h]
theorem OwnLv.far6 {w : World} {base cap g : Nat} {A : Option Addr} {L : List Lv} {vs : List (Option Addr × Nat)} (h : OwnLv w base A cap L vs) (hg : g < base) (a b c d e f : Value) : OwnLv ((((((w.setCell ⟨g, 0, none⟩ a).setCell ⟨g, 1, none⟩ b).setCell ⟨g, 2, none⟩ c).setCell ⟨g, 3, none⟩ d).setCell ⟨g, 4, none⟩ e).setCell ⟨g, 5, none⟩ f) base A cap L vs :=
  ((h.far2 hg a b).far2 hg c d).far2 hg e f
theorem OwnS.under {w : World} {base s n cap : Nat} {A : Option Addr} {xs : List Value} {p : Addr} (h : OwnS w base s A n cap xs) (hp : p.block < base) (u : Value) : OwnS (w.setCell p u) base s A n cap xs :=
  h.far (fun e => by have := (h.row_lt _ e).1; omega) u
theorem OwnS.far6 {w : World} {base cap g s n : Nat} {A : Option Addr} {xs : List Value} (h : OwnS w base s A n cap xs) (hg : g < base) (a b c d e f : Value) : OwnS ((((((w.setCell ⟨g, 0, none⟩ a).setCell ⟨g, 1, none⟩ b).setCell ⟨g, 2, none⟩ c).setCell ⟨g, 3, none⟩ d).setCell ⟨g, 4, none⟩ e).setCell ⟨g, 5, none⟩ f) base s A n cap xs :=
  (((((h.under (p := ⟨g, 0, none⟩) hg a).under (p := ⟨g, 1, none⟩) hg b).under (p := ⟨g, 2, none⟩) hg c).under (p := ⟨g, 3, none⟩) hg d).under (p := ⟨g, 4, none⟩) hg e).under (p := ⟨g, 5, none⟩) hg f
theorem cell_new3 {w : World} {p q : Addr} {v a : Value} {o : Obj} {n : Nat} (h : w.cell? p = some v) (hq : q = ⟨w.heap.size, n, none⟩) : ((w.alloc o).setCell q a).cell? p = some v := by
  subst hq
  exact cell_far1 (cell_alloc h o) (by have := World.block_lt_of_cell? w p h; simp only; omega)
/-- the boxes of a run -/
structure RunBox (w : World) (g : Nat) (bk oc mz : Array Value) : Prop where
  b : Bk w g 54 bk
  o : Bk w (g + 1) 31 oc
  r : Bk w (g + 2) 146 mz
theorem RunBox.keep {w w1 : World} {g : Nat} {bk oc mz : Array Value} (h : RunBox w g bk oc mz) (hb : Below w.heap.size w w1) : RunBox w1 g bk oc mz := ⟨h.b.keep hb, h.o.keep hb, h.r.keep hb⟩
theorem RunBox.far {w : World} {g : Nat} {bk oc mz : Array Value} {p : Addr} (h : RunBox w g bk oc mz) (hp : g + 2 < p.block) (u : Value) : RunBox (w.setCell p u) g bk oc mz := ⟨h.b.far (by omega) u, h.o.far (by omega) u, h.r.far (by omega) u⟩
theorem RunBox.grown {w w1 : World} {g : Nat} {bk oc mz : Array Value} {row : Option Nat} (h : RunBox w g bk oc mz) (hg : w.grownBy w1 row) (hr : ∀ k, row = some k → g + 2 < k) : RunBox w1 g bk oc mz :=
  ⟨h.b.grown hg (fun e => by have := hr _ e.symm; omega), h.o.grown hg (fun e => by have := hr _ e.symm; omega), h.r.grown hg (fun e => by have := hr _ e.symm; omega)⟩
set_option maxRecDepth 100000 in
set_option maxHeartbeats 4000000 in
theorem run_any (L M : List Lv) (o : Order) (mode : Int) (A1 A2 : Option Addr) (c1 c2 : Nat) (w : World) (h1 : RdLv w w.heap.size A1 L) (h2 : RdLv w w.heap.size A2 M) (hbk : BookOk L M) (ho : o.err = 0) (hA1 : A1 = none → c1 = 0) (hA2 : A2 = none → c2 = 0) :
    Calls Tryz.prog 115 #[.agg #[.slice A1 L.length c1, .slice A2 M.length c2], .agg #[.int .i64 o.id, .int .i64 o.who, .int .i64 o.side, .int .i64 o.kind, .int .i64 o.price, .int .i64 o.qty, .int .i64 o.show_, .int .i64 o.stop], .int .i64 mode] w (RunPost L M o mode w) := by
  have HL := Lib.hid h1; have HM := Lib.hid h2
  have hs : vs o.side = true := vs_of (Order.err_ok ho).2.2.1
  have OK1 := Lib.hid (LvOk.of (sideE_iff.2 hbk.buys)); have OK2 := Lib.hid (LvOk.of (sideE_iff.2 hbk.sells))
  have S0 := Lib.hid (MOk.start hbk ho)
  have cOwn := Lib.hid (fun w' h h' => bown_any L M A1 A2 c1 c2 w' h h' OK1.out OK2.out hA1 hA2)
  have cOf := Lib.hid (fun A1 A2 c1 c2 w => ofx_any o.side hs L M A1 A2 c1 c2 w)
  have cOt := Lib.hid (fun w => other_any o.side hs w)
  have CMAY := Lib.hid (fun p w => may_any o p w)
  clear h1 h2 hbk ho
  have hb : Below w.heap.size w (((w.alloc (.cells #[.slice A1 L.length c1, .slice A2 M.length c2] 54)).alloc (.cells #[.int .i64 o.id, .int .i64 o.who, .int .i64 o.side, .int .i64 o.kind, .int .i64 o.price, .int .i64 o.qty, .int .i64 o.show_, .int .i64 o.stop] 31)).alloc (.cells #[.slice none 0 0, .slice none 0 0, .slice none 0 0, .int .i64 0, .slice none 0 0, .bool false] 146)) := below_then_alloc (below_then_alloc ((Below.refl _ _).alloc (Nat.le_refl _) _))
  have bb := ((Bk.new w 54 #[.slice A1 L.length c1, .slice A2 M.length c2]).alloc (.cells #[.int .i64 o.id, .int .i64 o.who, .int .i64 o.side, .int .i64 o.kind, .int .i64 o.price, .int .i64 o.qty, .int .i64 o.show_, .int .i64 o.stop] 31)).alloc (.cells #[.slice none 0 0, .slice none 0 0, .slice none 0 0, .int .i64 0, .slice none 0 0, .bool false] 146)
  have bo := (Bk.at_ (w := w.alloc (.cells #[.slice A1 L.length c1, .slice A2 M.length c2] 54)) (g' := w.heap.size + 1) (by simp) 31 #[.int .i64 o.id, .int .i64 o.who, .int .i64 o.side, .int .i64 o.kind, .int .i64 o.price, .int .i64 o.qty, .int .i64 o.show_, .int .i64 o.stop]).alloc (.cells #[.slice none 0 0, .slice none 0 0, .slice none 0 0, .int .i64 0, .slice none 0 0, .bool false] 146)
  have br := Bk.at_ (w := (w.alloc (.cells #[.slice A1 L.length c1, .slice A2 M.length c2] 54)).alloc (.cells #[.int .i64 o.id, .int .i64 o.who, .int .i64 o.side, .int .i64 o.kind, .int .i64 o.price, .int .i64 o.qty, .int .i64 o.show_, .int .i64 o.stop] 31)) (g' := w.heap.size + 2) (by simp) 146 #[.slice none 0 0, .slice none 0 0, .slice none 0 0, .int .i64 0, .slice none 0 0, .bool false]
  go_enter Tryz.func115, Tryz.ntmps115
  go_upto_region 1 with fail
  generalize ((w.alloc (.cells #[.slice A1 L.length c1, .slice A2 M.length c2] 54)).alloc (.cells #[.int .i64 o.id, .int .i64 o.who, .int .i64 o.side, .int .i64 o.kind, .int .i64 o.price, .int .i64 o.qty, .int .i64 o.show_, .int .i64 o.stop] 31)).alloc (.cells #[.slice none 0 0, .slice none 0 0, .slice none 0 0, .int .i64 0, .slice none 0 0, .bool false] 146) = w0 at *
  have k8 := box8o bo
  obtain ⟨q0, q1⟩ := box2 bb
  go_wp2_with fail
  go_at_call 113
  refine (cOt.out _).mono ?_
  rintro e w' ⟨rfl, rfl⟩
  go_wp2_with fail
  go_at_call 45
  refine (cOwn.out _ (HL.out.on hb) (HM.out.on hb)).mono ?_
  rintro e w1 ⟨Aa, ca, va, Am, cm, vm, rfl, oa, om, hb1⟩
  have HZ1 := Lib.hid hb1.size
  have HG := Lib.hid (show w.heap.size + 2 < w0.heap.size from br.lt)
  have OWN := Lib.hid (show OwnLv w1 w0.heap.size (pick o.side Aa Am) (pick o.side ca cm) (pick o.side L M) (pick o.side va vm) by rcases side_two hs with h | h <;> rw [h] <;> assumption)
  replace bb := bb.keep hb1; replace bo := bo.keep hb1; replace br := br.keep hb1; replace hb := below_then hb1 hb
  clear oa om hb1 q0 q1 k8
  go_wp2_with fail
  go_at_call 47
  refine (cOf.out _ _ _ _ _).mono ?_
  rintro e w2 ⟨rfl, hb1⟩
  have OWN2 := Lib.hid (OWN.out.below hb1)
  have hz0 : w0.heap.size ≤ w2.heap.size := Nat.le_trans HZ1.out hb1.size
  replace bb := bb.keep hb1; replace bo := bo.keep hb1; replace br := br.keep hb1; replace hb := below_then hb1 hb
  clear OWN hb1 HZ1
  have k8 := box8o bo
  obtain ⟨Ak, hAk⟩ : ∃ X, X = pick o.side Aa Am := ⟨_, rfl⟩
  obtain ⟨ck, hck⟩ : ∃ X, X = pick o.side ca cm := ⟨_, rfl⟩
  obtain ⟨vk, hvk⟩ : ∃ X, X = pick o.side va vm := ⟨_, rfl⟩
  obtain ⟨K, hK⟩ : ∃ X, X = pick o.side L M := ⟨_, rfl⟩
  rw [← hAk, ← hck, ← hvk, ← hK] at OWN2
  rw [← hAk, ← hck, ← hK]
  have HK := Lib.hid hK
  clear hAk hck hvk hK
  have hgl : w.heap.size + 2 < w0.heap.size := HG.out
  have RB0 := Lib.hid (RunBox.mk bb bo br)
  clear bb bo br
  go_upto_block 0 with fail
  go_cut [9] (fun l wx => ∃ s A cap vs AT cT AW cW, l = .slice A s.L.length cap ∧ met L M o mode = some s ∧ MOk s ∧ MMem wx w0.heap.size w2.heap.size A cap s.L vs AT cT s.T AW cW s.W s.left s.ends ∧ RunBox wx w.heap.size #[.slice A1 L.length c1, .slice A2 M.length c2] #[.int .i64 o.id, .int .i64 o.who, .int .i64 o.side, .int .i64 o.kind, .int .i64 o.price, .int .i64 o.qty, .int .i64 o.show_, .int .i64 o.stop] #[.slice none 0 0, .slice none 0 0, .slice none 0 0, .int .i64 0, .slice none 0 0, .bool false] ∧ Below w.heap.size w wx)
  case first =>
    go_wp2_with fail
    have M0 := Lib.hid (MMem.start (T := []) (W := []) (left := o.qty) (ends := false) OWN2.out hz0 rfl)
    have S1 := Lib.hid (show MOk ⟨K, o.qty, [], [], false⟩ by rw [HK.out]; exact S0.out)
    have R1 := Lib.hid (show ∃ n, mSize ⟨K, o.qty, [], [], false⟩ < n ∧ met L M o mode = mRun o mode n ⟨K, o.qty, [], [], false⟩ by rw [HK.out]; exact met_start S0.out)
    go_loopg [9] (mSize ⟨K, o.qty, [], [], false⟩) (fun k l wr => ∃ s A cap vs AT cT AW cW, k = mSize s ∧ l = .slice A s.L.length cap ∧ (∃ n, mSize s < n ∧ met L M o mode = mRun o mode n s) ∧ MOk s ∧ MMem wr w0.heap.size w2.heap.size A cap s.L vs AT cT s.T AW cW s.W s.left s.ends ∧ RunBox wr w.heap.size #[.slice A1 L.length c1, .slice A2 M.length c2] #[.int .i64 o.id, .int .i64 o.who, .int .i64 o.side, .int .i64 o.kind, .int .i64 o.price, .int .i64 o.qty, .int .i64 o.show_, .int .i64 o.stop] #[.slice none 0 0, .slice none 0 0, .slice none 0 0, .int .i64 0, .slice none 0 0, .bool false] ∧ Below w.heap.size w wr)
    case atStart => exact ⟨_, _, _, _, _, _, _, _, rfl, rfl, R1.out, S1.out, by simpa using M0.out, RB0.out.keep ((Below.refl _ _).alloc (Nat.le_refl _) _), below_then_alloc hb⟩
    case round =>
      obtain ⟨⟨Ls, left, T, W, ends⟩, A, cap, vs, AT, cT, AW, cW, rfl, rfl, hrun, hok, hmm, hrb, hbw⟩ := hrel
      dsimp only at *
      have HRUN := Lib.hid hrun; have HOK := Lib.hid hok; have HMM := Lib.hid hmm
      clear hrun hok OWN2 M0 S1 R1 RB0 k8
      obtain ⟨m0, m1, m2, m3, m4, m5⟩ := box6 hmm.m
      have k8 := box8o hrb.o
      go_upto_region 4 with fail
      go_cut [44] from 24 to 125 (fun v wx => v = .bool (mGo o ⟨Ls, left, T, W, ends⟩) ∧ Below wr.heap.size wr wx)
      case first =>
        --<cond
        rcases (show left ≤ 0 ∨ 0 < left by omega) with hl | hl
        · have HE := Lib.hid (show mGo o ⟨Ls, left, T, W, ends⟩ = false by simp [mGo, show ¬ 0 < left by omega])
          have hd : decide (0 < left) = false := decide_eq_false (by omega)
          clear hl hmm hrb hbw
          go_wp2
          go_quiet (fail)
          go_wp2
          go_meet
          case rel => exact ⟨by rw [HE.out], below_drewN (Below.refl _ _) _⟩
        have hd : decide (0 < left) = true := decide_eq_true hl
        cases ends
        case true =>
          have HE := Lib.hid (show mGo o ⟨Ls, left, T, W, true⟩ = false by simp [mGo])
          clear hl hmm hrb hbw
          go_wp2
          go_quiet (fail)
          go_wp2
          go_meet
          case rel => exact ⟨by rw [HE.out], below_drewN (Below.refl _ _) _⟩
        cases Ls with
        | nil =>
          have HE := Lib.hid (show mGo o ⟨[], left, T, W, false⟩ = false by simp [mGo])
          have hd2 : decide (0 < ([] : List Lv).length) = false := rfl
          clear hl hmm hrb hbw
          go_wp2
          go_quiet (fail)
          go_wp2
          go_meet
          case rel => exact ⟨by rw [HE.out], below_drewN (Below.refl _ _) _⟩
        | cons x Ls =>
          have HE := Lib.hid (show mGo o ⟨x :: Ls, left, T, W, false⟩ = may o x.price by simp [mGo, hl])
          have hd2 : decide (0 < (x :: Ls).length) = true := by simp
          have hi : (0 : Int) < ((x :: Ls).length : Int) := by simp only [List.length_cons]; omega
          obtain ⟨g, off, v, us, rfl, rfl, _, d0, _, _, _⟩ := hmm.top
          obtain ⟨b0, b1, b2, b3, b4, b5, b6, b7⟩ := k8
          have k0 := cell_regrown b0; have k1 := cell_regrown b1; have k2 := cell_regrown b2; have k3 := cell_regrown b3; have k4 := cell_regrown b4; have k5 := cell_regrown b5; have k6 := cell_regrown b6; have k7 := cell_regrown b7
          have kp := cell_regrown d0; have km3 := cell_regrown m3; have km5 := cell_regrown m5
          have cG := fun d os => Calls.regrown_of (w := wr) (d := d) (os := os) ((CMAY.out x.price _).mono fun e w' ⟨h1, h2⟩ => ⟨h1, by rw [h2]; exact (Below.refl _ _).alloc (Nat.le_refl _) _⟩)
          clear hl hmm hrb hbw
          go_wp2
          refine wp_region_quiet_below (by kernel_rfl) (by kernel_rfl) ?_
          repeat (quiet_step (with_reducible exact cG _ _))
          refine wpQuiet_nil ?_
          intro w3 hw3
          have hb3 : Below wr.heap.size wr w3 := by obtain ⟨p, rfl⟩ := hw3; exact below_regrown _ _ _
          go_wp2
          go_meet
          case rel => exact ⟨by rw [HE.out], hb3⟩
        -->cond
      case rest =>
        obtain ⟨rfl, hb1⟩ := hcut
        have HMM1 := Lib.hid (HMM.out.below hb1)
        have hrb1 := hrb.keep hb1
        have hbw1 := below_then hb1 hbw
        clear HMM hmm hrb hbw hb1 m0 m1 m2 m3 m4 m5 k8
        cases hg : mGo o ⟨Ls, left, T, W, ends⟩
        case false =>
          have HE := Lib.hid (show met L M o mode = some ⟨Ls, left, T, W, ends⟩ by obtain ⟨n, _, h⟩ := HRUN.out; rw [h]; exact mRun_stop hg)
          clear hg
          go_wp2
          go_meet
          case rel => exact ⟨_, _, _, _, _, _, _, _, rfl, HE.out, HOK.out, HMM1.out, hrb1, hbw1⟩
        case true =>
          obtain ⟨hl, rfl, x, Ls, rfl⟩ := mGo_true hg
          have HG2 := Lib.hid hg
          clear hg
          obtain ⟨g, off, v, us, rfl, rfl, hgl1, d0, d1, df, ho⟩ := HMM1.out.top
          obtain ⟨price, rs⟩ := x
          cases rs with
          | nil => exact absurd rfl (HOK.out.some_ _ (List.mem_cons_self ..))
          | cons r t =>
          dsimp only at *
          obtain ⟨gr, ro, hv1, hgr1, r0, r1, r2, r3, r4⟩ := OwnS.first ho
          have hi : (0 : Int) < ((Ls.length + 1 : Nat) : Int) := by omega
          have hj : (0 : Int) < ((t.length + 1 : Nat) : Int) := by omega
          obtain ⟨Av, cv⟩ := v
          dsimp only at *
          subst hv1
          simp only [List.length_cons] at *
          have hbd : Below wc.heap.size wc (wc.alloc (.cells #[.int .i64 r.id, .int .i64 r.who, .int .i64 r.qty, .int .i64 r.hidden, .int .i64 r.show_] 62)) := (Below.refl _ _).alloc (Nat.le_refl _) _
          have bR := Bk.new wc 62 #[.int .i64 r.id, .int .i64 r.who, .int .i64 r.qty, .int .i64 r.hidden, .int .i64 r.show_]
          go_upto_region 6 with fail
          generalize wc.alloc (.cells #[.int .i64 r.id, .int .i64 r.who, .int .i64 r.qty, .int .i64 r.hidden, .int .i64 r.show_] 62) = wd at *
          have hgm := HMM1.out.lt
          have HMM2 := Lib.hid (HMM1.out.below hbd)
          have HO2 := Lib.hid (ho.below hbd)
          have HRB2 := Lib.hid (hrb1.keep hbd)
          have HHB2 := Lib.hid (below_then hbd hbw1)
          have hgA : g < wd.heap.size := Nat.lt_of_lt_of_le hgl1 hbd.size
          replace d0 := (hbd.cell (p := ⟨g, off, none⟩) hgl1).trans d0
          replace d1 := (hbd.cell (p := ⟨g, off + 1, none⟩) hgl1).trans d1
          replace df : wd.frozen? ⟨g, off + 1, none⟩ = false := by rw [← df]; exact hbd.frozen (p := ⟨g, off + 1, none⟩) hgl1
          obtain ⟨gR, hgR⟩ : ∃ X, X = wc.heap.size := ⟨_, rfl⟩
          have HGR := Lib.hid (show gR ≠ w2.heap.size by rw [hgR]; omega)
          rw [← hgR] at bR
          rw [← hgR]
          clear HMM1 ho hrb1 hbw1 hbd r0 r1 r2 r3 r4 hgr1 hgl1 hgR
          obtain ⟨q0, q1, q2, q3, q4⟩ := box5 bR
          obtain ⟨m0, m1, m2, m3, m4, m5⟩ := box6 HMM2.out.m
          have k8 := box8o HRB2.out.o
          go_cut [59] from 24 to 125 (fun v wx => v = .bool (decide (r.who = o.who ∧ mode ≠ 0)) ∧ wx = wd)
          case first =>
            by_cases h1 : r.who = o.who
            · have e1 : (r.who == o.who) = true := by simpa using h1
              by_cases h2 : mode = 0
              · have e2 : (mode != 0) = false := by simpa using h2
                have HE := Lib.hid (show decide (r.who = o.who ∧ mode ≠ 0) = false by simp [h2])
                clear h1 h2
                go_wp2
                go_meet
                case rel => exact ⟨by rw [HE.out], rfl⟩
              · have e2 : (mode != 0) = true := by simpa using h2
                have HE := Lib.hid (show decide (r.who = o.who ∧ mode ≠ 0) = true by simp [h1, h2])
                clear h1 h2
                go_wp2
                go_meet
                case rel => exact ⟨by rw [HE.out], rfl⟩
            · have e1 : (r.who == o.who) = false := by simpa using h1
              have HE := Lib.hid (show decide (r.who = o.who ∧ mode ≠ 0) = false by simp [h1])
              clear h1
              go_wp2
              go_meet
              case rel => exact ⟨by rw [HE.out], rfl⟩
          case rest =>
            obtain ⟨rfl, rfl⟩ := hcut
            obtain ⟨ob, hob⟩ : ∃ X, X = decide (r.who = o.who ∧ mode ≠ 0) := ⟨_, rfl⟩
            rw [← hob]
            have HOB := Lib.hid hob
            clear hob
            go_upto_if 59 with fail
            go_cut [] from 24 to 125 (fun wx => ∃ rs' v' AT' cT' T' AW' cW' W' left' ends', mStep o mode ⟨⟨price, r :: t⟩ :: Ls, left, T, W, false⟩ = ⟨mCut ⟨price, r :: t⟩ rs' Ls, left', T', W', ends'⟩ ∧ MMem wx w0.heap.size w2.heap.size (some ⟨g, off, none⟩) cap (⟨price, rs'⟩ :: Ls) (v' :: us) AT' cT' T' AW' cW' W' left' ends' ∧ RunBox wx w.heap.size #[.slice A1 L.length c1, .slice A2 M.length c2] #[.int .i64 o.id, .int .i64 o.who, .int .i64 o.side, .int .i64 o.kind, .int .i64 o.price, .int .i64 o.qty, .int .i64 o.show_, .int .i64 o.stop] #[.slice none 0 0, .slice none 0 0, .slice none 0 0, .int .i64 0, .slice none 0 0, .bool false] ∧ Below w.heap.size w wx)
            case first =>
              cases ob
              case true =>
                have how : r.who = o.who ∧ mode ≠ 0 := by simpa using HOB.out.symm
                obtain ⟨ho1, ho2⟩ := how
                by_cases h1 : mode = 1
                · have e1 : (mode != 2) = true := by rw [h1]; rfl
                  have e2 : (mode != 1) = false := by rw [h1]; rfl
                  have HS := Lib.hid (show mStep o mode ⟨⟨price, r :: t⟩ :: Ls, left, T, W, false⟩ = ⟨mCut ⟨price, r :: t⟩ (r :: t) Ls, left, T, W, true⟩ by simp [mStep, ho1, h1, mCut])
                  have HM3 := Lib.hid (HMM2.out.setEnds true)
                  have HRB3 := Lib.hid (HRB2.out.far (p := ⟨w2.heap.size, 5, none⟩) (by show w.heap.size + 2 < w2.heap.size; omega) (.bool true))
                  have HHB3 := Lib.hid (HHB2.out.setCell (p := ⟨w2.heap.size, 5, none⟩) (by show w.heap.size ≤ w2.heap.size; omega) (.bool true))
                  have f5 : wc.frozen? ⟨w2.heap.size, 5, none⟩ = false := HMM2.out.m.free 5
                  clear ho1 ho2 h1
                  go_wp2
                  go_meet
                  case rel => exact ⟨_, _, _, _, _, _, _, _, _, _, HS.out, HM3.out, HRB3.out, HHB3.out⟩
                · --<drop
                  have e2 : (mode != 1) = true := by simpa using h1
                  obtain ⟨eb, heb⟩ : ∃ eb, eb = (mode != 2) := ⟨_, rfl⟩
                  have HS := Lib.hid (show mStep o mode ⟨⟨price, r :: t⟩ :: Ls, left, T, W, false⟩ = ⟨mCut ⟨price, r :: t⟩ t Ls, left, T, W ++ [r.id], eb⟩ by rw [heb, ← ends_bool]; unfold mStep; dsimp only; rw [if_pos ⟨ho1, ho2⟩, if_neg h1])
                  have HM3 := Lib.hid (HMM2.out.setEnds eb)
                  have HRB3 := Lib.hid (HRB2.out.far (p := ⟨w2.heap.size, 5, none⟩) (by show w.heap.size + 2 < w2.heap.size; omega) (.bool eb))
                  have HHB3 := Lib.hid (HHB2.out.setCell (p := ⟨w2.heap.size, 5, none⟩) (by show w.heap.size ≤ w2.heap.size; omega) (.bool eb))
                  have f5 : wc.frozen? ⟨w2.heap.size, 5, none⟩ = false := HMM2.out.m.free 5
                  have hgRm : gR ≠ w2.heap.size := HGR.out
                  have bR3 := bR.far (p := ⟨w2.heap.size, 5, none⟩) hgRm (.bool eb)
                  have e3 := heb.symm
                  have hWl : W.length ≤ 60 := by have := HOK.out.went; dsimp only at this; omega
                  clear ho1 ho2 h1 heb
                  go_upto_region 8 with fail
                  generalize wc.setCell ⟨w2.heap.size, 5, none⟩ (.bool eb) = wd at *
                  clear d0 d1 df q0 q1 q2 q3 q4 m0 m1 m2 m3 m4 m5 k8 f5 bR
                  obtain ⟨m0, m1, m2, m3, m4, m5⟩ := box6 HM3.out.m
                  obtain ⟨q0, q1, q2, q3, q4⟩ := box5 bR3
                  obtain ⟨i0, hi0, hz1, hz2, hz3⟩ := info_parts info_int
                  have HI := Lib.hid hi0; have H0 := Lib.hid hz1; have H1 := Lib.hid hz2; have H2 := Lib.hid hz3
                  have hbs := HM3.out.base0
                  have hgneW := Lib.hid HM3.out.apW
                  have ownW := Lib.hid HM3.out.wt
                  clear hi0 hz1 hz2 hz3
                  go_upto_region 10 with (at_builtin; go_loud (refine wpList_append_S (base := w0.heap.size) (s := 1) (n := W.length) (xs := irows W) rfl _ _ _ _ rfl 3 i0 _ 8 Tryz.underlying84 HI.out H0.out H1.out H2.out rfl rfl (ownW.out.alloc _) (by simp; omega) _ rfl 1 [.int .i64 r.id] (src_block (m := 1) (Bk.at_ (by simp) 3 #[.int .i64 r.id]) Tryz.underlying84 rfl (int_one _) 1) (by unfold maxLen; omega) (by omega) ?_); intro AW' cW' w6 gr; go_loud (have mB6 := (HM3.out.m.alloc _).grown gr.grown hgneW.out); have t6 := mB6.cell 4; (simp at t6); have f6 := mB6.free 4)
                  have hba : Below wd.heap.size wd (wd.alloc (.cells #[.int .i64 r.id] 3)) := (Below.refl _ _).alloc (Nat.le_refl _) _
                  have HMM5 := Lib.hid ((HM3.out.below hba).went (t := r.id) gr)
                  have hrT := fun k hk => (ownW.out.row_lt k hk).1
                  have HRB5 := Lib.hid (((HRB3.out.keep hba).grown gr.grown (fun k hk => by have := hrT k hk; omega)).far (p := ⟨w2.heap.size, 4, none⟩) (by show w.heap.size + 2 < w2.heap.size; omega) (.slice AW' (W.length + 1) cW'))
                  have hbb := below_then hba HHB3.out
                  have HHB5 := Lib.hid ((hbb.grown gr.grown hbb.size (fun k hk => by have := hrT k hk; omega)).setCell (p := ⟨w2.heap.size, 4, none⟩) (by show w.heap.size ≤ w2.heap.size; omega) (.slice AW' (W.length + 1) cW'))
                  clear hba gr hrT hbb HM3 HRB3 HHB3 m0 m1 m2 m3 m4 m5 q0 q1 q2 q3 q4 mB6 t6 f6 ownW hgneW HO2 HMM2 HRB2 HHB2 bR3
                  generalize w6.setCell ⟨w2.heap.size, 4, none⟩ (.slice AW' (W.length + 1) cW') = wf at *
                  obtain ⟨g', off', v', us', he1, he2, hgl2, d0, d1, df, ho⟩ := HMM5.out.top
                  cases he1; cases he2
                  have hgb := (HMM5.out.lv.own.row_lt g (rowOf_some (by have := HMM5.out.lv.own.le; simp at this; omega))).1
                  have hcm := ho.max
                  have hcl := ho.le
                  unfold maxLen at hcm
                  simp only [List.length_cons] at hcl d1
                  by_cases hc1 : cv = 1
                  · subst hc1
                    obtain rfl : t = [] := List.eq_nil_of_length_eq_zero (by omega)
                    have HMM6 := Lib.hid (HMM5.out.head (w1 := wf) (A' := some ⟨gr, ro, none⟩) (c' := 0) (rs := []) (grown_refl _ _) (OwnS.nil _ _ _ _) (.inl rfl))
                    have HRB6 := Lib.hid (HRB5.out.far (p := ⟨g, off + 1, none⟩) (by show w.heap.size + 2 < g; omega) (.slice (some ⟨gr, ro, none⟩) 0 0))
                    have HHB6 := Lib.hid (HHB5.out.setCell (p := ⟨g, off + 1, none⟩) (by show w.heap.size ≤ g; omega) (.slice (some ⟨gr, ro, none⟩) 0 0))
                    clear ho
                    go_wp2
                    go_meet
                    case rel => exact ⟨[], _, _, _, _, _, _, _, left, eb, HS.out, by simpa using HMM6.out, HRB6.out, HHB6.out⟩
                  · have hcc : (1 : Int) < (cv : Int) := by omega
                    have hc2 : 1 < cv := by omega
                    have ht := ho.tail
                    rw [if_neg hc1] at ht
                    have HMM6 := Lib.hid (HMM5.out.head (w1 := wf) (A' := some ⟨gr, ro + 5, none⟩) (c' := cv - 1) (rs := t) (grown_refl _ _) ht (.inr (.inl (by rw [rowOf_some (by omega), rowOf_some (by omega)]))))
                    have HRB6 := Lib.hid (HRB5.out.far (p := ⟨g, off + 1, none⟩) (by show w.heap.size + 2 < g; omega) (.slice (some ⟨gr, ro + 5, none⟩) t.length (cv - 1)))
                    have HHB6 := Lib.hid (HHB5.out.setCell (p := ⟨g, off + 1, none⟩) (by show w.heap.size ≤ g; omega) (.slice (some ⟨gr, ro + 5, none⟩) t.length (cv - 1)))
                    clear ho ht
                    go_wp2
                    go_meet
                    case rel => exact ⟨t, _, _, _, _, _, _, _, left, eb, HS.out, by simpa using HMM6.out, HRB6.out, HHB6.out⟩
                  -->drop
              case false =>
                have how : ¬ (r.who = o.who ∧ mode ≠ 0) := by simpa using HOB.out.symm
                obtain ⟨wd, rfl⟩ : ∃ wd : World, wd = wc := ⟨_, rfl⟩
                have HS0 := Lib.hid (mStep_trade (x := ⟨price, r :: t⟩) (L := Ls) (left := left) (T := T) (W := W) (ends := false) rfl how)
                obtain ⟨hr, htl⟩ := HOK.out.top_rest
                have hq := qFirst_ok hr (fun y hy => HOK.out.each _ (List.mem_cons_self ..) y (List.mem_cons_of_mem _ hy)) (n := left) (by omega)
                have HQ := Lib.hid hq.2
                have cF := Lib.hid (fun w' h h' => first_any r t left w0.heap.size (some ⟨gr, ro, none⟩) cv w' h h' (by omega) hr htl)
                have hgr2 := HMM2.out.lt
                have hne1 := Lib.hid (HMM2.out.row_far (i := 0) rfl)
                clear how hq
                have bF : Bk (wd.alloc (.cells #[.int .i64 0, .int .i64 0, .int .i64 0] 202)).drew wd.heap.size 202 #[.int .i64 0, .int .i64 0, .int .i64 0] := (Bk.new wd 202 #[.int .i64 0, .int .i64 0, .int .i64 0]).drew
                have hneF := Lib.hid (row_ne HO2.out (Nat.le_refl wd.heap.size))
                go_upto_region 11 with fail
                go_cut [12, 13] from 24 to 125 (fun p rv wx => ∃ gF A3 c3, p = .pointer (some ⟨gF, 0, none⟩) ∧ rv = .slice A3 (qFirst r t left).2.length c3 ∧ Bk wx gF 202 #[.int .i64 (qFirst r t left).1.id, .int .i64 (qFirst r t left).1.who, .int .i64 (qFirst r t left).1.qty] ∧ OwnS wx w0.heap.size 5 A3 (qFirst r t left).2.length c3 (rows (qFirst r t left).2) ∧ wd.grownBy wx (rowOf (some ⟨gr, ro, none⟩) cv) ∧ (rowOf A3 c3 = none ∨ rowOf A3 c3 = rowOf (some ⟨gr, ro, none⟩) cv ∨ ∃ k, rowOf A3 c3 = some k ∧ wd.heap.size ≤ k) ∧ wd.heap.size ≤ gF)
                case first =>
                  --<r11
                  go_region_held3 (fun w' => w'.cell? ⟨g, off + 1, none⟩ = some (.slice (some ⟨gr, ro, none⟩) (t.length + 1) cv) ∧ w'.cell? ⟨w2.heap.size, 3, none⟩ = some (.int .i64 left)) ((repeat' apply And.intro) <;> (first | (with_reducible assumption) | (with_reducible exact cell_drew (by assumption)) | (with_reducible exact cell_alloc (by assumption) _) | (with_reducible exact cell_alloc_drew (by assumption) _) | (with_reducible exact cell_far3 (by assumption) (by simp; omega))))
                    (first
                      | (go_at_call 137; go_loud (refine (cF.out _ (HO2.out.alloc (.cells #[.int .i64 0, .int .i64 0, .int .i64 0] 202)).drew (by have := HMM2.out.base0; simp; omega)).mono ?_); rintro e w3 ⟨A3, c3, rfl, own3, hg3, hrow3⟩; go_loud (have s1 := (hg3.cell_far ⟨g, off + 1, none⟩ (by simp; omega) hne1.out.1).trans (cell_alloc_drew d1 _)); go_loud (have s3 := (hg3.cell_far ⟨w2.heap.size, 3, none⟩ (by simp; omega) hne1.out.2).trans (cell_alloc_drew m3 _)); go_loud (have bF3 := bF.grown hg3 hneF.out); have z0 := bF3.cell 0; have z1 := bF3.cell 1; have z2 := bF3.cell 2; (simp at z0 z1 z2); have f0 := bF3.free 0; have f1 := bF3.free 1; have f2 := bF3.free 2; have WAY := Lib.hid (show 1 = 1 from rfl))
                      | (go_at_call 137; go_loud (refine (cF.out _ HO2.out.drew (by have := HMM2.out.base0; simpa using this)).mono ?_); rintro e w3 ⟨A3, c3, rfl, own3, hg3, hrow3⟩; go_loud (have s1 := (hg3.cell_far ⟨g, off + 1, none⟩ (by simp; omega) hne1.out.1).trans (cell_drew d1)); go_loud (have s3 := (hg3.cell_far ⟨w2.heap.size, 3, none⟩ (by simp; omega) hne1.out.2).trans (cell_drew m3))))
                  · have HB3 := Lib.hid (Bk.new w3 202 #[.int .i64 (qFirst r t left).1.id, .int .i64 (qFirst r t left).1.who, .int .i64 (qFirst r t left).1.qty])
                    have O3 := Lib.hid (own3.alloc (.cells #[.int .i64 (qFirst r t left).1.id, .int .i64 (qFirst r t left).1.who, .int .i64 (qFirst r t left).1.qty] 202))
                    have G3 := Lib.hid (grown_alloc (grown_of_drew hg3) (.cells #[.int .i64 (qFirst r t left).1.id, .int .i64 (qFirst r t left).1.who, .int .i64 (qFirst r t left).1.qty] 202))
                    have R3 := Lib.hid hrow3
                    have Z3 := Lib.hid hg3.size
                    clear own3 hg3 hrow3 s1 s3
                    go_wp2
                    go_meet
                    case rel => exact ⟨_, A3, c3, rfl, rfl, HB3.out, O3.out, G3.out, R3.out, Z3.out⟩
                  · have hn3 := row_new hrow3 hneF.out (by simp)
                    have HB3 := Lib.hid (bF3.set3 (.int .i64 (qFirst r t left).1.id) (.int .i64 (qFirst r t left).1.who) (.int .i64 (qFirst r t left).1.qty))
                    have O3 := Lib.hid (((own3.far (p := ⟨wd.heap.size, 0, none⟩) hn3 (.int .i64 (qFirst r t left).1.id)).far (p := ⟨wd.heap.size, 1, none⟩) hn3 (.int .i64 (qFirst r t left).1.who)).far (p := ⟨wd.heap.size, 2, none⟩) hn3 (.int .i64 (qFirst r t left).1.qty))
                    have G3 := Lib.hid (grown_set3 (grown_of_alloc hg3) (Nat.le_refl wd.heap.size) (i := 0) (j := 1) (k := 2) (.int .i64 (qFirst r t left).1.id) (.int .i64 (qFirst r t left).1.who) (.int .i64 (qFirst r t left).1.qty))
                    have R3 := Lib.hid (row_old hrow3 (w := wd) (by simp))
                    clear own3 hg3 hrow3 s1 s3 hn3
                    go_wp2
                    go_meet
                    case rel => exact ⟨_, A3, c3, rfl, rfl, HB3.out, O3.out, G3.out, R3.out, Nat.le_refl _⟩
                  -->r11
                case rest =>
                  obtain ⟨gF, A3, c3, rfl, rfl, bF3, own3, hg3, hrow3, hgF⟩ := hcut
                  have HMM4 := Lib.hid (HMM2.out.head (v := (some ⟨gr, ro, none⟩, cv)) hg3 own3 hrow3)
                  have hgb := (HMM2.out.lv.own.row_lt g (rowOf_some (by have := HMM2.out.lv.own.le; simp at this; omega))).1
                  have hvb := fun k hk => (HO2.out.row_lt k hk).1
                  have HRB4 := Lib.hid ((HRB2.out.grown hg3 (fun k hk => by have := hvb k hk; omega)).far (p := ⟨g, off + 1, none⟩) (by show w.heap.size + 2 < g; omega) (.slice A3 (qFirst r t left).2.length c3))
                  have HHB4 := Lib.hid ((HHB2.out.grown hg3 (HHB2.out.size) (fun k hk => by have := hvb k hk; omega)).setCell (p := ⟨g, off + 1, none⟩) (by show w.heap.size ≤ g; omega) (.slice A3 (qFirst r t left).2.length c3))
                  have bF4 := bF3.far (p := ⟨g, off + 1, none⟩) (by show gF ≠ g; omega) (.slice A3 (qFirst r t left).2.length c3)
                  have d1' := (hg3.cell_far ⟨g, off + 1, none⟩ hgA hne1.out.1).trans d1
                  have df' : wc.frozen? ⟨g, off + 1, none⟩ = false := by rw [← df]; exact World.frozen?_of_block (hg3.block g hgA hne1.out.1)
                  have hgg : g ≠ w2.heap.size := HMM2.out.top_ne
                  have hnF := Lib.hid (show some gF ≠ rowOf AT cT from fun e => by have := (HMM2.out.tr.row_lt _ e.symm).2; omega)
                  clear HMM2 HRB2 HHB2 own3 hg3 hrow3 bF bF3 hvb d0 d1 df m0 m1 m2 m3 m4 m5 k8 q0 q1 q2 q3 q4 HO2 hneF hne1 cF bR
                  go_upto_region 13 with fail
                  generalize wc.setCell ⟨g, off + 1, none⟩ (.slice A3 (qFirst r t left).2.length c3) = we at *
                  generalize qFirst r t left = qf at *
                  obtain ⟨f, rs'⟩ := qf
                  dsimp only at *
                  have cT0 := fun w => mtrade_any o f price w
                  generalize mTr o f price = tr at *
                  obtain ⟨g', off', v', us', he1, he2, hgl2, d0, d1, df, _⟩ := HMM4.out.top
                  cases he1; cases he2
                  obtain ⟨m0, m1, m2, m3, m4, m5⟩ := box6 HMM4.out.m
                  have hgm := HMM4.out.lt
                  have hbF := bF4.lt
                  obtain ⟨y0, y1, y2⟩ := box3 bF4
                  obtain ⟨b0, b1, b2, b3, b4, b5, b6, b7⟩ := box8o HRB4.out.o
                  have hbo := HRB4.out.o.lt
                  have cTr := Lib.hid cT0
                  clear cT0
                  have hTl : T.length ≤ 400 := HOK.out.trades
                  have ownT := Lib.hid HMM4.out.tr
                  obtain ⟨i0, hi0, hz1, hz2, hz3⟩ := info_parts info_trade
                  have HI := Lib.hid hi0; have H0 := Lib.hid hz1; have H1 := Lib.hid hz2; have H2 := Lib.hid hz3
                  have hbs := HMM4.out.base0
                  have hgneT := Lib.hid HMM4.out.apT
                  have hnO := Lib.hid (show some (w.heap.size + 1) ≠ rowOf AT cT from fun e => by have := (HMM4.out.tr.row_lt _ e.symm).1; omega)
                  have hnA := Lib.hid HMM4.out.apTA
                  clear hi0 hz1 hz2 hz3
                  go_cut [] from 24 to 125 (fun wx => ∃ AT' cT' w5 w6, Below we.heap.size we w5 ∧ Grew w5 w0.heap.size 6 AT cT (T.length + 1) (trows T ++ tr.vals) AT' cT' w6 ∧ wx = w6.setCell ⟨w2.heap.size, 2, none⟩ (.slice AT' (T.length + 1) cT'))
                  case first =>
                    --<r13
                    refine wp_region_noPanic ?_
                    refine wp_region_held_drew (S := (fun w' => w'.cell? ⟨w.heap.size + 1, 0, none⟩ = some (.int .i64 o.id) ∧ w'.cell? ⟨w.heap.size + 1, 1, none⟩ = some (.int .i64 o.who) ∧ w'.cell? ⟨w.heap.size + 1, 2, none⟩ = some (.int .i64 o.side) ∧ w'.cell? ⟨w.heap.size + 1, 3, none⟩ = some (.int .i64 o.kind) ∧ w'.cell? ⟨w.heap.size + 1, 4, none⟩ = some (.int .i64 o.price) ∧ w'.cell? ⟨w.heap.size + 1, 5, none⟩ = some (.int .i64 o.qty) ∧ w'.cell? ⟨w.heap.size + 1, 6, none⟩ = some (.int .i64 o.show_) ∧ w'.cell? ⟨w.heap.size + 1, 7, none⟩ = some (.int .i64 o.stop) ∧ w'.cell? ⟨gF, 0, none⟩ = some (.int .i64 f.id) ∧ w'.cell? ⟨gF, 1, none⟩ = some (.int .i64 f.who) ∧ w'.cell? ⟨gF, 2, none⟩ = some (.int .i64 f.qty) ∧ w'.cell? ⟨g, off, none⟩ = some (.int .i64 price))) (by kernel_rfl) ?_ (fun hHeld => ?_)
                    · (try dsimp only); ((repeat' apply And.intro) <;> (first | (with_reducible assumption) | (with_reducible exact cell_drew (by assumption)) | (with_reducible exact cell_alloc (by assumption) _) | (with_reducible exact cell_far1 (by assumption) (by simp; omega))))
                    (refine wpAnyH_take (i := 0) (v := ?_) rfl (by kernel_rfl) (by kernel_rfl) (by kernel_rfl) (fun _ _ _ h => h) (Or.inl ⟨by rfl, ?_⟩) (by assumption) ?_); rotate_left; (focus (intro w hSw; (try dsimp only at hSw); go_simp; try (with_reducible rfl))); (try simp only [Act.put, List.setIfInBounds_toArray, List.set_cons_zero, List.set_cons_succ])
                    (refine wpAnyH_take (i := 2) (v := ?_) rfl (by kernel_rfl) (by kernel_rfl) (by kernel_rfl) (fun _ _ _ h => h) (Or.inl ⟨by rfl, ?_⟩) (by assumption) ?_); rotate_left; (focus (intro w hSw; (try dsimp only at hSw); go_simp; try (with_reducible rfl))); (try simp only [Act.put, List.setIfInBounds_toArray, List.set_cons_zero, List.set_cons_succ])
                    (refine wpAnyH_take (i := 3) (v := ?_) rfl (by kernel_rfl) (by kernel_rfl) (by kernel_rfl) (fun _ _ _ h => h) (Or.inl ⟨by rfl, ?_⟩) (by assumption) ?_); rotate_left; (focus (intro w hSw; (try dsimp only at hSw); go_simp; try (with_reducible rfl))); (try simp only [Act.put, List.setIfInBounds_toArray, List.set_cons_zero, List.set_cons_succ])
                    (refine wpAnyH_take (i := 4) (v := ?_) rfl (by kernel_rfl) (by kernel_rfl) (by kernel_rfl) (fun _ _ _ h => h) (Or.inl ⟨by rfl, ?_⟩) (by assumption) ?_); rotate_left; (focus (intro w hSw; (try dsimp only at hSw); go_simp; try (with_reducible rfl))); (try simp only [Act.put, List.setIfInBounds_toArray, List.set_cons_zero, List.set_cons_succ])
                    (refine wpAnyH_take (i := 5) (v := ?_) rfl (by kernel_rfl) (by kernel_rfl) (by kernel_rfl) (fun _ _ _ h => h) (Or.inl ⟨by rfl, ?_⟩) (by assumption) ?_); rotate_left; (focus (intro w hSw; (try dsimp only at hSw); go_simp; try (with_reducible rfl))); (try simp only [Act.put, List.setIfInBounds_toArray, List.set_cons_zero, List.set_cons_succ])
                    (refine wpAnyH_take (i := 6) (v := ?_) rfl (by kernel_rfl) (by kernel_rfl) (by kernel_rfl) (fun _ _ _ h => h) (Or.inl ⟨by rfl, ?_⟩) (by assumption) ?_); rotate_left; (focus (intro w hSw; (try dsimp only at hSw); go_simp; try (with_reducible rfl))); (try simp only [Act.put, List.setIfInBounds_toArray, List.set_cons_zero, List.set_cons_succ])
                    (refine wpAnyH_take (i := 7) (v := ?_) rfl (by kernel_rfl) (by kernel_rfl) (by kernel_rfl) (fun _ _ _ h => h) (Or.inl ⟨by rfl, ?_⟩) (by assumption) ?_); rotate_left; (focus (intro w hSw; (try dsimp only at hSw); go_simp; try (with_reducible rfl))); (try simp only [Act.put, List.setIfInBounds_toArray, List.set_cons_zero, List.set_cons_succ])
                    refine wpAnyH_ready (rs := [1, 8]) (by kernel_rfl) (by simp) ?_
                    refine AllReadyH.cons rfl (fun KK KH => ?_) (AllReadyH.cons rfl (fun KK KH => ?_) AllReadyH.nil)
                    · go_simp
                      (refine KH.out _ _ (by (try dsimp only); ((repeat' apply And.intro) <;> (first | (with_reducible assumption) | (with_reducible exact cell_drew (by assumption)) | (with_reducible exact cell_alloc (by assumption) _) | (with_reducible exact cell_far1 (by assumption) (by simp; omega))))) (fun hHeld => ?_); clear KH KK; (try simp only [Act.put, List.setIfInBounds_toArray, List.set_cons_zero, List.set_cons_succ]))
                      (refine wpAnyH_ready (rs := [8]) (by kernel_rfl) (by simp) ?_; refine AllReadyH.cons rfl (fun KK KH => ?_) AllReadyH.nil)
                      (go_simp; go_at_call 138; refine (cTr.out _).mono ?_; rintro e w5 ⟨rfl, hb5⟩; have mB5 := HMM4.out.m.drew.keep hb5; have t2 := mB5.cell 2; (simp at t2); have t2a := cell_alloc t2 (.cells #[.int .i64 tr.maker, .int .i64 tr.taker, .int .i64 tr.frm, .int .i64 tr.to, .int .i64 tr.price, .int .i64 tr.qty] 40); have oT5 := Lib.hid (ownT.out.drew.below hb5); have hs5 : we.heap.size ≤ w5.heap.size := hb5.size; have bo5 := HRB4.out.o.drew.keep hb5; obtain ⟨b0, b1, b2, b3, b4, b5, b6, b7⟩ := box8o bo5; have bF5 := bF4.drew.keep hb5; obtain ⟨y0, y1, y2⟩ := box3 bF5; have d0 := keepC hb5 (cell_drew d0); (try go_wp2_with fail); (refine KH.out _ _ (by (try dsimp only); ((repeat' apply And.intro) <;> (first | (with_reducible assumption) | (with_reducible exact cell_drew (by assumption)) | (with_reducible exact cell_alloc (by assumption) _) | (with_reducible exact cell_far1 (by assumption) (by simp; omega))))) (fun hHeld => ?_); clear KH KK; (try simp only [Act.put, List.setIfInBounds_toArray, List.set_cons_zero, List.set_cons_succ])))
                      (refine wpAnyH_ready (rs := [9]) (by kernel_rfl) (by simp) ?_; refine AllReadyH.cons rfl (fun KK KH => ?_) AllReadyH.nil)
                      go_simp
                      (refine KH.out _ _ (by (try dsimp only); ((repeat' apply And.intro) <;> (first | (with_reducible assumption) | (with_reducible exact cell_drew (by assumption)) | (with_reducible exact cell_alloc (by assumption) _) | (with_reducible exact cell_far1 (by assumption) (by simp; omega))))) (fun hHeld => ?_); clear KH KK; (try simp only [Act.put, List.setIfInBounds_toArray, List.set_cons_zero, List.set_cons_succ]))
                      ((refine wpAnyH_ready (rs := [10]) (by kernel_rfl) (by simp) ?_; refine AllReadyH.cons rfl (fun KK KH => ?_) AllReadyH.nil); refine step_append_S (base := w0.heap.size) (s := 6) (n := T.length) (xs := trows T) (by rfl) _ _ _ _ (by rfl) 40 i0 _ 48 Tryz.underlying72 HI.out H0.out H1.out H2.out rfl (by rfl) (oT5.out.alloc _) (by simp; omega) _ (by rfl) 1 (Trade.vals tr) (src_block (m := 1) (Bk.at_ (by simp) 40 #[.int .i64 tr.maker, .int .i64 tr.taker, .int .i64 tr.frm, .int .i64 tr.to, .int .i64 tr.price, .int .i64 tr.qty]) Tryz.underlying72 rfl (six_one _ _ _ _ _ _) 1) (by unfold maxLen; omega) (by omega) ?_; intro AT' cT' w6 gr; have mB6 := (mB5.alloc _).grown gr.grown hgneT.out; have t6 := mB6.cell 2; (simp at t6); have f6 := mB6.free 2; have bo6 := (bo5.alloc _).grown gr.grown hnO.out; obtain ⟨b0, b1, b2, b3, b4, b5, b6, b7⟩ := box8o bo6; have bF6 := (bF5.alloc _).grown gr.grown hnF.out; obtain ⟨y0, y1, y2⟩ := box3 bF6; have d0 := (gr.grown.cell_far ⟨g, off, none⟩ (by simp; omega) hnA.out).trans (cell_alloc d0 _); (refine KH.out _ _ (by (try dsimp only); ((repeat' apply And.intro) <;> (first | (with_reducible assumption) | (with_reducible exact cell_drew (by assumption)) | (with_reducible exact cell_alloc (by assumption) _) | (with_reducible exact cell_far1 (by assumption) (by simp; omega))))) (fun hHeld => ?_); clear KH KK; (try simp only [Act.put, List.setIfInBounds_toArray, List.set_cons_zero, List.set_cons_succ])))
                      ((refine wpAnyH_take (i := 11) (v := ?_) rfl (by kernel_rfl) (by kernel_rfl) (by kernel_rfl) (fun _ _ _ h => h) (Or.inl ⟨by rfl, ?_⟩) (by assumption) ?_); rotate_left; (focus (intro w hSw; (try dsimp only at hSw); go_simp; try (with_reducible rfl))); (try simp only [Act.put, List.setIfInBounds_toArray, List.set_cons_zero, List.set_cons_succ]); (refine wpAnyH_ready (rs := [12]) (by kernel_rfl) (by simp) ?_; refine AllReadyH.cons rfl (fun KK KH => ?_) AllReadyH.nil); go_simp; (refine KH.out _ _ (by (try dsimp only); ((repeat' apply And.intro) <;> (first | (with_reducible assumption) | (with_reducible exact cell_drew (by assumption)) | (with_reducible exact cell_alloc (by assumption) _) | (with_reducible exact cell_far1 (by assumption) (by simp; omega))))) (fun hHeld => ?_); clear KH KK; (try simp only [Act.put, List.setIfInBounds_toArray, List.set_cons_zero, List.set_cons_succ])); refine wpAnyH_done (by kernel_rfl) ?_ _; refine NoPanic.normal ?_; have GR := Lib.hid gr; have HB5 := Lib.hid (show Below we.heap.size we (w5.alloc (.cells #[.int .i64 tr.maker, .int .i64 tr.taker, .int .i64 tr.frm, .int .i64 tr.to, .int .i64 tr.price, .int .i64 tr.qty] 40)) from (show Below we.heap.size we w5 from (Below.refl _ _).drew.trans hb5).alloc hs5 _); clear gr hb5 bo5 bF5 bo6 bF6 mB5 mB6 b0 b1 b2 b3 b4 b5 b6 b7 y0 y1 y2 d0 oT5; go_wp2; go_meet; (case rel => exact ⟨AT', cT', _, w6, HB5.out, GR.out, rfl⟩))
                    · (go_simp; go_at_call 138; refine (cTr.out _).mono ?_; rintro e w5 ⟨rfl, hb5⟩; have mB5 := HMM4.out.m.drew.keep hb5; have t2 := mB5.cell 2; (simp at t2); have t2a := cell_alloc t2 (.cells #[.int .i64 tr.maker, .int .i64 tr.taker, .int .i64 tr.frm, .int .i64 tr.to, .int .i64 tr.price, .int .i64 tr.qty] 40); have oT5 := Lib.hid (ownT.out.drew.below hb5); have hs5 : we.heap.size ≤ w5.heap.size := hb5.size; have bo5 := HRB4.out.o.drew.keep hb5; obtain ⟨b0, b1, b2, b3, b4, b5, b6, b7⟩ := box8o bo5; have bF5 := bF4.drew.keep hb5; obtain ⟨y0, y1, y2⟩ := box3 bF5; have d0 := keepC hb5 (cell_drew d0); (try go_wp2_with fail); (refine KH.out _ _ (by (try dsimp only); ((repeat' apply And.intro) <;> (first | (with_reducible assumption) | (with_reducible exact cell_drew (by assumption)) | (with_reducible exact cell_alloc (by assumption) _) | (with_reducible exact cell_far1 (by assumption) (by simp; omega))))) (fun hHeld => ?_); clear KH KK; (try simp only [Act.put, List.setIfInBounds_toArray, List.set_cons_zero, List.set_cons_succ])))
                      refine wpAnyH_ready (rs := [1, 9]) (by kernel_rfl) (by simp) ?_
                      refine AllReadyH.cons rfl (fun KK KH => ?_) (AllReadyH.cons rfl (fun KK KH => ?_) AllReadyH.nil)
                      · go_simp
                        (refine KH.out _ _ (by (try dsimp only); ((repeat' apply And.intro) <;> (first | (with_reducible assumption) | (with_reducible exact cell_drew (by assumption)) | (with_reducible exact cell_alloc (by assumption) _) | (with_reducible exact cell_far1 (by assumption) (by simp; omega))))) (fun hHeld => ?_); clear KH KK; (try simp only [Act.put, List.setIfInBounds_toArray, List.set_cons_zero, List.set_cons_succ]))
                        (refine wpAnyH_ready (rs := [9]) (by kernel_rfl) (by simp) ?_; refine AllReadyH.cons rfl (fun KK KH => ?_) AllReadyH.nil)
                        go_simp
                        (refine KH.out _ _ (by (try dsimp only); ((repeat' apply And.intro) <;> (first | (with_reducible assumption) | (with_reducible exact cell_drew (by assumption)) | (with_reducible exact cell_alloc (by assumption) _) | (with_reducible exact cell_far1 (by assumption) (by simp; omega))))) (fun hHeld => ?_); clear KH KK; (try simp only [Act.put, List.setIfInBounds_toArray, List.set_cons_zero, List.set_cons_succ]))
                        ((refine wpAnyH_ready (rs := [10]) (by kernel_rfl) (by simp) ?_; refine AllReadyH.cons rfl (fun KK KH => ?_) AllReadyH.nil); refine step_append_S (base := w0.heap.size) (s := 6) (n := T.length) (xs := trows T) (by rfl) _ _ _ _ (by rfl) 40 i0 _ 48 Tryz.underlying72 HI.out H0.out H1.out H2.out rfl (by rfl) (oT5.out.alloc _) (by simp; omega) _ (by rfl) 1 (Trade.vals tr) (src_block (m := 1) (Bk.at_ (by simp) 40 #[.int .i64 tr.maker, .int .i64 tr.taker, .int .i64 tr.frm, .int .i64 tr.to, .int .i64 tr.price, .int .i64 tr.qty]) Tryz.underlying72 rfl (six_one _ _ _ _ _ _) 1) (by unfold maxLen; omega) (by omega) ?_; intro AT' cT' w6 gr; have mB6 := (mB5.alloc _).grown gr.grown hgneT.out; have t6 := mB6.cell 2; (simp at t6); have f6 := mB6.free 2; have bo6 := (bo5.alloc _).grown gr.grown hnO.out; obtain ⟨b0, b1, b2, b3, b4, b5, b6, b7⟩ := box8o bo6; have bF6 := (bF5.alloc _).grown gr.grown hnF.out; obtain ⟨y0, y1, y2⟩ := box3 bF6; have d0 := (gr.grown.cell_far ⟨g, off, none⟩ (by simp; omega) hnA.out).trans (cell_alloc d0 _); (refine KH.out _ _ (by (try dsimp only); ((repeat' apply And.intro) <;> (first | (with_reducible assumption) | (with_reducible exact cell_drew (by assumption)) | (with_reducible exact cell_alloc (by assumption) _) | (with_reducible exact cell_far1 (by assumption) (by simp; omega))))) (fun hHeld => ?_); clear KH KK; (try simp only [Act.put, List.setIfInBounds_toArray, List.set_cons_zero, List.set_cons_succ])))
                        ((refine wpAnyH_take (i := 11) (v := ?_) rfl (by kernel_rfl) (by kernel_rfl) (by kernel_rfl) (fun _ _ _ h => h) (Or.inl ⟨by rfl, ?_⟩) (by assumption) ?_); rotate_left; (focus (intro w hSw; (try dsimp only at hSw); go_simp; try (with_reducible rfl))); (try simp only [Act.put, List.setIfInBounds_toArray, List.set_cons_zero, List.set_cons_succ]); (refine wpAnyH_ready (rs := [12]) (by kernel_rfl) (by simp) ?_; refine AllReadyH.cons rfl (fun KK KH => ?_) AllReadyH.nil); go_simp; (refine KH.out _ _ (by (try dsimp only); ((repeat' apply And.intro) <;> (first | (with_reducible assumption) | (with_reducible exact cell_drew (by assumption)) | (with_reducible exact cell_alloc (by assumption) _) | (with_reducible exact cell_far1 (by assumption) (by simp; omega))))) (fun hHeld => ?_); clear KH KK; (try simp only [Act.put, List.setIfInBounds_toArray, List.set_cons_zero, List.set_cons_succ])); refine wpAnyH_done (by kernel_rfl) ?_ _; refine NoPanic.normal ?_; have GR := Lib.hid gr; have HB5 := Lib.hid (show Below we.heap.size we (w5.alloc (.cells #[.int .i64 tr.maker, .int .i64 tr.taker, .int .i64 tr.frm, .int .i64 tr.to, .int .i64 tr.price, .int .i64 tr.qty] 40)) from (show Below we.heap.size we w5 from (Below.refl _ _).drew.trans hb5).alloc hs5 _); clear gr hb5 bo5 bF5 bo6 bF6 mB5 mB6 b0 b1 b2 b3 b4 b5 b6 b7 y0 y1 y2 d0 oT5; go_wp2; go_meet; (case rel => exact ⟨AT', cT', _, w6, HB5.out, GR.out, rfl⟩))
                      · go_simp
                        (refine KH.out _ _ (by (try dsimp only); ((repeat' apply And.intro) <;> (first | (with_reducible assumption) | (with_reducible exact cell_drew (by assumption)) | (with_reducible exact cell_alloc (by assumption) _) | (with_reducible exact cell_far1 (by assumption) (by simp; omega))))) (fun hHeld => ?_); clear KH KK; (try simp only [Act.put, List.setIfInBounds_toArray, List.set_cons_zero, List.set_cons_succ]))
                        (refine wpAnyH_ready (rs := [1]) (by kernel_rfl) (by simp) ?_; refine AllReadyH.cons rfl (fun KK KH => ?_) AllReadyH.nil)
                        go_simp
                        (refine KH.out _ _ (by (try dsimp only); ((repeat' apply And.intro) <;> (first | (with_reducible assumption) | (with_reducible exact cell_drew (by assumption)) | (with_reducible exact cell_alloc (by assumption) _) | (with_reducible exact cell_far1 (by assumption) (by simp; omega))))) (fun hHeld => ?_); clear KH KK; (try simp only [Act.put, List.setIfInBounds_toArray, List.set_cons_zero, List.set_cons_succ]))
                        ((refine wpAnyH_ready (rs := [10]) (by kernel_rfl) (by simp) ?_; refine AllReadyH.cons rfl (fun KK KH => ?_) AllReadyH.nil); refine step_append_S (base := w0.heap.size) (s := 6) (n := T.length) (xs := trows T) (by rfl) _ _ _ _ (by rfl) 40 i0 _ 48 Tryz.underlying72 HI.out H0.out H1.out H2.out rfl (by rfl) (oT5.out.alloc _) (by simp; omega) _ (by rfl) 1 (Trade.vals tr) (src_block (m := 1) (Bk.at_ (by simp) 40 #[.int .i64 tr.maker, .int .i64 tr.taker, .int .i64 tr.frm, .int .i64 tr.to, .int .i64 tr.price, .int .i64 tr.qty]) Tryz.underlying72 rfl (six_one _ _ _ _ _ _) 1) (by unfold maxLen; omega) (by omega) ?_; intro AT' cT' w6 gr; have mB6 := (mB5.alloc _).grown gr.grown hgneT.out; have t6 := mB6.cell 2; (simp at t6); have f6 := mB6.free 2; have bo6 := (bo5.alloc _).grown gr.grown hnO.out; obtain ⟨b0, b1, b2, b3, b4, b5, b6, b7⟩ := box8o bo6; have bF6 := (bF5.alloc _).grown gr.grown hnF.out; obtain ⟨y0, y1, y2⟩ := box3 bF6; have d0 := (gr.grown.cell_far ⟨g, off, none⟩ (by simp; omega) hnA.out).trans (cell_alloc d0 _); (refine KH.out _ _ (by (try dsimp only); ((repeat' apply And.intro) <;> (first | (with_reducible assumption) | (with_reducible exact cell_drew (by assumption)) | (with_reducible exact cell_alloc (by assumption) _) | (with_reducible exact cell_far1 (by assumption) (by simp; omega))))) (fun hHeld => ?_); clear KH KK; (try simp only [Act.put, List.setIfInBounds_toArray, List.set_cons_zero, List.set_cons_succ])))
                        ((refine wpAnyH_take (i := 11) (v := ?_) rfl (by kernel_rfl) (by kernel_rfl) (by kernel_rfl) (fun _ _ _ h => h) (Or.inl ⟨by rfl, ?_⟩) (by assumption) ?_); rotate_left; (focus (intro w hSw; (try dsimp only at hSw); go_simp; try (with_reducible rfl))); (try simp only [Act.put, List.setIfInBounds_toArray, List.set_cons_zero, List.set_cons_succ]); (refine wpAnyH_ready (rs := [12]) (by kernel_rfl) (by simp) ?_; refine AllReadyH.cons rfl (fun KK KH => ?_) AllReadyH.nil); go_simp; (refine KH.out _ _ (by (try dsimp only); ((repeat' apply And.intro) <;> (first | (with_reducible assumption) | (with_reducible exact cell_drew (by assumption)) | (with_reducible exact cell_alloc (by assumption) _) | (with_reducible exact cell_far1 (by assumption) (by simp; omega))))) (fun hHeld => ?_); clear KH KK; (try simp only [Act.put, List.setIfInBounds_toArray, List.set_cons_zero, List.set_cons_succ])); refine wpAnyH_done (by kernel_rfl) ?_ _; refine NoPanic.normal ?_; have GR := Lib.hid gr; have HB5 := Lib.hid (show Below we.heap.size we (w5.alloc (.cells #[.int .i64 tr.maker, .int .i64 tr.taker, .int .i64 tr.frm, .int .i64 tr.to, .int .i64 tr.price, .int .i64 tr.qty] 40)) from (show Below we.heap.size we w5 from (Below.refl _ _).drew.trans hb5).alloc hs5 _); clear gr hb5 bo5 bF5 bo6 bF6 mB5 mB6 b0 b1 b2 b3 b4 b5 b6 b7 y0 y1 y2 d0 oT5; go_wp2; go_meet; (case rel => exact ⟨AT', cT', _, w6, HB5.out, GR.out, rfl⟩))
                    -->r13
                  case rest =>
                    obtain ⟨AT', cT', w5, w6, hb5, gr, rfl⟩ := hcut
                    have HMM5 := Lib.hid ((HMM4.out.below hb5).trade gr)
                    have hrT := fun k hk => (ownT.out.row_lt k hk).1
                    have HRB5 := Lib.hid (((HRB4.out.keep hb5).grown gr.grown (fun k hk => by have := hrT k hk; omega)).far (p := ⟨w2.heap.size, 2, none⟩) (by show w.heap.size + 2 < w2.heap.size; omega) (.slice AT' (T.length + 1) cT'))
                    have hbb := below_then hb5 HHB4.out
                    have HHB5 := Lib.hid ((hbb.grown gr.grown hbb.size (fun k hk => by have := hrT k hk; omega)).setCell (p := ⟨w2.heap.size, 2, none⟩) (by show w.heap.size ≤ w2.heap.size; omega) (.slice AT' (T.length + 1) cT'))
                    have bF5 := ((bF4.keep hb5).grown gr.grown hnF.out).far (p := ⟨w2.heap.size, 2, none⟩) (by show gF ≠ w2.heap.size; omega) (.slice AT' (T.length + 1) cT')
                    clear hb5 gr hrT hbb bF4 HMM4 HRB4 HHB4 m0 m1 m2 m3 m4 m5 y0 y1 y2 b0 b1 b2 b3 b4 b5 b6 b7 d0 d1 df cTr ownT hnO hnA hnF hgneT
                    generalize w6.setCell ⟨w2.heap.size, 2, none⟩ (.slice AT' (T.length + 1) cT') = wf at *
                    obtain ⟨m0, m1, m2, m3, m4, m5⟩ := box6 HMM5.out.m
                    have f3 := HMM5.out.m.free 3
                    obtain ⟨y0, y1, y2⟩ := box3 bF5
                    have hll : left ≤ 10000 := HOK.out.left1
                    obtain ⟨hq1, hq2, hq3⟩ := HQ.out
                    have HMM6 := Lib.hid (HMM5.out.setLeft (left - f.qty))
                    have HRB6 := Lib.hid (HRB5.out.far (p := ⟨w2.heap.size, 3, none⟩) (by show w.heap.size + 2 < w2.heap.size; omega) (.int .i64 (left - f.qty)))
                    have HHB6 := Lib.hid (HHB5.out.setCell (p := ⟨w2.heap.size, 3, none⟩) (by show w.heap.size ≤ w2.heap.size; omega) (.int .i64 (left - f.qty)))
                    have hx : IntKind.i64.wrap (left - f.qty) = left - f.qty := IntWalk.i64_in _ (by omega)
                    go_wp2
                    go_meet
                    case rel => exact ⟨rs', _, AT', cT', _, _, _, _, left - f.qty, false, HS0.out, by simpa using HMM6.out, HRB6.out, HHB6.out⟩
            case rest =>
              --<aft
              obtain ⟨rs', v', AT', cT', T', AW', cW', W', left', ends', hst, hmm, hrb, hbw⟩ := hcut
              have HST := Lib.hid hst; have HMM := Lib.hid hmm; have HRB := Lib.hid hrb; have HBW := Lib.hid hbw
              have hmok := mStep_ok (mode := mode) HOK.out HG2.out
              rw [hst] at hmok
              obtain ⟨_, _, _, _, _, _, hTl, hms⟩ := hmok
              have HMS := Lib.hid hms
              have hT0 : T.length ≤ 400 := HOK.out.trades
              dsimp only at hTl
              obtain ⟨g', off', v'', us', he1, he2, hgl2, e0, e1, ef, ho⟩ := hmm.top
              cases he1; cases he2
              obtain ⟨n0, n1, n2, n3, n4, n5⟩ := box6 hmm.m
              clear hst hbw hms ho m0 m1 m2 m3 m4 m5 d0 d1 df q0 q1 q2 q3 q4 k8 HMM2 HO2 HRB2 HHB2 bR
              dsimp only at e1
              by_cases h4 : 400 < T'.length
              · have h4' : (400 : Int) < (T'.length : Int) := by omega
                have HE := Lib.hid (show met L M o mode = none by
                  obtain ⟨n, hn, h⟩ := HRUN.out
                  cases n with
                  | zero => omega
                  | succ n => rw [h, mRun_go HG2.out, HST.out, if_pos h4])
                have r0 := box6 hrb.r
                have y0 := hrb.r.free 0; have y1 := hrb.r.free 1; have y2 := hrb.r.free 2; have y3 := hrb.r.free 3; have y4 := hrb.r.free 4; have y5 := hrb.r.free 5
                have kx := box6 (hrb.r.set6 (.slice none 0 0) (.slice none 0 0) (.slice none 0 0) (.int .i64 0) (.slice none 0 0) (.bool false))
                have HF := Lib.hid (below_set6 HBW.out (g := w.heap.size + 2) (by omega) (.slice none 0 0) (.slice none 0 0) (.slice none 0 0) (.int .i64 0) (.slice none 0 0) (.bool false))
                clear hmm hrb h4
                go_wp2
                exact bodyPost_ret (v := .tuple #[.agg #[.slice none 0 0, .slice none 0 0, .slice none 0 0, .int .i64 0, .slice none 0 0, .bool false], er 4]) (by simp [results, Tryz.results115, go_sem, kx]) rfl (.inl ⟨HE.out, rfl, HF.out⟩)
              have h4' : (T'.length : Int) ≤ 400 := by omega
              have HRN := Lib.hid (show ∃ n, mSize ⟨mCut ⟨price, r :: t⟩ rs' Ls, left', T', W', ends'⟩ < n ∧ met L M o mode = mRun o mode n ⟨mCut ⟨price, r :: t⟩ rs' Ls, left', T', W', ends'⟩ by
                obtain ⟨n, hn, h⟩ := HRUN.out
                cases n with
                | zero => omega
                | succ n => exact ⟨n, by have := HMS.out; omega, by rw [h, mRun_go HG2.out, HST.out, if_neg h4]⟩)
              have HOK2 := Lib.hid (show MOk ⟨mCut ⟨price, r :: t⟩ rs' Ls, left', T', W', ends'⟩ by
                have := mStep_ok2 (mode := mode) HOK.out HG2.out (by rw [HST.out]; dsimp only; omega)
                rwa [HST.out] at this)
              clear h4 hmm hrb
              by_cases h5 : rs'.length = 0
              · have h5' : ((rs'.length : Int) == 0) = true := by simp [h5]
                have hmc : mCut ⟨price, r :: t⟩ rs' Ls = Ls := by simp [mCut, h5]
                rw [hmc] at HRN HOK2 HMS
                have hcl := HMM.out.lv.own.le
                have hcm := HMM.out.lv.own.max
                unfold maxLen at hcm
                simp only [List.length_cons] at hcl
                have HT := Lib.hid HMM.out.tail
                by_cases hc1 : cap = 1
                · subst hc1
                  obtain rfl : Ls = [] := List.eq_nil_of_length_eq_zero (by omega)
                  clear HMM
                  go_wp2
                  go_roundg (mSize ⟨[], left', T', W', ends'⟩)
                  case measure => exact HMS.out
                  case rel => exact ⟨⟨[], left', T', W', ends'⟩, _, 0, _, _, _, _, _, rfl, rfl, HRN.out, HOK2.out, HT.out, HRB.out, HBW.out⟩
                · have hcc : (1 : Int) < (cap : Int) := by omega
                  have hc2 : 1 < cap := by omega
                  have HT2 := HT.out
                  rw [if_neg hc1] at HT2
                  have HT3 := Lib.hid HT2
                  clear HMM HT HT2
                  go_wp2
                  go_roundg (mSize ⟨Ls, left', T', W', ends'⟩)
                  case measure => exact HMS.out
                  case rel => exact ⟨⟨Ls, left', T', W', ends'⟩, _, cap - 1, _, _, _, _, _, rfl, rfl, HRN.out, HOK2.out, HT3.out, HRB.out, HBW.out⟩
              · have h5' : ((rs'.length : Int) == 0) = false := by rw [beq_eq_false_iff_ne]; omega
                have hmc : mCut ⟨price, r :: t⟩ rs' Ls = ⟨price, rs'⟩ :: Ls := by simp [mCut, h5]
                rw [hmc] at HRN HOK2 HMS
                go_wp2
                go_roundg (mSize ⟨⟨price, rs'⟩ :: Ls, left', T', W', ends'⟩)
                case measure => exact HMS.out
                case rel => exact ⟨⟨⟨price, rs'⟩ :: Ls, left', T', W', ends'⟩, _, cap, _, _, _, _, _, rfl, rfl, HRN.out, HOK2.out, HMM.out, HRB.out, HBW.out⟩
              -->aft
  case rest =>
    --<end
    obtain ⟨s, A, cap, vs, AT, cT, AW, cW, rfl, hmet, hok, hmm, hrb, hbw⟩ := hcut
    have HMET := Lib.hid hmet; have HOK := Lib.hid hok; have HMM := Lib.hid hmm; have HRB := Lib.hid hrb; have HBW := Lib.hid hbw
    have cWith := Lib.hid (fun w => withx_any o.side hs L M s.L A1 A2 A c1 c2 cap w)
    obtain ⟨q0, q1⟩ := box2 hrb.b
    clear hmet hok hmm hrb hbw k8 OWN2 RB0
    go_wp2_with fail
    go_at_call 129
    refine (cWith.out _).mono ?_
    rintro e w5 ⟨rfl, hb5⟩
    have hbw5 := below_then hb5 HBW.out
    have HMM5 := Lib.hid (HMM.out.below hb5)
    have HRB5 := Lib.hid (HRB.out.keep hb5)
    have h1 : RdLv w5 w5.heap.size (pick o.side A A1) (pick o.side s.L L) := by
      rcases side_two hs with e | e <;> rw [e]
      · exact HL.out.on hbw5
      · exact HMM5.out.lv.rd
    have h2 : RdLv w5 w5.heap.size (pick o.side A2 A) (pick o.side M s.L) := by
      rcases side_two hs with e | e <;> rw [e]
      · exact HMM5.out.lv.rd
      · exact HM.out.on hbw5
    have k1 : LvOk (pick o.side s.L L) := by
      rcases side_two hs with e | e <;> rw [e]
      · exact OK1.out
      · exact HOK.out.lvOk
    have k2 : LvOk (pick o.side M s.L) := by
      rcases side_two hs with e | e <;> rw [e]
      · exact HOK.out.lvOk
      · exact OK2.out
    have hAn : A = none → cap = 0 := fun e => (HMM5.out.lv.own.none_cap e).2
    have z1 : pick o.side A A1 = none → pick o.side cap c1 = 0 := by
      rcases side_two hs with e | e <;> rw [e]
      · exact hA1
      · exact hAn
    have z2 : pick o.side A2 A = none → pick o.side c2 cap = 0 := by
      rcases side_two hs with e | e <;> rw [e]
      · exact hAn
      · exact hA2
    have cO := Lib.hid (bown_any (pick o.side s.L L) (pick o.side M s.L) (pick o.side A A1) (pick o.side A2 A) (pick o.side cap c1) (pick o.side c2 cap) w5 h1 h2 k1 k2 z1 z2)
    clear h1 h2 k1 k2 z1 z2 hAn q0 q1 hb5
    go_wp2_with fail
    go_at_call 45
    refine cO.out.mono ?_
    rintro e w6 ⟨B1, e1, u1, B2, e2, u2, rfl, o1, o2, hb6⟩
    have HMM6 := Lib.hid (HMM5.out.below hb6)
    have hbw6 := below_then hb6 hbw5
    have hgm5 := HMM5.out.lt
    have HO1 := Lib.hid (o1.far2 (g := w2.heap.size) (i := 0) (j := 1) hgm5 (.slice B1 (pick o.side s.L L).length e1) (.slice B2 (pick o.side M s.L).length e2))
    have HO2 := Lib.hid (o2.far2 (g := w2.heap.size) (i := 0) (j := 1) hgm5 (.slice B1 (pick o.side s.L L).length e1) (.slice B2 (pick o.side M s.L).length e2))
    have HRB6 := Lib.hid (((HRB5.out.keep hb6).far (p := ⟨w2.heap.size, 0, none⟩) (by show w.heap.size + 2 < w2.heap.size; omega) (.slice B1 (pick o.side s.L L).length e1)).far (p := ⟨w2.heap.size, 1, none⟩) (by show w.heap.size + 2 < w2.heap.size; omega) (.slice B2 (pick o.side M s.L).length e2))
    have HBW6 := Lib.hid ((hbw6.setCell (p := ⟨w2.heap.size, 0, none⟩) (by show w.heap.size ≤ w2.heap.size; omega) (.slice B1 (pick o.side s.L L).length e1)).setCell (p := ⟨w2.heap.size, 1, none⟩) (by show w.heap.size ≤ w2.heap.size; omega) (.slice B2 (pick o.side M s.L).length e2))
    have HT := Lib.hid ((HMM6.out.tr.apart (grown_set w6 ⟨w2.heap.size, 0, none⟩ (.slice B1 (pick o.side s.L L).length e1)) HMM6.out.g3).apart (grown_set _ ⟨w2.heap.size, 1, none⟩ (.slice B2 (pick o.side M s.L).length e2)) HMM6.out.g3)
    have HW := Lib.hid ((HMM6.out.wt.apart (grown_set w6 ⟨w2.heap.size, 0, none⟩ (.slice B1 (pick o.side s.L L).length e1)) HMM6.out.g4).apart (grown_set _ ⟨w2.heap.size, 1, none⟩ (.slice B2 (pick o.side M s.L).length e2)) HMM6.out.g4)
    have mB := (HMM6.out.m.set_ 0 (.slice B1 (pick o.side s.L L).length e1)).set_ 1 (.slice B2 (pick o.side M s.L).length e2)
    have hw5 : w.heap.size + 2 < w5.heap.size := by omega
    obtain ⟨m0, m1, m2, m3, m4, m5⟩ := box6 HMM6.out.m
    have f0 := HMM6.out.m.free 0; have f1 := HMM6.out.m.free 1
    clear o1 o2 hb6 hbw6 HMM5 HMM6 HRB5 hbw5 cO cWith HMM HRB HBW
    generalize hK1 : pick o.side s.L L = K1 at *
    generalize hK2 : pick o.side M s.L = K2 at *
    have HK1 := Lib.hid hK1; have HK2 := Lib.hid hK2
    clear hK1 hK2
    go_upto_region 20 with fail
    generalize (w6.setCell ⟨w2.heap.size, 0, none⟩ (.slice B1 K1.length e1)).setCell ⟨w2.heap.size, 1, none⟩ (.slice B2 K2.length e2) = w7 at *
    clear m0 m1 m2 m3 m4 m5 f0 f1
    simp at mB
    obtain ⟨m0, m1, m2, m3, m4, m5⟩ := box6 mB
    have hr := HRB6.out.r
    have r0 := box6 hr
    have y0 := hr.free 0; have y1 := hr.free 1; have y2 := hr.free 2; have y3 := hr.free 3; have y4 := hr.free 4; have y5 := hr.free 5
    have kx := box6 (hr.set6 (.slice B1 K1.length e1) (.slice B2 K2.length e2) (.slice AT s.T.length cT) (.int .i64 s.left) (.slice AW s.W.length cW) (.bool s.ends))
    have HF := Lib.hid (below_set6 HBW6.out (g := w.heap.size + 2) (by omega) (.slice B1 K1.length e1) (.slice B2 K2.length e2) (.slice AT s.T.length cT) (.int .i64 s.left) (.slice AW s.W.length cW) (.bool s.ends))
    have HP1 := Lib.hid (HO1.out.far6 (g := w.heap.size + 2) hw5 (.slice B1 K1.length e1) (.slice B2 K2.length e2) (.slice AT s.T.length cT) (.int .i64 s.left) (.slice AW s.W.length cW) (.bool s.ends))
    have HP2 := Lib.hid (HO2.out.far6 (g := w.heap.size + 2) hw5 (.slice B1 K1.length e1) (.slice B2 K2.length e2) (.slice AT s.T.length cT) (.int .i64 s.left) (.slice AW s.W.length cW) (.bool s.ends))
    have HPT := Lib.hid (HT.out.far6 (g := w.heap.size + 2) hgl (.slice B1 K1.length e1) (.slice B2 K2.length e2) (.slice AT s.T.length cT) (.int .i64 s.left) (.slice AW s.W.length cW) (.bool s.ends))
    have HPW := Lib.hid (HW.out.far6 (g := w.heap.size + 2) hgl (.slice B1 K1.length e1) (.slice B2 K2.length e2) (.slice AT s.T.length cT) (.int .i64 s.left) (.slice AW s.W.length cW) (.bool s.ends))
    clear hr HO1 HO2 HT HW
    go_wp2
    exact bodyPost_ret (v := .tuple #[.agg #[.slice B1 K1.length e1, .slice B2 K2.length e2, .slice AT s.T.length cT, .int .i64 s.left, .slice AW s.W.length cW, .bool s.ends], .nilIface]) (by simp [results, Tryz.results115, go_sem, kx]) rfl (.inr ⟨s, B1, e1, u1, B2, e2, u2, AT, cT, AW, cW, HMET.out, HOK.out, by rw [HK1.out, HK2.out]; exact ⟨rfl, HP1.out.lower (by omega), HP2.out.lower (by omega), HPT.out.lower (by omega), HPW.out.lower (by omega), HF.out⟩⟩)
    -->end
end Go.Proofs.YtkdgpdijbobmkaaGreat
