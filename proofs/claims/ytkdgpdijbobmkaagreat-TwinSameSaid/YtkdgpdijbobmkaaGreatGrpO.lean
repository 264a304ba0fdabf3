/- What holds of a meeting: plain. What holds of an order that came, by its kind: plain. What comes of an order: plain. -/
import Derived.Test.YtkdgpdijbobmkaaGreatMeetRun
import Derived.Test.YtkdgpdijbobmkaaGreatGrpG
import Derived.Test.YtkdgpdijbobmkaaGreatGrpA
import Derived.Test.YtkdgpdijbobmkaaGreatGrpN
import Derived.Test.YtkdgpdijbobmkaaGreatGrpP
import Derived.Test.YtkdgpdijbobmkaaGreatKRun
namespace Go.Proofs.YtkdgpdijbobmkaaGreat
set_option linter.all false
open Go Go.RowKit
/-- all that was traded -/
def sumT (l : List Trade) : Int := (l.map Trade.qty).sum
theorem sumT_take {l : List Trade} {k : Nat} {t : Trade} (h : l[k]? = some t) : sumT (l.take (k + 1)) = sumT (l.take k) + t.qty := by
  rw [List.take_add_one, h]; simp [sumT]
theorem sumT_bounds {l : List Trade} {b : Int} (hb : 0 ≤ b) (h : ∀ t ∈ l, 0 ≤ t.qty ∧ t.qty ≤ b) : 0 ≤ sumT l ∧ sumT l ≤ b * l.length := by
  induction l with
  | nil => simp [sumT]
  | cons x l ih =>
    have h1 := h x (by simp)
    have h2 := ih (fun y hy => h y (by simp [hy]))
    have h3 : b * ((l.length : Int) + 1) = b * l.length + b := by rw [Int.mul_add]; simp
    simp only [sumT, List.map_cons, List.sum_cons, List.length_cons] at h2 ⊢
    rw [Int.natCast_add]
    simp only [Int.natCast_one]
    omega
theorem sumT_snoc (l : List Trade) (t : Trade) : sumT (l ++ [t]) = sumT l + t.qty := by simp [sumT]
/-- all that a side has; all of it that an order may trade with -/
def lvQ (L : List Lv) : Int := (L.map fun x => allQ x.rs).sum
def mayQ (o : Order) (L : List Lv) : Int := (L.map fun x => if may o x.price then allQ x.rs else 0).sum
theorem allQ_nil : allQ [] = 0 := rfl
theorem lvQ_cons (x : Lv) (L : List Lv) : lvQ (x :: L) = allQ x.rs + lvQ L := by simp [lvQ]
theorem mayQ_cons (o : Order) (x : Lv) (L : List Lv) : mayQ o (x :: L) = (if may o x.price then allQ x.rs else 0) + mayQ o L := by simp [mayQ]
theorem lvQ_mCut (x : Lv) (rs : List Rest) (L : List Lv) : lvQ (mCut x rs L) = allQ rs + lvQ L := by
  unfold mCut
  split
  · rename_i h
    rw [List.length_eq_zero_iff.1 h, allQ_nil]; omega
  · rw [lvQ_cons]
theorem mayQ_mCut (o : Order) (x : Lv) (rs : List Rest) (L : List Lv) : mayQ o (mCut x rs L) = (if may o x.price then allQ rs else 0) + mayQ o L := by
  unfold mCut
  split
  · rename_i h
    rw [List.length_eq_zero_iff.1 h, allQ_nil]; simp
  · rw [mayQ_cons]
/-- a side whose first level has other rests -/
theorem SideOk.cut {sd : Int} {x : Lv} {L : List Lv} {rs : List Rest} (h : SideOk sd (x :: L)) (h1 : Sound rs) (h2 : (rs.map Rest.id).Nodup) (h3 : ∀ i ∈ rs.map Rest.id, i ∈ x.rs.map Rest.id) (h4 : rs.length ≤ x.rs.length) : SideOk sd (mCut x rs L) := by
  obtain ⟨a1, a2, a3, a4, a5, a6, a7⟩ := h
  rw [List.pairwise_cons] at a5
  rw [cnt_cons] at a6
  rw [ids_cons, List.nodup_append] at a7
  refine ⟨a1, fun y hy => ?_, fun y hy => ?_, fun y hy => ?_, ?_, by rw [cnt_mCut]; omega, ?_⟩
  · rcases mCut_mem hy with ⟨rfl, _⟩ | hy
    · exact a2 x (by simp)
    · exact a2 y (by simp [hy])
  · rcases mCut_mem hy with ⟨rfl, h⟩ | hy
    · exact h
    · exact a3 y (by simp [hy])
  · rcases mCut_mem hy with ⟨rfl, h⟩ | hy
    · exact h1
    · exact a4 y (by simp [hy])
  · unfold mCut
    split
    · exact a5.2
    · exact List.pairwise_cons.2 ⟨fun y hy => a5.1 y hy, a5.2⟩
  · rw [ids_mCut, List.nodup_append]
    exact ⟨h2, a7.2.1, fun i hi j hj => a7.2.2 i (h3 i hi) j hj⟩
theorem first_from {r : Rest} {t : List Rest} {n : Int} : ∀ x ∈ (qFirst r t n).2, ∃ y ∈ r :: t, y.id = x.id ∧ y.who = x.who := by
  intro x hx
  unfold qFirst at hx
  split at hx
  · rcases List.mem_cons.1 hx with rfl | hx
    · exact ⟨r, by simp, rfl, rfl⟩
    · exact ⟨x, by simp [hx], rfl, rfl⟩
  · split at hx
    · rcases List.mem_append.1 hx with hx | hx
      · exact ⟨x, by simp [hx], rfl, rfl⟩
      · rw [List.mem_singleton] at hx
        subst hx
        exact ⟨r, by simp, rfl, rfl⟩
    · exact ⟨x, by simp [hx], rfl, rfl⟩
theorem first_fill (r : Rest) (t : List Rest) (n : Int) : (qFirst r t n).1.id = r.id ∧ (qFirst r t n).1.who = r.who := by
  unfold qFirst
  split
  · exact ⟨rfl, rfl⟩
  · split <;> exact ⟨rfl, rfl⟩
/-- the ways of a round -/
theorem mStep_way {o : Order} {mode : Int} {s : MSt} (h : MOk s) (hg : mGo o s = true) : ∃ p r t L, s.L = ⟨p, r :: t⟩ :: L ∧ may o p = true ∧ 0 < s.left ∧ s.ends = false ∧
    ((r.who = o.who ∧ mode ≠ 0 ∧ mode = 1 ∧ mStep o mode s = { s with ends := true }) ∨
     (r.who = o.who ∧ mode ≠ 0 ∧ mode ≠ 1 ∧ mStep o mode s = { s with ends := decide (mode ≠ 2), W := s.W ++ [r.id], L := mCut ⟨p, r :: t⟩ t L }) ∨
     (¬ (r.who = o.who ∧ mode ≠ 0) ∧ mStep o mode s = { s with L := mCut ⟨p, r :: t⟩ (qFirst r t s.left).2 L, T := s.T ++ [mTr o (qFirst r t s.left).1 p], left := s.left - (qFirst r t s.left).1.qty })) := by
  obtain ⟨L, left, T, W, ends⟩ := s
  have hl : 0 < left := by
    by_cases h0 : 0 < left
    · exact h0
    · simp [mGo, h0] at hg
  have he : ends = false := by
    cases ends
    · rfl
    · simp [mGo] at hg
  subst he
  cases L with
  | nil => simp [mGo] at hg
  | cons x L =>
    obtain ⟨p, rs⟩ := x
    cases rs with
    | nil => exact absurd rfl (h.some_ _ (List.mem_cons_self ..))
    | cons r t =>
      have hm : may o p = true := by
        simp only [mGo, Bool.and_eq_true] at hg
        exact hg.2
      refine ⟨p, r, t, L, rfl, hm, hl, rfl, ?_⟩
      by_cases hw : r.who = o.who ∧ mode ≠ 0
      · by_cases h1 : mode = 1
        · refine .inl ⟨hw.1, hw.2, h1, ?_⟩
          simp only [mStep]
          rw [if_pos hw, if_pos h1]
        · refine .inr (.inl ⟨hw.1, hw.2, h1, ?_⟩)
          simp only [mStep]
          rw [if_pos hw, if_neg h1]
      · refine .inr (.inr ⟨hw, ?_⟩)
        simp only [mStep]
        rw [if_neg hw]
/-- what holds of a meeting's trade -/
structure TOk (o : Order) (mode : Int) (K : List Lv) (t : Trade) : Prop where
  price : vp t.price = true
  q1 : 1 ≤ t.qty
  q2 : t.qty ≤ o.qty
  taker : t.taker = o.id
  maker : t.maker ∈ ids K
  may : may o t.price = true
  apart : mode ≠ 0 → t.frm ≠ t.to
  frm : 1 ≤ t.frm ∧ t.frm ≤ 9
  to_ : 1 ≤ t.to ∧ t.to ≤ 9
  buy : o.side = 1 → t.to = o.who
  sell : o.side = 2 → t.frm = o.who
/-- what holds on the way -/
structure MI (o : Order) (mode sd : Int) (K : List Lv) (s : MSt) : Prop where
  side : SideOk sd s.L
  few : cnt s.L ≤ cnt K
  ids : ∀ i ∈ ids s.L, i ∈ ids K
  prices : ∀ x ∈ s.L, ∃ y ∈ K, y.price = x.price
  whos : ∀ x ∈ s.L, ∀ r ∈ x.rs, ∃ y ∈ K, ∃ q ∈ y.rs, q.id = r.id ∧ q.who = r.who
  trades : ∀ t ∈ s.T, TOk o mode K t
  sum : sumT s.T + s.left = o.qty
  all : mode = 0 → lvQ s.L + sumT s.T = lvQ K
  mays : mode = 0 → mayQ o s.L + sumT s.T = mayQ o K
  sort : s.T.Pairwise fun a b => a.price = b.price ∨ sAhd sd a.price b.price = true
  behind : ∀ t ∈ s.T, ∀ x ∈ s.L, t.price = x.price ∨ sAhd sd t.price x.price = true
  ends : mode = 0 → s.ends = false
  went : mode = 0 → s.W = []
  wents : ∀ i ∈ s.W, ∃ y ∈ K, ∃ q ∈ y.rs, q.id = i ∧ q.who = o.who
theorem mTr_flat (o : Order) (f : Fill) (p : Int) : (mTr o f p).maker = f.id ∧ (mTr o f p).taker = o.id ∧ (mTr o f p).price = p ∧ (mTr o f p).qty = f.qty ∧ ((o.side = 2 ∧ (mTr o f p).frm = o.who ∧ (mTr o f p).to = f.who) ∨ (o.side ≠ 2 ∧ (mTr o f p).frm = f.who ∧ (mTr o f p).to = o.who)) := by
  unfold mTr
  split
  · rename_i h; exact ⟨rfl, rfl, rfl, rfl, .inl ⟨h, rfl, rfl⟩⟩
  · rename_i h; exact ⟨rfl, rfl, rfl, rfl, .inr ⟨h, rfl, rfl⟩⟩
theorem mi_step {o : Order} {mode sd : Int} {K : List Lv} {s : MSt} (ho : o.err = 0) (h : MOk s) (hi : MI o mode sd K s) (hg : mGo o s = true) : MI o mode sd K (mStep o mode s) := by
  obtain ⟨p, r, t, L, hL, hm, hl, he, hw⟩ := mStep_way (mode := mode) h hg
  obtain ⟨L0, left, T, W, ends⟩ := s
  dsimp only at hL hl he
  subst hL he
  have hcl := (mStep_ok (mode := mode) h hg).2.2.1
  obtain ⟨i1, i0, i2, i3, i4, i5, i6, i7, i8, i9, i10, i11, i12, i13⟩ := hi
  replace hcl := Nat.le_trans hcl i0
  dsimp only at i1 i2 i3 i4 i5 i6 i7 i8 i9 i10 i11 i12 i13
  have hr : r.err = 0 := h.each _ (List.mem_cons_self ..) r (List.mem_cons_self ..)
  have ht : ∀ x ∈ t, x.err = 0 := fun y hy => h.each _ (List.mem_cons_self ..) y (List.mem_cons_of_mem _ hy)
  have hnd : ((r :: t).map Rest.id).Nodup := (ids_sub (L := ⟨p, r :: t⟩ :: L) (List.mem_cons_self ..)).nodup i1.once
  rcases hw with ⟨hw, h0, h1, e⟩ | ⟨hw, h0, h1, e⟩ | ⟨hw, e⟩
  · rw [e]
    exact ⟨i1, i0, i2, i3, i4, i5, i6, i7, i8, i9, i10, fun h => absurd h h0, i12, i13⟩
  · rw [e] at hcl ⊢
    refine ⟨i1.cut ht (List.nodup_cons.1 hnd).2 (fun i hi => by simp only [List.map_cons, List.mem_cons]; exact .inr hi) (by simp), hcl, fun i hi => ?_, fun x hx => ?_, fun x hx q hq => ?_, i5, i6, fun h => absurd h h0, fun h => absurd h h0, i9, fun u hu x hx => ?_, fun h => absurd h h0, fun h => absurd h h0, fun i hi => ?_⟩
    · rw [ids_mCut] at hi
      refine i2 i ?_
      rw [ids_cons]
      rcases List.mem_append.1 hi with hi | hi
      · exact List.mem_append_left _ (by simp only [List.map_cons, List.mem_cons]; exact .inr hi)
      · exact List.mem_append_right _ hi
    · rcases mCut_mem hx with ⟨rfl, _⟩ | hx
      · exact i3 ⟨p, r :: t⟩ (List.mem_cons_self ..)
      · exact i3 _ (List.mem_cons_of_mem _ hx)
    · rcases mCut_mem hx with ⟨rfl, _⟩ | hx
      · exact i4 _ (List.mem_cons_self ..) q (List.mem_cons_of_mem _ hq)
      · exact i4 _ (List.mem_cons_of_mem _ hx) q hq
    · rcases mCut_mem hx with ⟨rfl, _⟩ | hx
      · exact i10 u hu ⟨p, r :: t⟩ (List.mem_cons_self ..)
      · exact i10 u hu _ (List.mem_cons_of_mem _ hx)
    · rcases List.mem_append.1 hi with hi | hi
      · exact i13 i hi
      · rw [List.mem_singleton] at hi
        obtain ⟨y, hy, q, hq, e1, e2⟩ := i4 _ (List.mem_cons_self ..) r (List.mem_cons_self ..)
        exact ⟨y, hy, q, hq, by rw [e1, hi], by rw [e2, hw]⟩
  · rw [e] at hcl ⊢
    obtain ⟨k1, k2, k3, k4⟩ := qFirst_ok hr ht (n := left) (by omega)
    have kl := qFirst_len r t left
    have kid := first_ids (n := left) hnd
    have kf := first_from (r := r) (t := t) (n := left)
    obtain ⟨f1, f2⟩ := first_fill r t left
    obtain ⟨q1, q2, q3, q4, q5, q6, q7, q8, q9, q10⟩ := err0 hr
    have ka := first_all r t left (by omega)
    obtain ⟨m1, m2, m3, m4, m5⟩ := mTr_flat o (qFirst r t left).1 p
    generalize qFirst r t left = F at *
    generalize mTr o F.1 p = u at *
    have hvp := i1.price _ (List.mem_cons_self ..)
    dsimp only at hvp
    obtain ⟨y0, hy0, q0, hq0, e1, e2⟩ := i4 _ (List.mem_cons_self ..) r (List.mem_cons_self ..)
    have hw9 := inb_t q10
    have how := (Order.err_ok ho).2.1
    have hos := (Order.err_ok ho).2.2.1
    have hsum0 : 0 ≤ sumT T := (sumT_bounds (b := o.qty) (by have := (Order.err_ok ho).2.2.2.2.2.1; omega) (fun x hx => ⟨by have := (i5 x hx).q1; omega, (i5 x hx).q2⟩)).1
    refine ⟨i1.cut k1 kid (fun i hi => ?_) (by simpa using kl), hcl, fun i hi => ?_, fun x hx => ?_, fun x hx q hq => ?_, fun v hv => ?_, by dsimp only; rw [sumT_snoc, m4]; omega, fun h => ?_, fun h => ?_, ?_, fun v hv x hx => ?_, fun _ => rfl, i12, i13⟩
    · obtain ⟨z, hz, rfl⟩ := List.mem_map.1 hi
      obtain ⟨y, hy, e3, _⟩ := kf z hz
      exact List.mem_map.2 ⟨y, hy, e3⟩
    · dsimp only at hi
      rw [ids_mCut] at hi
      refine i2 i ?_
      rw [ids_cons]
      rcases List.mem_append.1 hi with hi | hi
      · obtain ⟨z, hz, rfl⟩ := List.mem_map.1 hi
        obtain ⟨y, hy, e3, _⟩ := kf z hz
        exact List.mem_append_left _ (List.mem_map.2 ⟨y, hy, e3⟩)
      · exact List.mem_append_right _ hi
    · rcases mCut_mem hx with ⟨rfl, _⟩ | hx
      · exact i3 ⟨p, r :: t⟩ (List.mem_cons_self ..)
      · exact i3 _ (List.mem_cons_of_mem _ hx)
    · rcases mCut_mem hx with ⟨rfl, _⟩ | hx
      · obtain ⟨y, hy, e3, e4⟩ := kf q hq
        obtain ⟨z, hz, b, hb, e5, e6⟩ := i4 _ (List.mem_cons_self ..) y hy
        exact ⟨z, hz, b, hb, by rw [e5, e3], by rw [e6, e4]⟩
      · exact i4 _ (List.mem_cons_of_mem _ hx) q hq
    · rcases List.mem_append.1 hv with hv | hv
      · exact i5 v hv
      · rw [List.mem_singleton] at hv
        subst hv
        refine ⟨by rw [m3]; exact hvp, by omega, by omega, m2, ?_, by rw [m3]; exact hm, fun h0 => ?_, ?_, ?_, fun h1 => ?_, fun h1 => ?_⟩
        · rw [m1, f1, ← e1]
          exact List.mem_flatMap.2 ⟨y0, hy0, List.mem_map.2 ⟨q0, hq0, rfl⟩⟩
        · have : r.who ≠ o.who := fun h => hw ⟨h, h0⟩
          omega
        · omega
        · omega
        · omega
        · omega
    · dsimp only
      rw [lvQ_mCut, sumT_snoc, m4]
      have := i7 h
      rw [lvQ_cons] at this
      dsimp only at this
      omega
    · dsimp only
      rw [mayQ_mCut, sumT_snoc, m4]
      have := i8 h
      rw [mayQ_cons] at this
      dsimp only at this ⊢
      rw [if_pos hm] at this ⊢
      omega
    · dsimp only
      rw [List.pairwise_append]
      refine ⟨i9, List.pairwise_singleton _ _, fun a ha b hb => ?_⟩
      rw [List.mem_singleton] at hb
      rw [hb, m3]
      exact i10 a ha _ (List.mem_cons_self ..)
    · rcases List.mem_append.1 hv with hv | hv
      · rcases mCut_mem hx with ⟨rfl, _⟩ | hx
        · exact i10 v hv ⟨p, r :: t⟩ (List.mem_cons_self ..)
        · exact i10 v hv _ (List.mem_cons_of_mem _ hx)
      · rw [List.mem_singleton] at hv
        rw [hv, m3]
        rcases mCut_mem hx with ⟨rfl, _⟩ | hx
        · exact .inl rfl
        · exact .inr ((List.pairwise_cons.1 i1.sorted).1 x hx)
theorem pick_side {o : Order} (hs : o.side = 1 ∨ o.side = 2) {L M : List Lv} (hb : BookOk L M) : SideOk (3 - o.side) (pick o.side L M) := by
  rcases hs with h | h
  · rw [h]; exact hb.sells
  · rw [h]; exact hb.buys
/-- what a meeting comes to -/
theorem met_out {L M : List Lv} {o : Order} {mode : Int} {e : MSt} (hb : BookOk L M) (ho : o.err = 0) (h : met L M o mode = some e) : MOk e ∧ MI o mode (3 - o.side) (pick o.side L M) e ∧ mGo o e = false := by
  have h0 := MOk.start hb ho
  obtain ⟨n, hn, hm⟩ := met_start (mode := mode) h0
  rw [h] at hm
  refine mRun_ind (MI o mode (3 - o.side) (pick o.side L M)) (fun s hs hi hg => mi_step ho hs hi hg) n _ e h0 ?_ hn hm.symm
  exact ⟨pick_side (Order.err_ok ho).2.2.1 hb, Nat.le_refl _, fun i h => h, fun x h => ⟨x, h, rfl⟩, fun x hx r hr => ⟨x, hx, r, hr, rfl, rfl⟩, (fun t h => by cases h), by simp [sumT], (fun _ => by simp [sumT]), (fun _ => by simp [sumT]), List.Pairwise.nil, (fun t h => by cases h), fun _ => rfl, fun _ => rfl, (fun i h => by cases h)⟩
end Go.Proofs.YtkdgpdijbobmkaaGreat
namespace Go.Proofs.YtkdgpdijbobmkaaGreat
set_option linter.all false
open Go Go.RowKit
theorem restOf_sum (o : Order) (q : Int) : (restOf o q).qty + (restOf o q).hidden = q ∧ (restOf o q).id = o.id ∧ (restOf o q).who = o.who := by
  unfold restOf
  split
  · exact ⟨by dsimp only; omega, rfl, rfl⟩
  · exact ⟨by dsimp only; omega, rfl, rfl⟩
/-- the book behind a meeting -/
theorem met_book {L M : List Lv} {o : Order} {mode : Int} {e : MSt} (hb : BookOk L M) (ho : o.err = 0) (h : met L M o mode = some e) : BookOk (kL o.side L e) (kM o.side M e) := by
  obtain ⟨_, hi, _⟩ := met_out hb ho h
  obtain ⟨b1, b2, b3, b4, b5⟩ := hb
  rw [List.nodup_append] at b5
  rcases (Order.err_ok ho).2.2.1 with h1 | h1
  · rw [h1] at hi ⊢
    refine ⟨b1, hi.side, fun x hx y hy => ?_, by have := hi.few; simp only [kL, kM, pick] at *; simp at *; omega, ?_⟩
    · obtain ⟨z, hz, e1⟩ := hi.prices y hy
      rw [← e1]
      exact b3 x hx z hz
    · exact List.nodup_append.2 ⟨b5.1, hi.side.once, fun i h1 j h2 => b5.2.2 i h1 j (hi.ids j h2)⟩
  · rw [h1] at hi ⊢
    refine ⟨hi.side, b2, fun x hx y hy => ?_, by have := hi.few; simp only [kL, kM, pick] at *; simp at *; omega, ?_⟩
    · obtain ⟨z, hz, e1⟩ := hi.prices x hx
      rw [← e1]
      exact b3 z hz y hy
    · exact List.nodup_append.2 ⟨hi.side.once, b5.2.1, fun i h1 j h2 => b5.2.2 i (hi.ids i h1) j h2⟩
theorem met_ids {L M : List Lv} {o : Order} {mode : Int} {e : MSt} (hb : BookOk L M) (ho : o.err = 0) (h : met L M o mode = some e) (h1 : o.id ∉ ids L) (h2 : o.id ∉ ids M) : o.id ∉ ids (kL o.side L e) ∧ o.id ∉ ids (kM o.side M e) := by
  obtain ⟨_, hi, _⟩ := met_out hb ho h
  rcases (Order.err_ok ho).2.2.1 with h3 | h3
  · rw [h3] at hi ⊢
    exact ⟨h1, fun hm => h2 (hi.ids _ hm)⟩
  · rw [h3] at hi ⊢
    exact ⟨fun hm => h1 (hi.ids _ hm), h2⟩
/-- what holds of an order that came -/
structure KOk (L M : List Lv) (o : Order) (mode : Int) (T : List Trade) (gone rests : Int) (L' M' : List Lv) : Prop where
  ok : BookOk L' M'
  tr : ∀ t ∈ T, TOk o mode (pick o.side L M) t
  sum : sumT T + gone + rests = o.qty
  gone0 : 0 ≤ gone
  rests0 : 0 ≤ rests
  find : (rests = 0 ∧ (whereB L' M' o.id).1 = 0) ∨ (0 < rests ∧ (whereB L' M' o.id).1 ≠ 0 ∧ ∀ s i k x q, BAt L' M' o.id s i k x q → s = o.side ∧ x.price = o.price ∧ q = restOf o rests)
  whole : o.kind = 4 → sumT T = o.qty
  post : o.kind = 5 → rests = o.qty
  limit : o.kind = 1 → mode = 0 → gone = 0
  other : o.kind ≠ 1 → o.kind ≠ 5 → rests = 0
theorem met_post {L M : List Lv} {o : Order} {mode : Int} {e : MSt} (h : met L M o mode = some e) (hm : mayTop o (pick o.side L M) = false) : e = ⟨pick o.side L M, o.qty, [], [], false⟩ := by
  have hg : mGo o ⟨pick o.side L M, o.qty, [], [], false⟩ = false := by
    unfold mGo
    cases hK : pick o.side L M with
    | nil => simp
    | cons x K =>
      rw [hK] at hm
      simp only [mayTop] at hm
      simp [hm]
  have : met L M o mode = some ⟨pick o.side L M, o.qty, [], [], false⟩ := mRun_stop hg
  rw [this] at h
  exact (Option.some.inj h).symm
theorem kok {L M L' M' : List Lv} {o : Order} {mode : Int} {s : MSt} (hr : readyE L M o = 0) (h : met L M o mode = some s) (hk9 : kOut o (pick o.side L M) s ≠ 9) (hk8 : kOut o (pick o.side L M) s ≠ 8)
    (hw : kOut o (pick o.side L M) s ≤ 1 ∧ L' = kL o.side L s ∧ M' = kM o.side M s ∨ kOut o (pick o.side L M) s = 2 ∧ putE (kL o.side L s) (kM o.side M s) o.side o.price (restOf o s.left) = 0 ∧ L' = putL o.side o.price (restOf o s.left) (kL o.side L s) ∧ M' = putM o.side o.price (restOf o s.left) (kM o.side M s)) :
    ∃ rests, KOk L M o mode s.T (if kOut o (pick o.side L M) s = 1 then s.left else 0) rests L' M' := by
  obtain ⟨hb, ho, _, n1, n2⟩ := readyE_iff.1 hr
  obtain ⟨hok, hi, _⟩ := met_out hb ho h
  have hbk := met_book hb ho h
  obtain ⟨g1, g2⟩ := met_ids hb ho h n1 n2
  have hl0 := hok.left0
  have hsum := hi.sum
  by_cases a9 : o.kind = 4 ∧ 0 < s.left
  · exact absurd (kOut_9 a9) hk9
  by_cases a8 : o.kind = 5 ∧ mayTop o (pick o.side L M) = true
  · exact absurd (kOut_8 a9 a8) hk8
  have hpost : o.kind = 5 → s.left = o.qty ∧ s.ends = false ∧ s.T = [] := fun h5 => by
    have hm : mayTop o (pick o.side L M) = false := by
      cases e : mayTop o (pick o.side L M)
      · rfl
      · exact absurd ⟨h5, e⟩ a8
    rw [met_post h hm]
    exact ⟨rfl, rfl, rfl⟩
  have hq := (Order.err_ok ho).2.2.2.2.2.1
  by_cases a0 : s.left = 0
  · have hk := kOut_0 a9 a8 a0
    rw [hk] at hw ⊢
    rcases hw with ⟨_, rfl, rfl⟩ | ⟨h2, _⟩
    · refine ⟨0, hbk, hi.trades, by simp; omega, by simp, Int.le_refl _, .inl ⟨rfl, whereB_zero.2 ⟨g1, g2⟩⟩, fun _ => by omega, fun h5 => by have := (hpost h5).1; omega, fun _ _ => by simp, fun _ _ => rfl⟩
    · exact absurd h2 (by decide)
  · by_cases a1 : s.ends = true ∨ (o.kind ≠ 1 ∧ o.kind ≠ 5)
    · have hk := kOut_1 a9 a8 a0 a1
      rw [hk] at hw ⊢
      rcases hw with ⟨_, rfl, rfl⟩ | ⟨h2, _⟩
      · refine ⟨0, hbk, hi.trades, by simp; omega, by simpa using hl0, Int.le_refl _, .inl ⟨rfl, whereB_zero.2 ⟨g1, g2⟩⟩, fun h4 => absurd ⟨h4, by omega⟩ a9, fun h5 => ?_, fun h1 h0 => ?_, fun _ _ => rfl⟩
        · rcases a1 with a1 | a1
          · have := (hpost h5).2.1
            rw [this] at a1; cases a1
          · exact absurd h5 a1.2
        · rcases a1 with a1 | a1
          · have := hi.ends h0
            rw [this] at a1; cases a1
          · exact absurd h1 a1.1
      · exact absurd h2 (by decide)
    · have hk := kOut_2 a9 a8 a0 a1
      rw [hk] at hw ⊢
      rcases hw with ⟨h2, _⟩ | ⟨_, hz, rfl, rfl⟩
      · exact absurd h2 (by decide)
      · have hp := putted hz
        have hid := (restOf_sum o s.left).2.1
        refine ⟨s.left, hp.ok, hi.trades, by simp; omega, by simp, hl0, .inr ⟨by omega, by rw [← hid]; exact hp.found, fun s' i k x q hat => ?_⟩, fun h4 => absurd ⟨h4, by omega⟩ a9, fun h5 => (hpost h5).1, fun _ _ => by simp, fun n1 n5 => absurd (.inr ⟨n1, n5⟩) a1⟩
        rw [← hid] at hat
        obtain ⟨e1, e2, e3, _⟩ := hp.at_ s' i k x q hat
        exact ⟨e1, e2, e3⟩
end Go.Proofs.YtkdgpdijbobmkaaGreat
namespace Go.Proofs.YtkdgpdijbobmkaaGreat
set_option linter.all false
open Go Go.RowKit
theorem SideOk.short {d : Int} {L : List Lv} (h : SideOk d L) : L.length ≤ 60 ∧ ∀ x ∈ L, x.rs.length ≤ 60 :=
  ⟨Nat.le_trans (full_len h.full) h.few, fun x hx => Nat.le_trans (len_cnt hx) h.few⟩
theorem met_ok {L M : List Lv} {o : Order} {mode : Int} {s : MSt} (hr : readyE L M o = 0) (h : met L M o mode = some s) : MOk s := by
  have hs := MOk.start (readyE_iff.1 hr).1 (readyE_iff.1 hr).2.1
  obtain ⟨n, hn, e⟩ := met_start (mode := mode) hs
  rw [e] at h
  exact (mRun_ind (fun _ => True) (fun _ _ _ _ => trivial) n _ _ hs trivial hn h).1
theorem rd_nil6 {w : World} {B : Nat} {A : Option Addr} : Rd w B A ([] : List Trade).length 6 (tcell []) := fun h => absurd h (by simp)
theorem cnt_put {s p : Int} {r : Rest} {L M : List Lv} (hs : vs s = true) : cnt (putL s p r L) ≤ cnt L + 1 ∧ cnt (putM s p r M) ≤ cnt M + 1 := by
  rcases side_two hs with rfl | rfl
  · exact ⟨by rw [putL, if_pos rfl, cnt_addL]; omega, by rw [putM, if_pos rfl]; omega⟩
  · exact ⟨by rw [putL, if_neg (by decide)]; omega, by rw [putM, if_neg (by decide), cnt_addL]; omega⟩
theorem len_addL (s p : Int) (r : Rest) : ∀ L : List Lv, (addL s p r L).length ≤ L.length + 1
  | [] => by simp [addL]
  | x :: L => by
    have := len_addL s p r L
    unfold addL
    split
    · simp only [List.length_cons]; omega
    · split <;> simp
/-- what comes of an order: the fault, both sides, the trades, what is gone, who went -/
def KO (L M : List Lv) (o : Order) (mode : Int) (E : Int) (K1 K2 : List Lv) (T : List Trade) (gone : Int) (W : List Int) : Prop :=
  (readyE L M o ≠ 0 ∧ E = readyE L M o ∧ K1 = [] ∧ K2 = [] ∧ T = [] ∧ gone = 0 ∧ W = []) ∨
  (readyE L M o = 0 ∧ met L M o mode = none ∧ E = 4 ∧ K1 = [] ∧ K2 = [] ∧ T = [] ∧ gone = 0 ∧ W = []) ∨
  (readyE L M o = 0 ∧ ∃ s, met L M o mode = some s ∧ MOk s ∧
    (((kOut o (pick o.side L M) s = 9 ∨ kOut o (pick o.side L M) s = 8) ∧ E = kOut o (pick o.side L M) s ∧ K1 = [] ∧ K2 = [] ∧ T = [] ∧ gone = 0 ∧ W = []) ∨
     (kOut o (pick o.side L M) s = 2 ∧ putE (kL o.side L s) (kM o.side M s) o.side o.price (restOf o s.left) ≠ 0 ∧ E = putE (kL o.side L s) (kM o.side M s) o.side o.price (restOf o s.left) ∧ K1 = [] ∧ K2 = [] ∧ T = [] ∧ gone = 0 ∧ W = []) ∨
     (E = 0 ∧ T = s.T ∧ W = s.W ∧ gone = (if kOut o (pick o.side L M) s = 1 then s.left else 0) ∧
       (kOut o (pick o.side L M) s ≤ 1 ∧ K1 = kL o.side L s ∧ K2 = kM o.side M s ∨ kOut o (pick o.side L M) s = 2 ∧ putE (kL o.side L s) (kM o.side M s) o.side o.price (restOf o s.left) = 0 ∧ K1 = putL o.side o.price (restOf o s.left) (kL o.side L s) ∧ K2 = putM o.side o.price (restOf o s.left) (kM o.side M s)))))
theorem kout_cases (o : Order) (K : List Lv) (s : MSt) : kOut o K s = 9 ∨ kOut o K s = 8 ∨ kOut o K s ≤ 1 ∨ kOut o K s = 2 := by
  unfold kOut; split
  · simp
  · split
    · simp
    · split
      · simp
      · split <;> simp
theorem ko_ex (L M : List Lv) (o : Order) (mode : Int) : ∃ E K1 K2 T gone W, KO L M o mode E K1 K2 T gone W := by
  by_cases h : readyE L M o = 0
  · cases hm : met L M o mode with
    | none => exact ⟨_, _, _, _, _, _, .inr (.inl ⟨h, hm, rfl, rfl, rfl, rfl, rfl, rfl⟩)⟩
    | some s =>
      rcases kout_cases o (pick o.side L M) s with hk | hk | hk | hk
      · exact ⟨_, _, _, _, _, _, .inr (.inr ⟨h, s, hm, met_ok h hm, .inl ⟨.inl hk, rfl, rfl, rfl, rfl, rfl, rfl⟩⟩)⟩
      · exact ⟨_, _, _, _, _, _, .inr (.inr ⟨h, s, hm, met_ok h hm, .inl ⟨.inr hk, rfl, rfl, rfl, rfl, rfl, rfl⟩⟩)⟩
      · exact ⟨_, _, _, _, _, _, .inr (.inr ⟨h, s, hm, met_ok h hm, .inr (.inr ⟨rfl, rfl, rfl, rfl, .inl ⟨hk, rfl, rfl⟩⟩)⟩)⟩
      · by_cases hp : putE (kL o.side L s) (kM o.side M s) o.side o.price (restOf o s.left) = 0
        · exact ⟨_, _, _, _, _, _, .inr (.inr ⟨h, s, hm, met_ok h hm, .inr (.inr ⟨rfl, rfl, rfl, rfl, .inr ⟨hk, hp, rfl, rfl⟩⟩)⟩)⟩
        · exact ⟨_, _, _, _, _, _, .inr (.inr ⟨h, s, hm, met_ok h hm, .inr (.inl ⟨hk, hp, rfl, rfl, rfl, rfl, rfl, rfl⟩)⟩)⟩
  · exact ⟨_, _, _, _, _, _, .inl ⟨h, rfl, rfl, rfl, rfl, rfl, rfl⟩⟩
theorem KO.good {L M : List Lv} {o : Order} {mode E : Int} {K1 K2 : List Lv} {T : List Trade} {gone : Int} {W : List Int} (h : KO L M o mode E K1 K2 T gone W) (hr : readyE L M o = 0) {s : MSt} (hs : met L M o mode = some s)
    (hk : kOut o (pick o.side L M) s ≤ 1 ∨ kOut o (pick o.side L M) s = 2 ∧ putE (kL o.side L s) (kM o.side M s) o.side o.price (restOf o s.left) = 0) :
    E = 0 ∧ T = s.T ∧ W = s.W ∧ gone = (if kOut o (pick o.side L M) s = 1 then s.left else 0) ∧ (kOut o (pick o.side L M) s ≤ 1 → K1 = kL o.side L s ∧ K2 = kM o.side M s) ∧ (kOut o (pick o.side L M) s = 2 → K1 = putL o.side o.price (restOf o s.left) (kL o.side L s) ∧ K2 = putM o.side o.price (restOf o s.left) (kM o.side M s)) := by
  rcases h with ⟨h0, _⟩ | ⟨_, hn, _⟩ | ⟨_, s', hs', _, h3⟩
  · exact absurd hr h0
  · rw [hn] at hs; cases hs
  · rw [hs] at hs'; cases hs'
    rcases h3 with ⟨h4, _⟩ | ⟨h4, h5, _⟩ | ⟨h4, h5, h6, h7, ⟨h8, h9⟩ | ⟨h8, _, h9⟩⟩
    · omega
    · rcases hk with hk | ⟨_, hk⟩
      · omega
      · exact absurd hk h5
    · exact ⟨h4, h5, h6, h7, fun _ => h9, fun e => by omega⟩
    · exact ⟨h4, h5, h6, h7, fun e => by omega, fun _ => h9⟩
end Go.Proofs.YtkdgpdijbobmkaaGreat
