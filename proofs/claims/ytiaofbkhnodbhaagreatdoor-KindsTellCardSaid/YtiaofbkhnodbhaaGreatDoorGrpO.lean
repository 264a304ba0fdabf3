/- What holds of a meeting: plain. What holds of an order that came, by its kind: plain. What meet.Do, meet.Trades and the reference's Meet give, whatever comes, in one form. The contract of the reference's Kept. Seven cells of a block at once. What stands in the block of the reference's Met, behind Come. The contracts of the reference's Add, Join. The contract of the reference's Join. The contract of the reference's Come. -/
import Derived.Test.YtiaofbkhnodbhaaGreatDoorMeetRun
import Derived.Test.YtiaofbkhnodbhaaGreatDoorGrpG
import Derived.Test.YtiaofbkhnodbhaaGreatDoorGrpA
import Derived.Test.YtiaofbkhnodbhaaGreatDoorGrpN
import Derived.Test.YtiaofbkhnodbhaaGreatDoorGrpP
import Derived.Test.YtiaofbkhnodbhaaGreatDoorKRun
import Derived.Test.YtiaofbkhnodbhaaGreatDoorRMeet
import Derived.Test.YtiaofbkhnodbhaaGreatDoorGrpK
import Derived.Test.YtiaofbkhnodbhaaGreatDoorRPut
import Derived.Test.YtiaofbkhnodbhaaGreatDoorGrpL
import Derived.Test.YtiaofbkhnodbhaaGreatDoorGrpB
namespace Go.Proofs.YtiaofbkhnodbhaaGreatDoor
set_option linter.all false
open Go Go.RowKit
/-- all that was traded -/
def sumT (l : List Trade) : Int := (l.map Trade.qty).sum
theorem sumT_take {l : List Trade} {k : Nat} {t : Trade} (h : l[k]? = some t) : sumT (l.take (k + 1)) = sumT (l.take k) + t.qty := by
  rw [List.take_add_one, h]; simp [sumT]
theorem sumT_bounds {l : List Trade} {b : Int} (hb : 0 ≤ b) (h : ∀ t ∈ l, 0 ≤ t.qty ∧ t.qty ≤ b) : 0 ≤ sumT l ∧ sumT l ≤ b * l.length := by
  induction l with
  | nil => simp [sumT]
  | cons x l ih =>
    have h1 := h x (by simp)
    have h2 := ih (fun y hy => h y (by simp [hy]))
    have h3 : b * ((l.length : Int) + 1) = b * l.length + b := by rw [Int.mul_add]; simp
    simp only [sumT, List.map_cons, List.sum_cons, List.length_cons] at h2 ⊢
    rw [Int.natCast_add]
    simp only [Int.natCast_one]
    omega
theorem sumT_snoc (l : List Trade) (t : Trade) : sumT (l ++ [t]) = sumT l + t.qty := by simp [sumT]
/-- all that a side has; all of it that an order may trade with -/
def lvQ (L : List Lv) : Int := (L.map fun x => allQ x.rs).sum
def mayQ (o : Order) (L : List Lv) : Int := (L.map fun x => if may o x.price then allQ x.rs else 0).sum
theorem allQ_nil : allQ [] = 0 := rfl
theorem lvQ_cons (x : Lv) (L : List Lv) : lvQ (x :: L) = allQ x.rs + lvQ L := by simp [lvQ]
theorem mayQ_cons (o : Order) (x : Lv) (L : List Lv) : mayQ o (x :: L) = (if may o x.price then allQ x.rs else 0) + mayQ o L := by simp [mayQ]
theorem lvQ_mCut (x : Lv) (rs : List Rest) (L : List Lv) : lvQ (mCut x rs L) = allQ rs + lvQ L := by
  unfold mCut
  split
  · rename_i h
    rw [List.length_eq_zero_iff.1 h, allQ_nil]; omega
  · rw [lvQ_cons]
theorem mayQ_mCut (o : Order) (x : Lv) (rs : List Rest) (L : List Lv) : mayQ o (mCut x rs L) = (if may o x.price then allQ rs else 0) + mayQ o L := by
  unfold mCut
  split
  · rename_i h
    rw [List.length_eq_zero_iff.1 h, allQ_nil]; simp
  · rw [mayQ_cons]
/-- a side whose first level has other rests -/
theorem SideOk.cut {sd : Int} {x : Lv} {L : List Lv} {rs : List Rest} (h : SideOk sd (x :: L)) (h1 : Sound rs) (h2 : (rs.map Rest.id).Nodup) (h3 : ∀ i ∈ rs.map Rest.id, i ∈ x.rs.map Rest.id) (h4 : rs.length ≤ x.rs.length) : SideOk sd (mCut x rs L) := by
  obtain ⟨a1, a2, a3, a4, a5, a6, a7⟩ := h
  rw [List.pairwise_cons] at a5
  rw [cnt_cons] at a6
  rw [ids_cons, List.nodup_append] at a7
  refine ⟨a1, fun y hy => ?_, fun y hy => ?_, fun y hy => ?_, ?_, by rw [cnt_mCut]; omega, ?_⟩
  · rcases mCut_mem hy with ⟨rfl, _⟩ | hy
    · exact a2 x (by simp)
    · exact a2 y (by simp [hy])
  · rcases mCut_mem hy with ⟨rfl, h⟩ | hy
    · exact h
    · exact a3 y (by simp [hy])
  · rcases mCut_mem hy with ⟨rfl, h⟩ | hy
    · exact h1
    · exact a4 y (by simp [hy])
  · unfold mCut
    split
    · exact a5.2
    · exact List.pairwise_cons.2 ⟨fun y hy => a5.1 y hy, a5.2⟩
  · rw [ids_mCut, List.nodup_append]
    exact ⟨h2, a7.2.1, fun i hi j hj => a7.2.2 i (h3 i hi) j hj⟩
theorem first_from {r : Rest} {t : List Rest} {n : Int} : ∀ x ∈ (qFirst r t n).2, ∃ y ∈ r :: t, y.id = x.id ∧ y.who = x.who := by
  intro x hx
  unfold qFirst at hx
  split at hx
  · rcases List.mem_cons.1 hx with rfl | hx
    · exact ⟨r, by simp, rfl, rfl⟩
    · exact ⟨x, by simp [hx], rfl, rfl⟩
  · split at hx
    · rcases List.mem_append.1 hx with hx | hx
      · exact ⟨x, by simp [hx], rfl, rfl⟩
      · rw [List.mem_singleton] at hx
        subst hx
        exact ⟨r, by simp, rfl, rfl⟩
    · exact ⟨x, by simp [hx], rfl, rfl⟩
theorem first_fill (r : Rest) (t : List Rest) (n : Int) : (qFirst r t n).1.id = r.id ∧ (qFirst r t n).1.who = r.who := by
  unfold qFirst
  split
  · exact ⟨rfl, rfl⟩
  · split <;> exact ⟨rfl, rfl⟩
/-- the ways of a round -/
theorem mStep_way {o : Order} {mode : Int} {s : MSt} (h : MOk s) (hg : mGo o s = true) : ∃ p r t L, s.L = ⟨p, r :: t⟩ :: L ∧ may o p = true ∧ 0 < s.left ∧ s.ends = false ∧
    ((r.who = o.who ∧ mode ≠ 0 ∧ mode = 1 ∧ mStep o mode s = { s with ends := true }) ∨
     (r.who = o.who ∧ mode ≠ 0 ∧ mode ≠ 1 ∧ mStep o mode s = { s with ends := decide (mode ≠ 2), W := s.W ++ [r.id], L := mCut ⟨p, r :: t⟩ t L }) ∨
     (¬ (r.who = o.who ∧ mode ≠ 0) ∧ mStep o mode s = { s with L := mCut ⟨p, r :: t⟩ (qFirst r t s.left).2 L, T := s.T ++ [mTr o (qFirst r t s.left).1 p], left := s.left - (qFirst r t s.left).1.qty })) := by
  obtain ⟨L, left, T, W, ends⟩ := s
  have hl : 0 < left := by
    by_cases h0 : 0 < left
    · exact h0
    · simp [mGo, h0] at hg
  have he : ends = false := by
    cases ends
    · rfl
    · simp [mGo] at hg
  subst he
  cases L with
  | nil => simp [mGo] at hg
  | cons x L =>
    obtain ⟨p, rs⟩ := x
    cases rs with
    | nil => exact absurd rfl (h.some_ _ (List.mem_cons_self ..))
    | cons r t =>
      have hm : may o p = true := by
        simp only [mGo, Bool.and_eq_true] at hg
        exact hg.2
      refine ⟨p, r, t, L, rfl, hm, hl, rfl, ?_⟩
      by_cases hw : r.who = o.who ∧ mode ≠ 0
      · by_cases h1 : mode = 1
        · refine .inl ⟨hw.1, hw.2, h1, ?_⟩
          simp only [mStep]
          rw [if_pos hw, if_pos h1]
        · refine .inr (.inl ⟨hw.1, hw.2, h1, ?_⟩)
          simp only [mStep]
          rw [if_pos hw, if_neg h1]
      · refine .inr (.inr ⟨hw, ?_⟩)
        simp only [mStep]
        rw [if_neg hw]
/-- what holds of a meeting's trade -/
structure TOk (o : Order) (mode : Int) (K : List Lv) (t : Trade) : Prop where
  price : vp t.price = true
  q1 : 1 ≤ t.qty
  q2 : t.qty ≤ o.qty
  taker : t.taker = o.id
  maker : t.maker ∈ ids K
  may : may o t.price = true
  apart : mode ≠ 0 → t.frm ≠ t.to
  frm : 1 ≤ t.frm ∧ t.frm ≤ 9
  to_ : 1 ≤ t.to ∧ t.to ≤ 9
  buy : o.side = 1 → t.to = o.who
  sell : o.side = 2 → t.frm = o.who
/-- what holds on the way -/
structure MI (o : Order) (mode sd : Int) (K : List Lv) (s : MSt) : Prop where
  side : SideOk sd s.L
  few : cnt s.L ≤ cnt K
  ids : ∀ i ∈ ids s.L, i ∈ ids K
  prices : ∀ x ∈ s.L, ∃ y ∈ K, y.price = x.price
  whos : ∀ x ∈ s.L, ∀ r ∈ x.rs, ∃ y ∈ K, ∃ q ∈ y.rs, q.id = r.id ∧ q.who = r.who
  trades : ∀ t ∈ s.T, TOk o mode K t
  sum : sumT s.T + s.left = o.qty
  all : mode = 0 → lvQ s.L + sumT s.T = lvQ K
  mays : mode = 0 → mayQ o s.L + sumT s.T = mayQ o K
  sort : s.T.Pairwise fun a b => a.price = b.price ∨ sAhd sd a.price b.price = true
  behind : ∀ t ∈ s.T, ∀ x ∈ s.L, t.price = x.price ∨ sAhd sd t.price x.price = true
  ends : mode = 0 → s.ends = false
  went : mode = 0 → s.W = []
  wents : ∀ i ∈ s.W, ∃ y ∈ K, ∃ q ∈ y.rs, q.id = i ∧ q.who = o.who
theorem mTr_flat (o : Order) (f : Fill) (p : Int) : (mTr o f p).maker = f.id ∧ (mTr o f p).taker = o.id ∧ (mTr o f p).price = p ∧ (mTr o f p).qty = f.qty ∧ ((o.side = 2 ∧ (mTr o f p).frm = o.who ∧ (mTr o f p).to = f.who) ∨ (o.side ≠ 2 ∧ (mTr o f p).frm = f.who ∧ (mTr o f p).to = o.who)) := by
  unfold mTr
  split
  · rename_i h; exact ⟨rfl, rfl, rfl, rfl, .inl ⟨h, rfl, rfl⟩⟩
  · rename_i h; exact ⟨rfl, rfl, rfl, rfl, .inr ⟨h, rfl, rfl⟩⟩
theorem mi_step {o : Order} {mode sd : Int} {K : List Lv} {s : MSt} (ho : o.err = 0) (h : MOk s) (hi : MI o mode sd K s) (hg : mGo o s = true) : MI o mode sd K (mStep o mode s) := by
  obtain ⟨p, r, t, L, hL, hm, hl, he, hw⟩ := mStep_way (mode := mode) h hg
  obtain ⟨L0, left, T, W, ends⟩ := s
  dsimp only at hL hl he
  subst hL he
  have hcl := (mStep_ok (mode := mode) h hg).2.2.1
  obtain ⟨i1, i0, i2, i3, i4, i5, i6, i7, i8, i9, i10, i11, i12, i13⟩ := hi
  replace hcl := Nat.le_trans hcl i0
  dsimp only at i1 i2 i3 i4 i5 i6 i7 i8 i9 i10 i11 i12 i13
  have hr : r.err = 0 := h.each _ (List.mem_cons_self ..) r (List.mem_cons_self ..)
  have ht : ∀ x ∈ t, x.err = 0 := fun y hy => h.each _ (List.mem_cons_self ..) y (List.mem_cons_of_mem _ hy)
  have hnd : ((r :: t).map Rest.id).Nodup := (ids_sub (L := ⟨p, r :: t⟩ :: L) (List.mem_cons_self ..)).nodup i1.once
  rcases hw with ⟨hw, h0, h1, e⟩ | ⟨hw, h0, h1, e⟩ | ⟨hw, e⟩
  · rw [e]
    exact ⟨i1, i0, i2, i3, i4, i5, i6, i7, i8, i9, i10, fun h => absurd h h0, i12, i13⟩
  · rw [e] at hcl ⊢
    refine ⟨i1.cut ht (List.nodup_cons.1 hnd).2 (fun i hi => by simp only [List.map_cons, List.mem_cons]; exact .inr hi) (by simp), hcl, fun i hi => ?_, fun x hx => ?_, fun x hx q hq => ?_, i5, i6, fun h => absurd h h0, fun h => absurd h h0, i9, fun u hu x hx => ?_, fun h => absurd h h0, fun h => absurd h h0, fun i hi => ?_⟩
    · rw [ids_mCut] at hi
      refine i2 i ?_
      rw [ids_cons]
      rcases List.mem_append.1 hi with hi | hi
      · exact List.mem_append_left _ (by simp only [List.map_cons, List.mem_cons]; exact .inr hi)
      · exact List.mem_append_right _ hi
    · rcases mCut_mem hx with ⟨rfl, _⟩ | hx
      · exact i3 ⟨p, r :: t⟩ (List.mem_cons_self ..)
      · exact i3 _ (List.mem_cons_of_mem _ hx)
    · rcases mCut_mem hx with ⟨rfl, _⟩ | hx
      · exact i4 _ (List.mem_cons_self ..) q (List.mem_cons_of_mem _ hq)
      · exact i4 _ (List.mem_cons_of_mem _ hx) q hq
    · rcases mCut_mem hx with ⟨rfl, _⟩ | hx
      · exact i10 u hu ⟨p, r :: t⟩ (List.mem_cons_self ..)
      · exact i10 u hu _ (List.mem_cons_of_mem _ hx)
    · rcases List.mem_append.1 hi with hi | hi
      · exact i13 i hi
      · rw [List.mem_singleton] at hi
        obtain ⟨y, hy, q, hq, e1, e2⟩ := i4 _ (List.mem_cons_self ..) r (List.mem_cons_self ..)
        exact ⟨y, hy, q, hq, by rw [e1, hi], by rw [e2, hw]⟩
  · rw [e] at hcl ⊢
    obtain ⟨k1, k2, k3, k4⟩ := qFirst_ok hr ht (n := left) (by omega)
    have kl := qFirst_len r t left
    have kid := first_ids (n := left) hnd
    have kf := first_from (r := r) (t := t) (n := left)
    obtain ⟨f1, f2⟩ := first_fill r t left
    obtain ⟨q1, q2, q3, q4, q5, q6, q7, q8, q9, q10⟩ := err0 hr
    have ka := first_all r t left (by omega)
    obtain ⟨m1, m2, m3, m4, m5⟩ := mTr_flat o (qFirst r t left).1 p
    generalize qFirst r t left = F at *
    generalize mTr o F.1 p = u at *
    have hvp := i1.price _ (List.mem_cons_self ..)
    dsimp only at hvp
    obtain ⟨y0, hy0, q0, hq0, e1, e2⟩ := i4 _ (List.mem_cons_self ..) r (List.mem_cons_self ..)
    have hw9 := inb_t q10
    have how := (Order.err_ok ho).2.1
    have hos := (Order.err_ok ho).2.2.1
    have hsum0 : 0 ≤ sumT T := (sumT_bounds (b := o.qty) (by have := (Order.err_ok ho).2.2.2.2.2.1; omega) (fun x hx => ⟨by have := (i5 x hx).q1; omega, (i5 x hx).q2⟩)).1
    refine ⟨i1.cut k1 kid (fun i hi => ?_) (by simpa using kl), hcl, fun i hi => ?_, fun x hx => ?_, fun x hx q hq => ?_, fun v hv => ?_, by dsimp only; rw [sumT_snoc, m4]; omega, fun h => ?_, fun h => ?_, ?_, fun v hv x hx => ?_, fun _ => rfl, i12, i13⟩
    · obtain ⟨z, hz, rfl⟩ := List.mem_map.1 hi
      obtain ⟨y, hy, e3, _⟩ := kf z hz
      exact List.mem_map.2 ⟨y, hy, e3⟩
    · dsimp only at hi
      rw [ids_mCut] at hi
      refine i2 i ?_
      rw [ids_cons]
      rcases List.mem_append.1 hi with hi | hi
      · obtain ⟨z, hz, rfl⟩ := List.mem_map.1 hi
        obtain ⟨y, hy, e3, _⟩ := kf z hz
        exact List.mem_append_left _ (List.mem_map.2 ⟨y, hy, e3⟩)
      · exact List.mem_append_right _ hi
    · rcases mCut_mem hx with ⟨rfl, _⟩ | hx
      · exact i3 ⟨p, r :: t⟩ (List.mem_cons_self ..)
      · exact i3 _ (List.mem_cons_of_mem _ hx)
    · rcases mCut_mem hx with ⟨rfl, _⟩ | hx
      · obtain ⟨y, hy, e3, e4⟩ := kf q hq
        obtain ⟨z, hz, b, hb, e5, e6⟩ := i4 _ (List.mem_cons_self ..) y hy
        exact ⟨z, hz, b, hb, by rw [e5, e3], by rw [e6, e4]⟩
      · exact i4 _ (List.mem_cons_of_mem _ hx) q hq
    · rcases List.mem_append.1 hv with hv | hv
      · exact i5 v hv
      · rw [List.mem_singleton] at hv
        subst hv
        refine ⟨by rw [m3]; exact hvp, by omega, by omega, m2, ?_, by rw [m3]; exact hm, fun h0 => ?_, ?_, ?_, fun h1 => ?_, fun h1 => ?_⟩
        · rw [m1, f1, ← e1]
          exact List.mem_flatMap.2 ⟨y0, hy0, List.mem_map.2 ⟨q0, hq0, rfl⟩⟩
        · have : r.who ≠ o.who := fun h => hw ⟨h, h0⟩
          omega
        · omega
        · omega
        · omega
        · omega
    · dsimp only
      rw [lvQ_mCut, sumT_snoc, m4]
      have := i7 h
      rw [lvQ_cons] at this
      dsimp only at this
      omega
    · dsimp only
      rw [mayQ_mCut, sumT_snoc, m4]
      have := i8 h
      rw [mayQ_cons] at this
      dsimp only at this ⊢
      rw [if_pos hm] at this ⊢
      omega
    · dsimp only
      rw [List.pairwise_append]
      refine ⟨i9, List.pairwise_singleton _ _, fun a ha b hb => ?_⟩
      rw [List.mem_singleton] at hb
      rw [hb, m3]
      exact i10 a ha _ (List.mem_cons_self ..)
    · rcases List.mem_append.1 hv with hv | hv
      · rcases mCut_mem hx with ⟨rfl, _⟩ | hx
        · exact i10 v hv ⟨p, r :: t⟩ (List.mem_cons_self ..)
        · exact i10 v hv _ (List.mem_cons_of_mem _ hx)
      · rw [List.mem_singleton] at hv
        rw [hv, m3]
        rcases mCut_mem hx with ⟨rfl, _⟩ | hx
        · exact .inl rfl
        · exact .inr ((List.pairwise_cons.1 i1.sorted).1 x hx)
theorem pick_side {o : Order} (hs : o.side = 1 ∨ o.side = 2) {L M : List Lv} (hb : BookOk L M) : SideOk (3 - o.side) (pick o.side L M) := by
  rcases hs with h | h
  · rw [h]; exact hb.sells
  · rw [h]; exact hb.buys
/-- what a meeting comes to -/
theorem met_out {L M : List Lv} {o : Order} {mode : Int} {e : MSt} (hb : BookOk L M) (ho : o.err = 0) (h : met L M o mode = some e) : MOk e ∧ MI o mode (3 - o.side) (pick o.side L M) e ∧ mGo o e = false := by
  have h0 := MOk.start hb ho
  obtain ⟨n, hn, hm⟩ := met_start (mode := mode) h0
  rw [h] at hm
  refine mRun_ind (MI o mode (3 - o.side) (pick o.side L M)) (fun s hs hi hg => mi_step ho hs hi hg) n _ e h0 ?_ hn hm.symm
  exact ⟨pick_side (Order.err_ok ho).2.2.1 hb, Nat.le_refl _, fun i h => h, fun x h => ⟨x, h, rfl⟩, fun x hx r hr => ⟨x, hx, r, hr, rfl, rfl⟩, (fun t h => by cases h), by simp [sumT], (fun _ => by simp [sumT]), (fun _ => by simp [sumT]), List.Pairwise.nil, (fun t h => by cases h), fun _ => rfl, fun _ => rfl, (fun i h => by cases h)⟩
end Go.Proofs.YtiaofbkhnodbhaaGreatDoor
namespace Go.Proofs.YtiaofbkhnodbhaaGreatDoor
set_option linter.all false
open Go Go.RowKit
theorem restOf_sum (o : Order) (q : Int) : (restOf o q).qty + (restOf o q).hidden = q ∧ (restOf o q).id = o.id ∧ (restOf o q).who = o.who := by
  unfold restOf
  split
  · exact ⟨by dsimp only; omega, rfl, rfl⟩
  · exact ⟨by dsimp only; omega, rfl, rfl⟩
/-- the book behind a meeting -/
theorem met_book {L M : List Lv} {o : Order} {mode : Int} {e : MSt} (hb : BookOk L M) (ho : o.err = 0) (h : met L M o mode = some e) : BookOk (kL o.side L e) (kM o.side M e) := by
  obtain ⟨_, hi, _⟩ := met_out hb ho h
  obtain ⟨b1, b2, b3, b4, b5⟩ := hb
  rw [List.nodup_append] at b5
  rcases (Order.err_ok ho).2.2.1 with h1 | h1
  · rw [h1] at hi ⊢
    refine ⟨b1, hi.side, fun x hx y hy => ?_, by have := hi.few; simp only [kL, kM, pick] at *; simp at *; omega, ?_⟩
    · obtain ⟨z, hz, e1⟩ := hi.prices y hy
      rw [← e1]
      exact b3 x hx z hz
    · exact List.nodup_append.2 ⟨b5.1, hi.side.once, fun i h1 j h2 => b5.2.2 i h1 j (hi.ids j h2)⟩
  · rw [h1] at hi ⊢
    refine ⟨hi.side, b2, fun x hx y hy => ?_, by have := hi.few; simp only [kL, kM, pick] at *; simp at *; omega, ?_⟩
    · obtain ⟨z, hz, e1⟩ := hi.prices x hx
      rw [← e1]
      exact b3 z hz y hy
    · exact List.nodup_append.2 ⟨hi.side.once, b5.2.1, fun i h1 j h2 => b5.2.2 i (hi.ids i h1) j h2⟩
theorem met_ids {L M : List Lv} {o : Order} {mode : Int} {e : MSt} (hb : BookOk L M) (ho : o.err = 0) (h : met L M o mode = some e) (h1 : o.id ∉ ids L) (h2 : o.id ∉ ids M) : o.id ∉ ids (kL o.side L e) ∧ o.id ∉ ids (kM o.side M e) := by
  obtain ⟨_, hi, _⟩ := met_out hb ho h
  rcases (Order.err_ok ho).2.2.1 with h3 | h3
  · rw [h3] at hi ⊢
    exact ⟨h1, fun hm => h2 (hi.ids _ hm)⟩
  · rw [h3] at hi ⊢
    exact ⟨fun hm => h1 (hi.ids _ hm), h2⟩
/-- what holds of an order that came -/
structure KOk (L M : List Lv) (o : Order) (mode : Int) (T : List Trade) (gone rests : Int) (L' M' : List Lv) : Prop where
  ok : BookOk L' M'
  tr : ∀ t ∈ T, TOk o mode (pick o.side L M) t
  sum : sumT T + gone + rests = o.qty
  gone0 : 0 ≤ gone
  rests0 : 0 ≤ rests
  find : (rests = 0 ∧ (whereB L' M' o.id).1 = 0) ∨ (0 < rests ∧ (whereB L' M' o.id).1 ≠ 0 ∧ ∀ s i k x q, BAt L' M' o.id s i k x q → s = o.side ∧ x.price = o.price ∧ q = restOf o rests)
  whole : o.kind = 4 → sumT T = o.qty
  post : o.kind = 5 → rests = o.qty
  limit : o.kind = 1 → mode = 0 → gone = 0
  other : o.kind ≠ 1 → o.kind ≠ 5 → rests = 0
theorem met_post {L M : List Lv} {o : Order} {mode : Int} {e : MSt} (h : met L M o mode = some e) (hm : mayTop o (pick o.side L M) = false) : e = ⟨pick o.side L M, o.qty, [], [], false⟩ := by
  have hg : mGo o ⟨pick o.side L M, o.qty, [], [], false⟩ = false := by
    unfold mGo
    cases hK : pick o.side L M with
    | nil => simp
    | cons x K =>
      rw [hK] at hm
      simp only [mayTop] at hm
      simp [hm]
  have : met L M o mode = some ⟨pick o.side L M, o.qty, [], [], false⟩ := mRun_stop hg
  rw [this] at h
  exact (Option.some.inj h).symm
theorem kok {L M L' M' : List Lv} {o : Order} {mode : Int} {s : MSt} (hr : readyE L M o = 0) (h : met L M o mode = some s) (hk9 : kOut o (pick o.side L M) s ≠ 9) (hk8 : kOut o (pick o.side L M) s ≠ 8)
    (hw : kOut o (pick o.side L M) s ≤ 1 ∧ L' = kL o.side L s ∧ M' = kM o.side M s ∨ kOut o (pick o.side L M) s = 2 ∧ putE (kL o.side L s) (kM o.side M s) o.side o.price (restOf o s.left) = 0 ∧ L' = putL o.side o.price (restOf o s.left) (kL o.side L s) ∧ M' = putM o.side o.price (restOf o s.left) (kM o.side M s)) :
    ∃ rests, KOk L M o mode s.T (if kOut o (pick o.side L M) s = 1 then s.left else 0) rests L' M' := by
  obtain ⟨hb, ho, _, n1, n2⟩ := readyE_iff.1 hr
  obtain ⟨hok, hi, _⟩ := met_out hb ho h
  have hbk := met_book hb ho h
  obtain ⟨g1, g2⟩ := met_ids hb ho h n1 n2
  have hl0 := hok.left0
  have hsum := hi.sum
  by_cases a9 : o.kind = 4 ∧ 0 < s.left
  · exact absurd (kOut_9 a9) hk9
  by_cases a8 : o.kind = 5 ∧ mayTop o (pick o.side L M) = true
  · exact absurd (kOut_8 a9 a8) hk8
  have hpost : o.kind = 5 → s.left = o.qty ∧ s.ends = false ∧ s.T = [] := fun h5 => by
    have hm : mayTop o (pick o.side L M) = false := by
      cases e : mayTop o (pick o.side L M)
      · rfl
      · exact absurd ⟨h5, e⟩ a8
    rw [met_post h hm]
    exact ⟨rfl, rfl, rfl⟩
  have hq := (Order.err_ok ho).2.2.2.2.2.1
  by_cases a0 : s.left = 0
  · have hk := kOut_0 a9 a8 a0
    rw [hk] at hw ⊢
    rcases hw with ⟨_, rfl, rfl⟩ | ⟨h2, _⟩
    · refine ⟨0, hbk, hi.trades, by simp; omega, by simp, Int.le_refl _, .inl ⟨rfl, whereB_zero.2 ⟨g1, g2⟩⟩, fun _ => by omega, fun h5 => by have := (hpost h5).1; omega, fun _ _ => by simp, fun _ _ => rfl⟩
    · exact absurd h2 (by decide)
  · by_cases a1 : s.ends = true ∨ (o.kind ≠ 1 ∧ o.kind ≠ 5)
    · have hk := kOut_1 a9 a8 a0 a1
      rw [hk] at hw ⊢
      rcases hw with ⟨_, rfl, rfl⟩ | ⟨h2, _⟩
      · refine ⟨0, hbk, hi.trades, by simp; omega, by simpa using hl0, Int.le_refl _, .inl ⟨rfl, whereB_zero.2 ⟨g1, g2⟩⟩, fun h4 => absurd ⟨h4, by omega⟩ a9, fun h5 => ?_, fun h1 h0 => ?_, fun _ _ => rfl⟩
        · rcases a1 with a1 | a1
          · have := (hpost h5).2.1
            rw [this] at a1; cases a1
          · exact absurd h5 a1.2
        · rcases a1 with a1 | a1
          · have := hi.ends h0
            rw [this] at a1; cases a1
          · exact absurd h1 a1.1
      · exact absurd h2 (by decide)
    · have hk := kOut_2 a9 a8 a0 a1
      rw [hk] at hw ⊢
      rcases hw with ⟨h2, _⟩ | ⟨_, hz, rfl, rfl⟩
      · exact absurd h2 (by decide)
      · have hp := putted hz
        have hid := (restOf_sum o s.left).2.1
        refine ⟨s.left, hp.ok, hi.trades, by simp; omega, by simp, hl0, .inr ⟨by omega, by rw [← hid]; exact hp.found, fun s' i k x q hat => ?_⟩, fun h4 => absurd ⟨h4, by omega⟩ a9, fun h5 => (hpost h5).1, fun _ _ => by simp, fun n1 n5 => absurd (.inr ⟨n1, n5⟩) a1⟩
        rw [← hid] at hat
        obtain ⟨e1, e2, e3, _⟩ := hp.at_ s' i k x q hat
        exact ⟨e1, e2, e3⟩
end Go.Proofs.YtiaofbkhnodbhaaGreatDoor
namespace Go.Proofs.YtiaofbkhnodbhaaGreatDoor
set_option linter.all false
open Go Go.RowKit
/-- what comes of a meeting: the fault, both sides, the trades, what is left -/
def MO (L M : List Lv) (o : Order) (E : Int) (K1 K2 : List Lv) (T : List Trade) (left : Int) : Prop :=
  (readyE L M o ≠ 0 ∧ E = readyE L M o ∧ K1 = [] ∧ K2 = [] ∧ T = [] ∧ left = 0) ∨
  (readyE L M o = 0 ∧ met L M o 0 = none ∧ E = 4 ∧ K1 = [] ∧ K2 = [] ∧ T = [] ∧ left = 0) ∨
  (readyE L M o = 0 ∧ ∃ s, met L M o 0 = some s ∧ MOk s ∧ E = 0 ∧ K1 = pick o.side s.L L ∧ K2 = pick o.side M s.L ∧ T = s.T ∧ left = s.left)
theorem met_ok {L M : List Lv} {o : Order} {mode : Int} {s : MSt} (hr : readyE L M o = 0) (h : met L M o mode = some s) : MOk s := by
  have hs := MOk.start (readyE_iff.1 hr).1 (readyE_iff.1 hr).2.1
  obtain ⟨n, hn, e⟩ := met_start (mode := mode) hs
  rw [e] at h
  exact (mRun_ind (fun _ => True) (fun _ _ _ _ => trivial) n _ _ hs trivial hn h).1
theorem mo_ex (L M : List Lv) (o : Order) : ∃ E K1 K2 T left, MO L M o E K1 K2 T left := by
  by_cases h : readyE L M o = 0
  · cases hm : met L M o 0 with
    | none => exact ⟨_, _, _, _, _, .inr (.inl ⟨h, hm, rfl, rfl, rfl, rfl, rfl⟩)⟩
    | some s => exact ⟨_, _, _, _, _, .inr (.inr ⟨h, s, hm, met_ok h hm, rfl, rfl, rfl, rfl, rfl⟩)⟩
  · exact ⟨_, _, _, _, _, .inl ⟨h, rfl, rfl, rfl, rfl, rfl⟩⟩
theorem MOk.short {s : MSt} (h : MOk s) : s.L.length ≤ 60 ∧ ∀ x ∈ s.L, x.rs.length ≤ 60 := by
  refine ⟨?_, fun x hx => Nat.le_trans (len_cnt hx) (by have := h.few; omega)⟩
  have := full_len h.some_; have := h.few; omega
theorem SideOk.short {d : Int} {L : List Lv} (h : SideOk d L) : L.length ≤ 60 ∧ ∀ x ∈ L, x.rs.length ≤ 60 :=
  ⟨Nat.le_trans (full_len h.full) h.few, fun x hx => Nat.le_trans (len_cnt hx) h.few⟩
theorem MO.short {L M K1 K2 : List Lv} {o : Order} {E left : Int} {T : List Trade} (h : MO L M o E K1 K2 T left) : (K1.length ≤ 60 ∧ ∀ x ∈ K1, x.rs.length ≤ 60) ∧ (K2.length ≤ 60 ∧ ∀ x ∈ K2, x.rs.length ≤ 60) ∧ T.length ≤ 400 := by
  rcases h with ⟨_, _, rfl, rfl, rfl, _⟩ | ⟨_, _, _, rfl, rfl, rfl, _⟩ | ⟨hr, s, _, hok, _, rfl, rfl, rfl, _⟩
  · simp
  · simp
  · have hb := (readyE_iff.1 hr).1
    refine ⟨?_, ?_, hok.trades⟩
    · unfold pick; split
      · exact hb.buys.short
      · exact hok.short
    · unfold pick; split
      · exact hok.short
      · exact hb.sells.short
/-- how meet.Do ends -/
def MDoT (E : Int) (K1 K2 : List Lv) (T : List Trade) (left : Int) (w : World) (e : Ending) (w' : World) : Prop :=
  ∃ A1 c1 A2 c2 AT cT, e = .returned (.tuple #[.agg #[.slice A1 K1.length c1, .slice A2 K2.length c2], .slice AT T.length cT, .int .i64 left, errV E]) ∧ Hid (RdLv w' w'.heap.size A1 K1 ∧ RdLv w' w'.heap.size A2 K2 ∧ Rd w' w'.heap.size AT T.length 6 (tcell T)) ∧ Below w.heap.size w w'
theorem rd_nil6 {w : World} {B : Nat} {A : Option Addr} : Rd w B A ([] : List Trade).length 6 (tcell []) := fun h => absurd h (by simp)
/-- how meet.Trades ends -/
def MTrT (E : Int) (T : List Trade) (w : World) (e : Ending) (w' : World) : Prop :=
  ∃ AT cT, e = .returned (.tuple #[.slice AT T.length cT, errV E]) ∧ Hid (Rd w' w'.heap.size AT T.length 6 (tcell T)) ∧ Below w.heap.size w w'
/-- how the reference's Meet ends -/
def RMeetT (lo : Nat) (E : Int) (K1 K2 : List Lv) (T : List Trade) (left : Int) (w : World) (e : Ending) (w' : World) : Prop :=
  ∃ A1 c1 A2 c2 AT cT AW nW cW ends, e = .returned (.tuple #[.agg #[.slice A1 K1.length c1, .slice A2 K2.length c2, .slice AT T.length cT, .int .i64 left, .int .i64 0, .slice AW nW cW, .bool ends], .int .i64 E]) ∧ Hid (LvA lo w.heap.size w' A1 K1 ∧ LvA lo w.heap.size w' A2 K2 ∧ OwnS w' w.heap.size 6 AT T.length cT (trows T)) ∧ Below w.heap.size w w'
theorem RP.nil0 {P : Nat → Prop} {w : World} {A : Option Addr} {s : Nat} {xs : List Value} : RP P w A 0 s xs := fun h => absurd h (by simp)
theorem LvA.nil {lo n : Nat} {w : World} : LvA lo n w none [] := ⟨[], RP.nil0, LC.nil⟩
theorem rmeet_out {L M K1 K2 : List Lv} {o : Order} {E left : Int} {T : List Trade} (h : MO L M o E K1 K2 T left) (hr : readyE L M o = 0) (A1 A2 : Option Addr) (c1 c2 : Nat) (w : World) (lo : Nat) (hlo : lo ≤ w.heap.size) (h1 : RdLv w lo A1 L) (h2 : RdLv w lo A2 M) (k1 : L.length ≤ c1 ∧ c1 ≤ maxLen) (k2 : M.length ≤ c2 ∧ c2 ≤ maxLen) :
    Calls Tryz.prog 22 #[.agg #[.slice A1 L.length c1, .slice A2 M.length c2], .agg #[.int .i64 o.id, .int .i64 o.who, .int .i64 o.side, .int .i64 o.kind, .int .i64 o.price, .int .i64 o.qty, .int .i64 o.show_, .int .i64 o.stop], .int .i64 0] w (RMeetT lo E K1 K2 T left w) := by
  refine (rmeet_any L M o 0 A1 A2 c1 c2 w lo hlo h1 h2 (readyE_iff.1 hr).1 (readyE_iff.1 hr).2.1 k1 k2).mono ?_
  rintro e w' (⟨hn, rfl, hb⟩ | ⟨s, B1, d1, B2, d2, AT, cT, AW, cW, hs, hok, rfl, o1, o2, _, _, _, _, ot, _, hb⟩)
  · rcases h with ⟨h0, _⟩ | ⟨_, _, rfl, rfl, rfl, rfl, rfl⟩ | ⟨_, s, hs, _⟩
    · exact absurd hr h0
    · exact ⟨none, 0, none, 0, none, 0, none, 0, 0, false, rfl, Lib.hid ⟨LvA.nil, LvA.nil, OwnS.nil _ _ _ _⟩, hb⟩
    · rw [hn] at hs; cases hs
  · rcases h with ⟨h0, _⟩ | ⟨_, hn, _⟩ | ⟨_, s', hs', _, rfl, rfl, rfl, rfl, rfl⟩
    · exact absurd hr h0
    · rw [hn] at hs; cases hs
    · rw [hs] at hs'; cases hs'
      exact ⟨_, _, _, _, _, _, _, _, _, _, rfl, Lib.hid ⟨o1, o2, ot⟩, hb⟩
end Go.Proofs.YtiaofbkhnodbhaaGreatDoor
namespace Go.Proofs.YtiaofbkhnodbhaaGreatDoor
set_option linter.all false
open Go Go.RowKit
set_option maxRecDepth 100000 in
set_option maxHeartbeats 1000000 in
theorem rkept_any (o : Order) (q : Int) (hq : 0 ≤ q) (hq2 : q ≤ 10000) (hs : 0 ≤ o.show_) (hs2 : o.show_ ≤ 10000) (w : World) :
    Calls Tryz.prog 13 #[.agg #[.int .i64 o.id, .int .i64 o.who, .int .i64 o.side, .int .i64 o.kind, .int .i64 o.price, .int .i64 o.qty, .int .i64 o.show_, .int .i64 o.stop], .int .i64 q] w (RestPost (restOf o q) w) := by
  rcases (show o.show_ = 0 ∨ (0 < o.show_ ∧ q ≤ o.show_) ∨ (0 < o.show_ ∧ o.show_ < q) by omega) with h | ⟨h, h2⟩ | ⟨h, h2⟩
  · have H := Lib.hid (show restOf o q = ⟨o.id, o.who, q, 0, o.show_⟩ from if_neg (by omega))
    have h' : decide (0 < o.show_) = false := decide_eq_false (by omega)
    clear h hs hs2 hq hq2
    go_enter Tryz.func13, Tryz.ntmps13
    go_wp2
    refine bodyPost_ret (v := .agg #[.int .i64 o.id, .int .i64 o.who, .int .i64 q, .int .i64 0, .int .i64 o.show_]) (by simp [results, Tryz.results13, go_sem]) rfl ⟨by rw [H.out], ?_⟩
    (repeat (first | exact Below.refl _ _ | assumption | (refine below_then (by assumption) ?_) | (refine below_then_alloc ?_) | (refine Below.drew ?_)))
  · have H := Lib.hid (show restOf o q = ⟨o.id, o.who, q, 0, o.show_⟩ by rw [restOf, if_pos h]; simp [show min q o.show_ = q by omega])
    have h' : decide (0 < o.show_) = true := decide_eq_true h
    have h3 : decide (o.show_ < q) = false := decide_eq_false (by omega)
    clear h h2 hs hs2 hq hq2
    go_enter Tryz.func13, Tryz.ntmps13
    go_wp2
    refine bodyPost_ret (v := .agg #[.int .i64 o.id, .int .i64 o.who, .int .i64 q, .int .i64 0, .int .i64 o.show_]) (by simp [results, Tryz.results13, go_sem]) rfl ⟨by rw [H.out], ?_⟩
    (repeat (first | exact Below.refl _ _ | assumption | (refine below_then (by assumption) ?_) | (refine below_then_alloc ?_) | (refine Below.drew ?_)))
  · have H := Lib.hid (show restOf o q = ⟨o.id, o.who, o.show_, q - o.show_, o.show_⟩ by rw [restOf, if_pos h]; simp [show min q o.show_ = o.show_ by omega])
    have h' : decide (0 < o.show_) = true := decide_eq_true h
    have h3 : decide (o.show_ < q) = true := decide_eq_true h2
    go_enter Tryz.func13, Tryz.ntmps13
    go_wp2
    refine bodyPost_ret (v := .agg #[.int .i64 o.id, .int .i64 o.who, .int .i64 o.show_, .int .i64 (q - o.show_), .int .i64 o.show_]) (by simp [results, Tryz.results13, go_sem]) rfl ⟨by rw [H.out], ?_⟩
    (repeat (first | exact Below.refl _ _ | assumption | (refine below_then (by assumption) ?_) | (refine below_then_alloc ?_) | (refine Below.drew ?_)))
end Go.Proofs.YtiaofbkhnodbhaaGreatDoor
namespace Go.Proofs.YtiaofbkhnodbhaaGreatDoor
set_option linter.all false
open Go Go.RowKit
theorem LvA.set7 {lo n g : Nat} {w : World} {A : Option Addr} {L : List Lv} (h : LvA lo n w A L) (h1 : lo ≤ g) (h2 : g < n) (a b c d e f i : Value) :
    LvA lo n (((((((w.setCell ⟨g, 0, none⟩ a).setCell ⟨g, 1, none⟩ b).setCell ⟨g, 2, none⟩ c).setCell ⟨g, 3, none⟩ d).setCell ⟨g, 4, none⟩ e).setCell ⟨g, 5, none⟩ f).setCell ⟨g, 6, none⟩ i) A L :=
  ((((((h.far (p := ⟨g, 0, none⟩) h1 h2 a).far (p := ⟨g, 1, none⟩) h1 h2 b).far (p := ⟨g, 2, none⟩) h1 h2 c).far (p := ⟨g, 3, none⟩) h1 h2 d).far (p := ⟨g, 4, none⟩) h1 h2 e).far (p := ⟨g, 5, none⟩) h1 h2 f).far (p := ⟨g, 6, none⟩) h1 h2 i
theorem OwnS.under7 {w : World} {base s n cap g : Nat} {A : Option Addr} {xs : List Value} (h : OwnS w base s A n cap xs) (hp : g < base) (a b c d e f i : Value) :
    OwnS (((((((w.setCell ⟨g, 0, none⟩ a).setCell ⟨g, 1, none⟩ b).setCell ⟨g, 2, none⟩ c).setCell ⟨g, 3, none⟩ d).setCell ⟨g, 4, none⟩ e).setCell ⟨g, 5, none⟩ f).setCell ⟨g, 6, none⟩ i) base s A n cap xs :=
  ((((((h.under (p := ⟨g, 0, none⟩) hp a).under (p := ⟨g, 1, none⟩) hp b).under (p := ⟨g, 2, none⟩) hp c).under (p := ⟨g, 3, none⟩) hp d).under (p := ⟨g, 4, none⟩) hp e).under (p := ⟨g, 5, none⟩) hp f).under (p := ⟨g, 6, none⟩) hp i
theorem Bk.far7 {w : World} {g g' : Nat} {t : TypeId} {cs : Array Value} (h : Bk w g t cs) (hg : g ≠ g') (a b c d e f i : Value) : Bk (((((((w.setCell ⟨g', 0, none⟩ a).setCell ⟨g', 1, none⟩ b).setCell ⟨g', 2, none⟩ c).setCell ⟨g', 3, none⟩ d).setCell ⟨g', 4, none⟩ e).setCell ⟨g', 5, none⟩ f).setCell ⟨g', 6, none⟩ i) g t cs :=
  ((((((h.far (p := ⟨g', 0, none⟩) hg a).far (p := ⟨g', 1, none⟩) hg b).far (p := ⟨g', 2, none⟩) hg c).far (p := ⟨g', 3, none⟩) hg d).far (p := ⟨g', 4, none⟩) hg e).far (p := ⟨g', 5, none⟩) hg f).far (p := ⟨g', 6, none⟩) hg i
theorem below_lo7 {lo : Nat} {w w1 : World} {g : Nat} (h : Below lo w w1) (hg : lo ≤ g) (a b c d e f i : Value) : Below lo w (((((((w1.setCell ⟨g, 0, none⟩ a).setCell ⟨g, 1, none⟩ b).setCell ⟨g, 2, none⟩ c).setCell ⟨g, 3, none⟩ d).setCell ⟨g, 4, none⟩ e).setCell ⟨g, 5, none⟩ f).setCell ⟨g, 6, none⟩ i) :=
  ((((((h.setCell (p := ⟨g, 0, none⟩) hg a).setCell (p := ⟨g, 1, none⟩) hg b).setCell (p := ⟨g, 2, none⟩) hg c).setCell (p := ⟨g, 3, none⟩) hg d).setCell (p := ⟨g, 4, none⟩) hg e).setCell (p := ⟨g, 5, none⟩) hg f).setCell (p := ⟨g, 6, none⟩) hg i
theorem LvA.lower {lo n m : Nat} {w : World} {A : Option Addr} {L : List Lv} (h : LvA lo n w A L) (hm : m ≤ n) : LvA lo m w A L := by
  obtain ⟨xs, h⟩ := h
  exact ⟨xs, h.on ⟨Nat.le_refl _, fun k hp hk => ⟨rfl, by rcases hp with hp | hp; exact .inl hp; exact .inr (Nat.le_trans hm hp)⟩⟩⟩
/-- levels that read, none of whose cells lies in a block from lo on below n, nor in block g -/
def LvX (lo n g : Nat) (w : World) (A : Option Addr) (L : List Lv) : Prop := ∃ xs, LP (fun k => (k < lo ∨ n ≤ k) ∧ k ≠ g) w A L xs
section
variable {lo n g : Nat} {w w1 : World} {A : Option Addr} {L : List Lv}
theorem LvA.x (h : LvA lo n w A L) (hg : w.heap.size ≤ g) : LvX lo n g w A L := by
  obtain ⟨xs, h⟩ := h
  exact ⟨xs, h.on ⟨Nat.le_refl _, fun k hp hk => ⟨rfl, hp, by omega⟩⟩⟩
theorem LvX.a (h : LvX lo n g w A L) : LvA lo n w A L := by
  obtain ⟨xs, h⟩ := h
  exact ⟨xs, h.on ⟨Nat.le_refl _, fun k hp hk => ⟨rfl, hp.1⟩⟩⟩
theorem LvX.below (h : LvX lo n g w A L) (hb : Below w.heap.size w w1) : LvX lo n g w1 A L := by
  obtain ⟨xs, h⟩ := h
  exact ⟨xs, h.on (Kp.below hb)⟩
theorem LvX.far {p : Addr} (h : LvX lo n g w A L) (hp : (lo ≤ p.block ∧ p.block < n) ∨ p.block = g) (u : Value) : LvX lo n g (w.setCell p u) A L := by
  obtain ⟨xs, h⟩ := h
  exact ⟨xs, h.on (Kp.grown (grown_set w p u) (fun k hk _ => ⟨fun e => by have e := Option.some.inj e; have := hk.1; have := hk.2; omega, hk⟩))⟩
theorem LvX.set7 {q : Nat} (h : LvX lo n g w A L) (hq : (lo ≤ q ∧ q < n) ∨ q = g) (a b c d e f i : Value) :
    LvX lo n g (((((((w.setCell ⟨q, 0, none⟩ a).setCell ⟨q, 1, none⟩ b).setCell ⟨q, 2, none⟩ c).setCell ⟨q, 3, none⟩ d).setCell ⟨q, 4, none⟩ e).setCell ⟨q, 5, none⟩ f).setCell ⟨q, 6, none⟩ i) A L :=
  ((((((h.far (p := ⟨q, 0, none⟩) hq a).far (p := ⟨q, 1, none⟩) hq b).far (p := ⟨q, 2, none⟩) hq c).far (p := ⟨q, 3, none⟩) hq d).far (p := ⟨q, 4, none⟩) hq e).far (p := ⟨q, 5, none⟩) hq f).far (p := ⟨q, 6, none⟩) hq i
def LvY (lo n g G : Nat) (w : World) (A : Option Addr) (L : List Lv) : Prop := ∃ xs, LP (fun k => (k < lo ∨ n ≤ k) ∧ k ≠ g ∧ k ≠ G) w A L xs
theorem LvX.y {G : Nat} (h : LvX lo n g w A L) (hG : w.heap.size ≤ G ∨ G = g) (hb : Below w.heap.size w w1) : LvY lo n g G w1 A L := by
  obtain ⟨xs, h⟩ := h
  exact ⟨xs, (h.on ⟨Nat.le_refl _, fun k hp hk => ⟨rfl, hp.1, hp.2, by have := hp.2; omega⟩⟩ : LP (fun k => (k < lo ∨ n ≤ k) ∧ k ≠ g ∧ k ≠ G) w A L xs).on (Kp.below hb)⟩
theorem LvY.x2 {G : Nat} (h : LvY lo n g G w A L) (a b : Value) : LvX lo n g ((w.setCell ⟨G, 0, none⟩ a).setCell ⟨G, 1, none⟩ b) A L := by
  obtain ⟨xs, h⟩ := h
  have f : ∀ {v : World} (p : Addr) (u : Value), p.block = G → LP (fun k => (k < lo ∨ n ≤ k) ∧ k ≠ g ∧ k ≠ G) v A L xs → LP (fun k => (k < lo ∨ n ≤ k) ∧ k ≠ g ∧ k ≠ G) (v.setCell p u) A L xs := fun p u hp hv =>
    hv.on (Kp.grown (grown_set _ p u) (fun k hk _ => ⟨fun e => by have e := Option.some.inj e; have := hk.2.2; omega, hk⟩))
  exact ⟨xs, (f ⟨G, 1, none⟩ b rfl (f ⟨G, 0, none⟩ a rfl h)).on ⟨Nat.le_refl _, fun k hp hk => ⟨rfl, hp.1, hp.2.1⟩⟩⟩
theorem LvY.al {G : Nat} (h : LvY lo n g G w A L) (o : Obj) : LvX lo n g (w.alloc o) A L := by
  obtain ⟨xs, h⟩ := h
  exact ⟨xs, (h.on (Kp.below ((Below.refl _ _).alloc (Nat.le_refl _) o))).on ⟨Nat.le_refl _, fun k hp hk => ⟨rfl, hp.1, hp.2.1⟩⟩⟩
end
end Go.Proofs.YtiaofbkhnodbhaaGreatDoor
namespace Go.Proofs.YtiaofbkhnodbhaaGreatDoor
set_option linter.all false
open Go Go.RowKit
theorem RdI.up {w : World} {B B' : Nat} {A : Option Addr} {l : List Int} (h : RdI w B A l) (hB : B ≤ B') : RdI w B' A l := fun hn => by
  obtain ⟨b, off, e, hb, hc⟩ := h hn
  exact ⟨b, off, e, by omega, hc⟩
structure TBoxK (lo gm n : Nat) (w : World) (K1 K2 : List Lv) (T : List Trade) (gone : Int) (W : List Int) (A1 : Option Addr) (c1 : Nat) (A2 : Option Addr) (c2 : Nat) (AT : Option Addr) (cT : Nat) (v3 : Value) (AW : Option Addr) (cW : Nat) (v6 : Value) : Prop where
  m : Bk w gm 31 #[.slice A1 K1.length c1, .slice A2 K2.length c2, .slice AT T.length cT, v3, .int .i64 gone, .slice AW W.length cW, v6]
  l1 : LvA lo n w A1 K1
  l2 : LvA lo n w A2 K2
  tr : Rd w w.heap.size AT T.length 6 (tcell T)
  wt : RdI w w.heap.size AW W
theorem TBoxK.below {lo gm n c1 c2 cT cW : Nat} {w w1 : World} {K1 K2 : List Lv} {T : List Trade} {gone : Int} {W : List Int} {A1 A2 AT AW : Option Addr} {v3 v6 : Value} (h : TBoxK lo gm n w K1 K2 T gone W A1 c1 A2 c2 AT cT v3 AW cW v6) (hb : Below w.heap.size w w1) : TBoxK lo gm n w1 K1 K2 T gone W A1 c1 A2 c2 AT cT v3 AW cW v6 :=
  ⟨h.m.keep hb, h.l1.below hb, h.l2.below hb, (h.tr.below hb).more hb.size, (h.wt.below hb).up hb.size⟩
end Go.Proofs.YtiaofbkhnodbhaaGreatDoor
namespace Go.Proofs.YtiaofbkhnodbhaaGreatDoor
set_option linter.all false
open Go Go.RowKit
/-- how Add ends -/
def AddR (P : Nat → Prop) (E : Int) (L' : List Lv) (w : World) (e : Ending) (w' : World) : Prop :=
  ∃ A' n' c', e = .returned (.tuple #[.slice A' n' c', .int .i64 E]) ∧ Hid (E = 0 → n' = L'.length ∧ ∃ xs', LP P w' A' L' xs' ∧ L'.length ≤ c' ∧ c' ≤ maxLen) ∧ Below w.heap.size w w'
set_option maxRecDepth 100000 in
set_option maxHeartbeats 4000000 in
theorem radd_any (P : Nat → Prop) (s p : Int) (r : Rest) (L : List Lv) (A : Option Addr) (c : Nat) (xs : List Value) (w : World) (h : LP P w A L xs) (hP : ∀ k, w.heap.size ≤ k → P k) (hok : sideE s L = 0) (hcap : L.length ≤ c) (hmx : c ≤ maxLen) :
    Calls Tryz.prog 42 #[.int .i64 s, .slice A L.length c, .int .i64 p, .agg #[.int .i64 r.id, .int .i64 r.who, .int .i64 r.qty, .int .i64 r.hidden, .int .i64 r.show_]] w (AddR P (addE s L p r) (addL s p r L) w) := by
  have hso := sideE_iff.1 hok
  have hs : vs s = true := by unfold sideE at hok; cases hv : vs s; rw [hv, if_pos rfl] at hok; omega; rfl
  have hl60 : L.length ≤ 60 := Nat.le_trans (full_len hso.full) hso.few
  have hl : L.length ≤ maxLen := by unfold maxLen; omega
  have he : ∀ x ∈ L, x.rs.length ≤ 60 := fun x hx => Nat.le_trans (len_cnt hx) hso.few
  have hba : Below w.heap.size w (w.alloc (.cells #[.int .i64 r.id, .int .i64 r.who, .int .i64 r.qty, .int .i64 r.hidden, .int .i64 r.show_] 43)) := (Below.refl _ _).alloc (Nat.le_refl _) _
  have B0 := Bk.new w 43 #[.int .i64 r.id, .int .i64 r.who, .int .i64 r.qty, .int .i64 r.hidden, .int .i64 r.show_]
  have H0 := Lib.hid (h.on (Kp.below hba))
  have HP := Lib.hid hP
  have cAt := Lib.hid (fun w' h => rat_any L A c r.id w' h hl (fun x hx => by have := he x hx; unfold maxLen; omega))
  have cCn := Lib.hid (fun w' h => rcount_any L A c w' h hl (by have := hso.few; unfold maxLen; omega))
  have cPu := Lib.hid (fun w' xs' h hP => rput_any P s p r hs L A c xs' w' h hP hcap hmx (by omega) (fun x hx => by have := he x hx; omega))
  have cRe := Lib.hid (fun w' => rrest_any r w')
  have cPr := Lib.hid (fun w' => rprice_any p w')
  have hfew := hso.few
  have HE := Lib.hid (show addE s L p r = if vp p = false then 1 else if r.err ≠ 0 then r.err else if 0 ≤ (whereL L r.id).1 then 7 else if 60 ≤ cnt L then 4 else 0 by rw [addE, if_neg (by simpa using hok)])
  clear h hP hok hso hs hl he hcap hmx
  go_enter Tryz.func42, Tryz.ntmps42
  go_upto_region 1 with fail
  generalize w.alloc (.cells #[.int .i64 r.id, .int .i64 r.who, .int .i64 r.qty, .int .i64 r.hidden, .int .i64 r.show_] 43) = w0 at *
  obtain ⟨b0, b1, b2, b3, b4⟩ := box5 B0
  cases hv : vp p
  · have HE1 := Lib.hid (show addE s L p r = 1 by rw [HE.out, if_pos hv])
    have cPr1 := Lib.hid (cPr.out w0)
    rw [hv] at cPr1
    clear hv
    go_wp2_with fail
    go_at_call 31
    refine cPr1.out.mono ?_
    rintro e w1 ⟨rfl, rfl⟩
    go_wp2
    go_ret2
    exact ⟨none, 0, 0, by rw [HE1.out]; rfl, Lib.hid (fun h => by rw [HE1.out] at h; omega), hba⟩
  have HE1 := Lib.hid (show addE s L p r = if r.err ≠ 0 then r.err else if 0 ≤ (whereL L r.id).1 then 7 else if 60 ≤ cnt L then 4 else 0 by rw [HE.out, if_neg (by rw [hv]; decide)])
  have cPr1 := Lib.hid (cPr.out w0)
  rw [hv] at cPr1
  clear hv HE cPr
  go_wp2_with fail
  go_at_call 31
  refine cPr1.out.mono ?_
  rintro e w1 ⟨rfl, rfl⟩
  go_wp2_with fail
  go_at_call 66
  refine (cRe.out _).mono ?_
  rintro e w2 ⟨rfl, hw2⟩
  have hb2 : Below w0.heap.size w0 w2 := by rw [hw2]; exact (Below.refl _ _).alloc (Nat.le_refl _) _
  clear hw2 cRe cPr1
  have H2 := Lib.hid (H0.out.on (Kp.below hb2))
  replace B0 := B0.keep hb2; replace hba := below_then hb2 hba
  clear b0 b1 b2 b3 b4 hb2 H0
  obtain ⟨b0, b1, b2, b3, b4⟩ := box5 B0
  by_cases he : r.err = 0
  case neg =>
    have HE2 := Lib.hid (show addE s L p r = r.err by rw [HE1.out, if_pos he])
    have HN := Lib.hid he
    have e1 : (r.err != 0) = true := by simpa using he
    clear he
    generalize r.err = re at *
    go_wp2
    go_ret2
    exact ⟨none, 0, 0, by rw [HE2.out]; rfl, Lib.hid (fun h => by rw [HE2.out] at h; exact absurd h HN.out), hba⟩
  have HE2 := Lib.hid (show addE s L p r = if 0 ≤ (whereL L r.id).1 then 7 else if 60 ≤ cnt L then 4 else 0 by rw [HE1.out, if_neg (by simpa using he)])
  have e1 : (r.err != 0) = false := by simpa using he
  rw [he] at e1 ⊢
  clear he HE1 e1
  go_wp2_with fail
  go_at_call 40
  refine (cAt.out _ H2.out.lv).mono ?_
  rintro e w3 ⟨rfl, rfl⟩
  clear cAt
  generalize hwh : whereL L r.id = wh at *
  by_cases hw : 0 ≤ wh.1
  · have HE3 := Lib.hid (show addE s L p r = 7 by rw [HE2.out, if_pos hw])
    go_wp2
    go_ret2
    exact ⟨none, 0, 0, by rw [HE3.out]; rfl, Lib.hid (fun h => by rw [HE3.out] at h; omega), hba⟩
  have HE3 := Lib.hid (show addE s L p r = if 60 ≤ cnt L then 4 else 0 by rw [HE2.out, if_neg hw])
  clear HE2 hwh
  go_wp2_with fail
  go_at_call 59
  refine (cCn.out _ H2.out.lv).mono ?_
  rintro e w3 ⟨rfl, rfl⟩
  clear cCn
  by_cases hc : 60 ≤ cnt L
  · have HE4 := Lib.hid (show addE s L p r = 4 by rw [HE3.out, if_pos hc])
    have hc' : (60 : Int) ≤ ((cnt L : Nat) : Int) := by omega
    clear hc
    go_wp2
    go_ret2
    exact ⟨none, 0, 0, by rw [HE4.out]; rfl, Lib.hid (fun h => by rw [HE4.out] at h; omega), hba⟩
  have HE4 := Lib.hid (show addE s L p r = 0 by rw [HE3.out, if_neg hc])
  have hc' : ¬ (60 : Int) ≤ ((cnt L : Nat) : Int) := by omega
  have cPu2 := Lib.hid (cPu.out w2 xs H2.out (fun k hk => HP.out k (Nat.le_trans hba.size hk)))
  clear hc HE3 cPu
  go_wp2_with fail
  go_at_call 67
  refine cPu2.out.mono ?_
  rintro e w4 ⟨A4, c4, xs4, rfl, hlp, k1, k2, hb4⟩
  have HL4 := Lib.hid hlp
  have HK := Lib.hid (show (addL s p r L).length ≤ c4 ∧ c4 ≤ maxLen from ⟨k1, k2⟩)
  have HB := Lib.hid (below_then hb4 hba)
  clear hlp k1 k2 hb4 hba B0 b0 b1 b2 b3 b4
  go_wp2
  go_ret2
  exact ⟨A4, _, c4, by rw [HE4.out]; rfl, Lib.hid (fun _ => ⟨rfl, xs4, HL4.out, HK.out⟩), HB.out⟩
end Go.Proofs.YtiaofbkhnodbhaaGreatDoor
namespace Go.Proofs.YtiaofbkhnodbhaaGreatDoor
set_option linter.all false
open Go Go.RowKit
/-- what is wrong with a rest more in a book that is right -/
def joinE (L M : List Lv) (s p : Int) (r : Rest) : Int := if addE s (sidL s L M) p r ≠ 0 then addE s (sidL s L M) p r else wholeE (putL s p r L) (putM s p r M)
theorem putE_join {L M : List Lv} {s p : Int} {r : Rest} (h : bookE L M = 0) (hs : vs s = true) : putE L M s p r = joinE L M s p r := by
  rw [putE, if_neg (by simpa using h), if_neg (by rw [hs]; decide), joinE]
theorem rofs_any (s : Int) (hs : vs s = true) (A1 A2 : Option Addr) (n1 n2 c1 c2 : Nat) (w : World) :
    Calls Tryz.prog 23 #[.agg #[.slice A1 n1 c1, .slice A2 n2 c2], .int .i64 s] w fun e w' => e = .returned (.slice (sid s A1 A2) (sid s n1 n2) (sid s c1 c2)) ∧ Below w.heap.size w w' := by
  rcases side_two hs with rfl | rfl
  · have := rof_any .nilIface .nilIface 1 A1 A2 n1 n2 c1 c2 w
    rw [if_pos rfl] at this
    exact this
  · have := rof_any .nilIface .nilIface 2 A1 A2 n1 n2 c1 c2 w
    rw [if_neg (by decide)] at this
    exact this
theorem rwiths_any (s : Int) (hs : vs s = true) (A1 A2 A3 : Option Addr) (n1 n2 n3 c1 c2 c3 : Nat) (w : World) :
    Calls Tryz.prog 37 #[.agg #[.slice A1 n1 c1, .slice A2 n2 c2], .int .i64 s, .slice A3 n3 c3] w fun e w' => e = .returned (.agg #[.slice (sid s A3 A1) (sid s n3 n1) (sid s c3 c1), .slice (sid s A2 A3) (sid s n2 n3) (sid s c2 c3)]) ∧ Below w.heap.size w w' := by
  rcases side_two hs with rfl | rfl
  · exact rwith_buy A1 A2 A3 n1 n2 n3 c1 c2 c3 w
  · exact rwith_sell A1 A2 A3 n1 n2 n3 c1 c2 c3 w
theorem sid_len {s : Int} {L M : List Lv} : (sidL s L M).length = sid s L.length M.length := by unfold sidL sid; split <;> rfl
/-- how Join ends -/
def JoinR (P : Nat → Prop) (E : Int) (L' M' : List Lv) (w : World) (e : Ending) (w' : World) : Prop :=
  ∃ A1 n1 c1 A2 n2 c2, e = .returned (.tuple #[.agg #[.slice A1 n1 c1, .slice A2 n2 c2], .int .i64 E]) ∧ Hid (E = 0 → n1 = L'.length ∧ n2 = M'.length ∧ (∃ xs, LP P w' A1 L' xs) ∧ (∃ ys, LP P w' A2 M' ys)) ∧ Below w.heap.size w w'
theorem cnt_put {s p : Int} {r : Rest} {L M : List Lv} (hs : vs s = true) : cnt (putL s p r L) ≤ cnt L + 1 ∧ cnt (putM s p r M) ≤ cnt M + 1 := by
  rcases side_two hs with rfl | rfl
  · exact ⟨by rw [putL, if_pos rfl, cnt_addL]; omega, by rw [putM, if_pos rfl]; omega⟩
  · exact ⟨by rw [putL, if_neg (by decide)]; omega, by rw [putM, if_neg (by decide), cnt_addL]; omega⟩
theorem len_addL (s p : Int) (r : Rest) : ∀ L : List Lv, (addL s p r L).length ≤ L.length + 1
  | [] => by simp [addL]
  | x :: L => by
    have := len_addL s p r L
    unfold addL
    split
    · simp only [List.length_cons]; omega
    · split <;> simp
/-- block g left out -/
def NP (P : Nat → Prop) (g k : Nat) : Prop := P k ∧ k ≠ g
theorem LP.imp {P P' : Nat → Prop} {w : World} {A : Option Addr} {L : List Lv} {xs : List Value} (h : LP P w A L xs) (hi : ∀ k, P k → k < w.heap.size → P' k) : LP P' w A L xs := h.on ⟨Nat.le_refl _, fun k hp hk => ⟨rfl, hi k hp hk⟩⟩
theorem LP.far {P : Nat → Prop} {w : World} {A : Option Addr} {L : List Lv} {xs : List Value} {p : Addr} (h : LP P w A L xs) (hp : ¬ P p.block) (u : Value) : LP P (w.setCell p u) A L xs :=
  h.on (Kp.grown (grown_set w p u) (fun k hk _ => ⟨fun e => by have e := Option.some.inj e; rw [e] at hk; exact hp hk, hk⟩))
set_option maxRecDepth 100000 in
set_option maxHeartbeats 4000000 in
theorem rjoin_any (P : Nat → Prop) (s p : Int) (r : Rest) (hs : vs s = true) (L M : List Lv) (A1 A2 : Option Addr) (c1 c2 : Nat) (w : World) (hP : ∀ k, w.heap.size ≤ k → P k) (h1 : ∃ xs, LP P w A1 L xs) (h2 : ∃ xs, LP P w A2 M xs) (hok : bookE L M = 0) (k1 : L.length ≤ c1 ∧ c1 ≤ maxLen) (k2 : M.length ≤ c2 ∧ c2 ≤ maxLen) :
    Calls Tryz.prog 25 #[.agg #[.slice A1 L.length c1, .slice A2 M.length c2], .int .i64 s, .int .i64 p, .agg #[.int .i64 r.id, .int .i64 r.who, .int .i64 r.qty, .int .i64 r.hidden, .int .i64 r.show_]] w (JoinR P (joinE L M s p r) (putL s p r L) (putM s p r M) w) := by
  have hbk := bookE_iff.1 hok
  have hsok : sideE s (sidL s L M) = 0 := by
    rcases side_two hs with rfl | rfl
    · exact sideE_iff.2 hbk.buys
    · exact sideE_iff.2 hbk.sells
  have hb : Below w.heap.size w (((w.alloc (.cells #[.slice A1 L.length c1, .slice A2 M.length c2] 24)).alloc (.cells #[.int .i64 r.id, .int .i64 r.who, .int .i64 r.qty, .int .i64 r.hidden, .int .i64 r.show_] 43)).alloc (.cells #[.slice none 0 0, .slice none 0 0] 24)) := below_then_alloc (below_then_alloc ((Below.refl _ _).alloc (Nat.le_refl _) _))
  have bb := ((Bk.new w 24 #[.slice A1 L.length c1, .slice A2 M.length c2]).alloc (.cells #[.int .i64 r.id, .int .i64 r.who, .int .i64 r.qty, .int .i64 r.hidden, .int .i64 r.show_] 43)).alloc (.cells #[.slice none 0 0, .slice none 0 0] 24)
  have br := (Bk.at_ (w := w.alloc (.cells #[.slice A1 L.length c1, .slice A2 M.length c2] 24)) (g' := w.heap.size + 1) (by simp) 43 #[.int .i64 r.id, .int .i64 r.who, .int .i64 r.qty, .int .i64 r.hidden, .int .i64 r.show_]).alloc (.cells #[.slice none 0 0, .slice none 0 0] 24)
  have bz := Bk.at_ (w := (w.alloc (.cells #[.slice A1 L.length c1, .slice A2 M.length c2] 24)).alloc (.cells #[.int .i64 r.id, .int .i64 r.who, .int .i64 r.qty, .int .i64 r.hidden, .int .i64 r.show_] 43)) (g' := w.heap.size + 2) (by simp) 24 #[.slice none 0 0, .slice none 0 0]
  obtain ⟨x1, hx1⟩ := h1; obtain ⟨x2, hx2⟩ := h2
  replace hx1 := hx1.imp (P' := NP P (w.heap.size + 2)) (fun k hk hlt => ⟨hk, by omega⟩)
  replace hx2 := hx2.imp (P' := NP P (w.heap.size + 2)) (fun k hk hlt => ⟨hk, by omega⟩)
  have HS1 := Lib.hid (fun w' (hb : Below w.heap.size w w') => show ∃ xs, LP (NP P (w.heap.size + 2)) w' (sid s A1 A2) (sidL s L M) xs by
    rcases side_two hs with rfl | rfl
    · exact ⟨x1, hx1.on (Kp.below hb)⟩
    · exact ⟨x2, hx2.on (Kp.below hb)⟩)
  have hcS : (sidL s L M).length ≤ sid s c1 c2 ∧ sid s c1 c2 ≤ maxLen := by
    rcases side_two hs with rfl | rfl
    · exact k1
    · exact k2
  have cOf := Lib.hid (fun w => rofs_any s hs A1 A2 L.length M.length c1 c2 w)
  rw [sid_len.symm] at cOf
  have cAd := Lib.hid (fun w' (hb : Below w.heap.size w w') (hbz : w.heap.size + 2 < w'.heap.size) => show Calls _ _ _ w' (AddR (NP P (w.heap.size + 2)) (addE s (sidL s L M) p r) (addL s p r (sidL s L M)) w') from by
    obtain ⟨xs, hx⟩ := HS1.out w' hb
    exact radd_any (NP P (w.heap.size + 2)) s p r (sidL s L M) (sid s A1 A2) (sid s c1 c2) xs w' hx (fun k hk => ⟨hP k (by have := hb.size; omega), by omega⟩) hsok hcS.1 hcS.2)
  have cWi := Lib.hid (fun A3 n3 c3 w => rwiths_any s hs A1 A2 A3 L.length M.length n3 c1 c2 c3 w)
  have HJ0 := Lib.hid (show addE s (sidL s L M) p r ≠ 0 → joinE L M s p r = addE s (sidL s L M) p r from fun h => by rw [joinE, if_pos h])
  have HJ1 := Lib.hid (show addE s (sidL s L M) p r = 0 → joinE L M s p r = wholeE (putL s p r L) (putM s p r M) from fun h => by rw [joinE, if_neg (by simpa using h)])
  have hl1 : L.length ≤ 60 := Nat.le_trans (full_len hbk.buys.full) hbk.buys.few
  have hl2 : M.length ≤ 60 := Nat.le_trans (full_len hbk.sells.full) hbk.sells.few
  have hn1 := hbk.buys.few; have hn2 := hbk.sells.few
  have cWh := Lib.hid (fun B1 B2 d1 d2 w' a b => rwhole_any (putL s p r L) (putM s p r M) B1 B2 d1 d2 w' a b (by have := len_addL s p r L; unfold putL; split <;> omega) (by have := len_addL s p r M; unfold putM; split <;> omega) (by have := (cnt_put (p := p) (r := r) (L := L) (M := M) hs).1; omega) (by have := (cnt_put (p := p) (r := r) (L := L) (M := M) hs).2; omega))
  have HSD := Lib.hid (show ∀ (w' : World) (A' : Option Addr) (n' : Nat), n' = (addL s p r (sidL s L M)).length → (∃ xs, LP (NP P (w.heap.size + 2)) w' A' (addL s p r (sidL s L M)) xs) → Below w.heap.size w w' →
      sid s n' L.length = (putL s p r L).length ∧ sid s M.length n' = (putM s p r M).length ∧ (∃ xs, LP (NP P (w.heap.size + 2)) w' (sid s A' A1) (putL s p r L) xs) ∧ (∃ xs, LP (NP P (w.heap.size + 2)) w' (sid s A2 A') (putM s p r M) xs) by
    intro w' A' n' e hx hb
    rcases side_two hs with rfl | rfl
    · exact ⟨e, rfl, hx, x2, hx2.on (Kp.below hb)⟩
    · exact ⟨rfl, e, ⟨x1, hx1.on (Kp.below hb)⟩, hx⟩)
  clear hP hok hbk hsok k1 k2 hx1 hx2 hcS HS1 hl1 hl2 hn1 hn2 hs
  generalize addE s (sidL s L M) p r = E1 at *
  generalize sidL s L M = KS at *
  generalize sid s A1 A2 = AS at *
  generalize sid s c1 c2 = cS at *
  go_enter Tryz.func25, Tryz.ntmps25
  go_upto_region 1 with fail
  generalize ((w.alloc (.cells #[.slice A1 L.length c1, .slice A2 M.length c2] 24)).alloc (.cells #[.int .i64 r.id, .int .i64 r.who, .int .i64 r.qty, .int .i64 r.hidden, .int .i64 r.show_] 43)).alloc (.cells #[.slice none 0 0, .slice none 0 0] 24) = w0 at *
  obtain ⟨q0, q1⟩ := box2 bb
  obtain ⟨b0, b1, b2, b3, b4⟩ := box5 br
  have bbd := bb.drew; have brd := br.drew; have bzd := bz.drew; have hbd := hb.drew
  --<r1
  go_region_held3 (fun w' => w'.cell? ⟨w.heap.size, 0, none⟩ = some (.slice A1 L.length c1) ∧ w'.cell? ⟨w.heap.size, 1, none⟩ = some (.slice A2 M.length c2) ∧ w'.cell? ⟨w.heap.size + 1, 0, none⟩ = some (.int .i64 r.id) ∧ w'.cell? ⟨w.heap.size + 1, 1, none⟩ = some (.int .i64 r.who) ∧ w'.cell? ⟨w.heap.size + 1, 2, none⟩ = some (.int .i64 r.qty) ∧ w'.cell? ⟨w.heap.size + 1, 3, none⟩ = some (.int .i64 r.hidden) ∧ w'.cell? ⟨w.heap.size + 1, 4, none⟩ = some (.int .i64 r.show_))
    ((repeat' apply And.intro) <;> (first | (with_reducible assumption) | (with_reducible exact cell_drew (by assumption))))
    (first
      | (go_at_call 23; (with_reducible refine (cOf.out _).mono ?_); rintro e wo ⟨rfl, hbo⟩; have bbo := bbd.keep hbo; obtain ⟨q0, q1⟩ := box2 bbo; have bro := brd.keep hbo; obtain ⟨b0, b1, b2, b3, b4⟩ := box5 bro)
      | (go_at_call 42; (with_reducible refine (cAd.out _ (below_then hbo hbd) (bzd.keep hbo).lt).mono ?_); rintro e wp ⟨A', n', c', rfl, hadd, hbp⟩; have bbp := bbo.keep hbp; obtain ⟨q0, q1⟩ := box2 bbp; have brp := bro.keep hbp; obtain ⟨b0, b1, b2, b3, b4⟩ := box5 brp))
  -->r1
  replace hb := below_then hbp (below_then hbo hbd)
  have bb1 := bbp; have bz1 := (bzd.keep hbo).keep hbp
  clear hbo hbp hbd bbd brd bzd bbo bro brp bbp br bz bb cOf cAd
  obtain ⟨z0, z1⟩ := box2 bz1
  have y0 := bz1.free 0; have y1 := bz1.free 1
  by_cases h0 : E1 = 0
  case neg =>
    --<bad
    have HE := Lib.hid (HJ0.out h0)
    have HN := Lib.hid h0
    have e1 : (E1 != 0) = true := by simpa using h0
    have kx := box2 (bz1.set2 (.slice none 0 0) (.slice none 0 0))
    have HF := Lib.hid ((hb.setCell (p := ⟨w.heap.size + 2, 0, none⟩) (by show w.heap.size ≤ w.heap.size + 2; omega) (.slice none 0 0)).setCell (p := ⟨w.heap.size + 2, 1, none⟩) (by show w.heap.size ≤ w.heap.size + 2; omega) (.slice none 0 0))
    clear h0 hb hadd
    go_wp2
    exact bodyPost_ret (v := .tuple #[.agg #[.slice none 0 0, .slice none 0 0], .int .i64 E1]) (by simp [results, Tryz.results25, go_sem, kx]) rfl ⟨_, _, _, _, _, _, by rw [HE.out], Lib.hid (fun h => by rw [HE.out] at h; exact absurd h HN.out), HF.out⟩
    -->bad
  have HE := Lib.hid (HJ1.out h0)
  obtain ⟨hn', xs', hx', hk'⟩ := hadd.out h0
  have e1 : (E1 != 0) = false := by simpa using h0
  have HN' := Lib.hid hn'; have HX' := Lib.hid (show ∃ xs, LP (NP P (w.heap.size + 2)) _ A' (addL s p r KS) xs from ⟨xs', hx'⟩)
  rw [h0] at e1 ⊢
  clear h0 e1 hadd hn' hx' hk' HJ0 HJ1
  --<tail
  have cWi1 := Lib.hid (cWi.out A' n' c')
  go_wp2_with fail
  go_at_call 37
  refine (cWi1.out _).mono ?_
  rintro e w2 ⟨rfl, hb2⟩
  have hbb := below_then hb2 hb
  obtain ⟨e1, e2, hp1, hp2⟩ := HSD.out w2 A' n' HN'.out (by obtain ⟨xs, h⟩ := HX'.out; exact ⟨xs, h.on (Kp.below hb2)⟩) hbb
  rw [e1, e2]
  replace bz1 := bz1.keep hb2
  have HP1 := Lib.hid hp1; have HP2 := Lib.hid hp2
  clear e1 e2 hp1 hp2 hb2 hb bb1 q0 q1 b0 b1 b2 b3 b4 z0 z1 y0 y1 cWi1 cWi HSD HX' HN' 
  generalize sid s A' A1 = B1 at *
  generalize sid s c' c1 = d1 at *
  generalize sid s A2 A' = B2 at *
  generalize sid s c2 c' = d2 at *
  generalize hPL : putL s p r L = L' at *
  generalize hPM : putM s p r M = M' at *
  have HPL := Lib.hid hPL; have HPM := Lib.hid hPM
  clear hPL hPM
  have bo := Bk.new w2 24 #[.slice B1 L'.length d1, .slice B2 M'.length d2]
  have hba : Below w2.heap.size w2 (w2.alloc (.cells #[.slice B1 L'.length d1, .slice B2 M'.length d2] 24)) := (Below.refl _ _).alloc (Nat.le_refl _) _
  have hlt : w.heap.size + 2 < w2.heap.size := bz1.lt
  replace bz1 := bz1.keep hba; replace hbb := below_then hba hbb
  have HQ1 := Lib.hid (show ∃ xs, LP (NP P (w.heap.size + 2)) _ B1 L' xs by obtain ⟨xs, h⟩ := HP1.out; exact ⟨xs, h.on (Kp.below hba)⟩)
  have HQ2 := Lib.hid (show ∃ xs, LP (NP P (w.heap.size + 2)) _ B2 M' xs by obtain ⟨xs, h⟩ := HP2.out; exact ⟨xs, h.on (Kp.below hba)⟩)
  clear hba HP1 HP2
  go_upto_region 5 with fail
  generalize w2.alloc (.cells #[.slice B1 L'.length d1, .slice B2 M'.length d2] 24) = w3 at *
  obtain ⟨o0, o1⟩ := box2 bo
  have cWh1 := Lib.hid (cWh.out B1 B2 d1 d2 w3 (by obtain ⟨xs, h⟩ := HQ1.out; exact h.lv) (by obtain ⟨xs, h⟩ := HQ2.out; exact h.lv))
  clear cWh
  go_wp2_with fail
  go_at_call 36
  refine cWh1.out.mono ?_
  rintro e w4 ⟨rfl, hb4⟩
  replace bz1 := bz1.keep hb4; replace bo := bo.keep hb4; replace hbb := below_then hb4 hbb
  have HR1 := Lib.hid (show ∃ xs, LP (NP P (w.heap.size + 2)) w4 B1 L' xs by obtain ⟨xs, h⟩ := HQ1.out; exact ⟨xs, h.on (Kp.below hb4)⟩)
  have HR2 := Lib.hid (show ∃ xs, LP (NP P (w.heap.size + 2)) w4 B2 M' xs by obtain ⟨xs, h⟩ := HQ2.out; exact ⟨xs, h.on (Kp.below hb4)⟩)
  clear hb4 HQ1 HQ2 cWh1 o0 o1
  generalize wholeE L' M' = E2 at *
  obtain ⟨o0, o1⟩ := box2 bo
  obtain ⟨z0, z1⟩ := box2 bz1
  have y0 := bz1.free 0; have y1 := bz1.free 1
  by_cases h0 : E2 = 0
  case neg =>
    have HN := Lib.hid h0
    have e1 : (E2 != 0) = true := by simpa using h0
    have kx := box2 (bz1.set2 (.slice none 0 0) (.slice none 0 0))
    have HF := Lib.hid ((hbb.setCell (p := ⟨w.heap.size + 2, 0, none⟩) (by show w.heap.size ≤ w.heap.size + 2; omega) (.slice none 0 0)).setCell (p := ⟨w.heap.size + 2, 1, none⟩) (by show w.heap.size ≤ w.heap.size + 2; omega) (.slice none 0 0))
    clear h0 hbb bo bz1
    go_wp2
    exact bodyPost_ret (v := .tuple #[.agg #[.slice none 0 0, .slice none 0 0], .int .i64 E2]) (by simp [results, Tryz.results25, go_sem, kx]) rfl ⟨_, _, _, _, _, _, by rw [HE.out], Lib.hid (fun h => by rw [HE.out] at h; exact absurd h HN.out), HF.out⟩
  have HE2 := Lib.hid (show joinE L M s p r = 0 by rw [HE.out, h0])
  have e1 : (E2 != 0) = false := by simpa using h0
  have kx := box2 (bz1.set2 (.slice B1 L'.length d1) (.slice B2 M'.length d2))
  have HF := Lib.hid ((hbb.setCell (p := ⟨w.heap.size + 2, 0, none⟩) (by show w.heap.size ≤ w.heap.size + 2; omega) (.slice B1 L'.length d1)).setCell (p := ⟨w.heap.size + 2, 1, none⟩) (by show w.heap.size ≤ w.heap.size + 2; omega) (.slice B2 M'.length d2))
  have HW1 := Lib.hid (show ∃ xs, LP P _ B1 L' xs by obtain ⟨xs, h⟩ := HR1.out; exact ⟨xs, ((h.far (p := ⟨w.heap.size + 2, 0, none⟩) (fun hh => hh.2 rfl) (.slice B1 L'.length d1)).far (p := ⟨w.heap.size + 2, 1, none⟩) (fun hh => hh.2 rfl) (.slice B2 M'.length d2)).imp (fun k hk _ => hk.1)⟩)
  have HW2 := Lib.hid (show ∃ xs, LP P _ B2 M' xs by obtain ⟨xs, h⟩ := HR2.out; exact ⟨xs, ((h.far (p := ⟨w.heap.size + 2, 0, none⟩) (fun hh => hh.2 rfl) (.slice B1 L'.length d1)).far (p := ⟨w.heap.size + 2, 1, none⟩) (fun hh => hh.2 rfl) (.slice B2 M'.length d2)).imp (fun k hk _ => hk.1)⟩)
  rw [h0] at e1 ⊢
  clear h0 e1 hbb bo bz1 HR1 HR2 HE
  go_wp2
  exact bodyPost_ret (v := .tuple #[.agg #[.slice B1 L'.length d1, .slice B2 M'.length d2], .int .i64 0]) (by simp [results, Tryz.results25, go_sem, kx]) rfl ⟨B1, L'.length, d1, B2, M'.length, d2, by rw [HE2.out], Lib.hid (fun _ => by first | exact ⟨rfl, rfl, HW1.out, HW2.out⟩ | exact ⟨by rw [HPL.out], by rw [HPM.out], by rw [HPL.out]; exact HW1.out, by rw [HPM.out]; exact HW2.out⟩), HF.out⟩
  -->tail
end Go.Proofs.YtiaofbkhnodbhaaGreatDoor
namespace Go.Proofs.YtiaofbkhnodbhaaGreatDoor
set_option linter.all false
open Go Go.RowKit
/-- what comes of an order: the fault, both sides, the trades, what is gone, who went -/
def KO (L M : List Lv) (o : Order) (mode : Int) (E : Int) (K1 K2 : List Lv) (T : List Trade) (gone : Int) (W : List Int) : Prop :=
  (readyE L M o ≠ 0 ∧ E = readyE L M o ∧ K1 = [] ∧ K2 = [] ∧ T = [] ∧ gone = 0 ∧ W = []) ∨
  (readyE L M o = 0 ∧ met L M o mode = none ∧ E = 4 ∧ K1 = [] ∧ K2 = [] ∧ T = [] ∧ gone = 0 ∧ W = []) ∨
  (readyE L M o = 0 ∧ ∃ s, met L M o mode = some s ∧ MOk s ∧
    (((kOut o (pick o.side L M) s = 9 ∨ kOut o (pick o.side L M) s = 8) ∧ E = kOut o (pick o.side L M) s ∧ K1 = [] ∧ K2 = [] ∧ T = [] ∧ gone = 0 ∧ W = []) ∨
     (kOut o (pick o.side L M) s = 2 ∧ putE (kL o.side L s) (kM o.side M s) o.side o.price (restOf o s.left) ≠ 0 ∧ E = putE (kL o.side L s) (kM o.side M s) o.side o.price (restOf o s.left) ∧ K1 = [] ∧ K2 = [] ∧ T = [] ∧ gone = 0 ∧ W = []) ∨
     (E = 0 ∧ T = s.T ∧ W = s.W ∧ gone = (if kOut o (pick o.side L M) s = 1 then s.left else 0) ∧
       (kOut o (pick o.side L M) s ≤ 1 ∧ K1 = kL o.side L s ∧ K2 = kM o.side M s ∨ kOut o (pick o.side L M) s = 2 ∧ putE (kL o.side L s) (kM o.side M s) o.side o.price (restOf o s.left) = 0 ∧ K1 = putL o.side o.price (restOf o s.left) (kL o.side L s) ∧ K2 = putM o.side o.price (restOf o s.left) (kM o.side M s)))))
theorem kout_cases (o : Order) (K : List Lv) (s : MSt) : kOut o K s = 9 ∨ kOut o K s = 8 ∨ kOut o K s ≤ 1 ∨ kOut o K s = 2 := by
  unfold kOut; split
  · simp
  · split
    · simp
    · split
      · simp
      · split <;> simp
theorem ko_ex (L M : List Lv) (o : Order) (mode : Int) : ∃ E K1 K2 T gone W, KO L M o mode E K1 K2 T gone W := by
  by_cases h : readyE L M o = 0
  · cases hm : met L M o mode with
    | none => exact ⟨_, _, _, _, _, _, .inr (.inl ⟨h, hm, rfl, rfl, rfl, rfl, rfl, rfl⟩)⟩
    | some s =>
      rcases kout_cases o (pick o.side L M) s with hk | hk | hk | hk
      · exact ⟨_, _, _, _, _, _, .inr (.inr ⟨h, s, hm, met_ok h hm, .inl ⟨.inl hk, rfl, rfl, rfl, rfl, rfl, rfl⟩⟩)⟩
      · exact ⟨_, _, _, _, _, _, .inr (.inr ⟨h, s, hm, met_ok h hm, .inl ⟨.inr hk, rfl, rfl, rfl, rfl, rfl, rfl⟩⟩)⟩
      · exact ⟨_, _, _, _, _, _, .inr (.inr ⟨h, s, hm, met_ok h hm, .inr (.inr ⟨rfl, rfl, rfl, rfl, .inl ⟨hk, rfl, rfl⟩⟩)⟩)⟩
      · by_cases hp : putE (kL o.side L s) (kM o.side M s) o.side o.price (restOf o s.left) = 0
        · exact ⟨_, _, _, _, _, _, .inr (.inr ⟨h, s, hm, met_ok h hm, .inr (.inr ⟨rfl, rfl, rfl, rfl, .inr ⟨hk, hp, rfl, rfl⟩⟩)⟩)⟩
        · exact ⟨_, _, _, _, _, _, .inr (.inr ⟨h, s, hm, met_ok h hm, .inr (.inl ⟨hk, hp, rfl, rfl, rfl, rfl, rfl, rfl⟩)⟩)⟩
  · exact ⟨_, _, _, _, _, _, .inl ⟨h, rfl, rfl, rfl, rfl, rfl, rfl⟩⟩
/-- how Come ends -/
def RComeT (lo : Nat) (E : Int) (K1 K2 : List Lv) (T : List Trade) (gone : Int) (W : List Int) (w : World) (e : Ending) (w' : World) : Prop :=
  ∃ A1 c1 A2 c2 AT cT left AW cW ends, e = .returned (.tuple #[.agg #[.slice A1 K1.length c1, .slice A2 K2.length c2, .slice AT T.length cT, .int .i64 left, .int .i64 gone, .slice AW W.length cW, .bool ends], .int .i64 E]) ∧
    Hid (LvA lo w.heap.size w' A1 K1 ∧ LvA lo w.heap.size w' A2 K2 ∧ OwnS w' w.heap.size 6 AT T.length cT (trows T) ∧ OwnS w' w.heap.size 1 AW W.length cW (irows W)) ∧ Below w.heap.size w w'
theorem KO.bad {e0 : Int} {L M : List Lv} {o : Order} {mode E : Int} {K1 K2 : List Lv} {T : List Trade} {gone : Int} {W : List Int} (h : KO L M o mode E K1 K2 T gone W) (hr : readyE L M o = 0) {lo : Nat} {w w' : World} (hb : Below w.heap.size w w')
    (hE : met L M o mode = none ∧ e0 = 4 ∨ ∃ s, met L M o mode = some s ∧ ((kOut o (pick o.side L M) s = 9 ∨ kOut o (pick o.side L M) s = 8) ∧ e0 = kOut o (pick o.side L M) s ∨ kOut o (pick o.side L M) s = 2 ∧ e0 ≠ 0 ∧ e0 = putE (kL o.side L s) (kM o.side M s) o.side o.price (restOf o s.left))) :
    RComeT lo E K1 K2 T gone W w (.returned (.tuple #[.agg #[.slice none 0 0, .slice none 0 0, .slice none 0 0, .int .i64 0, .int .i64 0, .slice none 0 0, .bool false], .int .i64 e0])) w' := by
  have fin : E = e0 ∧ K1 = [] ∧ K2 = [] ∧ T = [] ∧ gone = 0 ∧ W = [] := by
    rcases h with ⟨h0, _⟩ | ⟨_, hn, h1, h2⟩ | ⟨_, s, hs, _, h3⟩
    · exact absurd hr h0
    · rcases hE with ⟨_, rfl⟩ | ⟨s, hs, _⟩
      · exact ⟨h1, h2⟩
      · rw [hn] at hs; cases hs
    · rcases hE with ⟨hn, _⟩ | ⟨s', hs', hk⟩
      · rw [hn] at hs; cases hs
      · rw [hs] at hs'; cases hs'
        rcases hk with ⟨hk, rfl⟩ | ⟨hk, hne, rfl⟩
        · rcases h3 with ⟨_, h4, h5⟩ | ⟨h4, _⟩ | ⟨_, _, _, _, ⟨h4, _⟩ | ⟨h4, _⟩⟩
          · exact ⟨h4, h5⟩
          · omega
          · omega
          · omega
        · rcases h3 with ⟨h4, _⟩ | ⟨_, _, h4, h5⟩ | ⟨_, _, _, _, ⟨h4, _⟩ | ⟨_, h4, _⟩⟩
          · omega
          · exact ⟨h4, h5⟩
          · omega
          · exact absurd h4 hne
  obtain ⟨rfl, rfl, rfl, rfl, rfl, rfl⟩ := fin
  exact ⟨none, 0, none, 0, none, 0, 0, none, 0, false, rfl, Lib.hid ⟨LvA.nil, LvA.nil, OwnS.nil _ _ _ _, OwnS.nil _ _ _ _⟩, hb⟩
theorem KO.good {L M : List Lv} {o : Order} {mode E : Int} {K1 K2 : List Lv} {T : List Trade} {gone : Int} {W : List Int} (h : KO L M o mode E K1 K2 T gone W) (hr : readyE L M o = 0) {s : MSt} (hs : met L M o mode = some s)
    (hk : kOut o (pick o.side L M) s ≤ 1 ∨ kOut o (pick o.side L M) s = 2 ∧ putE (kL o.side L s) (kM o.side M s) o.side o.price (restOf o s.left) = 0) :
    E = 0 ∧ T = s.T ∧ W = s.W ∧ gone = (if kOut o (pick o.side L M) s = 1 then s.left else 0) ∧ (kOut o (pick o.side L M) s ≤ 1 → K1 = kL o.side L s ∧ K2 = kM o.side M s) ∧ (kOut o (pick o.side L M) s = 2 → K1 = putL o.side o.price (restOf o s.left) (kL o.side L s) ∧ K2 = putM o.side o.price (restOf o s.left) (kM o.side M s)) := by
  rcases h with ⟨h0, _⟩ | ⟨_, hn, _⟩ | ⟨_, s', hs', _, h3⟩
  · exact absurd hr h0
  · rw [hn] at hs; cases hs
  · rw [hs] at hs'; cases hs'
    rcases h3 with ⟨h4, _⟩ | ⟨h4, h5, _⟩ | ⟨h4, h5, h6, h7, ⟨h8, h9⟩ | ⟨h8, _, h9⟩⟩
    · omega
    · rcases hk with hk | ⟨_, hk⟩
      · omega
      · exact absurd hk h5
    · exact ⟨h4, h5, h6, h7, fun _ => h9, fun e => by omega⟩
    · exact ⟨h4, h5, h6, h7, fun e => by omega, fun _ => h9⟩
end Go.Proofs.YtiaofbkhnodbhaaGreatDoor
