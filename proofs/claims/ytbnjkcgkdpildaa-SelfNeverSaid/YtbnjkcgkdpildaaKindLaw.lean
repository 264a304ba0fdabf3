/- What holds of an order that came, by its kind: plain. -/
import Derived.Test.YtbnjkcgkdpildaaMeetLaw
import Derived.Test.YtbnjkcgkdpildaaPutLaw
import Derived.Test.YtbnjkcgkdpildaaPutM
import Derived.Test.YtbnjkcgkdpildaaKRun
namespace Go.Proofs.Ytbnjkcgkdpildaa
set_option linter.all false
open Go Go.RowKit
theorem restOf_sum (o : Order) (q : Int) : (restOf o q).qty + (restOf o q).hidden = q ∧ (restOf o q).id = o.id ∧ (restOf o q).who = o.who := by
  unfold restOf
  split
  · exact ⟨by dsimp only; omega, rfl, rfl⟩
  · exact ⟨by dsimp only; omega, rfl, rfl⟩
/-- the book behind a meeting -/
theorem met_book {L M : List Lv} {o : Order} {mode : Int} {e : MSt} (hb : BookOk L M) (ho : o.err = 0) (h : met L M o mode = some e) : BookOk (kL o.side L e) (kM o.side M e) := by
  obtain ⟨_, hi, _⟩ := met_out hb ho h
  obtain ⟨b1, b2, b3, b4, b5⟩ := hb
  rw [List.nodup_append] at b5
  rcases (Order.err_ok ho).2.2.1 with h1 | h1
  · rw [h1] at hi ⊢
    refine ⟨b1, hi.side, fun x hx y hy => ?_, by have := hi.few; simp only [kL, kM, pick] at *; simp at *; omega, ?_⟩
    · obtain ⟨z, hz, e1⟩ := hi.prices y hy
      rw [← e1]
      exact b3 x hx z hz
    · exact List.nodup_append.2 ⟨b5.1, hi.side.once, fun i h1 j h2 => b5.2.2 i h1 j (hi.ids j h2)⟩
  · rw [h1] at hi ⊢
    refine ⟨hi.side, b2, fun x hx y hy => ?_, by have := hi.few; simp only [kL, kM, pick] at *; simp at *; omega, ?_⟩
    · obtain ⟨z, hz, e1⟩ := hi.prices x hx
      rw [← e1]
      exact b3 z hz y hy
    · exact List.nodup_append.2 ⟨hi.side.once, b5.2.1, fun i h1 j h2 => b5.2.2 i (hi.ids i h1) j h2⟩
theorem met_ids {L M : List Lv} {o : Order} {mode : Int} {e : MSt} (hb : BookOk L M) (ho : o.err = 0) (h : met L M o mode = some e) (h1 : o.id ∉ ids L) (h2 : o.id ∉ ids M) : o.id ∉ ids (kL o.side L e) ∧ o.id ∉ ids (kM o.side M e) := by
  obtain ⟨_, hi, _⟩ := met_out hb ho h
  rcases (Order.err_ok ho).2.2.1 with h3 | h3
  · rw [h3] at hi ⊢
    exact ⟨h1, fun hm => h2 (hi.ids _ hm)⟩
  · rw [h3] at hi ⊢
    exact ⟨fun hm => h1 (hi.ids _ hm), h2⟩
/-- what holds of an order that came -/
structure KOk (L M : List Lv) (o : Order) (mode : Int) (T : List Trade) (gone rests : Int) (L' M' : List Lv) : Prop where
  ok : BookOk L' M'
  tr : ∀ t ∈ T, TOk o mode (pick o.side L M) t
  sum : sumT T + gone + rests = o.qty
  gone0 : 0 ≤ gone
  rests0 : 0 ≤ rests
  find : (rests = 0 ∧ (whereB L' M' o.id).1 = 0) ∨ (0 < rests ∧ (whereB L' M' o.id).1 ≠ 0 ∧ ∀ s i k x q, BAt L' M' o.id s i k x q → s = o.side ∧ x.price = o.price ∧ q = restOf o rests)
  whole : o.kind = 4 → sumT T = o.qty
  post : o.kind = 5 → rests = o.qty
  limit : o.kind = 1 → mode = 0 → gone = 0
  other : o.kind ≠ 1 → o.kind ≠ 5 → rests = 0
theorem met_post {L M : List Lv} {o : Order} {mode : Int} {e : MSt} (h : met L M o mode = some e) (hm : mayTop o (pick o.side L M) = false) : e = ⟨pick o.side L M, o.qty, [], [], false⟩ := by
  have hg : mGo o ⟨pick o.side L M, o.qty, [], [], false⟩ = false := by
    unfold mGo
    cases hK : pick o.side L M with
    | nil => simp
    | cons x K =>
      rw [hK] at hm
      simp only [mayTop] at hm
      simp [hm]
  have : met L M o mode = some ⟨pick o.side L M, o.qty, [], [], false⟩ := mRun_stop hg
  rw [this] at h
  exact (Option.some.inj h).symm
theorem kok {L M L' M' : List Lv} {o : Order} {mode : Int} {s : MSt} (hr : readyE L M o = 0) (h : met L M o mode = some s) (hk9 : kOut o (pick o.side L M) s ≠ 9) (hk8 : kOut o (pick o.side L M) s ≠ 8)
    (hw : kOut o (pick o.side L M) s ≤ 1 ∧ L' = kL o.side L s ∧ M' = kM o.side M s ∨ kOut o (pick o.side L M) s = 2 ∧ putE (kL o.side L s) (kM o.side M s) o.side o.price (restOf o s.left) = 0 ∧ L' = putL o.side o.price (restOf o s.left) (kL o.side L s) ∧ M' = putM o.side o.price (restOf o s.left) (kM o.side M s)) :
    ∃ rests, KOk L M o mode s.T (if kOut o (pick o.side L M) s = 1 then s.left else 0) rests L' M' := by
  obtain ⟨hb, ho, _, n1, n2⟩ := readyE_iff.1 hr
  obtain ⟨hok, hi, _⟩ := met_out hb ho h
  have hbk := met_book hb ho h
  obtain ⟨g1, g2⟩ := met_ids hb ho h n1 n2
  have hl0 := hok.left0
  have hsum := hi.sum
  by_cases a9 : o.kind = 4 ∧ 0 < s.left
  · exact absurd (kOut_9 a9) hk9
  by_cases a8 : o.kind = 5 ∧ mayTop o (pick o.side L M) = true
  · exact absurd (kOut_8 a9 a8) hk8
  have hpost : o.kind = 5 → s.left = o.qty ∧ s.ends = false ∧ s.T = [] := fun h5 => by
    have hm : mayTop o (pick o.side L M) = false := by
      cases e : mayTop o (pick o.side L M)
      · rfl
      · exact absurd ⟨h5, e⟩ a8
    rw [met_post h hm]
    exact ⟨rfl, rfl, rfl⟩
  have hq := (Order.err_ok ho).2.2.2.2.2.1
  by_cases a0 : s.left = 0
  · have hk := kOut_0 a9 a8 a0
    rw [hk] at hw ⊢
    rcases hw with ⟨_, rfl, rfl⟩ | ⟨h2, _⟩
    · refine ⟨0, hbk, hi.trades, by simp; omega, by simp, Int.le_refl _, .inl ⟨rfl, whereB_zero.2 ⟨g1, g2⟩⟩, fun _ => by omega, fun h5 => by have := (hpost h5).1; omega, fun _ _ => by simp, fun _ _ => rfl⟩
    · exact absurd h2 (by decide)
  · by_cases a1 : s.ends = true ∨ (o.kind ≠ 1 ∧ o.kind ≠ 5)
    · have hk := kOut_1 a9 a8 a0 a1
      rw [hk] at hw ⊢
      rcases hw with ⟨_, rfl, rfl⟩ | ⟨h2, _⟩
      · refine ⟨0, hbk, hi.trades, by simp; omega, by simpa using hl0, Int.le_refl _, .inl ⟨rfl, whereB_zero.2 ⟨g1, g2⟩⟩, fun h4 => absurd ⟨h4, by omega⟩ a9, fun h5 => ?_, fun h1 h0 => ?_, fun _ _ => rfl⟩
        · rcases a1 with a1 | a1
          · have := (hpost h5).2.1
            rw [this] at a1; cases a1
          · exact absurd h5 a1.2
        · rcases a1 with a1 | a1
          · have := hi.ends h0
            rw [this] at a1; cases a1
          · exact absurd h1 a1.1
      · exact absurd h2 (by decide)
    · have hk := kOut_2 a9 a8 a0 a1
      rw [hk] at hw ⊢
      rcases hw with ⟨h2, _⟩ | ⟨_, hz, rfl, rfl⟩
      · exact absurd h2 (by decide)
      · have hp := putted hz
        have hid := (restOf_sum o s.left).2.1
        refine ⟨s.left, hp.ok, hi.trades, by simp; omega, by simp, hl0, .inr ⟨by omega, by rw [← hid]; exact hp.found, fun s' i k x q hat => ?_⟩, fun h4 => absurd ⟨h4, by omega⟩ a9, fun h5 => (hpost h5).1, fun _ _ => by simp, fun n1 n5 => absurd (.inr ⟨n1, n5⟩) a1⟩
        rw [← hid] at hat
        obtain ⟨e1, e2, e3, _⟩ := hp.at_ s' i k x q hat
        exact ⟨e1, e2, e3⟩
end Go.Proofs.Ytbnjkcgkdpildaa
