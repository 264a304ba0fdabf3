/- Commands that come to a twin in any order: plain. -/
import Derived.Test.YtkdgpdijbobmkaaGreatTwinW
import Derived.Test.YtkdgpdijbobmkaaGreatTwinH
namespace Go.Proofs.YtkdgpdijbobmkaaGreat
set_option linter.all false
open Go Go.RowKit
theorem keys_few : ∀ (N : Nat) (W : List (Int × Cmd)), (wkeys W).Nodup → (∀ x ∈ wkeys W, 1 ≤ x ∧ x ≤ (N : Int)) → W.length ≤ N
  | 0, W, _, h => by
    cases W with
    | nil => simp
    | cons p W =>
      have := h p.1 (by simp [wkeys])
      omega
  | N + 1, W, hn, h => by
    by_cases hk : ((N + 1 : Nat) : Int) ∈ wkeys W
    · have h1 := wdel_len hn hk
      have h2 := keys_few N (wdel W ((N + 1 : Nat) : Int)) (by rw [wkeys_del]; exact hn.filter _) (fun x hx => by
        rw [wkeys_del, List.mem_filter] at hx
        have h3 := h x hx.1
        have h4 : x ≠ ((N + 1 : Nat) : Int) := by simpa using hx.2
        omega)
      omega
    · have h2 := keys_few N W hn (fun x hx => by
        have h3 := h x hx
        have h4 : x ≠ ((N + 1 : Nat) : Int) := fun e => hk (e ▸ hx)
        omega)
      omega
/-- a twin that heard some of R; e = 0: on the way -/
structure TsAt (mode : Int) (R : List Cmd) (e : Int) (s : TwS) : Prop where
  ok : TwOk s
  f : s.f = runAll (FS.new mode) (R.take (s.next - 1).toNat)
  le : s.next ≤ (R.length : Int) + 1
  wait : ∀ p ∈ s.W, s.next + e ≤ p.1 ∧ R[(p.1 - 1).toNat]? = some p.2
section
variable {mode : Int} {R : List Cmd}
theorem TsAt.new (mode : Int) (R : List Cmd) : TsAt mode R 1 (TwS.new mode) := ⟨TwOk.new mode, by show FS.new mode = runAll (FS.new mode) (R.take 0); rw [List.take_zero]; rfl, by show (1 : Int) ≤ _; omega, fun p h => by simp [TwS.new] at h⟩
theorem TsAt.lens {e : Int} {s : TwS} (h : TsAt mode R e s) (he : 0 ≤ e) : s.W.length ≤ R.length := by
  refine keys_few R.length s.W h.ok.nd (fun x hx => ?_)
  obtain ⟨p, hp, rfl⟩ := List.mem_map.1 hx
  obtain ⟨h1, h2⟩ := h.wait p hp
  have h3 := (List.getElem?_eq_some_iff.1 h2).1
  have h4 := h.ok.next0
  omega
theorem drain_ts : ∀ (n : Nat) (k : Int) (s : TwS), TsAt mode R 0 s → s.W.length < n → TsAt mode R 1 (drainT n k s).2 ∧ s.next ≤ (drainT n k s).2.next ∧ (wget s.W s.next ≠ none → s.next + 1 ≤ (drainT n k s).2.next)
  | 0, _, _, _, h => by omega
  | n + 1, k, s, h, hl => by
    cases hg : wget s.W s.next with
    | none =>
      rw [drain_none hg]
      refine ⟨⟨h.ok, h.f, h.le, fun p hp => ?_⟩, by show s.next ≤ s.next; omega, fun h => absurd rfl h⟩
      obtain ⟨h1, h2⟩ := h.wait p hp
      have h3 : p.1 ≠ s.next := fun e => wget_none.1 hg (List.mem_map.2 ⟨p, hp, e⟩)
      exact ⟨by show s.next + 1 ≤ p.1; omega, h2⟩
    | some c =>
      rw [drain_some hg]
      have hw := h.wait _ (wget_mem hg)
      have hlt := (List.getElem?_eq_some_iff.1 hw.2).1
      have h0 := h.ok.next0
      have hd := wdel_len h.ok.nd (wget_key hg)
      have h1 : TsAt mode R 0 ⟨s.f.doS c, s.next + 1, wdel s.W s.next⟩ := by
        refine ⟨h.ok.step hg, ?_, by show s.next + 1 ≤ _; dsimp only at hlt; omega, fun p hp => ?_⟩
        · show s.f.doS c = runAll (FS.new mode) (R.take (s.next + 1 - 1).toNat)
          rw [show (s.next + 1 - 1).toNat = (s.next - 1).toNat + 1 by omega, List.take_add_one, hw.2, h.f]
          exact (runAll_snoc _ _ _).symm
        · have hp := wdel_mem.1 (show p ∈ wdel s.W s.next from hp)
          obtain ⟨a, b⟩ := h.wait p hp.1
          refine ⟨?_, b⟩
          show s.next + 1 + 0 ≤ p.1
          have := hp.2
          omega
      have ih := drain_ts n (k + 1) _ h1 (by show (wdel s.W s.next).length < n; omega)
      have h2 : s.next + 1 ≤ (drainT n (k + 1) ⟨s.f.doS c, s.next + 1, wdel s.W s.next⟩).2.next := ih.2.1
      exact ⟨ih.1, by omega, fun _ => h2⟩
theorem hear_ts {s : TwS} {k : Nat} {c : Cmd} (h : TsAt mode R 1 s) (hR : R.length ≤ 40) (hk : R[k]? = some c) (hc : c.err = 0) : (s.hear ((k : Int) + 1) c).1 = 0 ∧ TsAt mode R 1 (s.hear ((k : Int) + 1) c).2.2 ∧ s.next ≤ (s.hear ((k : Int) + 1) c).2.2.next ∧ (s.next = (k : Int) + 1 → (k : Int) + 2 ≤ (s.hear ((k : Int) + 1) c).2.2.next) := by
  have hlt := (List.getElem?_eq_some_iff.1 hk).1
  have hl := h.lens (by omega)
  have hin : inb ((k : Int) + 1) 1 100000 = true := by simp [inb]; omega
  unfold TwS.hear
  rw [if_neg (by rw [hin]; simp), if_neg (by simpa using hc)]
  by_cases h1 : (k : Int) + 1 < s.next ∨ (k : Int) + 1 ∈ wkeys s.W
  · rw [if_pos h1]
    refine ⟨rfl, h, Int.le_refl _, fun e => ?_⟩
    rcases h1 with h1 | h1
    · omega
    · obtain ⟨p, hp, e2⟩ := List.mem_map.1 h1
      have := (h.wait p hp).1
      omega
  · rw [if_neg h1, if_neg (by omega)]
    rw [not_or] at h1
    have h2 : TsAt mode R 0 ⟨s.f, s.next, s.W ++ [((k : Int) + 1, c)]⟩ := by
      refine ⟨h.ok.put hin h1.2 (by omega), h.f, h.le, fun p hp => ?_⟩
      have hp : p ∈ s.W ++ [((k : Int) + 1, c)] := hp
      show s.next + 0 ≤ p.1 ∧ _
      rw [List.mem_append, List.mem_singleton] at hp
      rcases hp with hp | rfl
      · have := h.wait p hp
        exact ⟨by omega, this.2⟩
      · refine ⟨by show s.next + 0 ≤ (k : Int) + 1; omega, ?_⟩
        show R[((k : Int) + 1 - 1).toNat]? = some c
        rw [show ((k : Int) + 1 - 1).toNat = k by omega]; exact hk
    have h3 := drain_ts 61 0 _ h2 (by show (s.W ++ [((k : Int) + 1, c)]).length < 61; simp; omega)
    refine ⟨rfl, h3.1, h3.2.1, fun e => ?_⟩
    have h4 := h3.2.2 (fun hn => wget_none.1 hn (by show s.next ∈ wkeys (s.W ++ [((k : Int) + 1, c)]); rw [e]; simp [wkeys]))
    have h4 : s.next + 1 ≤ (drainT 61 0 ⟨s.f, s.next, s.W ++ [((k : Int) + 1, c)]⟩).2.next := h4
    show (k : Int) + 2 ≤ (drainT 61 0 ⟨s.f, s.next, s.W ++ [((k : Int) + 1, c)]⟩).2.next
    omega
theorem ts_all {s : TwS} (h : TsAt mode R 1 s) (hn : (R.length : Int) + 1 ≤ s.next) : s.f = runAll (FS.new mode) R ∧ s.next = (R.length : Int) + 1 ∧ s.W = [] := by
  have h1 := h.le
  have e : s.next = (R.length : Int) + 1 := by omega
  refine ⟨?_, e, ?_⟩
  · rw [h.f, e, show ((R.length : Int) + 1 - 1).toNat = R.length by omega, List.take_length]
  · cases hW : s.W with
    | nil => rfl
    | cons p W =>
      have h2 := h.wait p (by rw [hW]; simp)
      have := (List.getElem?_eq_some_iff.1 h2.2).1
      omega
end
/-- the commands of a list that are right, of its first ones -/
def goodC (l : List Cmd) (k : Nat) : List Cmd := (l.take k).filter fun c => c.err == 0
theorem goodC_step {l : List Cmd} {k : Nat} {c : Cmd} (h : l[k]? = some c) : goodC l (k + 1) = if c.err = 0 then goodC l k ++ [c] else goodC l k := by
  unfold goodC
  rw [List.take_add_one, h, Option.toList_some, List.filter_append, List.filter_cons]
  by_cases hc : c.err = 0
  · rw [if_pos (by simpa using hc), if_pos hc]; simp
  · rw [if_neg (by simpa using hc), if_neg hc]; simp
theorem goodC_len (l : List Cmd) (k : Nat) : (goodC l k).length ≤ k := by
  unfold goodC
  have := List.length_filter_le (fun c : Cmd => c.err == 0) (l.take k)
  rw [List.length_take] at this
  omega
theorem goodC_err {l : List Cmd} {k : Nat} : ∀ c ∈ goodC l k, c.err = 0 := fun c hc => by
  unfold goodC at hc
  rw [List.mem_filter] at hc
  simpa using hc.2
def tsC7 : Cmd := ⟨4, ⟨0, 0, 0, 0, 0, 0, 0, 0⟩, 1, 7⟩
def tsC5 : Cmd := ⟨4, ⟨0, 0, 0, 0, 0, 0, 0, 0⟩, 1, 5⟩
def tsA : TwS := ((TwS.new 0).hear 2 tsC7).2.2
def tsB : TwS := (tsA.hear 1 tsC5).2.2
theorem ts_a : ((TwS.new 0).hear 2 tsC7).1 = 0 ∧ ((TwS.new 0).hear 2 tsC7).2.1 = 0 := ⟨by kernel_rfl, by kernel_rfl⟩
theorem ts_b : (tsA.hear 1 tsC5).1 = 0 ∧ (tsA.hear 1 tsC5).2.1 = 2 := ⟨by kernel_rfl, by kernel_rfl⟩
theorem ts_c : (tsB.f.S 1).cash = 12 ∧ tsB.next = 3 := ⟨by kernel_rfl, by kernel_rfl⟩
end Go.Proofs.YtkdgpdijbobmkaaGreat
