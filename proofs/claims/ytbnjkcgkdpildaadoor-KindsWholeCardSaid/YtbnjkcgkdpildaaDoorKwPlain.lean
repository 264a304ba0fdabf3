/- All or nothing: plain. -/
import Derived.Test.YtbnjkcgkdpildaaDoorPutM
namespace Go.Proofs.YtbnjkcgkdpildaaDoor
set_option linter.all false
open Go Go.RowKit
def kwL (has : Int) : List Lv := [⟨100, [⟨1, 1, has, 0, 0⟩]⟩]
def kwO (kind want : Int) : Order := ⟨2, 2, 1, kind, 100, want, 0, 0⟩
theorem kw_ready {kind has want : Int} (hk : kind = 3 ∨ kind = 4 ∨ kind = 5) (h1 : 1 ≤ has) (h2 : has ≤ 10000) (h3 : 1 ≤ want) (h4 : want ≤ 10000) : readyE [] (kwL has) (kwO kind want) = 0 := by
  have hr : Rest.err ⟨1, 1, has, 0, 0⟩ = 0 := err_mk (by simp [inb]) (by simp [inb]) h1 h2 (by simp) (by simp) (by simp) (by simp) (by simp) (by simp)
  have hs : SideOk 2 (kwL has) := by
    refine ⟨by decide, fun x hx => ?_, fun x hx => ?_, fun x hx r hr' => ?_, ?_, by simp [kwL, cnt], by simp [kwL, ids]⟩
    · rw [kwL, List.mem_singleton] at hx; subst hx; exact vp_y (by simp)
    · rw [kwL, List.mem_singleton] at hx; subst hx; simp
    · rw [kwL, List.mem_singleton] at hx; subst hx
      rw [List.mem_singleton] at hr'
      subst hr'
      exact hr
    · simp [kwL]
  rw [readyE_iff]
  refine ⟨⟨⟨by decide, by simp, by simp, by simp, List.Pairwise.nil, by simp [cnt], by simp [ids]⟩, hs, by simp, by simp [kwL, cnt], by simpa [ids] using hs.once⟩, ?_, rfl, by simp [ids], by simp [kwL, ids, kwO]⟩
  rcases hk with rfl | rfl | rfl <;> (simp [Order.err, kwO, inb, vs, vp, h3, h4]; try omega)
/-- what is met -/
structure KwMet (has want : Int) (s : MSt) : Prop where
  left : s.left = want - min has want
  ends : s.ends = false
  one : ∃ t, s.T = [t] ∧ t.qty = min has want
theorem kw_met {kind has want : Int} (hk : kind = 3 ∨ kind = 4 ∨ kind = 5) (h1 : 1 ≤ has) (h3 : 1 ≤ want) : ∃ s, met [] (kwL has) (kwO kind want) 0 = some s ∧ KwMet has want s := by
  have hm : ∀ p, may (kwO kind want) p = decide (p ≤ 100) := by
    intro p
    unfold may
    rcases hk with rfl | rfl | rfl <;> simp [kwO]
  have hg : mGo (kwO kind want) ⟨kwL has, want, [], [], false⟩ = true := by
    simp [mGo, kwL, hm]; omega
  have e0 : met [] (kwL has) (kwO kind want) 0 = mRun (kwO kind want) 0 (10060 + 1 + 1) ⟨kwL has, want, [], [], false⟩ := rfl
  rw [e0, mRun_go hg]
  by_cases hq : want < has
  · have hst : mStep (kwO kind want) 0 ⟨kwL has, want, [], [], false⟩ = ⟨[⟨100, [⟨1, 1, has - want, 0, 0⟩]⟩], 0, [mTr (kwO kind want) ⟨1, 1, want⟩ 100], [], false⟩ := by
      simp [mStep, kwL, qFirst, hq, mCut]
    have hg2 : mGo (kwO kind want) ⟨[⟨100, [⟨1, 1, has - want, 0, 0⟩]⟩], 0, [mTr (kwO kind want) ⟨1, 1, want⟩ 100], [], false⟩ = false := by simp [mGo]
    rw [hst, if_neg (by simp), mRun_stop hg2]
    exact ⟨_, rfl, by show (0 : Int) = _; omega, rfl, _, rfl, by simp [mTr, kwO]; omega⟩
  · have hst : mStep (kwO kind want) 0 ⟨kwL has, want, [], [], false⟩ = ⟨[], want - has, [mTr (kwO kind want) ⟨1, 1, has⟩ 100], [], false⟩ := by
      simp [mStep, kwL, qFirst, hq, mCut]
    have hg2 : mGo (kwO kind want) ⟨[], want - has, [mTr (kwO kind want) ⟨1, 1, has⟩ 100], [], false⟩ = false := by simp [mGo]
    rw [hst, if_neg (by simp), mRun_stop hg2]
    exact ⟨_, rfl, by show want - has = _; omega, rfl, _, rfl, by simp [mTr, kwO]; omega⟩
theorem kw_out {kind has want : Int} {s : MSt} (h : KwMet has want s) (h1 : 1 ≤ has) (h3 : 1 ≤ want) :
    (kind = 4 → kOut (kwO kind want) (kwL has) s = if has < want then 9 else 0) ∧ (kind = 3 → kOut (kwO kind want) (kwL has) s = if has < want then 1 else 0) ∧ (kind = 5 → kOut (kwO kind want) (kwL has) s = 8) := by
  have hl := h.left
  refine ⟨fun e => ?_, fun e => ?_, fun e => ?_⟩
  · subst e
    by_cases hw : has < want
    · rw [if_pos hw]; exact kOut_9 ⟨rfl, by omega⟩
    · rw [if_neg hw]; exact kOut_0 (fun x => by omega) (fun x => absurd x.1 (by simp [kwO])) (by omega)
  · subst e
    by_cases hw : has < want
    · rw [if_pos hw]; exact kOut_1 (fun x => absurd x.1 (by simp [kwO])) (fun x => absurd x.1 (by simp [kwO])) (by omega) (.inr (by simp [kwO]))
    · rw [if_neg hw]; exact kOut_0 (fun x => absurd x.1 (by simp [kwO])) (fun x => absurd x.1 (by simp [kwO])) (by omega)
  · subst e
    exact kOut_8 (fun x => absurd x.1 (by simp [kwO])) ⟨rfl, by simp [mayTop, kwL, may, kwO]⟩
end Go.Proofs.YtbnjkcgkdpildaaDoor
