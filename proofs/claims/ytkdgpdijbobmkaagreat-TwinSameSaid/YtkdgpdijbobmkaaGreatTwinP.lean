/- A twin: plain. -/
import Derived.Test.YtkdgpdijbobmkaaGreatGrpAF
namespace Go.Proofs.YtkdgpdijbobmkaaGreat
set_option linter.all false
open Go Go.RowKit
/-- a twin: its floor, the number that is next, those that wait -/
structure TwS where
  f : FS
  next : Int
  W : List (Int × Cmd)
def wkeys (W : List (Int × Cmd)) : List Int := W.map Prod.fst
/-- the command of a number, if it waits -/
def wget (W : List (Int × Cmd)) (x : Int) : Option Cmd := (W.find? fun p => p.1 == x).map Prod.snd
def wdel (W : List (Int × Cmd)) (x : Int) : List (Int × Cmd) := W.filter fun p => !(p.1 == x)
/-- those that are next are done -/
def drainT : Nat → Int → TwS → Int × TwS
  | 0, k, s => (k, s)
  | n + 1, k, s => match wget s.W s.next with
    | none => (k, s)
    | some c => drainT n (k + 1) ⟨s.f.doS c, s.next + 1, wdel s.W s.next⟩
theorem drain_none {n : Nat} {k : Int} {s : TwS} (h : wget s.W s.next = none) : drainT n k s = (k, s) := by
  cases n with
  | zero => rfl
  | succ n => rw [drainT, h]
theorem drain_some {n : Nat} {k : Int} {s : TwS} {c : Cmd} (h : wget s.W s.next = some c) : drainT (n + 1) k s = drainT n (k + 1) ⟨s.f.doS c, s.next + 1, wdel s.W s.next⟩ := by rw [drainT, h]
/-- a command is heard: the fault, how many were done, the twin behind it -/
def TwS.hear (s : TwS) (seq : Int) (c : Cmd) : Int × Int × TwS :=
  if inb seq 1 100000 = false then (1, 0, s)
  else if c.err ≠ 0 then (c.err, 0, s)
  else if seq < s.next ∨ seq ∈ wkeys s.W then (0, 0, s)
  else if 60 ≤ s.W.length then (4, 0, s)
  else (0, drainT 61 0 ⟨s.f, s.next, s.W ++ [(seq, c)]⟩)
def TwS.new (mode : Int) : TwS := ⟨FS.new mode, 1, []⟩
/-- what holds of a twin -/
structure TwOk (s : TwS) : Prop where
  f : FSOk s.f
  next0 : 1 ≤ s.next
  next1 : s.next ≤ 100001
  few : s.W.length ≤ 60
  nd : (wkeys s.W).Nodup
  keys : ∀ x ∈ wkeys s.W, 1 ≤ x ∧ x ≤ 100000
theorem TwOk.new (mode : Int) : TwOk (TwS.new mode) := ⟨FSOk.new mode, Int.le_refl _, by show (1 : Int) ≤ 100001; omega, by simp [TwS.new], by simp [TwS.new, wkeys], fun x h => by simp [TwS.new, wkeys] at h⟩
section
variable {W : List (Int × Cmd)} {x y : Int} {c : Cmd}
theorem wget_none : wget W x = none ↔ x ∉ wkeys W := by
  unfold wget wkeys
  rw [Option.map_eq_none_iff, List.find?_eq_none]
  constructor
  · intro h hm
    obtain ⟨p, hp, rfl⟩ := List.mem_map.1 hm
    exact h p hp (by simp)
  · intro h p hp e
    exact h (List.mem_map.2 ⟨p, hp, by simpa using e⟩)
theorem wget_mem (h : wget W x = some c) : (x, c) ∈ W := by
  unfold wget at h
  rw [Option.map_eq_some_iff] at h
  obtain ⟨p, hp, rfl⟩ := h
  have h1 := List.find?_some hp
  have h2 := List.mem_of_find?_eq_some hp
  have h3 : p.1 = x := by simpa using h1
  rw [← h3]; exact h2
theorem wget_key (h : wget W x = some c) : x ∈ wkeys W := List.mem_map.2 ⟨_, wget_mem h, rfl⟩
theorem wkeys_del : wkeys (wdel W x) = (wkeys W).filter fun y => !(y == x) := by
  unfold wkeys wdel
  rw [List.filter_map]; rfl
theorem wdel_mem {p : Int × Cmd} : p ∈ wdel W x ↔ p ∈ W ∧ p.1 ≠ x := by
  unfold wdel
  rw [List.mem_filter]
  simp
theorem wdel_len (hn : (wkeys W).Nodup) (hx : x ∈ wkeys W) : (wdel W x).length + 1 = W.length := by
  have h1 : (wdel W x).length = (wkeys (wdel W x)).length := by simp [wkeys]
  have h2 : W.length = (wkeys W).length := by simp [wkeys]
  rw [h1, h2, wkeys_del]
  clear h1 h2
  generalize wkeys W = l at *
  induction l with
  | nil => simp at hx
  | cons a l ih =>
    rw [List.nodup_cons] at hn
    by_cases ha : a = x
    · subst ha
      have : (l.filter fun y => !(y == a)) = l := List.filter_eq_self.2 (fun y hy => by
        have : y ≠ a := fun e => hn.1 (e ▸ hy)
        simpa using this)
      simp [this]
    · have hxl : x ∈ l := by
        rcases List.mem_cons.1 hx with h | h
        · exact absurd h.symm ha
        · exact h
      have := ih hn.2 hxl
      rw [List.filter_cons]
      have e : (!(a == x)) = true := by simpa using ha
      rw [if_pos e, List.length_cons, List.length_cons]
      omega
end
/-- one is done -/
theorem TwOk.step {s : TwS} {c : Cmd} (h : TwOk s) (hg : wget s.W s.next = some c) : TwOk ⟨s.f.doS c, s.next + 1, wdel s.W s.next⟩ := by
  have hk := h.keys _ (wget_key hg)
  have hl := wdel_len h.nd (wget_key hg)
  have h0 := h.next0
  have hf := h.few
  refine ⟨h.f.do c, by show 1 ≤ s.next + 1; omega, by show s.next + 1 ≤ 100001; omega, by show (wdel s.W s.next).length ≤ 60; omega, ?_, fun x hx => ?_⟩
  · show (wkeys (wdel s.W s.next)).Nodup
    rw [wkeys_del]; exact h.nd.filter _
  · have hx : x ∈ wkeys (wdel s.W s.next) := hx
    rw [wkeys_del] at hx
    exact h.keys x (List.mem_filter.1 hx).1
theorem TwOk.put {s : TwS} {seq : Int} {c : Cmd} (h : TwOk s) (hs : inb seq 1 100000 = true) (hn : seq ∉ wkeys s.W) (hl : s.W.length < 60) : TwOk ⟨s.f, s.next, s.W ++ [(seq, c)]⟩ := by
  have hs2 : 1 ≤ seq ∧ seq ≤ 100000 := by simpa [inb] using hs
  refine ⟨h.f, h.next0, h.next1, by show (s.W ++ [(seq, c)]).length ≤ 60; simp; omega, ?_, fun x hx => ?_⟩
  · show (wkeys (s.W ++ [(seq, c)])).Nodup
    unfold wkeys
    rw [List.map_append, List.nodup_append]
    refine ⟨h.nd, by simp, fun a ha b hb e => ?_⟩
    rw [List.map_cons, List.map_nil, List.mem_singleton] at hb
    subst hb
    exact hn (e ▸ ha)
  · have hx : x ∈ wkeys (s.W ++ [(seq, c)]) := hx
    unfold wkeys at hx
    rw [List.map_append, List.mem_append] at hx
    rcases hx with hx | hx
    · exact h.keys x hx
    · rw [List.map_cons, List.map_nil, List.mem_singleton] at hx
      subst hx; exact hs2
theorem TwOk.drain : ∀ (n : Nat) (k : Int) (s : TwS), TwOk s → TwOk (drainT n k s).2
  | 0, _, _, h => h
  | n + 1, k, s, h => by
    cases hg : wget s.W s.next with
    | none => rw [drain_none hg]; exact h
    | some c => rw [drain_some hg]; exact TwOk.drain n _ _ (h.step hg)
theorem TwOk.hear {s : TwS} (h : TwOk s) (seq : Int) (c : Cmd) : TwOk (s.hear seq c).2.2 := by
  unfold TwS.hear
  split
  · exact h
  · split
    · exact h
    · split
      · exact h
      · split
        · exact h
        · rename_i h1 h2 h3 h4
          rw [not_or] at h3
          exact TwOk.drain _ _ _ (h.put (by simpa using h1) h3.2 (by omega))
/-- where numbers go on behind a number of rounds it comes to the same -/
theorem drain_more : ∀ (n m : Nat) (k : Int) (s : TwS), TwOk s → s.W.length < n → n ≤ m → drainT m k s = drainT n k s
  | 0, _, _, _, _, h, _ => by omega
  | n + 1, m, k, s, h, hl, hm => by
    obtain ⟨m', rfl⟩ : ∃ m', m = m' + 1 := ⟨m - 1, by omega⟩
    cases hg : wget s.W s.next with
    | none => rw [drain_none hg, drain_none hg]
    | some c =>
      rw [drain_some hg, drain_some hg]
      have hw := wdel_len h.nd (wget_key hg)
      exact drain_more n m' _ _ (h.step hg) (by show (wdel s.W s.next).length < n; omega) (by omega)
end Go.Proofs.YtkdgpdijbobmkaaGreat
