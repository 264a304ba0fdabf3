/- The contracts of package wire: Command, whatever it is given. -/
import Derived.Test.YtkdgpdijbobmkaaGreatDoorWire5
import Derived.Test.YtkdgpdijbobmkaaGreatDoorGrpV
namespace Go.Proofs.YtkdgpdijbobmkaaGreatDoor
set_option linter.all false
open Go.RowKit
/-- the numbers of a command that stand in two bytes each -/
def Cmd.nums (c : Cmd) : List Int :=
  if c.what = 1 then [c.o.id, c.o.who, c.o.side, c.o.kind, c.o.price, c.o.qty, c.o.show_, c.o.stop] else if c.what = 2 then [c.o.id] else [c.o.id, c.o.price, c.o.qty]
/-- a command as bytes, but for the sum -/
def Cmd.body (c : Cmd) : List Int :=
  if c.what = 4 ∨ c.what = 5 then [c.what, c.who, c.n / 16777216, c.n / 65536 % 256, c.n / 256 % 256, c.n % 256] else c.what :: duo c.nums
abbrev Cmd.CC (c : Cmd) : Prop := ∀ w, Calls Tryz.prog 71 #[.agg #[.int .i64 c.what, .int .i64 c.o.id, .int .i64 c.o.who, .int .i64 c.o.side, .int .i64 c.o.kind, .int .i64 c.o.price, .int .i64 c.o.qty, .int .i64 c.o.show_, .int .i64 c.o.stop, .int .i64 c.who, .int .i64 c.n]] w fun e w' => e = .returned .nilIface ∧ Below w.heap.size w w'
theorem Cmd.cc {c : Cmd} (h : c.err = 0) : c.CC := fun w => (wcheck_any c w).mono fun e w' ⟨h1, h2⟩ => ⟨by rw [h1, errV, if_pos h], h2⟩
theorem command_ok (c : Cmd) (h : c.err = 0) (w : World) :
    Calls Tryz.prog 102 #[.agg #[.int .i64 c.what, .int .i64 c.o.id, .int .i64 c.o.who, .int .i64 c.o.side, .int .i64 c.o.kind, .int .i64 c.o.price, .int .i64 c.o.qty, .int .i64 c.o.show_, .int .i64 c.o.stop, .int .i64 c.who, .int .i64 c.n]] w (CmdPost c.body w) := by
  have cC := Cmd.cc h
  obtain ⟨k, ⟨id, ow, side, kind, price, qty, show_, stop⟩, who, n⟩ := c
  have hk : k = 1 ∨ k = 2 ∨ k = 3 ∨ (k = 4 ∨ k = 5) ∨ (k < 1 ∨ 5 < k) := by omega
  rcases hk with rfl | rfl | rfl | hk | hk
  · have h0 : Order.err ⟨id, ow, side, kind, price, qty, show_, stop⟩ = 0 := by
      by_cases h1 : Order.err ⟨id, ow, side, kind, price, qty, show_, stop⟩ = 0
      · exact h1
      · simp [Cmd.err, h1] at h
    have hh := Order.err_ok h0
    dsimp only at hh
    refine wcommand_fields 1 (.inl rfl) id ow side kind price qty show_ stop who n [id, ow, side, kind, price, qty, show_, stop] 8 (by omega) rfl rfl ?_ ?_ w cC
    · simp only [List.mem_cons, List.not_mem_nil, or_false, forall_eq_or_imp, forall_eq]
      omega
    · intro q hq
      match q, hq with
      | 0, _ => exact ⟨_, _, rfl, rfl, rfl⟩
      | 1, _ => exact ⟨_, _, rfl, rfl, rfl⟩
      | 2, _ => exact ⟨_, _, rfl, rfl, rfl⟩
      | 3, _ => exact ⟨_, _, rfl, rfl, rfl⟩
      | 4, _ => exact ⟨_, _, rfl, rfl, rfl⟩
      | 5, _ => exact ⟨_, _, rfl, rfl, rfl⟩
      | 6, _ => exact ⟨_, _, rfl, rfl, rfl⟩
      | 7, _ => exact ⟨_, _, rfl, rfl, rfl⟩
  · have h0 : inb id 1 9999 = true := by
      cases h1 : inb id 1 9999
      · simp [Cmd.err, h1] at h
      · rfl
    have := inb_t h0
    refine wcommand_fields 2 (.inr (.inl rfl)) id ow side kind price qty show_ stop who n [id] 1 (by omega) rfl rfl ?_ ?_ w cC
    · simp only [List.mem_cons, List.not_mem_nil, or_false, forall_eq]
      omega
    · intro q hq
      match q, hq with
      | 0, _ => exact ⟨_, _, rfl, rfl, rfl⟩
  · have h0 : inb id 1 9999 = true ∧ vp price = true ∧ inb qty 1 10000 = true := by
      cases h1 : inb id 1 9999 <;> cases h2 : vp price <;> cases h3 : inb qty 1 10000 <;> simp [Cmd.err, h1, h2, h3] at h ⊢
    have h1 := inb_t h0.1
    have h2 := inb_t h0.2.2
    have h3 : 0 ≤ price ∧ price ≤ 65535 := by have := h0.2.1; simp [vp] at this; omega
    refine wcommand_fields 3 (.inr (.inr rfl)) id ow side kind price qty show_ stop who n [id, price, qty] 3 (by omega) rfl rfl ?_ ?_ w cC
    · simp only [List.mem_cons, List.not_mem_nil, or_false, forall_eq_or_imp, forall_eq]
      omega
    · intro q hq
      match q, hq with
      | 0, _ => exact ⟨_, _, rfl, rfl, rfl⟩
      | 1, _ => exact ⟨_, _, rfl, rfl, rfl⟩
      | 2, _ => exact ⟨_, _, rfl, rfl, rfl⟩
  · have h0 : (inb who 1 9 = true ∧ 1 ≤ n ∧ n ≤ 1000000000) ∧ (id = 0 ∧ ow = 0 ∧ side = 0 ∧ kind = 0 ∧ price = 0 ∧ qty = 0 ∧ show_ = 0 ∧ stop = 0) := by
      have a1 : ¬ k = 1 := by omega
      have a2 : ¬ k = 2 := by omega
      have a3 : ¬ k = 3 := by omega
      simp only [Cmd.err, if_neg a1, if_neg a2, if_neg a3, if_pos hk] at h
      split at h
      · omega
      · split at h
        · rename_i g1 g2
          refine ⟨⟨?_, by omega, by omega⟩, g2⟩
          cases hw : inb who 1 9
          · exact absurd (.inl hw) g1
          · rfl
        · omega
    obtain ⟨⟨h1, h2, h3⟩, rfl, rfl, rfl, rfl, rfl, rfl, rfl, rfl⟩ := h0
    exact wcommand_pay k hk who n _ (by rw [Cmd.body, if_pos hk]) (inb_t h1) ⟨h2, h3⟩ w cC
  · exfalso
    have a1 : ¬ k = 1 := by omega
    have a2 : ¬ k = 2 := by omega
    have a3 : ¬ k = 3 := by omega
    have a4 : ¬ (k = 4 ∨ k = 5) := by omega
    simp [Cmd.err, a1, a2, a3] at h
    omega
/-- how long the bytes are -/
theorem body_len (c : Cmd) : c.body.length = if c.what = 1 then 17 else if c.what = 2 then 3 else if c.what = 4 ∨ c.what = 5 then 6 else 7 := by
  unfold Cmd.body Cmd.nums
  by_cases h1 : c.what = 1
  · simp [h1, duo]
  by_cases h2 : c.what = 2
  · simp [h2, duo]
  by_cases h3 : c.what = 4 ∨ c.what = 5
  · simp [h1, h2, h3]
  · simp [h1, h2, h3, duo]
end Go.Proofs.YtkdgpdijbobmkaaGreatDoor
