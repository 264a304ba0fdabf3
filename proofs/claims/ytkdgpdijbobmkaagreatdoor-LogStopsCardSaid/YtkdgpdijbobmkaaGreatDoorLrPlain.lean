/- What is refused leaves no byte: plain. -/
import Derived.Test.YtkdgpdijbobmkaaGreatDoorGrpAD
namespace Go.Proofs.YtkdgpdijbobmkaaGreatDoor
set_option linter.all false
open Go Go.RowKit
theorem lr_refuse (o : Order) : ∃ E, E ≠ 0 ∧ (LgS.new 0).doR ⟨1, o, 0, 0⟩ = (E, [], LgS.new 0) ∧ (o.err = 0 → E = 9) := by
  have hc : (Cmd.mk 1 o 0 0).err = o.err := by
    unfold Cmd.err
    rw [if_pos rfl]
    by_cases h : o.err = 0
    · rw [if_neg (by simpa using h), if_neg (by simp), h]
    · rw [if_pos h]
  by_cases h : o.err = 0
  · refine ⟨9, by decide, ?_, fun _ => rfl⟩
    obtain ⟨h1, h2, h3, h4, h5, h6⟩ := Order.err_ok h
    have hq : 1 ≤ o.qty ∧ o.qty ≤ 10000 := h6.1
    have hl : 1 ≤ o.lim ∧ o.lim ≤ 10000 := by unfold Order.lim; split <;> omega
    have hb := prod_bd (a := o.lim) (b := o.qty) (by omega) hl.2 (by omega) hq.2
    have hp : 1 * 1 ≤ o.lim * o.qty := Int.mul_le_mul hl.1 hq.1 (by omega) (by omega)
    have hh : ((FS.new 0).open.hold o).1 = 9 := by
      unfold FT.hold
      rw [if_neg (by simpa using h)]
      show (holdP newP o.who (mcash o.side o.lim o.qty) (mstock o.side o.qty)).1 = 9
      unfold holdP
      have hn : newP o.who.toNat = ⟨o.who.toNat, 0, 0, 0, 0⟩ := rfl
      rcases h3 with hs | hs
      · have e1 : mcash o.side o.lim o.qty = o.lim * o.qty := by unfold mcash; rw [if_pos hs]
        have e2 : mstock o.side o.qty = 0 := by unfold mstock; rw [if_pos hs]
        rw [e1, e2, if_pos (by simp [inb]; omega), hn, if_pos (.inl (by dsimp only; omega))]
      · have e1 : mcash o.side o.lim o.qty = 0 := by unfold mcash; rw [if_neg (by omega)]
        have e2 : mstock o.side o.qty = o.qty := by unfold mstock; rw [if_neg (by omega)]
        rw [e1, e2, if_pos (by simp [inb]; omega), hn, if_pos (.inr (by dsimp only; omega))]
    have hpl : ((FS.new 0).open.place o) = (9, (FS.new 0).open) := by
      unfold FT.place
      rw [if_neg (by simpa using h), if_neg, hh, if_pos (by decide)]
      have e1 : (whereB (FS.new 0).open.L (FS.new 0).open.M o.id).1 = 0 := rfl
      have e2 : whereI (FS.new 0).open.st o.id = -1 := rfl
      rw [e1, e2]; decide
    have hE : (FS.new 0).doE ⟨1, o, 0, 0⟩ = 9 := by
      have ha : (FS.new 0).open.act ⟨1, o, 0, 0⟩ = (9, (FS.new 0).open) := by
        unfold FT.act
        rw [if_neg (show ¬ ((1 : Int) = 4) by decide), if_neg (show ¬ ((1 : Int) = 5) by decide), if_pos rfl]
        exact hpl
      unfold FS.doE FS.run
      rw [ha, if_pos (by decide)]
    unfold LgS.doR
    rw [if_neg (show ¬ ((LgS.new 0).stopped = true) from fun e => by cases e), hc, if_neg (by simpa using h), show (LgS.new 0).f = FS.new 0 from rfl, hE, if_pos (by decide)]
  · refine ⟨o.err, h, ?_, fun e => absurd e h⟩
    unfold LgS.doR
    rw [if_neg (show ¬ ((LgS.new 0).stopped = true) from fun e => by cases e), hc, if_pos h]
theorem packS_one {c : Cmd} (h : c.err = 0) : 5 ≤ (packS [c]).size := by
  have e := enc_len h
  simp only [packS, packB, List.flatMap_cons, List.flatMap_nil, ByteArray.size, List.size_toArray, List.length_append, List.length_cons, Array.length_toList, List.length_nil] at e ⊢
  omega
theorem lr_pay : ∃ V s, (LgS.new 0).doR ⟨4, ⟨0, 0, 0, 0, 0, 0, 0, 0⟩, 1, 5⟩ = (0, V, s) ∧ 2 ≤ s.b.size := by
  have hc : (Cmd.mk 4 ⟨0, 0, 0, 0, 0, 0, 0, 0⟩ 1 5).err = 0 := by decide
  have hE : (FS.new 0).doE ⟨4, ⟨0, 0, 0, 0, 0, 0, 0, 0⟩, 1, 5⟩ = 0 := by kernel_rfl
  refine ⟨(FS.new 0).doV ⟨4, ⟨0, 0, 0, 0, 0, 0, 0, 0⟩, 1, 5⟩, { (LgS.new 0).step with f := (FS.new 0).doS ⟨4, ⟨0, 0, 0, 0, 0, 0, 0, 0⟩, 1, 5⟩, b := (LgS.new 0).b ++ packS [⟨4, ⟨0, 0, 0, 0, 0, 0, 0, 0⟩, 1, 5⟩] }, ?_, ?_⟩
  · unfold LgS.doR
    rw [if_neg (show ¬ ((LgS.new 0).stopped = true) from fun e => by cases e), if_neg (by rw [hc]; decide), show (LgS.new 0).f = FS.new 0 from rfl, if_neg (by rw [hE]; decide), if_neg (show ¬ ((LgS.new 0).left = 0) by decide)]
  · have := packS_one hc
    show 2 ≤ ((LgS.new 0).b ++ packS [⟨4, ⟨0, 0, 0, 0, 0, 0, 0, 0⟩, 1, 5⟩]).size
    rw [ByteArray.size_append]
    omega
end Go.Proofs.YtkdgpdijbobmkaaGreatDoor
