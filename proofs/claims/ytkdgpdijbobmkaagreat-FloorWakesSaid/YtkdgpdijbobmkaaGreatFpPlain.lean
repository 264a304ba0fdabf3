/- Paid from one to the other: plain. -/
import Derived.Test.YtkdgpdijbobmkaaGreatFlRich
namespace Go.Proofs.YtkdgpdijbobmkaaGreat
set_option linter.all false
open Go Go.RowKit
theorem FT.hold_ok {t : FT} {o : Order} {S : Nat → Pur} (h : o.err = 0) (hh : holdP t.S o.who (mcash o.side o.lim o.qty) (mstock o.side o.qty) = (0, S)) : t.hold o = (0, { t with S := S }) := by
  unfold FT.hold; rw [if_neg (by simpa using h), hh]
theorem FT.place_come {t t1 t2 : FT} {o : Order} {b : Bool} {E : Int} (h : o.err = 0) (h1 : (whereB t.L t.M o.id).1 = 0) (h2 : whereI t.st o.id < 0) (hh : t.hold o = (0, t1)) (hs : o.stop = 0) (hc : t1.come o = (b, E, t2)) : t.place o = (E, t2) := by
  unfold FT.place
  rw [if_neg (by simpa using h), if_neg (by omega), hh, if_neg (by simp), if_pos hs]
  dsimp only
  rw [hc]
theorem whereI_nil (id : Int) : whereI [] id = -1 := rfl
abbrev fpO1 (p q : Int) : Order := ⟨1, 1, 2, 1, p, q, 0, 0⟩
abbrev fpO2 (l q : Int) : Order := ⟨2, 2, 1, 1, l, q, 0, 0⟩
def fpS1 (q : Int) : Nat → Pur := upd (richS 10) 1 ⟨1, 500000000, 0, 100000, q⟩
def fpF1 (p q : Int) : FS := ⟨1, [], [⟨p, [⟨1, 1, q, 0, 0⟩]⟩], [], fpS1 q, 0⟩
theorem rich_at {k : Nat} (h1 : 1 ≤ k) (h2 : k ≤ 9) : richS 10 k = ⟨k, 500000000, 0, 100000, 0⟩ := by unfold richS; rw [if_pos (by omega)]
theorem fp_err1 {p q : Int} (h1 : 1 ≤ p) (h2 : p ≤ 10000) (h3 : 1 ≤ q) (h4 : q ≤ 10000) : (fpO1 p q).err = 0 := by
  simp [Order.err, fpO1, inb, vs, vp, h1, h2, h3, h4]; omega
theorem fp_err2 {p q : Int} (h1 : 1 ≤ p) (h2 : p ≤ 10000) (h3 : 1 ≤ q) (h4 : q ≤ 10000) : (fpO2 p q).err = 0 := by
  simp [Order.err, fpO2, inb, vs, vp, h1, h2, h3, h4]; omega
theorem fp_one {p q : Int} (h1 : 1 ≤ p) (h2 : p ≤ 10000) (h3 : 1 ≤ q) (h4 : q ≤ 10000) : ∃ t, (FR 1 10).run ⟨1, fpO1 p q, 0, 0⟩ = (0, t) ∧ t.shut = fpF1 p q := by
  have hS := rich_at (k := 1) (by omega) (by omega)
  have hvp : vp p = true := by simp [vp, inb]; omega
  have hre : Rest.err ⟨1, 1, q, 0, 0⟩ = 0 := err_mk (by simp [inb]) (by simp [inb]) h3 h4 (by simp) (by simp) (by simp) (by simp) (by simp) (by simp)
  have hh : (FR 1 10).open.hold (fpO1 p q) = (0, { (FR 1 10).open with S := fpS1 q }) := by
    refine FT.hold_ok (fp_err1 h1 h2 h3 h4) ?_
    show holdP (richS 10) 1 0 q = (0, fpS1 q)
    unfold holdP
    rw [if_pos (by simp [inb]; omega)]
    show (if _ ∨ _ then _ else _) = _
    rw [show (1 : Int).toNat = 1 from rfl, hS, if_neg (by dsimp only; omega)]
    dsimp only
    unfold fpS1
    rw [show (0 : Int) + q = q by omega]
    rfl
  have hput : putE [] [] 2 p ⟨1, 1, q, 0, 0⟩ = 0 := by
    unfold putE addE
    rw [if_neg (by decide), if_neg (by decide), show sidL 2 ([] : List Lv) [] = [] from rfl, hvp, hre]
    rfl
  have hc := FT.come_rest (t := { (FR 1 10).open with S := fpS1 q }) (o := fpO1 p q) rfl (by show 0 < q; omega) rfl rfl hput (show inb 1 1 9 = true by decide)
    (by show 0 ≤ (fpS1 q 1).held; unfold fpS1; rw [upd_same]; simp) (by show 0 ≤ (fpS1 q 1).hstock; unfold fpS1; rw [upd_same]; dsimp only; omega)
  have hpl := FT.place_come (t := (FR 1 10).open) (fp_err1 h1 h2 h3 h4) rfl (show whereI [] _ < 0 by rw [whereI_nil]; decide) hh rfl hc
  refine ⟨_, FS.run_quiet (t := ?_) ?_ ?_, ?_⟩
  rotate_left
  · show FT.act _ _ = _
    unfold FT.act
    rw [if_neg (show ¬ ((1 : Int) = 4) by decide), if_neg (show ¬ ((1 : Int) = 5) by decide), if_pos rfl]
    exact hpl
  · rfl
  · rfl
/-- what there is behind the second one -/
structure FpEnd (p q : Int) (t : FT) : Prop where
  one : t.S 1 = ⟨1, 500000000 + p * q, 0, 100000 - q, 0⟩
  two : t.S 2 = ⟨2, 500000000 - p * q, 0, 100000 + q, 0⟩
  last : t.last = p
  ev : ∃ x, t.ev = [⟨2, 0, 0, 0, x⟩]
theorem fp_two {p l q : Int} (h1 : 1 ≤ p) (hl : p ≤ l) (h2 : l ≤ 10000) (h3 : 1 ≤ q) (h4 : q ≤ 10000) : ∃ t, (fpF1 p q).run ⟨1, fpO2 l q, 0, 0⟩ = (0, t) ∧ FpEnd p q t := by
  have hS1 : fpS1 q 1 = ⟨1, 500000000, 0, 100000, q⟩ := upd_same _ _ _
  have hS2 : fpS1 q 2 = ⟨2, 500000000, 0, 100000, 0⟩ := by unfold fpS1; rw [upd_other (by omega)]; exact rich_at (k := 2) (by omega) (by omega)
  have b1 := prod_bd (a := l) (b := q) (by omega) h2 (by omega) h4
  have b2 := prod_bd (a := p) (b := q) (by omega) (by omega) (by omega) h4
  have e3 : (l - p) * q = l * q - p * q := Int.sub_mul _ _ _
  have b3 := prod_bd (a := l - p) (b := q) (by omega) (by omega) (by omega) h4
  have e1 := fp_err2 (p := l) (by omega) h2 h3 h4
  obtain ⟨A, hA⟩ : ∃ A, A = l * q := ⟨_, rfl⟩
  obtain ⟨B, hB⟩ : ∃ B, B = p * q := ⟨_, rfl⟩
  have hh : (fpF1 p q).open.hold (fpO2 l q) = (0, { (fpF1 p q).open with S := upd (fpS1 q) 2 ⟨2, 500000000, A, 100000, 0⟩ }) := by
    refine FT.hold_ok e1 ?_
    show holdP (fpS1 q) 2 (l * q) 0 = _
    rw [← hA] at b1 ⊢
    unfold holdP
    rw [if_pos (by simp [inb]; omega)]
    rw [show (2 : Int).toNat = 2 from rfl, hS2, if_neg (by dsimp only; omega)]
    dsimp only
    rw [show (0 : Int) + A = A by omega]
    rfl
  have htr : tradeP (upd (fpS1 q) 2 ⟨2, 500000000, A, 100000, 0⟩) 1 2 p q = (0, moved (upd (fpS1 q) 2 ⟨2, 500000000, A, 100000, 0⟩) 1 2 B q) := by
    unfold tradeP
    rw [if_pos (by simp [inb]; omega), ← hB]
    rw [show (2 : Int).toNat = 2 from rfl, show (1 : Int).toNat = 1 from rfl, upd_same, upd_other (by omega), hS1, if_neg (by dsimp only; omega), if_neg (by dsimp only; omega)]
  obtain ⟨S3, hS3⟩ : ∃ S, S = moved (upd (fpS1 q) 2 ⟨2, 500000000, A, 100000, 0⟩) 1 2 B q := ⟨_, rfl⟩
  have m1 : S3 1 = ⟨1, 500000000 + B, 0, 100000 - q, 0⟩ := by
    rw [hS3, moved_far (by omega)]
    simp [upd, hS1]
  have m2 : S3 2 = ⟨2, 500000000 - B, A - B, 100000 + q, 0⟩ := by
    rw [hS3, moved_far (by omega)]
    simp [upd]
  have hfr : freeP S3 2 ((l - p) * q) 0 = (0, upd S3 2 ⟨2, 500000000 - B, 0, 100000 + q, 0⟩) := by
    rw [e3, ← hA, ← hB]
    unfold freeP
    rw [if_pos (by simp [inb]; omega)]
    rw [show (2 : Int).toNat = 2 from rfl, m2, if_neg (by dsimp only; omega)]
    dsimp only
    rw [show A - B - (A - B) = 0 by omega]
    rfl
  have hc := FT.come_take (t := { (fpF1 p q).open with S := upd (fpS1 q) 2 ⟨2, 500000000, A, 100000, 0⟩ }) (o := fpO2 l q) (p := p) (r := ⟨1, 1, q, 0, 0⟩) (K := []) rfl (.inl rfl) rfl rfl rfl (show ¬ ((1 : Int) = 2 ∧ (1 : Int) ≠ 0) by decide) (by show may ⟨2, 2, 1, 1, l, q, 0, 0⟩ p = true; simp [may]; omega) (by show 0 < q; omega) (by show (vp p && inb q 1 10000) = true; simp [vp, inb]; omega)
    (by rw [← hS3] at htr; exact htr) (IntWalk.wrap64_in _ (by show -9223372036854775808 ≤ (l - p) * q ∧ (l - p) * q ≤ 9223372036854775807; omega)) hfr
  have hpl := FT.place_come (t := (fpF1 p q).open) e1 rfl (show whereI [] _ < 0 by rw [whereI_nil]; decide) hh rfl hc
  refine ⟨_, FS.run_still (t := ?_) ?_ ?_ ?_, ?_⟩
  rotate_left
  · show FT.act _ _ = _
    unfold FT.act
    rw [if_neg (show ¬ ((1 : Int) = 4) by decide), if_neg (show ¬ ((1 : Int) = 5) by decide), if_pos rfl]
    exact hpl
  · rfl
  · show vp p = true
    simp [vp, inb]; omega
  · refine ⟨?_, ?_, rfl, _, rfl⟩
    · show upd S3 2 ⟨2, 500000000 - B, 0, 100000 + q, 0⟩ 1 = _
      rw [upd_other (by omega), m1, hB]
    · show upd S3 2 ⟨2, 500000000 - B, 0, 100000 + q, 0⟩ 2 = _
      rw [upd_same, hB]
end Go.Proofs.YtkdgpdijbobmkaaGreat
