/- Levels that read, none of whose cells lies in block g. -/
import Derived.Test.YtkdgpdijbobmkaaGreatGrpJ
import Derived.Test.YtkdgpdijbobmkaaGreatGrpG
namespace Go.Proofs.YtkdgpdijbobmkaaGreat
set_option linter.all false
open Go Go.RowKit
def LvO (g : Nat) (w : World) (A : Option Addr) (L : List Lv) : Prop := ∃ xs, LP (fun k => k ≠ g) w A L xs
section
variable {g B base cap : Nat} {w w1 : World} {A : Option Addr} {L : List Lv} {vs : List (Option Addr × Nat)}
theorem LvO.rd (h : LvO g w A L) : RdLv w w.heap.size A L := by obtain ⟨xs, h⟩ := h; exact h.lv
theorem LvO.below (h : LvO g w A L) (hb : Below w.heap.size w w1) : LvO g w1 A L := by obtain ⟨xs, h⟩ := h; exact ⟨xs, h.on (Kp.below hb)⟩
theorem LvO.far {p : Addr} (h : LvO g w A L) (hp : p.block = g) (u : Value) : LvO g (w.setCell p u) A L := by
  obtain ⟨xs, h⟩ := h
  exact ⟨xs, h.on ⟨by simp, fun k hk _ => ⟨Below.heap_setCell w p u k (fun e => hk (by rw [e, hp])), hk⟩⟩⟩
theorem LvO.nil (A : Option Addr) : LvO g w A [] := ⟨[], fun h => absurd h (by simp), LC.nil⟩
theorem LvO.of_lv (h : RdLv w B A L) (hB : B ≤ w.heap.size) (hg : B ≤ g) : LvO g w A L := LP.of_lv h hB (fun k hk => by show k ≠ g; omega)
theorem LC.of_lvs {P : Nat → Prop} {rows' : List (Option Addr × Nat)} (hlen : rows'.length = L.length) (each : ∀ (i : Nat) (x : Lv) (v : Option Addr × Nat), L[i]? = some x → rows'[i]? = some v → OwnS w base 5 v.1 x.rs.length v.2 (rows x.rs)) (hP : ∀ k, base ≤ k → P k) : LC P w L (lvCells L rows') := by
  refine ⟨by rw [lvCells_len hlen], fun i x hx => ?_⟩
  have hi := (List.getElem?_eq_some_iff.1 hx).1
  have hv : rows'[i]? = some (rows'[i]'(by omega)) := List.getElem?_eq_getElem (by omega)
  have ho := each i x _ hx hv
  obtain ⟨c0, c1⟩ := lvCells_get hx hv
  exact ⟨c0, _, _, c1, ho.le, ho.max, RP.of_own ho hP⟩
theorem LvO.of_own (h : OwnLv w base A cap L vs) (hg : g < base) : LvO g w A L :=
  ⟨_, LP.of_own h.own (LC.of_lvs h.len (fun i x v hx hv => (h.each i x v hx hv).1) (fun k hk => by show k ≠ g; omega)) rfl (fun k hk => by show k ≠ g; omega)⟩
end
end Go.Proofs.YtkdgpdijbobmkaaGreat
