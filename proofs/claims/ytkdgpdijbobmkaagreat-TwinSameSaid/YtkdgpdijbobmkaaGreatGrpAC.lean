/- Slices of commands: what they read; are two the same. -/
import Derived.Test.YtkdgpdijbobmkaaGreatGrpAA
import Derived.Test.YtkdgpdijbobmkaaGreatGrpC
import Derived.Test.YtkdgpdijbobmkaaGreatWireR
import Derived.Deep.QuietTactic
import Derived.BigQuiet
namespace Go.Proofs.YtkdgpdijbobmkaaGreat
set_option linter.all false
open Go Go.RowKit
def Cmd.vals (c : Cmd) : List Value := [.int .i64 c.what, .int .i64 c.o.id, .int .i64 c.o.who, .int .i64 c.o.side, .int .i64 c.o.kind, .int .i64 c.o.price, .int .i64 c.o.qty, .int .i64 c.o.show_, .int .i64 c.o.stop, .int .i64 c.who, .int .i64 c.n]
theorem Cmd.vals_len (c : Cmd) : c.vals.length = 11 := rfl
theorem Cmd.vals_one (c : Cmd) : ∀ u ∈ c.vals, u.oneCell' = true := by
  intro u hu
  simp only [Cmd.vals, List.mem_cons, List.not_mem_nil, or_false] at hu
  rcases hu with rfl | rfl | rfl | rfl | rfl | rfl | rfl | rfl | rfl | rfl | rfl <;> rfl
/-- cell j of command i -/
def ccell (l : List Cmd) (i j : Nat) : Value := ((l.getD i cmd0).vals)[j]?.getD undef
theorem cmd_at {l : List Cmd} {w : World} {B k : Nat} {A : Option Addr} (hr : Rd w B A l.length 11 (ccell l)) (hk : k < l.length) :
    ∃ b off t, A = some ⟨b, off, none⟩ ∧ b < B ∧ l[k]? = some t ∧ w.cell? ⟨b, off + k * 11, none⟩ = some (.int .i64 t.what) ∧ w.cell? ⟨b, off + k * 11 + 1, none⟩ = some (.int .i64 t.o.id) ∧ w.cell? ⟨b, off + k * 11 + 2, none⟩ = some (.int .i64 t.o.who) ∧ w.cell? ⟨b, off + k * 11 + 3, none⟩ = some (.int .i64 t.o.side) ∧ w.cell? ⟨b, off + k * 11 + 4, none⟩ = some (.int .i64 t.o.kind) ∧ w.cell? ⟨b, off + k * 11 + 5, none⟩ = some (.int .i64 t.o.price) ∧ w.cell? ⟨b, off + k * 11 + 6, none⟩ = some (.int .i64 t.o.qty) ∧ w.cell? ⟨b, off + k * 11 + 7, none⟩ = some (.int .i64 t.o.show_) ∧ w.cell? ⟨b, off + k * 11 + 8, none⟩ = some (.int .i64 t.o.stop) ∧ w.cell? ⟨b, off + k * 11 + 9, none⟩ = some (.int .i64 t.who) ∧ w.cell? ⟨b, off + k * 11 + 10, none⟩ = some (.int .i64 t.n) := by
  obtain ⟨b, off, e, hb, hc⟩ := hr (by omega)
  have hg : l.getD k cmd0 = l[k] := by simp [hk]
  have h := hc k hk
  have h0 := h 0 (by omega); have h1 := h 1 (by omega); have h2 := h 2 (by omega); have h3 := h 3 (by omega); have h4 := h 4 (by omega); have h5 := h 5 (by omega); have h6 := h 6 (by omega); have h7 := h 7 (by omega); have h8 := h 8 (by omega); have h9 := h 9 (by omega); have h10 := h 10 (by omega)
  simp only [ccell, hg, Cmd.vals] at h0 h1 h2 h3 h4 h5 h6 h7 h8 h9 h10
  exact ⟨b, off, l[k], e, hb, List.getElem?_eq_getElem hk, h0, h1, h2, h3, h4, h5, h6, h7, h8, h9, h10⟩
def cmds (l : List Cmd) : List Value := l.flatMap Cmd.vals
theorem cmds_len (l : List Cmd) : (cmds l).length = l.length * 11 := flat_len (fun r => r.vals_len) l
theorem cmds_get {l : List Cmd} {i j : Nat} (hi : i < l.length) (hj : j < 11) : (cmds l)[i * 11 + j]? = some (ccell l i j) := by
  rw [cmds, flat_get (fun r => r.vals_len) (List.getElem?_eq_getElem hi) hj]
  have hg : l.getD i cmd0 = l[i] := by simp [hi]
  simp only [ccell, hg]
  rw [List.getElem?_eq_getElem (by rw [Cmd.vals_len]; exact hj)]
  rfl
theorem cmds_one (l : List Cmd) : ∀ u ∈ cmds l, u.oneCell' = true := flat_all (fun r u hu => r.vals_one u hu) l
theorem cmds_cons (r : Cmd) (t : List Cmd) : cmds (r :: t) = r.vals ++ cmds t := rfl
theorem cmds_app (a b : List Cmd) : cmds (a ++ b) = cmds a ++ cmds b := List.flatMap_append
theorem info_cmd : (Tryz.prog.info? 34).map (fun i => (i.zero, i.size, i.bytes)) = some (some (.agg #[.int .i64 0, .int .i64 0, .int .i64 0, .int .i64 0, .int .i64 0, .int .i64 0, .int .i64 0, .int .i64 0, .int .i64 0, .int .i64 0, .int .i64 0]), 11, 88) := by kernel_rfl
theorem OwnS.rdC {w : World} {base cap : Nat} {A : Option Addr} {l : List Cmd} (h : OwnS w base 11 A l.length cap (cmds l)) : Rd w w.heap.size A l.length 11 (ccell l) := h.rd (fun i j hi hj => cmds_get hi hj)
end Go.Proofs.YtkdgpdijbobmkaaGreat
