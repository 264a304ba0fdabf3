/- string(b) of a row of bytes of the call's own. -/
import Derived.Test.YtkdgpdijbobmkaaGreatDoorGrpA
import Derived.Laws.BytesString
namespace Go.Proofs.YtkdgpdijbobmkaaGreatDoor
set_option linter.all false
open Go.RowKit
/-- numbers as bytes -/
def strOf (bs : List Int) : ByteArray := bs.foldl (fun r n => r.push (UInt8.ofNat n.toNat)) ByteArray.empty
/-- bytes as cells -/
def u8s (bs : List Int) : List Value := bs.map (Value.int .u8)
theorem u8s_len (bs : List Int) : (u8s bs).length = bs.length := by simp [u8s]
theorem u8s_app (a b : List Int) : u8s (a ++ b) = u8s a ++ u8s b := by simp [u8s]
theorem u8s_one (bs : List Int) : ∀ u ∈ u8s bs, u.oneCell' = true := by
  intro u hu
  obtain ⟨n, _, rfl⟩ := List.mem_map.1 hu
  rfl
theorem strOf_push (bs : List Int) : ∀ r : ByteArray, (bs.foldl (fun r n => r.push (UInt8.ofNat n.toNat)) r).size = r.size + bs.length := by
  induction bs with
  | nil => intro r; simp
  | cons x bs ih => intro r; rw [List.foldl_cons, ih, ByteArray.size_push, List.length_cons]; omega
theorem strOf_size (bs : List Int) : (strOf bs).size = bs.length := by
  rw [strOf, strOf_push]; simp
theorem own_string {w : World} {base n : Nat} {v : Value} {bs : List Int} (h : w.ownsRow base 5 1 v n (u8s bs)) (hn : 0 < n) :
    (convert 170 9 v).run Tryz.prog w = .ok (.string (strOf bs)) w := by
  obtain ⟨g, cap, rfl, _⟩ := h.form hn
  rw [run_convert_bytes_string w _ _ 5 _ _ _ (by kernel_rfl) (by kernel_rfl) (by kernel_rfl)]
  refine run_bytesToString w _ _ _ bs ?_
  have hl : n = (u8s bs).length := by have := h.1; omega
  have hc := run_loadCells_list (P := Tryz.prog) (w := w) ⟨g, 0, none⟩ (u8s bs) fun j u hu => h.cells (g := g) rfl j u hu
  rw [← hl] at hc
  exact hc
end Go.Proofs.YtkdgpdijbobmkaaGreatDoor
