/- string(b) of a row of bytes of the call's own. -/
import Derived.Test.YtkdgpdijbobmkaaGreatGrpA
import Derived.Laws.BytesString
namespace Go.Proofs.YtkdgpdijbobmkaaGreat
set_option linter.all false
open Go.RowKit
/-- numbers as bytes -/
def strOf (bs : List Int) : ByteArray := bs.foldl (fun r n => r.push (UInt8.ofNat n.toNat)) ByteArray.empty
/-- bytes as cells -/
def u8s (bs : List Int) : List Value := bs.map (Value.int .u8)
theorem u8s_len (bs : List Int) : (u8s bs).length = bs.length := by simp [u8s]
theorem u8s_app (a b : List Int) : u8s (a ++ b) = u8s a ++ u8s b := by simp [u8s]
theorem u8s_one (bs : List Int) : ∀ u ∈ u8s bs, u.oneCell' = true := by
  intro u hu
  obtain ⟨n, _, rfl⟩ := List.mem_map.1 hu
  rfl
theorem strOf_push (bs : List Int) : ∀ r : ByteArray, (bs.foldl (fun r n => r.push (UInt8.ofNat n.toNat)) r).size = r.size + bs.length := by
  induction bs with
  | nil => intro r; simp
  | cons x bs ih => intro r; rw [List.foldl_cons, ih, ByteArray.size_push, List.length_cons]; omega
theorem strOf_size (bs : List Int) : (strOf bs).size = bs.length := by
  rw [strOf, strOf_push]; simp
end Go.Proofs.YtkdgpdijbobmkaaGreat
