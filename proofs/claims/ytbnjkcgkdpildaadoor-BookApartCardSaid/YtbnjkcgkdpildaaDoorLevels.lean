/- Levels of a side, as they lie in memory. -/
import Derived.Test.YtbnjkcgkdpildaaDoorQueue3
namespace Go.Proofs.YtbnjkcgkdpildaaDoor
set_option linter.all false
open Go Go.RowKit
structure Lv where
  price : Int
  rs : List Rest
  deriving DecidableEq
/-- a slice of levels reads as L: all of it below block B -/
def RdLv (w : World) (B : Nat) (A : Option Addr) (L : List Lv) : Prop :=
  0 < L.length → ∃ b off, A = some ⟨b, off, none⟩ ∧ b < B ∧ ∀ i x, L[i]? = some x → w.cell? ⟨b, off + i * 2, none⟩ = some (.int .i64 x.price) ∧
    ∃ Ar cr, w.cell? ⟨b, off + i * 2 + 1, none⟩ = some (.slice Ar x.rs.length cr) ∧ x.rs.length ≤ cr ∧ cr ≤ maxLen ∧ Rd w B Ar x.rs.length 5 (rcell x.rs)
section
variable {w w' : World} {B B' : Nat} {A : Option Addr} {L : List Lv}
theorem RdLv.nil : RdLv w B A [] := fun h => absurd h (by simp)
theorem RdLv.more (h : RdLv w B A L) (hB : B ≤ B') : RdLv w B' A L := fun hn => by
  obtain ⟨b, off, e, hb, hc⟩ := h hn
  refine ⟨b, off, e, by omega, fun i x hx => ?_⟩
  obtain ⟨h1, Ar, cr, h2, h3, h4, h5⟩ := hc i x hx
  exact ⟨h1, Ar, cr, h2, h3, h4, h5.more hB⟩
theorem RdLv.below (h : RdLv w B A L) (hb : Below B w w') : RdLv w' B A L := fun hn => by
  obtain ⟨b, off, e, hbl, hc⟩ := h hn
  refine ⟨b, off, e, hbl, fun i x hx => ?_⟩
  obtain ⟨h1, Ar, cr, h2, h3, h4, h5⟩ := hc i x hx
  exact ⟨(hb.cell (p := ⟨b, _, none⟩) hbl).trans h1, Ar, cr, (hb.cell (p := ⟨b, _, none⟩) hbl).trans h2, h3, h4, h5.below hb⟩
theorem RdLv.on (h : RdLv w w.heap.size A L) (hb : Below w.heap.size w w') : RdLv w' w'.heap.size A L := (h.below hb).more hb.size
theorem lv_at (hr : RdLv w B A L) {k : Nat} (hk : k < L.length) :
    ∃ b off x Ar cr, A = some ⟨b, off, none⟩ ∧ b < B ∧ L[k]? = some x ∧ w.cell? ⟨b, off + k * 2, none⟩ = some (.int .i64 x.price) ∧ w.cell? ⟨b, off + k * 2 + 1, none⟩ = some (.slice Ar x.rs.length cr) ∧ x.rs.length ≤ cr ∧ cr ≤ maxLen ∧ Rd w B Ar x.rs.length 5 (rcell x.rs) := by
  obtain ⟨b, off, e, hb, hc⟩ := hr (by omega)
  obtain ⟨h1, Ar, cr, h2, h3, h4, h5⟩ := hc k L[k] (List.getElem?_eq_getElem hk)
  exact ⟨b, off, L[k], Ar, cr, e, hb, List.getElem?_eq_getElem hk, h1, h2, h3, h4, h5⟩
end
/-- how many rests -/
def cnt (L : List Lv) : Nat := (L.map fun x => x.rs.length).sum
/-- their ids -/
def ids (L : List Lv) : List Int := L.flatMap fun x => x.rs.map Rest.id
theorem cnt_take {L : List Lv} {k : Nat} {x : Lv} (h : L[k]? = some x) : cnt (L.take (k + 1)) = cnt (L.take k) + x.rs.length := by
  rw [List.take_add_one, h]; simp [cnt]
theorem cnt_le (L : List Lv) (k : Nat) : cnt (L.take k) ≤ cnt L := by
  have : cnt L = cnt (L.take k) + cnt (L.drop k) := by
    unfold cnt
    rw [← List.sum_append, ← List.map_append, List.take_append_drop]
  omega
theorem ids_take {L : List Lv} {k : Nat} {x : Lv} (h : L[k]? = some x) : ids (L.take (k + 1)) = ids (L.take k) ++ x.rs.map Rest.id := by
  rw [List.take_add_one, h]; simp [ids]
theorem ids_len (L : List Lv) : (ids L).length = cnt L := by simp [ids, cnt, List.length_flatMap]
/-- the first id that is there twice -/
def twice : List Int → List Int → Bool
  | _, [] => false
  | seen, x :: r => seen.contains x || twice (seen ++ [x]) r
set_option maxHeartbeats 1000000 in
theorem count_any (L : List Lv) (A : Option Addr) (c : Nat) (w : World) (hr : RdLv w w.heap.size A L) (hL : L.length ≤ maxLen) (hc : cnt L ≤ maxLen) :
    Calls Tryd.prog 35 #[.slice A L.length c] w fun e w' => e = .returned (.int .i64 (cnt L)) ∧ Below w.heap.size w w' := by
  have HR := Lib.hid hr
  unfold maxLen at hL hc
  clear hr
  go_enter Tryd.func35, Tryd.ntmps35
  go_wp2
  go_loopw [3, 8] (fun n i wr => ∃ k : Nat, k ≤ L.length ∧ i = .int .i64 k ∧ n = .int .i64 (cnt (L.take k)) ∧ Below w.heap.size w wr) (fun _ i _ => L.length - (intOf i).toNat)
  case atStart => exact ⟨0, by omega, rfl, rfl, Below.refl _ _⟩
  case round =>
    obtain ⟨k, hk, rfl, rfl, hb⟩ := hrel
    by_cases hlt : k < L.length
    · obtain ⟨b, off, x, Ar, cr, rfl, hbl, hx, e0, e1, _, _, _⟩ := lv_at (HR.out.below hb) hlt
      have hs := cnt_take hx
      have hle := cnt_le L (k + 1)
      rw [hs] at hle
      have HS := Lib.hid hs
      clear hs hx
      generalize cnt (L.take k) = a at *
      generalize x.rs.length = m at *
      have x3 : IntKind.i64.wrap ((a : Int) + (m : Int)) = (a : Int) + (m : Int) := IntWalk.i64_in _ (by omega)
      go_wp2
      go_roundw
      case rel => exact ⟨k + 1, by omega, by go_num, by rw [HS.out]; simp, below_then_alloc hb⟩
      case measure => simp [intOf]; omega
    · obtain rfl : k = L.length := by omega
      rw [List.take_length]
      go_wp2
      go_ret
      exact ⟨rfl, hb⟩
end Go.Proofs.YtbnjkcgkdpildaaDoor
