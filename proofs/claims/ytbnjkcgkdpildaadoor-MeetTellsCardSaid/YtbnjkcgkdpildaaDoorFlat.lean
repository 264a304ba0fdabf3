/- The contracts of the reference's Flat, Of. -/
import Derived.Test.YtbnjkcgkdpildaaDoorRWithout
import Derived.Test.YtbnjkcgkdpildaaDoorGrpF
namespace Go.Proofs.YtbnjkcgkdpildaaDoor
set_option linter.all false
open Go Go.RowKit
/-- all rests of levels -/
def flatL (L : List Lv) : List Rest := L.flatMap fun x => x.rs
theorem flatL_len (L : List Lv) : (flatL L).length = cnt L := by simp [flatL, cnt, List.length_flatMap]
theorem flatL_take {L : List Lv} {k : Nat} {x : Lv} (h : L[k]? = some x) : flatL (L.take (k + 1)) = flatL (L.take k) ++ x.rs := by
  rw [List.take_add_one, h]; simp [flatL]
theorem flatL_ids (L : List Lv) : (flatL L).map Rest.id = ids L := by simp [flatL, ids, List.map_flatMap]
set_option maxRecDepth 100000 in
set_option maxHeartbeats 2000000 in
theorem rflat_any (L : List Lv) (A : Option Addr) (c : Nat) (w : World) (hr : RdLv w w.heap.size A L) (hL : L.length ≤ maxLen) (hc : cnt L ≤ 1000000) :
    Calls Tryd.prog 89 #[.slice A L.length c] w (NewRests (flatL L) w) := by
  have HR := Lib.hid hr
  unfold maxLen at hL
  clear hr
  obtain ⟨i0, hi0, hz0, hz1, hz2⟩ := info_parts info_rest
  have HI := Lib.hid hi0; have H0 := Lib.hid hz0; have H1 := Lib.hid hz1; have H2 := Lib.hid hz2
  clear hi0 hz0 hz1 hz2
  go_enter Tryd.func89, Tryd.ntmps89
  go_wp2
  go_loopw [3, 4] (fun s i wr => ∃ (k : Nat) (Ao : Option Addr) (co : Nat), k ≤ L.length ∧ i = .int .i64 k ∧ s = .slice Ao (cnt (L.take k)) co ∧ Hid (OwnS wr w.heap.size 5 Ao (cnt (L.take k)) co (rows (flatL (L.take k)))) ∧ Below w.heap.size w wr) (fun _ i _ => L.length - (intOf i).toNat)
  case atStart => exact ⟨0, none, 0, by omega, rfl, rfl, Lib.hid (OwnS.nil _ _ _ _), Below.refl _ _⟩
  case round =>
    obtain ⟨k, Ao, co, hk, rfl, rfl, ho, hb⟩ := hrel
    by_cases hlt : k < L.length
    · obtain ⟨b, off, x, Ar, cr, rfl, hbl, hx, e0, e1, _, _, g3⟩ := lv_at (HR.out.below hb) hlt
      have hs := cnt_take hx
      have hle := cnt_le L (k + 1)
      rw [hs] at hle
      have HS := Lib.hid hs
      have HF := Lib.hid (show rows (flatL (L.take (k + 1))) = rows (flatL (L.take k)) ++ rows x.rs by rw [flatL_take hx, rows_app])
      have hsrc := Lib.hid (src_rests (c := cr) g3 (fun h => by
        rcases Nat.eq_zero_or_pos x.rs.length with h0 | h0
        · exact h0
        · obtain ⟨_, _, e, _⟩ := g3 h0
          rw [h] at e; cases e))
      clear hs hx g3 e0
      generalize cnt (L.take k) = a at *
      generalize rows (flatL (L.take k)) = xs at *
      have hj0 : (0 : Int) ≤ (k : Int) := by omega
      have hj1 : (k : Int) < (L.length : Int) := by omega
      go_wp2_with (at_builtin; go_loud (refine wpList_append_S (base := w.heap.size) (s := 5) (n := a) rfl _ _ _ _ rfl 23 i0 _ 40 Tryd.underlying24 HI.out H0.out H1.out H2.out rfl rfl ho.out hb.size _ rfl x.rs.length (rows x.rs) hsrc.out (by unfold maxLen; omega) (by omega) ?_); intro A1 c1 w1 gr1)
      go_roundw
      case rel => exact ⟨k + 1, A1, c1, by omega, by go_num, by rw [HS.out], Lib.hid (by rw [HS.out, HF.out]; exact gr1.own), hb.grown gr1.grown hb.size (fun k hk => (ho.out.row_lt k hk).1)⟩
      case measure => simp [intOf]; omega
    · obtain rfl : k = L.length := by omega
      rw [List.take_length] at ho ⊢
      have HC := Lib.hid (flatL_len L)
      go_wp2
      go_ret
      exact ⟨Ao, co, by rw [HC.out]; rfl, by rw [HC.out]; exact ho.out, hb⟩
theorem rof_any (v1 v2 : Value) (s : Int) (A1 A2 : Option Addr) (n1 n2 c1 c2 : Nat) (w : World) :
    Calls Tryd.prog 19 #[.agg #[.slice A1 n1 c1, .slice A2 n2 c2], .int .i64 s] w fun e w' => e = .returned (if s = 1 then .slice A1 n1 c1 else .slice A2 n2 c2) ∧ Below w.heap.size w w' := by
  by_cases h : s = 1
  · rw [if_pos h]
    subst h
    go_enter Tryd.func19, Tryd.ntmps19
    go_wp2
    go_ret
    exact ⟨rfl, (Below.refl _ _).alloc (Nat.le_refl _) _⟩
  · rw [if_neg h]
    have h1 : (s == 1) = false := by simpa using h
    clear h
    go_enter Tryd.func19, Tryd.ntmps19
    go_wp2
    go_ret
    exact ⟨rfl, (Below.refl _ _).alloc (Nat.le_refl _) _⟩
end Go.Proofs.YtbnjkcgkdpildaaDoor
