/- The contracts of package wire: Command, Pay and Give. -/
import Derived.Test.YtkdgpdijbobmkaaGreatDoorWire3
import Derived.Test.YtkdgpdijbobmkaaGreatDoorWireStr
namespace Go.Proofs.YtkdgpdijbobmkaaGreatDoor
set_option linter.all false
open Go.RowKit
theorem byte_info : (Tryz.prog.info? 5).map (fun i => (i.zero, i.size, i.bytes)) = some (some (.int .u8 0), 1, 1) := by kernel_rfl
/-- a command as bytes: what Command ends with -/
def CmdPost (bs : List Int) (w : World) (e : Ending) (w' : World) : Prop :=
  e = .returned (.tuple #[.string (strOf (bs ++ [bs.sum % 251])), .nilIface]) ∧ Below w.heap.size w w'
theorem sum_take {bs : List Int} {q : Nat} {x : Int} (h : bs[q]? = some x) : (bs.take (q + 1)).sum = (bs.take q).sum + x := by
  rw [List.take_add_one, h]; simp
theorem sum_bounds {bs : List Int} (h : ∀ x ∈ bs, 0 ≤ x ∧ x ≤ 255) : 0 ≤ bs.sum ∧ bs.sum ≤ 255 * bs.length := by
  induction bs with
  | nil => simp
  | cons x bs ih =>
    have h1 := ih fun y hy => h y (List.mem_cons_of_mem _ hy)
    have h2 := h x List.mem_cons_self
    rw [List.sum_cons, List.length_cons]
    omega
set_option maxHeartbeats 1000000 in
set_option maxRecDepth 100000 in
theorem wcommand_pay (k : Int) (hk : k = 4 ∨ k = 5) (who n : Int) (bs : List Int) (hbs : bs = [k, who, n / 16777216, n / 65536 % 256, n / 256 % 256, n % 256]) (h1 : 1 ≤ who ∧ who ≤ 9) (h2 : 1 ≤ n ∧ n ≤ 1000000000) (w : World)
    (cC : ∀ w, Calls Tryz.prog 71 #[.agg #[.int .i64 k, .int .i64 0, .int .i64 0, .int .i64 0, .int .i64 0, .int .i64 0, .int .i64 0, .int .i64 0, .int .i64 0, .int .i64 who, .int .i64 n]] w fun e w' => e = .returned .nilIface ∧ Below w.heap.size w w') :
    Calls Tryz.prog 102 #[.agg #[.int .i64 k, .int .i64 0, .int .i64 0, .int .i64 0, .int .i64 0, .int .i64 0, .int .i64 0, .int .i64 0, .int .i64 0, .int .i64 who, .int .i64 n]] w (CmdPost bs w) := by
  obtain ⟨i0, hi, hz0, hz1, hz2⟩ := info_parts byte_info
  have hr : ∀ x ∈ bs, 0 ≤ x ∧ x ≤ 255 := by
    rw [hbs]
    simp only [List.mem_cons, List.not_mem_nil, or_false, forall_eq_or_imp, forall_eq]
    omega
  have hlen : bs.length = 6 := by rw [hbs]; rfl
  rcases hk with rfl | rfl
  all_goals
    have HBS := Lib.hid hbs
    clear hbs
    go_enter Tryz.func102, Tryz.ntmps102
    go_wp2_with (first | (go_at_call 71; (with_reducible refine (cC _).mono ?_); rintro e w1 ⟨rfl, hb1⟩; obtain ⟨z0, z1, z2⟩ := held_new (by simpa using hb1); (have e0 := z1 0); (have e9 := z1 9); (have e10 := z1 10)) | (at_builtin; go_loud (refine wpList_append_own _ rfl _ _ 170 rfl w.heap.size 5 i0 (.int .u8 0) 1 1 Tryz.underlying170 hi hz0 hz1 hz2 rfl (by decide) _ 1 _ rfl ((World.ownsRow_lit w1 _ 1 z2.size (by decide) rfl).alloc _) ⟨w1.heap.size + 1, 0, none⟩ 5 5 (u8s [who, n / 16777216, n / 65536 % 256, n / 256 % 256, n % 256]) rfl rfl (news_row _ _ _ _ (by simp)) (u8s_one _) (by decide) (by omega) (by have := z2.size; simp; omega) ?_); intro v1 w2 hown1 hg1 hnil; go_loud (have hbw : Below w.heap.size w w2 := Below.grown (by (repeat (first | exact Below.refl _ _ | assumption | (refine below_then (by assumption) ?_) | (refine below_then_alloc ?_) | (refine Below.drew ?_)))) hg1 (by have := z2.size; simp; omega) (fun _ hk => by cases hk; exact z2.size)); go_loud (have hown : w2.ownsRow w.heap.size 5 1 v1 6 (u8s bs) := by { rw [HBS.out]; exact hown1 }); go_loud (clear hown1 hg1 hnil; obtain ⟨g, cap, hv⟩ : ∃ g cap, v1 = .slice (some ⟨g, 0, none⟩) 6 cap := by { obtain ⟨g, cap, h, _⟩ := hown.form (by omega); exact ⟨g, cap, h⟩ }; rw [hv]; rw [hv] at hown)))
    clear HBS cC hb1 z0 z1 z2 e0 e9 e10
    go_loopw [8, 70] (fun s i wr => ∃ q : Nat, q ≤ 6 ∧ i = .int .i64 q ∧ s = .int .i64 (bs.take q).sum ∧ Below w2.heap.size w2 wr) (fun _ i _ => 6 - (intOf i).toNat)
    case atStart => exact ⟨0, by omega, rfl, by simp, Below.refl _ _⟩
    case round =>
      obtain ⟨q, hq, rfl, rfl, hb⟩ := hrel
      have hsb := sum_bounds (bs := bs.take q) fun x hx => hr x (List.mem_of_mem_take hx)
      have hsl : (bs.take q).length ≤ 6 := by rw [List.length_take, hlen]; omega
      by_cases hlt : q < 6
      · obtain ⟨x, hx⟩ : ∃ x, bs[q]? = some x := ⟨bs[q], by simp [hlen, hlt]⟩
        have hxr := hr x (List.mem_of_getElem? hx)
        have hcell : wr.cell? ⟨g, q, none⟩ = some (.int .u8 x) := by
          rw [hb.cell (p := ⟨g, q, none⟩) (hown.lt g rfl).2, hown.cellAt q (by omega), u8s, List.getElem?_map, hx]; rfl
        generalize hS : (bs.take q).sum = S at *
        have HS := Lib.hid hS; clear hS
        clear hr hown
        go_wp2
        go_roundw
        case rel =>
          refine ⟨q + 1, by omega, by go_num, ?_, hb⟩
          rw [sum_take hx, HS.out]
        case measure => simp [intOf]; omega
      · obtain rfl : q = 6 := by omega
        have hS : bs.take 6 = bs := List.take_of_length_le (by omega)
        rw [hS] at hsb hsl
        rw [hS]
        have hown' := own_below hown hb
        clear hS
        generalize hS : bs.sum = S at *
        have HS := Lib.hid hS; clear hS
        have hbr : Below w.heap.size w wr := hbw.trans (hb.mono hbw.size)
        go_wp2_with (first | (at_builtin; go_loud (refine wpList_append_own _ rfl _ _ 170 rfl w.heap.size 5 i0 (.int .u8 0) 1 1 Tryz.underlying170 hi hz0 hz1 hz2 rfl (by decide) _ 6 _ rfl (hown'.alloc _) ⟨wr.heap.size, 0, none⟩ 1 1 (u8s [S % 251]) rfl rfl (news_row _ _ _ _ rfl) (u8s_one _) (by decide) (by omega) (by have := hbr.size; simp; omega) ?_); intro v3 w3 hown3 hg3 hnil3; go_loud (have hst := own_string (bs := bs ++ [S % 251]) (by rw [u8s_app]; exact hown3) (by decide)); go_loud (have hb3 : Below w.heap.size w w3 := Below.grown (hbr.alloc hbr.size _) hg3 (by have := hbr.size; simp; omega) (fun _ hk => (hown'.lt _ hk).1))))
        go_ret2
        refine ⟨?_, hb3⟩
        rw [HS.out]
        rfl
end Go.Proofs.YtkdgpdijbobmkaaGreatDoor
