/- The contracts of package wire: Command, Place, Cancel and Swap. -/
import Derived.Test.YtkdgpdijbobmkaaGreatDoorWire4
namespace Go.Proofs.YtkdgpdijbobmkaaGreatDoor
set_option linter.all false
open Go.RowKit
theorem Bk.ne_own {w : World} {g base s n : Nat} {t e : TypeId} {cs : Array Value} {v : Value} {xs : List Value} (h : Bk w g t cs) (ho : w.ownsRow base e s v n xs) (hte : t ≠ e) : some g ≠ v.ownBlock := by
  intro he
  rcases ho.2 with ⟨rfl, _⟩ | ⟨g', cap, cur, rfl, _, hh, _⟩
  · cases he
  · cases he
    unfold Bk at h
    rw [h] at hh
    cases hh
    exact hte rfl
/-- the bytes of numbers of two bytes -/
def duo (xs : List Int) : List Int := xs.flatMap fun x => [x / 256, x % 256]
theorem duo_snoc {xs : List Int} {q : Nat} {x : Int} (h : xs[q]? = some x) : duo (xs.take (q + 1)) = duo (xs.take q) ++ [x / 256, x % 256] := by
  rw [List.take_add_one, h]; simp [duo]
theorem duo_len (xs : List Int) : (duo xs).length = 2 * xs.length := by
  induction xs with
  | nil => rfl
  | cons x xs ih => simp only [duo, List.flatMap_cons, List.length_append, List.length_cons, List.length_nil] at *; omega
theorem duo_in {xs : List Int} (h : ∀ x ∈ xs, 0 ≤ x ∧ x ≤ 65535) : ∀ x ∈ duo xs, 0 ≤ x ∧ x ≤ 255 := by
  intro y hy
  obtain ⟨x, hx, hy⟩ := List.mem_flatMap.1 hy
  have := h x hx
  simp only [List.mem_cons, List.not_mem_nil, or_false] at hy
  omega
theorem u8_wrap2 (x : Int) : IntKind.u8.wrap x = x % 256 := by
  first | rfl | simp [IntKind.wrap]
theorem u8_wrap1 {x : Int} (h : 0 ≤ x ∧ x ≤ 65535) : IntKind.u8.wrap (x / 256) = x / 256 := by
  rw [u8_wrap2]; omega
set_option maxHeartbeats 2000000 in
set_option maxRecDepth 100000 in
theorem wcommand_fields (k : Int) (hk : k = 1 ∨ k = 2 ∨ k = 3) (c0 c1 c2 c3 c4 c5 c6 c7 c8 c9 : Int) (xs : List Int) (m : Nat) (hm : m ≤ 8) (hxm : xs.length = m) (hom : (fieldOffs k).length = m)
    (hr : ∀ x ∈ xs, 0 ≤ x ∧ x ≤ 65535)
    (hx : ∀ q, q < m → ∃ o x, (fieldOffs k)[q]? = some o ∧ xs[q]? = some x ∧ (#[.int .i64 k, .int .i64 c0, .int .i64 c1, .int .i64 c2, .int .i64 c3, .int .i64 c4, .int .i64 c5, .int .i64 c6, .int .i64 c7, .int .i64 c8, .int .i64 c9] : Array Value)[o]? = some (.int .i64 x)) (w : World)
    (cC : ∀ w, Calls Tryz.prog 71 #[.agg #[.int .i64 k, .int .i64 c0, .int .i64 c1, .int .i64 c2, .int .i64 c3, .int .i64 c4, .int .i64 c5, .int .i64 c6, .int .i64 c7, .int .i64 c8, .int .i64 c9]] w fun e w' => e = .returned .nilIface ∧ Below w.heap.size w w') :
    Calls Tryz.prog 102 #[.agg #[.int .i64 k, .int .i64 c0, .int .i64 c1, .int .i64 c2, .int .i64 c3, .int .i64 c4, .int .i64 c5, .int .i64 c6, .int .i64 c7, .int .i64 c8, .int .i64 c9]] w (CmdPost (k :: duo xs) w) := by
  obtain ⟨i0, hi, hz0, hz1, hz2⟩ := info_parts byte_info
  have e4 : (k == 4) = false := by simp; omega
  have e5 : (k == 5) = false := by simp; omega
  have hk3 : 1 ≤ k ∧ k ≤ 3 := by omega
  obtain ⟨cs, hcs⟩ : ∃ cs : Array Value, cs = #[.int .i64 k, .int .i64 c0, .int .i64 c1, .int .i64 c2, .int .i64 c3, .int .i64 c4, .int .i64 c5, .int .i64 c6, .int .i64 c7, .int .i64 c8, .int .i64 c9] := ⟨_, rfl⟩
  rw [← hcs] at hx
  have cF := fields_any w.heap.size k hk
  have HX := Lib.hid hx
  have HC := Lib.hid hcs
  clear hx hk
  go_enter Tryz.func102, Tryz.ntmps102
  go_wp2_with (first | (go_at_call 71; (with_reducible refine (cC _).mono ?_); rintro e w1 ⟨rfl, hb1⟩; obtain ⟨z0, z1, z2⟩ := held_new (by simpa using hb1); (have e0 := z1 0); go_loud (have hbk : Bk w1 w.heap.size 47 cs := by { rw [hcs]; exact (Bk.new w _ _).below hb1 (by simp) })) | (go_at_call 142; go_loud (refine (cF _ (cell_alloc e0 _)).mono ?_); rintro e w2 ⟨rfl, hp, hb2⟩; rw [hom] at *))
  have hbw : Below w.heap.size w w2 := below_then hb2 (below_then_alloc z2)
  have hown0 : w2.ownsRow w.heap.size 5 1 (.slice (some ⟨w1.heap.size, 0, none⟩) 1 1) (1 + 2 * 0) (u8s (k :: duo (xs.take 0))) := own_below (World.ownsRow_lit w1 _ 1 z2.size (by decide) rfl) hb2
  have hbk2 : Bk w2 w.heap.size 47 cs := (hbk.alloc _).keep hb2
  have hp2 : Bk w2 (w1.heap.size + 1) 226 ((fieldOffs k).map fun o => Value.pointer (some ⟨w.heap.size, o, none⟩)).toArray := by
    have := hp; simp only [World.alloc, Array.size_push] at this; exact this
  clear hp hbk hb2 e0 z0 z1 hb1 cC cF HC hcs
  go_loopw [5, 51] (fun v i wr => ∃ q : Nat, q ≤ m ∧ i = .int .i64 q ∧ Below w.heap.size w wr ∧ wr.ownsRow w.heap.size 5 1 v (1 + 2 * q) (u8s (k :: duo (xs.take q))) ∧ Bk wr w.heap.size 47 cs ∧ Bk wr (w1.heap.size + 1) 226 ((fieldOffs k).map fun o => Value.pointer (some ⟨w.heap.size, o, none⟩)).toArray) (fun _ i _ => m - (intOf i).toNat)
  case atStart => exact ⟨0, by omega, rfl, hbw, hown0, hbk2, hp2⟩
  case round =>
    obtain ⟨q, hq, rfl, hb, hown, hbk, hp⟩ := hrel
    by_cases hlt : q < m
    · obtain ⟨o, x, ho, hx, hc⟩ := HX.out q hlt
      have hxr := hr x (List.mem_of_getElem? hx)
      have hq1 : wr.cell? ⟨w1.heap.size + 1, q, none⟩ = some (.pointer (some ⟨w.heap.size, o, none⟩)) := by rw [hp.cell]; simp [ho]
      have hq2 : wr.cell? ⟨w.heap.size, o, none⟩ = some (.int .i64 x) := (hbk.cell o).trans hc
      have hn1 := hbk.ne_own hown (by decide)
      have hn2 := hp.ne_own hown (by decide)
      obtain ⟨g, cap, rfl⟩ : ∃ g cap, u5 = .slice (some ⟨g, 0, none⟩) (1 + 2 * q) cap := by
        obtain ⟨g, cap, h, _⟩ := hown.form (by omega)
        exact ⟨g, cap, h⟩
      go_wp2
      have hbd : w.heap.size ≤ wr.heap.size := hb.size
      go_region_held3 (fun w' => w'.cell? ⟨w.heap.size, o, none⟩ = some (.int .i64 x)) (first | assumption | exact cell_alloc_drew hq2 _ | exact cell_alloc hq2 _ | exact cell_drew hq2) ((refine step_append_lies _ (by rfl) _ _ 170 (by rfl) w.heap.size 5 i0 (.int .u8 0) 1 1 Tryz.underlying170 hi hz0 hz1 hz2 rfl (by decide) _ (1 + 2 * q) _ (by rfl) (World.ownsRow.alloc (w := wr) hown _) ⟨wr.heap.size, 0, none⟩ 2 2 (u8s [IntKind.u8.wrap (x / 256), IntKind.u8.wrap x]) (by rfl) rfl (fun j u hu => news_row wr _ _ _ rfl j u hu) (u8s_one _) (by decide) (by unfold maxLen; omega) (by omega) (by simp; omega) (wr.heap.size + 1) (by simp) ?_; intro g4 cap4 w4 hown4 hg4 hat4 hlt4; go_loud (have hbk4 : Bk w4 w.heap.size 47 cs := Bk.grown (w := (wr.alloc _).drew) (Bk.alloc hbk _) hg4 hn1); go_loud (have hp4 : Bk w4 (w1.heap.size + 1) 226 ((fieldOffs k).map fun o => Value.pointer (some ⟨w.heap.size, o, none⟩)).toArray := Bk.grown (w := (wr.alloc _).drew) (Bk.alloc hp _) hg4 hn2); go_loud (have hb4 : Below w.heap.size w w4 := Below.grown ((hb.alloc hb.size _).drew) hg4 (by simp; omega) (fun _ hk => (hown.lt _ hk).1)); go_loud (have hc4 : w4.cell? ⟨w.heap.size, o, none⟩ = some (.int .i64 x) := (hbk4.cell o).trans hc)))
      go_wp2
      go_roundw
      case rel =>
        refine ⟨q + 1, by omega, by go_num, hb4, ?_, hbk4, hp4⟩
        rw [duo_snoc hx, ← List.cons_append, u8s_app, ← u8_wrap2 x, ← u8_wrap1 hxr]
        exact hown4
      case measure => simp [intOf]; omega
    · obtain rfl : q = m := by omega
      rw [List.take_of_length_le (by omega)] at hown
      have hlen : (k :: duo xs).length = 1 + 2 * q := by rw [List.length_cons, duo_len]; omega
      have hrb : ∀ x ∈ k :: duo xs, 0 ≤ x ∧ x ≤ 255 := by
        intro y hy
        rcases List.mem_cons.1 hy with rfl | hy
        · omega
        · exact duo_in hr y hy
      generalize k :: duo xs = bs at *
      obtain ⟨g, cap, rfl⟩ : ∃ g cap, u5 = .slice (some ⟨g, 0, none⟩) (1 + 2 * q) cap := by
        obtain ⟨g, cap, h, _⟩ := hown.form (by omega)
        exact ⟨g, cap, h⟩
      clear hr HX hown0 hbk2 hp2 hbk hp hbw z2
      generalize wr = wo at *
      go_wp2
      go_loopw [8, 70] (fun s i wr => ∃ p : Nat, p ≤ 1 + 2 * q ∧ i = .int .i64 p ∧ s = .int .i64 (bs.take p).sum ∧ Below wo.heap.size wo wr) (fun _ i _ => 1 + 2 * q - (intOf i).toNat)
      case atStart => exact ⟨0, by omega, rfl, by simp, Below.refl _ _⟩
      case round =>
        obtain ⟨p, hp, rfl, rfl, hb5⟩ := hrel
        have hsb := sum_bounds (bs := bs.take p) fun x hx => hrb x (List.mem_of_mem_take hx)
        have hsl : (bs.take p).length ≤ 1 + 2 * q := by rw [List.length_take, hlen]; omega
        by_cases hlt : p < 1 + 2 * q
        · obtain ⟨x, hx⟩ : ∃ x, bs[p]? = some x := ⟨bs[p], by simp [hlen, hlt]⟩
          have hxr := hrb x (List.mem_of_getElem? hx)
          have hcell : wr.cell? ⟨g, p, none⟩ = some (.int .u8 x) := by
            rw [hb5.cell (p := ⟨g, p, none⟩) (hown.lt g rfl).2, hown.cellAt p (by omega), u8s, List.getElem?_map, hx]; rfl
          generalize hS : (bs.take p).sum = S at *
          have HS := Lib.hid hS; clear hS
          clear hrb hown
          go_wp2
          go_roundw
          case rel =>
            refine ⟨p + 1, by omega, by go_num, ?_, hb5⟩
            rw [sum_take hx, HS.out]
          case measure => simp [intOf]; omega
        · obtain rfl : p = 1 + 2 * q := by omega
          have hS : bs.take (1 + 2 * q) = bs := List.take_of_length_le (by omega)
          rw [hS] at hsb hsl
          rw [hS]
          have hown' := own_below hown hb5
          clear hS
          generalize hS : bs.sum = S at *
          have HS := Lib.hid hS; clear hS
          have hbr : Below w.heap.size w wr := hb.trans (hb5.mono hb.size)
          go_wp2_with (first | (at_builtin; go_loud (refine wpList_append_own _ rfl _ _ 170 rfl w.heap.size 5 i0 (.int .u8 0) 1 1 Tryz.underlying170 hi hz0 hz1 hz2 rfl (by decide) _ (1 + 2 * q) _ rfl (hown'.alloc _) ⟨wr.heap.size, 0, none⟩ 1 1 (u8s [S % 251]) rfl rfl (news_row _ _ _ _ rfl) (u8s_one _) (by unfold maxLen; omega) (by omega) (by have := hbr.size; simp; omega) ?_); intro v3 w3 hown3 hg3 hnil3; go_loud (have hst := own_string (bs := bs ++ [S % 251]) (by rw [u8s_app]; exact hown3) (by omega)); go_loud (have hb3 : Below w.heap.size w w3 := Below.grown (hbr.alloc hbr.size _) hg3 (by have := hbr.size; simp; omega) (fun _ hk => (hown'.lt _ hk).1))))
          go_ret2
          refine ⟨?_, hb3⟩
          rw [HS.out]
          rfl
end Go.Proofs.YtkdgpdijbobmkaaGreatDoor
