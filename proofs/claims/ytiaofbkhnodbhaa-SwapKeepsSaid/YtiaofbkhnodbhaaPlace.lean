/- The contract of place: how many stand ahead of an id at a price. -/
import Derived.Test.YtiaofbkhnodbhaaSkPlain
import Derived.Test.YtiaofbkhnodbhaaGrpL
namespace Go.Proofs.Ytiaofbkhnodbhaa
set_option linter.all false
open Go Go.RowKit
theorem placeI_drop {L : List Lv} {k : Nat} {x : Lv} {p id : Int} (h : L[k]? = some x) : placeI (L.drop k) p id = if x.price = p then findI x.rs id else placeI (L.drop (k + 1)) p id := by
  have hk := (List.getElem?_eq_some_iff.1 h)
  rw [List.drop_eq_getElem_cons hk.1, hk.2, placeI, List.find?_cons]
  by_cases e : x.price = p
  · have e' : (x.price == p) = true := by simpa using e
    rw [e', if_pos e]
  · have e' : (x.price == p) = false := by simpa using e
    rw [e', if_neg e]; rfl
set_option maxRecDepth 100000 in
set_option maxHeartbeats 2000000 in
theorem place_any (s : Int) (hs : vs s = true) (L M : List Lv) (A1 A2 : Option Addr) (c1 c2 : Nat) (p id : Int) (w : World) (h1 : RdLv w w.heap.size A1 L) (h2 : RdLv w w.heap.size A2 M) (k1 : L.length ≤ 1000) (k2 : M.length ≤ 1000) :
    Calls Try.prog 14 #[.agg #[.slice A1 L.length c1, .slice A2 M.length c2], .int .i64 s, .int .i64 p, .int .i64 id] w fun e w' => e = .returned (.int .i64 (placeI (sidL s L M) p id)) ∧ Below w.heap.size w w' := by
  have hR : ∀ w', Below w.heap.size w w' → RdLv w' w.heap.size (sid s A1 A2) (sidL s L M) := fun w' hb => by
    rcases side_two hs with rfl | rfl
    · exact h1.below hb
    · exact h2.below hb
  have hO : (if s = 1 then Value.slice A1 L.length c1 else .slice A2 M.length c2) = .slice (sid s A1 A2) (sidL s L M).length (sid s c1 c2) := by
    rcases side_two hs with rfl | rfl <;> rfl
  have hl : (sidL s L M).length ≤ 1000 := by rcases side_two hs with rfl | rfl; exact k1; exact k2
  have cO := Lib.hid (fun w' => rof_any .nilIface .nilIface s A1 A2 L.length M.length c1 c2 w')
  rw [hO] at cO
  generalize sidL s L M = K at *
  generalize sid s A1 A2 = AK at *
  generalize sid s c1 c2 = cK at *
  have HR := Lib.hid hR
  have hb : Below w.heap.size w (w.alloc (.cells #[.slice A1 L.length c1, .slice A2 M.length c2] 29)) := (Below.refl _ _).alloc (Nat.le_refl _) _
  have bb := Bk.new w 29 #[.slice A1 L.length c1, .slice A2 M.length c2]
  clear h1 h2 hR hO
  go_enter Try.func14, Try.ntmps14
  go_upto_region 1 with fail
  generalize w.alloc (.cells #[.slice A1 L.length c1, .slice A2 M.length c2] 29) = w0 at *
  obtain ⟨q0, q1⟩ := box2 bb
  go_wp2_with fail
  go_at_call 35
  refine (cO.out _).mono ?_
  rintro e w1 ⟨rfl, hb1⟩
  replace hb := below_then hb1 hb
  clear hb1 q0 q1 bb cO
  go_wp2
  go_loopw [10] (fun i wr => ∃ k : Nat, k ≤ K.length ∧ i = .int .i64 k ∧ Below w.heap.size w wr ∧ Hid (placeI K p id = placeI (K.drop k) p id)) (fun i _ => K.length - (intOf i).toNat)
  case atStart => exact ⟨0, by omega, rfl, hb, Lib.hid rfl⟩
  case round =>
    obtain ⟨k, hk, rfl, hb, HP⟩ := hrel
    by_cases hlt : k < K.length
    · obtain ⟨b, off, x, Ar, cr, rfl, hbl, hx, d0, d1, g1, g2, g3⟩ := lv_at (HR.out wr hb) hlt
      have i0 : (0 : Int) ≤ (k : Int) := by omega
      have i1 : (k : Int) < (K.length : Int) := by omega
      have HD := Lib.hid (placeI_drop (p := p) (id := id) hx)
      have cI := Lib.hid (fun w' h => rin_any x.rs Ar cr id w' h (by omega))
      have HG := Lib.hid g3
      clear hx g3
      by_cases he : x.price = p
      · have e1 : (x.price == p) = true := by simpa using he
        have HE := Lib.hid he
        clear he
        go_wp2_with (go_at_call 36; refine (cI.out _ (HG.out.more hb.size)).mono ?_; rintro e w' ⟨rfl, rfl⟩)
        go_ret
        exact ⟨by rw [HP.out, HD.out, if_pos HE.out]; rfl, hb⟩
      · have e1 : (x.price == p) = false := by simpa using he
        have HE := Lib.hid he
        clear he
        go_wp2
        go_roundw
        case rel => exact ⟨k + 1, by omega, by go_num, hb, Lib.hid (by rw [HP.out, HD.out, if_neg HE.out])⟩
        case measure => simp [intOf]; omega
    · obtain rfl : k = K.length := by omega
      go_wp2
      go_ret
      exact ⟨by rw [HP.out, List.drop_length]; rfl, hb⟩
end Go.Proofs.Ytiaofbkhnodbhaa
