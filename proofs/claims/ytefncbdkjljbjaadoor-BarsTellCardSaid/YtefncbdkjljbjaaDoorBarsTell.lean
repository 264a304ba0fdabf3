/- The walk of BarsTell. -/
import Derived.Test.YtefncbdkjljbjaaDoorChunks
import Derived.Test.YtefncbdkjljbjaaDoorBarsArg
import Derived.Test.YtefncbdkjljbjaaDoorJoinBad
import Derived.Test.YtefncbdkjljbjaaDoorSame
import Derived.Test.YtefncbdkjljbjaaDoorLaid
import Derived.Test.YtefncbdkjljbjaaDoorFirst
import Derived.Deep.DeepCutAuto
import Derived.Deep.CutBlock
namespace Go.Proofs.YtefncbdkjljbjaaDoor
set_option linter.all false
open Go Go.RowKit
theorem rdm {w w' : World} {A : Option Addr} {n s : Nat} {c : Nat → Nat → Value} (h : Rd w w.heap.size A n s c) (hb : Below w.heap.size w w') : Rd w' w'.heap.size A n s c := (h.below hb).more hb.size
theorem same_told (E : Int) (w : World) (hl : Laid w) : Calls Tryd.prog 14 #[errV E, .int .i64 E] w fun e w' => e = .returned (.bool true) ∧ Below w.heap.size w w' := by
  by_cases h : E = 0
  · subst h
    refine (same_nil 0 w).mono ?_
    rintro e w' ⟨rfl, rfl⟩
    exact ⟨rfl, Below.refl _ _⟩
  · rw [errV, if_neg h]
    refine (same_er E E w hl).mono ?_
    rintro e w' ⟨rfl, hb⟩
    exact ⟨by simp, hb⟩
theorem trErr_says {l : List Trade} (h : trErr l = 0) : l.length ≤ 400 ∧ okT4 l := by
  unfold trErr at h
  split at h
  · omega
  · refine ⟨by omega, fun t ht => ?_⟩
    cases ha : l.all Trade.okB
    · rw [ha] at h; simp at h
    · have := List.all_eq_true.1 ha t ht
      simp only [Trade.okB, Bool.and_eq_true] at this
      exact ⟨vp_t this.1, by simpa [inb] using this.2⟩
theorem barsL_len (l : List Trade) (n : Int) : (barsL l n).length ≤ 400 := by
  by_cases h : barsE l n = 0
  · rw [barsL, if_pos h]
    have ht0 : trErr l = 0 := by
      by_cases h0 : trErr l = 0
      · exact h0
      · rw [barsE, if_pos h0] at h; exact absurd h h0
    exact Nat.le_trans (barsTo_le _ _ _) (trErr_says ht0).1
  · rw [barsL, if_neg h]; simp
/-- the bar of all, if there is one -/
def wholeV (l : List Trade) : Bar := if someErr l = 0 then allB l else bar0
/-- a slice of bars that reads -/
def SlB (L : List Bar) (v : Value) (w : World) : Prop := ∃ A c, v = .slice A L.length c ∧ Rd w w.heap.size A L.length 5 (bcellv L)
def sizeE (l : List Bar) : Int := if 400 < l.length then 4 else if l.length = 0 then 5 else 0
theorem sizeE_ok {l : List Bar} (h : sizeE l = 0) : 1 ≤ l.length ∧ l.length ≤ 400 := by
  unfold sizeE at h
  split at h
  · omega
  · split at h <;> omega
theorem joinE_ok {l : List Bar} (h : 1 ≤ l.length ∧ l.length ≤ 400) : joinE l = if l.all Bar.okB = true then 0 else 3 := by
  rw [joinE, if_neg (by omega), if_neg (by omega)]
theorem joinE_bad {l : List Bar} (h : sizeE l ≠ 0) : joinE l = sizeE l := by
  unfold sizeE at *
  unfold joinE
  split
  · rfl
  · rename_i h1
    rw [if_neg h1] at h
    split
    · rfl
    · rename_i h2
      rw [if_neg h2] at h
      exact absurd rfl h
theorem all_bad {l : List Bar} {k : Nat} {t : Bar} (ht : l[k]? = some t) (h : t.okB = false) : l.all Bar.okB = false := by
  rw [← Bool.not_eq_true]
  intro ha
  have := List.all_eq_true.1 ha t (List.mem_of_getElem? ht)
  rw [h] at this
  cases this
theorem joinE_good {l : List Bar} (h : joinE l = 0) : (1 ≤ l.length ∧ l.length ≤ 400) ∧ ∀ b ∈ l, b.okB = true := by
  unfold joinE at h
  split at h
  · omega
  · split at h
    · omega
    · split at h
      · rename_i h3
        exact ⟨by omega, List.all_eq_true.1 h3⟩
      · omega
theorem foldB_geq {l : List Bar} (hok : ∀ b ∈ l, b.okB = true) (k : Nat) (hk : 1 ≤ k) (hl : k ≤ l.length) : 1 ≤ (foldB (l.take k)).q ∧ (foldB (l.take k)).q ≤ 4000000 * k := by
  have hq : ∀ b ∈ l, 1 ≤ b.q ∧ b.q ≤ 4000000 := by
    intro b hb
    have := hok b hb
    simp only [Bar.okB, decide_eq_true_eq] at this
    omega
  obtain ⟨m, rfl⟩ : ∃ m, k = m + 1 := ⟨k - 1, by omega⟩
  have ha := foldB_q hq m (by omega)
  have hb := foldB_q hq (m + 1) hl
  refine ⟨?_, hb.2⟩
  have ht := List.getElem?_eq_getElem (show m < l.length by omega)
  have h1 := hq l[m] (List.getElem_mem _)
  rw [foldB_snoc ht]
  generalize foldB (l.take m) = a at *
  unfold joinB
  split
  · exact h1.1
  · show 1 ≤ a.q + (l[m]).q; omega
theorem whole_says (l : List Trade) : (wholeV l).l = lowV l ∧ (wholeV l).h = highV l := by
  unfold wholeV lowV highV
  by_cases h : someErr l = 0
  · obtain ⟨h1, h2, hok⟩ := someErr_ok h
    have hs := allB_says hok (l.length - 1) (by omega)
    rw [show l.length - 1 + 1 = l.length by omega, List.take_length] at hs
    rw [if_pos h, if_pos h, if_pos h]
    exact ⟨hs.1, hs.2.1⟩
  · rw [if_neg h, if_neg h, if_neg h]
    exact ⟨rfl, rfl⟩
set_option maxRecDepth 100000 in
set_option maxHeartbeats 40000000 in
theorem bt_walk (l : List Trade) (A : Option Addr) (c : Nat) (n : Int) (bl : List Bar) (A2 : Option Addr) (c2 : Nat) (W0 : World) (hr : Rd W0 W0.heap.size A l.length 6 (tcell l)) (hcap : l.length ≤ c) (hmx : c ≤ maxLen) (hr2 : Rd W0 W0.heap.size A2 bl.length 5 (bcellv bl)) (hm2 : bl.length ≤ maxLen) (hl : Laid W0) :
    Calls Tryd.prog 4 #[.slice A l.length c, .int .i64 n, .slice A2 bl.length c2] W0 fun e w' => e = .returned (.bool true) ∧ Below W0.heap.size W0 w' := by
  have HR := Lib.hid hr; have HR2 := Lib.hid hr2; have HL := Lib.hid hl
  have hmx' := hmx
  have hm2' := hm2
  unfold maxLen at hmx' hm2'
  have hB := Below.refl W0.heap.size W0
  have HM := Lib.hid hmx
  clear hr hr2 hl hmx hm2
  go_enter Tryd.func4, Tryd.ntmps4
  go_wp2_with fail
  go_at_call 17
  refine (deals_any l A c _ (rdm HR.out hB)).mono ?_
  rintro e w' ⟨rfl, rfl⟩
  go_upto_region 3 with fail
  go_cut [44] (fun t wx => t = .bool (decide (trErr l = 0 ∧ (n < 1 ∨ 400 < n))) ∧ W0 = wx)
  case first =>
    as_aux_lemma =>
    by_cases h0 : trErr l = 0
    · have h1 : (trErr l == 0) = true := by simpa using h0
      rcases (show n < 1 ∨ (1 ≤ n ∧ 400 < n) ∨ (1 ≤ n ∧ n ≤ 400) by omega) with h2 | ⟨h2, h3⟩ | ⟨h2, h3⟩
      · have hif := Lib.hid (show decide (trErr l = 0 ∧ (n < 1 ∨ 400 < n)) = true by simp [h0, h2])
        clear h0
        go_wp2
        go_meet
        case rel => exact ⟨by rw [hif.out]; try (simp; omega), rfl⟩
      · have hif := Lib.hid (show decide (trErr l = 0 ∧ (n < 1 ∨ 400 < n)) = true by simp [h0, h3])
        clear h0
        go_wp2
        go_meet
        case rel => exact ⟨by rw [hif.out]; try (simp; omega), rfl⟩
      · have hif := Lib.hid (show decide (trErr l = 0 ∧ (n < 1 ∨ 400 < n)) = false by simp; omega)
        clear h0
        go_wp2
        go_meet
        case rel => exact ⟨by rw [hif.out]; try (simp; omega), rfl⟩
    · have h1 : (trErr l == 0) = false := by simpa using h0
      have hif := Lib.hid (show decide (trErr l = 0 ∧ (n < 1 ∨ 400 < n)) = false by simp [h0])
      clear h0
      go_wp2
      go_meet
      case rel => exact ⟨by rw [hif.out], rfl⟩
  obtain ⟨rfl, rfl⟩ := hcut
  as_aux_lemma =>
  go_upto_if 44 with fail
  go_cut [8] (fun t wx => t = .int .i64 (barsE l n) ∧ W0 = wx)
  case first =>
    as_aux_lemma =>
    by_cases h0 : trErr l = 0 ∧ (n < 1 ∨ 400 < n)
    · have hif := Lib.hid (show barsE l n = 1 by rw [barsE, if_neg (by simpa using h0.1), if_pos h0.2])
      have h1 : decide (trErr l = 0 ∧ (n < 1 ∨ 400 < n)) = true := decide_eq_true h0
      generalize decide (trErr l = 0 ∧ (n < 1 ∨ 400 < n)) = d at *
      subst h1
      clear h0
      go_wp2
      go_meet
      case rel => exact ⟨by rw [hif.out], rfl⟩
    · have hif := Lib.hid (show barsE l n = trErr l by
        by_cases h1 : trErr l = 0
        · rw [barsE, if_neg (by simpa using h1), if_neg (fun h => h0 ⟨h1, h⟩), h1]
        · rw [barsE, if_pos h1])
      have h1 : decide (trErr l = 0 ∧ (n < 1 ∨ 400 < n)) = false := decide_eq_false h0
      generalize decide (trErr l = 0 ∧ (n < 1 ∨ 400 < n)) = d at *
      subst h1
      clear h0
      go_wp2
      go_meet
      case rel => exact ⟨by rw [hif.out], rfl⟩
  obtain ⟨rfl, rfl⟩ := hcut
  as_aux_lemma =>
  go_upto_block 0 with fail
  go_cut [9] (fun v wx => SlB (barsL l n) v wx ∧ Below W0.heap.size W0 wx)
  case first =>
    by_cases h0 : barsE l n = 0
    · have h1 : (barsE l n == 0) = true := by simpa using h0
      have ht0 : trErr l = 0 := by
        by_cases h : trErr l = 0
        · exact h
        · rw [barsE, if_pos h] at h0; exact absurd h0 h
      have hn : 1 ≤ n ∧ n ≤ 400 := by
        rw [barsE, if_neg (by simpa using ht0)] at h0
        by_cases h : n < 1 ∨ 400 < n
        · rw [if_pos h] at h0; omega
        · omega
      have hok4 := trErr_says ht0
      obtain ⟨m, rfl⟩ := Int.eq_ofNat_of_zero_le (show 0 ≤ n by omega)
      have hE := Lib.hid (show barsL l m = barsTo m l l.length by rw [barsL, if_pos h0, Int.toNat_natCast])
      have hl400 := hok4.1
      have HOK := Lib.hid hok4.2
      have hm1 : 1 ≤ m := by omega
      have hm2 : m ≤ 400 := by omega
      obtain ⟨i0, hi0, hz0, hz1, hz2⟩ := info_parts bar_info
      have HI := Lib.hid hi0; have H0 := Lib.hid hz0; have H1 := Lib.hid hz1; have H2 := Lib.hid hz2
      clear h0 ht0 hok4 hn hi0 hz0 hz1 hz2
      go_wp2_with fail
      go_loopw [9, 10] (fun v i wr => ∃ (j : Nat) (Ao : Option Addr) (co : Nat), i = .int .i64 ((j * m : Nat) : Int) ∧ j * m < l.length + m ∧ j ≤ l.length ∧ Hid (∀ i, j = i + 1 → i * m < l.length) ∧ v = .slice Ao j co ∧ Hid (OwnS wr W0.heap.size 5 Ao j co (flatB (chunksTo m l j))) ∧ Below W0.heap.size W0 wr) (fun _ i _ => l.length + m - (intOf i).toNat)
      case atStart => exact ⟨0, none, 0, by simp, by omega, by omega, Lib.hid (fun i h => by omega), rfl, Lib.hid (by exact OwnS.nil _ _ _ _), hB⟩
      case round =>
        obtain ⟨j, Ao, co, rfl, hjm, hjl, hpre, rfl, hO, hb⟩ := hrel
        by_cases hlt : j * m < l.length
        · obtain ⟨b, off, t0, he, hbb, _⟩ := tr_at (HR.out) (k := j * m) hlt
          subst he
          obtain ⟨s, hs⟩ : ∃ s, j * m = s := ⟨_, rfl⟩
          rw [hs] at hjm hlt ⊢
          have hPl : ((l.drop s).take m).length = min m (l.length - s) := by rw [List.length_take, List.length_drop]
          have hcs : ¬ c = s := by omega
          have hjs : j ≤ s := by rw [← hs]; exact Nat.le_mul_of_pos_right j (by omega)
          have f0 : (0 : Int) ≤ (s : Int) := by omega
          have f1 : (s : Int) < (l.length : Int) := by omega
          have f2 : (s : Int) ≤ (s : Int) + (m : Int) := by omega
          have f3 : (s : Int) ≤ (l.length : Int) := by omega
          have f4 : (l.length : Int) ≤ (c : Int) := by omega
          have f5 : s ≤ l.length := by omega
          have f6 : l.length ≤ c := hcap
          clear hpre
          by_cases hle : s + m ≤ l.length
          · have h5 : (s : Int) + (m : Int) ≤ (l.length : Int) := by omega
            have h6 : (s : Int) + (m : Int) ≤ (c : Int) := by omega
            have cB := fun w' (hb' : Below W0.heap.size W0 w') => barof_any ((l.drop s).take m) (some ⟨b, off + s * 6, none⟩) (c - s) ((m) - 1) w' (Rd.piece (rdm HR.out hb') s m) (by rw [hPl]; omega) (by rw [hPl]; omega) (fun t ht => HOK.out t (List.mem_of_mem_drop (List.mem_of_mem_take ht)))
            rw [show ((l.drop s).take m).length = m by rw [hPl]; omega] at cB
            have HC := Lib.hid (show chunkB m l j = allB ((l.drop s).take m) by rw [chunkB, hs])
            generalize allB ((l.drop s).take m) = B at *
            have CB := Lib.hid cB
            have HS := Lib.hid hs
            have hO2 := hO.out
            have hlk : 1 ≤ m := by omega
            clear cB hs hPl hO
            go_wp2_with fail
            go_at_call 18
            refine (CB.out _ hb).mono ?_
            rintro e w8 ⟨rfl, hb8⟩
            have hB8 := below_then hb8 hb
            have own8 := hO2.below hb8
            have hz8 := hB8.size
            go_wp2_with (at_builtin; go_loud (refine wpList_append_S (base := W0.heap.size) (s := 5) (n := j) rfl _ _ _ _ rfl 38 i0 _ 40 Tryd.underlying35 HI.out H0.out H1.out H2.out rfl rfl ((own8.alloc _).alloc _) (by simp; omega) _ rfl 1 B.vals (src_block (m := 1) (Bk.at_ (by simp) 38 #[.int .i64 B.o, .int .i64 B.h, .int .i64 B.l, .int .i64 B.c, .int .i64 B.q]) Tryd.underlying35 rfl (rest_one _ _ _ _ _) 1) (by unfold maxLen; omega) (by omega) ?_); intro A3 c3 w3 gr)
            go_roundw
            case rel =>
              have e1 : (j + 1) * m = s + m := by rw [Nat.succ_mul, HS.out]
              refine ⟨j + 1, A3, c3, by rw [e1]; go_num, by rw [e1]; omega, by omega, Lib.hid (fun i h => ?_), rfl, Lib.hid ?_, ?_⟩
              · obtain rfl : i = j := by omega
                rw [HS.out]; omega
              · rw [chunksTo_succ, flatB_snoc, HC.out]; exact gr.own
              · exact Below.grown (below_then_alloc (below_then_alloc hB8)) gr.grown (by simp; omega) (fun k hk => (own8.row_lt k hk).1)
            case measure => simp [intOf]; omega
          · have h5 : (l.length : Int) < (s : Int) + (m : Int) := by omega
            have cB := fun w' (hb' : Below W0.heap.size W0 w') => barof_any ((l.drop s).take m) (some ⟨b, off + s * 6, none⟩) (c - s) ((l.length - s) - 1) w' (Rd.piece (rdm HR.out hb') s m) (by rw [hPl]; omega) (by rw [hPl]; omega) (fun t ht => HOK.out t (List.mem_of_mem_drop (List.mem_of_mem_take ht)))
            rw [show ((l.drop s).take m).length = l.length - s by rw [hPl]; omega] at cB
            have HC := Lib.hid (show chunkB m l j = allB ((l.drop s).take m) by rw [chunkB, hs])
            generalize allB ((l.drop s).take m) = B at *
            have CB := Lib.hid cB
            have HS := Lib.hid hs
            have hO2 := hO.out
            have hlk : 1 ≤ l.length - s := by omega
            clear cB hs hPl hO
            go_wp2_with fail
            go_at_call 18
            refine (CB.out _ hb).mono ?_
            rintro e w8 ⟨rfl, hb8⟩
            have hB8 := below_then hb8 hb
            have own8 := hO2.below hb8
            have hz8 := hB8.size
            go_wp2_with (at_builtin; go_loud (refine wpList_append_S (base := W0.heap.size) (s := 5) (n := j) rfl _ _ _ _ rfl 38 i0 _ 40 Tryd.underlying35 HI.out H0.out H1.out H2.out rfl rfl ((own8.alloc _).alloc _) (by simp; omega) _ rfl 1 B.vals (src_block (m := 1) (Bk.at_ (by simp) 38 #[.int .i64 B.o, .int .i64 B.h, .int .i64 B.l, .int .i64 B.c, .int .i64 B.q]) Tryd.underlying35 rfl (rest_one _ _ _ _ _) 1) (by unfold maxLen; omega) (by omega) ?_); intro A3 c3 w3 gr)
            go_roundw
            case rel =>
              have e1 : (j + 1) * m = s + m := by rw [Nat.succ_mul, HS.out]
              refine ⟨j + 1, A3, c3, by rw [e1]; go_num, by rw [e1]; omega, by omega, Lib.hid (fun i h => ?_), rfl, Lib.hid ?_, ?_⟩
              · obtain rfl : i = j := by omega
                rw [HS.out]; omega
              · rw [chunksTo_succ, flatB_snoc, HC.out]; exact gr.own
              · exact Below.grown (below_then_alloc (below_then_alloc hB8)) gr.grown (by simp; omega) (fun k hk => (own8.row_lt k hk).1)
            case measure => simp [intOf]; omega
        · have hge : (l.length : Int) ≤ ((j * m : Nat) : Int) := by omega
          have hall := Lib.hid (chunks_all hm1 (Nat.le_of_not_lt hlt) hpre.out)
          generalize j * m = jm at *
          go_wp2
          go_meet
          case rel =>
            refine ⟨?_, hb⟩
            rw [hE.out, hall.out]
            refine ⟨Ao, co, by rw [chunksTo_len], ?_⟩
            rw [chunksTo_len]
            exact hO.out.rd (fun i q hi hq => flatB_get (by rw [chunksTo_len]; exact hi) hq)
    · have h1 : (barsE l n == 0) = false := by simpa using h0
      have hE := Lib.hid (show barsL l n = [] from if_neg h0)
      clear h0
      rcases Nat.eq_zero_or_pos l.length with hl0 | hl0
      · go_wp2_with fail
        go_loopw [9, 10] (fun v i wr => v = .slice none 0 0 ∧ i = .int .i64 0 ∧ W0 = wr) (fun _ _ _ => 0)
        case atStart => exact ⟨rfl, rfl, rfl⟩
        case round =>
          obtain ⟨rfl, rfl, rfl⟩ := hrel
          have hl1 : (l.length : Int) ≤ 0 := by omega
          go_wp2
          go_meet
          case rel => exact ⟨by rw [hE.out]; exact ⟨none, 0, rfl, Rd.nil⟩, hB⟩
      · go_wp2_with fail
        go_loopw [9, 10] (fun v i wr => v = .slice none 0 0 ∧ i = .int .i64 0 ∧ W0 = wr) (fun _ _ _ => 0)
        case atStart => exact ⟨rfl, rfl, rfl⟩
        case round =>
          obtain ⟨rfl, rfl, rfl⟩ := hrel
          have hl1 : (0 : Int) < (l.length : Int) := by omega
          go_wp2
          go_meet
          case rel => exact ⟨by rw [hE.out]; exact ⟨none, 0, rfl, Rd.nil⟩, hB⟩
  clear hB
  obtain ⟨⟨Aw, cw, rfl, hw⟩, hB⟩ := hcut
  as_aux_lemma =>
  go_wp2_with fail
  go_at_call 19
  refine (bars_all l A c n _ (rdm HR.out hB)).mono ?_
  rintro e w' ⟨Ag, cg, rfl, hg, hb⟩
  replace hB := below_then hb hB
  replace hw := rdm hw hb
  clear hb
  go_wp2_with fail
  go_at_call 14
  refine (same_told _ _ (Laid.below HL.out hB)).mono ?_
  rintro e w' ⟨rfl, hb⟩
  replace hB := below_then hb hB
  replace hw := rdm hw hb
  replace hg := rdm hg hb
  clear hb
  have HBL := Lib.hid (barsL_len l n)
  go_upto_block 2 with fail
  go_cut [] (fun wx => Below w'.heap.size w' wx)
  case first =>
    have hlen := HBL.out
    have HW := Lib.hid hw; have HG := Lib.hid hg
    clear hw hg
    generalize barsL l n = L at *
    go_wp2_with fail
    go_loopw [16] (fun i wr => ∃ k : Nat, k ≤ L.length ∧ i = .int .i64 k ∧ Below w'.heap.size w' wr) (fun i _ => L.length - (intOf i).toNat)
    case atStart => exact ⟨0, by omega, rfl, Below.refl _ _⟩
    case round =>
      obtain ⟨k, hk, rfl, hb⟩ := hrel
      by_cases hlt : k < L.length
      · obtain ⟨b, off, t, rfl, hbl, ht, e0, e1, e2, e3, e4⟩ := bar_at (HG.out.below hb) hlt
        obtain ⟨b', off', u, rfl, hbl', hu, g0, g1, g2, g3, g4⟩ := bar_at (HW.out.below hb) hlt
        obtain rfl : t = u := Option.some.inj (ht.symm.trans hu)
        have j0 : (0 : Int) ≤ (k : Int) := by omega
        have j1 : (k : Int) < (L.length : Int) := by omega
        clear ht hu
        go_wp2
        go_quiet (fail)
        go_wp2
        go_roundw
        case rel => exact ⟨k + 1, by omega, by go_num, below_drewN hb _⟩
        case measure => simp [intOf]; omega
      · obtain rfl : k = L.length := by omega
        go_wp2
        go_meet
        case rel => exact hb
  replace hB := below_then hcut hB
  clear hcut hw hg HBL
  as_aux_lemma =>
  go_upto_region 23 with fail
  go_cut [109] (fun t wx => t = .bool (decide (trErr l = 0 ∧ l.length = 0)) ∧ wc = wx)
  case first =>
    by_cases h0 : trErr l = 0
    · have h1 : (trErr l == 0) = true := by simpa using h0
      by_cases h2 : l.length = 0
      · have hif := Lib.hid (show decide (trErr l = 0 ∧ l.length = 0) = true by simp [h0, h2])
        have h3 : ((l.length : Int) == 0) = true := by rw [beq_iff_eq]; omega
        clear h0 h2
        go_wp2
        go_meet
        case rel => exact ⟨by rw [hif.out]; try (simp; omega), rfl⟩
      · have hif := Lib.hid (show decide (trErr l = 0 ∧ l.length = 0) = false from decide_eq_false (fun h => h2 h.2))
        have h3 : ((l.length : Int) == 0) = false := beq_eq_false_iff_ne.2 (by omega)
        clear h0 h2
        go_wp2
        go_meet
        case rel => exact ⟨by rw [hif.out]; try (simp; omega), rfl⟩
    · have h1 : (trErr l == 0) = false := by simpa using h0
      have hif := Lib.hid (show decide (trErr l = 0 ∧ l.length = 0) = false by simp [h0])
      clear h0
      go_wp2
      go_meet
      case rel => exact ⟨by rw [hif.out], rfl⟩
  obtain ⟨rfl, rfl⟩ := hcut
  as_aux_lemma =>
  go_upto_if 109 with fail
  go_cut [7] (fun t wx => t = .int .i64 (someErr l) ∧ wc = wx)
  case first =>
    by_cases h0 : trErr l = 0 ∧ l.length = 0
    · have hif := Lib.hid (show someErr l = 5 by rw [someErr, if_pos h0.1, if_pos h0.2])
      have h1 : decide (trErr l = 0 ∧ l.length = 0) = true := decide_eq_true h0
      generalize decide (trErr l = 0 ∧ l.length = 0) = d at *
      subst h1
      clear h0
      go_wp2
      go_meet
      case rel => exact ⟨by rw [hif.out], rfl⟩
    · have hif := Lib.hid (show someErr l = trErr l by
        by_cases h1 : trErr l = 0
        · rw [someErr, if_pos h1, if_neg (fun h => h0 ⟨h1, h⟩), h1]
        · rw [someErr, if_neg h1])
      have h1 : decide (trErr l = 0 ∧ l.length = 0) = false := decide_eq_false h0
      generalize decide (trErr l = 0 ∧ l.length = 0) = d at *
      subst h1
      clear h0
      go_wp2
      go_meet
      case rel => exact ⟨by rw [hif.out], rfl⟩
  obtain ⟨rfl, rfl⟩ := hcut
  as_aux_lemma =>
  go_upto_region 27 with fail
  have b18 := Bk.new wc 38 #[.int .i64 0, .int .i64 0, .int .i64 0, .int .i64 0, .int .i64 0]
  have hg18 : W0.heap.size ≤ wc.heap.size := hB.size
  replace hB := below_then_alloc (o := .cells #[.int .i64 0, .int .i64 0, .int .i64 0, .int .i64 0, .int .i64 0] 38) hB
  generalize wc.heap.size = g18 at *
  generalize wc.alloc (.cells #[.int .i64 0, .int .i64 0, .int .i64 0, .int .i64 0, .int .i64 0] 38) = w7 at *
  have b18 := Lib.hid b18
  go_upto_if 111 with fail
  go_cut [17] (fun t wx => t = .int .i64 (meanV l) ∧ Bk wx g18 38 #[.int .i64 (wholeV l).o, .int .i64 (wholeV l).h, .int .i64 (wholeV l).l, .int .i64 (wholeV l).c, .int .i64 (wholeV l).q] ∧ Below W0.heap.size W0 wx)
  case first =>
    by_cases h0 : someErr l = 0
    · have h1 : (someErr l == 0) = true := by simpa using h0
      obtain ⟨hl1, hl2, hok⟩ := someErr_ok h0
      obtain ⟨m, hm⟩ : ∃ m, l.length = m + 1 := ⟨l.length - 1, by omega⟩
      have cB := Lib.hid (fun w' hr' => barof_any l A c m w' hr' hm hl2 hok)
      have hsay := allB_says hok m (by omega)
      rw [List.take_of_length_le (by omega)] at hsay
      have HWh := Lib.hid (show wholeV l = allB l from if_pos h0)
      have HMe := Lib.hid (show meanV l = worth l / qtys l from if_pos h0)
      have HQ := Lib.hid hsay.2.2.2.2
      have HOK := Lib.hid hok
      clear h0 hok hsay hm
      generalize allB l = B at *
      go_wp2_with fail
      go_at_call 18
      refine (cB.out _ (rdm HR.out hB)).mono ?_
      rintro e w8 ⟨rfl, hb8⟩
      have hB8 := below_then hb8 hB
      have b28 := b18.out.keep hb8
      have q8 := box5b b28
      have z0 := b28.free 0; have z1 := b28.free 1; have z2 := b28.free 2; have z3 := b28.free 3; have z4 := b28.free 4
      have b29 := b28.set5 (.int .i64 B.o) (.int .i64 B.h) (.int .i64 B.l) (.int .i64 B.c) (.int .i64 B.q)
      have hB9 := ((((hB8.setCell (p := ⟨g18, 0, none⟩) hg18 (.int .i64 B.o)).setCell (p := ⟨g18, 1, none⟩) hg18 (.int .i64 B.h)).setCell (p := ⟨g18, 2, none⟩) hg18 (.int .i64 B.l)).setCell (p := ⟨g18, 3, none⟩) hg18 (.int .i64 B.c)).setCell (p := ⟨g18, 4, none⟩) hg18 (.int .i64 B.q)
      have B29 := Lib.hid b29
      clear b29
      go_wp2_with fail
      go_loopw [19, 20] (fun a i wr => ∃ k : Nat, k ≤ l.length ∧ i = .int .i64 k ∧ a = .int .i64 (worth (l.take k)) ∧ Bk wr g18 38 #[.int .i64 (B).o, .int .i64 (B).h, .int .i64 (B).l, .int .i64 (B).c, .int .i64 (B).q] ∧ Below W0.heap.size W0 wr) (fun _ i _ => l.length - (intOf i).toNat)
      case atStart => exact ⟨0, by omega, rfl, rfl, B29.out, hB9⟩
      case round =>
        obtain ⟨k, hk, rfl, rfl, hbk, hb⟩ := hrel
        obtain ⟨s1, s2, _, _⟩ := sums_le HOK.out k hk
        by_cases hlt : k < l.length
        · obtain ⟨b, off, t, rfl, hbl, ht, e0, e1, e2, e3, e4, e5⟩ := tr_at (HR.out.below hb) hlt
          obtain ⟨⟨p1, p2⟩, q1, q2⟩ := HOK.out t (List.mem_of_getElem? ht)
          have HW := Lib.hid (worth_snoc ht)
          have m1 : 0 ≤ t.price * t.qty := Int.mul_nonneg (by omega) (by omega)
          have m2 : t.price * t.qty ≤ 100000000 := by have := Int.mul_le_mul p2 q2 (by omega) (by omega); omega
          have i0 : (0 : Int) ≤ (k : Int) := by omega
          have i1 : (k : Int) < (l.length : Int) := by omega
          have HBk := Lib.hid hbk
          clear ht hbk
          generalize worth (l.take k) = a at *
          have x1 : IntKind.i64.wrap (t.price * t.qty) = t.price * t.qty := IntWalk.i64_in _ (by omega)
          have x2 : IntKind.i64.wrap (a + t.price * t.qty) = a + t.price * t.qty := IntWalk.i64_in _ (by omega)
          have X1 := Lib.hid x1; have X2 := Lib.hid x2; clear x1 x2
          go_wp2
          have x1 := X1.out; have x2 := X2.out
          go_quiet (fail)
          clear x1 x2
          go_wp2
          go_roundw
          case rel => exact ⟨k + 1, by omega, by go_num, by rw [HW.out], HBk.out.drewN _, below_drewN hb _⟩
          case measure => simp [intOf]; omega
        · obtain rfl : k = l.length := by omega
          rw [List.take_length] at s1 s2 ⊢
          have HBk := Lib.hid hbk
          have hq1 : 1 ≤ B.q := by rw [HQ.out.1]; exact HQ.out.2
          have hq0 : (B.q == 0) = false := by simp; omega
          have q9 := box5b hbk
          have HMe2 := Lib.hid (show meanV l = worth l / B.q by rw [HMe.out, HQ.out.1])
          clear hbk
          generalize worth l = a at *
          go_wp2
          go_meet
          case rel => exact ⟨by rw [HMe2.out], by rw [HWh.out]; exact HBk.out, hb⟩
    · have h1 : (someErr l == 0) = false := by simpa using h0
      have HWh := Lib.hid (show wholeV l = bar0 from if_neg h0)
      have HMe := Lib.hid (show meanV l = 0 from if_neg h0)
      clear h0
      go_wp2
      go_meet
      case rel => exact ⟨by rw [HMe.out], by rw [HWh.out]; exact b18.out, hB⟩
  clear hB b18
  obtain ⟨rfl, b18, hB⟩ := hcut
  as_aux_lemma =>
  go_wp2_with fail
  go_at_call 20
  refine (mean_all l A c _ (rdm HR.out hB)).mono ?_
  rintro e w1 ⟨rfl, hb⟩
  replace b18 := b18.keep hb
  replace hB := below_then hb hB
  clear hb
  go_wp2_with fail
  go_at_call 14
  refine (same_told _ _ (Laid.below HL.out hB)).mono ?_
  rintro e w2 ⟨rfl, hb⟩
  replace b18 := b18.keep hb
  replace hB := below_then hb hB
  clear hb
  go_wp2_with fail
  go_at_call 21
  refine (range_all l A c _ (rdm HR.out hB)).mono ?_
  rintro e w3 ⟨rfl, hb⟩
  replace b18 := b18.keep hb
  replace hB := below_then hb hB
  clear hb
  go_wp2_with fail
  go_at_call 14
  refine (same_told _ _ (Laid.below HL.out hB)).mono ?_
  rintro e w4 ⟨rfl, hb⟩
  replace b18 := b18.keep hb
  replace hB := below_then hb hB
  clear hb
  go_upto_if 156 with fail
  go_cut [7] (fun t wx => t = .int .i64 (sizeE bl) ∧ w4 = wx)
  case first =>
    as_aux_lemma =>
    by_cases h0 : 400 < bl.length
    · have hif := Lib.hid (show sizeE bl = 4 from if_pos h0)
      have h1 : (400 : Int) < (bl.length : Int) := by omega
      clear h0
      go_wp2
      go_meet
      case rel => exact ⟨by rw [hif.out], rfl⟩
    · by_cases h2 : bl.length = 0
      · have hif := Lib.hid (show sizeE bl = 5 by rw [sizeE, if_neg h0, if_pos h2])
        have h1 : ¬ (400 : Int) < (bl.length : Int) := by omega
        have h3 : ((bl.length : Int) == 0) = true := by rw [beq_iff_eq]; omega
        clear h0 h2
        go_wp2
        go_meet
        case rel => exact ⟨by rw [hif.out], rfl⟩
      · have hif := Lib.hid (show sizeE bl = 0 by rw [sizeE, if_neg h0, if_neg h2])
        have h1 : ¬ (400 : Int) < (bl.length : Int) := by omega
        have h3 : ((bl.length : Int) == 0) = false := beq_eq_false_iff_ne.2 (by omega)
        clear h0 h2
        go_wp2
        go_meet
        case rel => exact ⟨by rw [hif.out], rfl⟩
  obtain ⟨rfl, rfl⟩ := hcut
  as_aux_lemma =>
  go_upto_block 6 with fail
  go_cut [7] (fun t wx => t = .int .i64 (joinE bl) ∧ Below w4.heap.size w4 wx)
  case first =>
    by_cases h0 : sizeE bl = 0
    · have hs := sizeE_ok h0
      have HZ := Lib.hid h0
      have HJ0 := Lib.hid (joinE_ok hs)
      have hl400 := hs.2
      clear h0 hs
      go_wp2_with fail
      go_loopw [7, 26, 27] (fun e i _ wr => ∃ k : Nat, k ≤ bl.length ∧ i = .int .i64 k ∧ ((e = .int .i64 0 ∧ Hid ((bl.take k).all Bar.okB = true)) ∨ (e = .int .i64 3 ∧ Hid (bl.all Bar.okB = false))) ∧ Below w4.heap.size w4 wr) (fun _ i _ _ => bl.length - (intOf i).toNat)
      case atStart => exact ⟨0, by omega, rfl, Or.inl ⟨by rw [HZ.out], Lib.hid rfl⟩, Below.refl _ _⟩
      case round =>
        obtain ⟨k, hk, rfl, hor, hb⟩ := hrel
        rcases hor with ⟨rfl, hA⟩ | ⟨rfl, hA⟩
        · by_cases hlt : k < bl.length
          · obtain ⟨b, off, t, rfl, hbl, ht, e0, e1, e2, e3, e4⟩ := bar_at ((rdm HR2.out hB).below hb) hlt
            have j0 : (0 : Int) ≤ (k : Int) := by omega
            have j1 : (k : Int) < (bl.length : Int) := by omega
            cases hto : t.okB
            · have HBad := Lib.hid (all_bad ht hto)
              have HTO := Lib.hid hto
              clear ht hto
              go_wp2_with fail
              go_at_call 22
              refine (sbar_any t _).mono ?_
              intro e w8 hp
              rw [HTO.out] at hp
              obtain ⟨rfl, hb8⟩ := hp
              go_wp2
              go_roundw
              case rel => exact ⟨k + 1, by omega, by go_num, Or.inr ⟨rfl, HBad⟩, below_then hb8 hb⟩
              case measure => simp [intOf]; omega
            · have HA2 := Lib.hid (all_take_succ ht hA.out hto)
              have HTO := Lib.hid hto
              clear ht hto
              go_wp2_with fail
              go_at_call 22
              refine (sbar_any t _).mono ?_
              intro e w8 hp
              rw [HTO.out] at hp
              obtain ⟨rfl, hb8⟩ := hp
              go_wp2
              go_roundw
              case rel => exact ⟨k + 1, by omega, by go_num, Or.inl ⟨rfl, HA2⟩, below_then hb8 hb⟩
              case measure => simp [intOf]; omega
          · obtain rfl : k = bl.length := by omega
            go_wp2
            go_meet
            case rel =>
              have hA := hA.out
              rw [List.take_length] at hA
              exact ⟨by rw [HJ0.out, if_pos hA], hb⟩
        · rcases (show (k : Int) < (bl.length : Int) ∨ (bl.length : Int) ≤ (k : Int) by omega) with hlt | hlt
          · go_wp2
            go_meet
            case rel => exact ⟨by rw [HJ0.out, hA.out]; rfl, hb⟩
          · go_wp2
            go_meet
            case rel => exact ⟨by rw [HJ0.out, hA.out]; rfl, hb⟩
    · have HJ0 := Lib.hid (show joinE bl = sizeE bl from joinE_bad h0)
      have h1 : (sizeE bl == 0) = false := by simpa using h0
      clear h0
      generalize sizeE bl = z at *
      rcases (show bl.length = 0 ∨ 0 < bl.length by omega) with hl0 | hl0
      · have hl1 : (bl.length : Int) ≤ 0 := by omega
        clear hl0
        go_wp2_with fail
        go_loopw [7, 26, 27] (fun e i _ wr => e = .int .i64 z ∧ i = .int .i64 0 ∧ w4 = wr) (fun _ _ _ _ => 0)
        case atStart => exact ⟨rfl, rfl, rfl⟩
        case round =>
          obtain ⟨rfl, rfl, rfl⟩ := hrel
          go_wp2
          go_meet
          case rel => exact ⟨by rw [HJ0.out], Below.refl _ _⟩
      · have hl1 : (0 : Int) < (bl.length : Int) := by omega
        clear hl0
        go_wp2_with fail
        go_loopw [7, 26, 27] (fun e i _ wr => e = .int .i64 z ∧ i = .int .i64 0 ∧ w4 = wr) (fun _ _ _ _ => 0)
        case atStart => exact ⟨rfl, rfl, rfl⟩
        case round =>
          obtain ⟨rfl, rfl, rfl⟩ := hrel
          go_wp2
          go_meet
          case rel => exact ⟨by rw [HJ0.out], Below.refl _ _⟩
  obtain ⟨rfl, hb⟩ := hcut
  replace b18 := b18.keep hb
  replace hB := below_then hb hB
  clear hb
  as_aux_lemma =>
  go_upto_region 51 with fail
  have b28 := Bk.new wc 38 #[.int .i64 0, .int .i64 0, .int .i64 0, .int .i64 0, .int .i64 0]
  have hne : g18 ≠ wc.heap.size := by have := b18.lt; omega
  have hg28 : W0.heap.size ≤ wc.heap.size := hB.size
  replace b18 := b18.alloc (.cells #[.int .i64 0, .int .i64 0, .int .i64 0, .int .i64 0, .int .i64 0] 38)
  replace hB := below_then_alloc (o := .cells #[.int .i64 0, .int .i64 0, .int .i64 0, .int .i64 0, .int .i64 0] 38) hB
  generalize wc.heap.size = g28 at *
  generalize wc.alloc (.cells #[.int .i64 0, .int .i64 0, .int .i64 0, .int .i64 0, .int .i64 0] 38) = w5 at *
  have hne := Lib.hid hne
  go_upto_block 8 with fail
  go_cut [] (fun wx => Bk wx g18 38 #[.int .i64 (wholeV l).o, .int .i64 (wholeV l).h, .int .i64 (wholeV l).l, .int .i64 (wholeV l).c, .int .i64 (wholeV l).q] ∧ Bk wx g28 38 #[.int .i64 (joinV bl).o, .int .i64 (joinV bl).h, .int .i64 (joinV bl).l, .int .i64 (joinV bl).c, .int .i64 (joinV bl).q] ∧ Below W0.heap.size W0 wx)
  case first =>
    have HN := Lib.hid (hne.out.symm)
    generalize wholeV l = Wh at *
    by_cases h0 : joinE bl = 0
    · obtain ⟨hs, hok⟩ := joinE_good h0
      have HZ := Lib.hid h0
      have HV := Lib.hid (show joinV bl = foldB (bl.take bl.length) by rw [joinV, if_pos h0, List.take_length])
      have hl400 := hs.2
      have HOK := Lib.hid hok
      have h1 : (joinE bl == 0) = true := by simpa using h0
      clear h0 hs hok
      generalize joinE bl = z at *
      go_wp2_with fail
      go_loopw [29] (fun i wr => ∃ k : Nat, k ≤ bl.length ∧ i = .int .i64 k ∧ Bk wr g18 38 #[.int .i64 Wh.o, .int .i64 Wh.h, .int .i64 Wh.l, .int .i64 Wh.c, .int .i64 Wh.q] ∧ Bk wr g28 38 #[.int .i64 (foldB (bl.take k)).o, .int .i64 (foldB (bl.take k)).h, .int .i64 (foldB (bl.take k)).l, .int .i64 (foldB (bl.take k)).c, .int .i64 (foldB (bl.take k)).q] ∧ Below W0.heap.size W0 wr) (fun i _ => bl.length - (intOf i).toNat)
      case atStart => exact ⟨0, by omega, rfl, b18, b28, hB⟩
      case round =>
        obtain ⟨k, hk, rfl, hb2, hbb, hb⟩ := hrel
        clear b18 b28 hB
        by_cases hlt : k < bl.length
        · obtain ⟨b, off, t, rfl, hbl, ht, e0, e1, e2, e3, e4⟩ := bar_at (HR2.out.below hb) hlt
          have hto := HOK.out t (List.mem_of_getElem? ht)
          have i3 : (0 : Int) ≤ (k : Int) := by omega
          have i4 : (k : Int) < (bl.length : Int) := by omega
          have HB2 := Lib.hid hb2
          by_cases hk0 : k = 0
          · subst hk0
            have HF := Lib.hid (show foldB (bl.take (0 + 1)) = t by rw [foldB_snoc ht]; rfl)
            have z0 := hbb.free 0; have z1 := hbb.free 1; have z2 := hbb.free 2; have z3 := hbb.free 3; have z4 := hbb.free 4
            have B5 := Lib.hid (hbb.set5 (.int .i64 t.o) (.int .i64 t.h) (.int .i64 t.l) (.int .i64 t.c) (.int .i64 t.q))
            simp only [Nat.zero_mul, Nat.add_zero] at e0 e1 e2 e3 e4
            obtain ⟨q0, q1, q2, q3, q4⟩ := box5b hbb
            clear ht hto hb2 hbb
            go_wp2
            go_roundw
            case rel =>
              refine ⟨0 + 1, by omega, by go_num, ?_, ?_, ?_⟩
              · repeat (first | (with_reducible exact HB2.out) | (with_reducible refine Bk.drew ?_) | (with_reducible refine Bk.drewN ?_ _) | (with_reducible refine Bk.far ?_ (by simpa using hne.out) _))
              · rw [HF.out]; exact B5.out
              · repeat (first | (with_reducible exact hb) | (with_reducible refine Below.drew ?_) | (with_reducible refine below_drewN ?_ _) | (with_reducible refine Below.setCell ?_ (by simp; omega) _))
            case measure => simp [intOf]; omega
          · have hfq := foldB_geq HOK.out k (by omega) (by omega)
            have htq : 1 ≤ t.q ∧ t.q ≤ 4000000 := by have h := hto; simp only [Bar.okB, decide_eq_true_eq] at h; omega
            have HF := Lib.hid (foldB_snoc ht)
            have hk1 : ((k : Int) == 0) = false := beq_eq_false_iff_ne.2 (by omega)
            clear ht hto e0 hb2
            generalize foldB (bl.take k) = a at *
            have HJ := Lib.hid (show joinB a t = ⟨a.o, max a.h t.h, min a.l t.l, t.c, a.q + t.q⟩ from if_neg (by omega))
            have x3 : IntKind.i64.wrap (a.q + t.q) = a.q + t.q := IntWalk.i64_in _ (by omega)
            have X3 := Lib.hid x3
            obtain ⟨c0, c1, c2, c3, c4⟩ := box5b hbb
            have z1 := hbb.free 1; have z2 := hbb.free 2; have z3 := hbb.free 3; have z4 := hbb.free 4
            have HB := Lib.hid hbb
            clear hbb x3 c0
            rcases (show a.h < t.h ∨ t.h ≤ a.h by omega) with ha | ha <;> rcases (show t.l < a.l ∨ a.l ≤ t.l by omega) with hb' | hb'
            · have HMx := Lib.hid (show max a.h t.h = t.h from Int.max_eq_right (by omega))
              have HMn := Lib.hid (show min a.l t.l = t.l from Int.min_eq_right (by omega))
              go_wp2
              go_quiet (fail)
              go_wp2
              go_quiet (fail)
              go_wp2
              have x3 := X3.out
              go_region
              clear x3
              go_wp2
              go_roundw
              case rel =>
                refine ⟨k + 1, by omega, by go_num, ?_, ?_, ?_⟩
                · repeat (first | (with_reducible exact HB2.out) | (with_reducible refine Bk.drew ?_) | (with_reducible refine Bk.drewN ?_ _) | (with_reducible refine Bk.far ?_ (by simpa using hne.out) _))
                · rw [HF.out, HJ.out, HMx.out, HMn.out]
                  first | exact ((((((HB.out.drewN _).set_ 1 _).drewN _).set_ 2 _).set_ 3 _).set_ 4 _).drew
                · repeat (first | (with_reducible exact hb) | (with_reducible refine Below.drew ?_) | (with_reducible refine below_drewN ?_ _) | (with_reducible refine Below.setCell ?_ (by simp; omega) _))
              case measure => simp [intOf]; omega
            · have HMx := Lib.hid (show max a.h t.h = t.h from Int.max_eq_right (by omega))
              have HMn := Lib.hid (show min a.l t.l = a.l from Int.min_eq_left (by omega))
              go_wp2
              go_quiet (fail)
              go_wp2
              go_quiet (fail)
              go_wp2
              have x3 := X3.out
              go_region
              clear x3
              go_wp2
              go_roundw
              case rel =>
                refine ⟨k + 1, by omega, by go_num, ?_, ?_, ?_⟩
                · repeat (first | (with_reducible exact HB2.out) | (with_reducible refine Bk.drew ?_) | (with_reducible refine Bk.drewN ?_ _) | (with_reducible refine Bk.far ?_ (by simpa using hne.out) _))
                · rw [HF.out, HJ.out, HMx.out, HMn.out]
                  first | exact (((((HB.out.drewN _).set_ 1 _).drewN _).set_ 3 _).set_ 4 _).drew
                · repeat (first | (with_reducible exact hb) | (with_reducible refine Below.drew ?_) | (with_reducible refine below_drewN ?_ _) | (with_reducible refine Below.setCell ?_ (by simp; omega) _))
              case measure => simp [intOf]; omega
            · have HMx := Lib.hid (show max a.h t.h = a.h from Int.max_eq_left (by omega))
              have HMn := Lib.hid (show min a.l t.l = t.l from Int.min_eq_right (by omega))
              go_wp2
              go_quiet (fail)
              go_wp2
              go_quiet (fail)
              go_wp2
              have x3 := X3.out
              go_region
              clear x3
              go_wp2
              go_roundw
              case rel =>
                refine ⟨k + 1, by omega, by go_num, ?_, ?_, ?_⟩
                · repeat (first | (with_reducible exact HB2.out) | (with_reducible refine Bk.drew ?_) | (with_reducible refine Bk.drewN ?_ _) | (with_reducible refine Bk.far ?_ (by simpa using hne.out) _))
                · rw [HF.out, HJ.out, HMx.out, HMn.out]
                  first | exact ((((HB.out.drewN _).set_ 2 _).set_ 3 _).set_ 4 _).drew | exact (((((HB.out.drewN _).drewN _).set_ 2 _).set_ 3 _).set_ 4 _).drew
                · repeat (first | (with_reducible exact hb) | (with_reducible refine Below.drew ?_) | (with_reducible refine below_drewN ?_ _) | (with_reducible refine Below.setCell ?_ (by simp; omega) _))
              case measure => simp [intOf]; omega
            · have HMx := Lib.hid (show max a.h t.h = a.h from Int.max_eq_left (by omega))
              have HMn := Lib.hid (show min a.l t.l = a.l from Int.min_eq_left (by omega))
              go_wp2
              go_quiet (fail)
              go_wp2
              go_quiet (fail)
              go_wp2
              have x3 := X3.out
              go_region
              clear x3
              go_wp2
              go_roundw
              case rel =>
                refine ⟨k + 1, by omega, by go_num, ?_, ?_, ?_⟩
                · repeat (first | (with_reducible exact HB2.out) | (with_reducible refine Bk.drew ?_) | (with_reducible refine Bk.drewN ?_ _) | (with_reducible refine Bk.far ?_ (by simpa using hne.out) _))
                · rw [HF.out, HJ.out, HMx.out, HMn.out]
                  first | exact (((HB.out.drewN _).set_ 3 _).set_ 4 _).drew | exact ((((HB.out.drewN _).drewN _).set_ 3 _).set_ 4 _).drew
                · repeat (first | (with_reducible exact hb) | (with_reducible refine Below.drew ?_) | (with_reducible refine below_drewN ?_ _) | (with_reducible refine Below.setCell ?_ (by simp; omega) _))
              case measure => simp [intOf]; omega
        · obtain rfl : k = bl.length := by omega
          have HBB := Lib.hid hbb; have HB2 := Lib.hid hb2
          clear hbb hb2
          generalize foldB (bl.take bl.length) = a at *
          go_wp2
          go_meet
          case rel => exact ⟨HB2.out, by rw [HV.out]; exact HBB.out, hb⟩
    · have HV := Lib.hid (show joinV bl = bar0 from if_neg h0)
      have h1 : (joinE bl == 0) = false := by simpa using h0
      clear h0
      generalize joinE bl = z at *
      have HB8 := Lib.hid b18; have HB9 := Lib.hid b28
      clear b18 b28
      rcases (show bl.length = 0 ∨ 0 < bl.length by omega) with hl0 | hl0
      · have hl1 : (bl.length : Int) ≤ 0 := by omega
        clear hl0
        go_wp2_with fail
        go_loopw [29] (fun i wr => i = .int .i64 0 ∧ w5 = wr) (fun _ _ => 0)
        case atStart => exact ⟨rfl, rfl⟩
        case round =>
          obtain ⟨rfl, rfl⟩ := hrel
          go_wp2
          go_meet
          case rel => exact ⟨HB8.out, by rw [HV.out]; exact HB9.out, hB⟩
      · have hl1 : (0 : Int) < (bl.length : Int) := by omega
        clear hl0
        go_wp2_with fail
        go_loopw [29] (fun i wr => i = .int .i64 0 ∧ w5 = wr) (fun _ _ => 0)
        case atStart => exact ⟨rfl, rfl⟩
        case round =>
          obtain ⟨rfl, rfl⟩ := hrel
          go_wp2
          go_meet
          case rel => exact ⟨HB8.out, by rw [HV.out]; exact HB9.out, hB⟩
  clear hB b18 b28
  obtain ⟨b18, b28, hB⟩ := hcut
  as_aux_lemma =>
  go_wp2_with fail
  go_at_call 23
  refine (join_all bl A2 c2 _ (rdm HR2.out hB)).mono ?_
  rintro e w6 ⟨rfl, hb⟩
  replace b18 := b18.keep hb
  replace b28 := b28.keep hb
  replace hB := below_then hb hB
  clear hb
  have b30 := Bk.new w6 38 #[.int .i64 (joinV bl).o, .int .i64 (joinV bl).h, .int .i64 (joinV bl).l, .int .i64 (joinV bl).c, .int .i64 (joinV bl).q]
  replace b18 := b18.alloc (.cells #[.int .i64 (joinV bl).o, .int .i64 (joinV bl).h, .int .i64 (joinV bl).l, .int .i64 (joinV bl).c, .int .i64 (joinV bl).q] 38)
  replace b28 := b28.alloc (.cells #[.int .i64 (joinV bl).o, .int .i64 (joinV bl).h, .int .i64 (joinV bl).l, .int .i64 (joinV bl).c, .int .i64 (joinV bl).q] 38)
  replace hB := below_then_alloc (o := .cells #[.int .i64 (joinV bl).o, .int .i64 (joinV bl).h, .int .i64 (joinV bl).l, .int .i64 (joinV bl).c, .int .i64 (joinV bl).q] 38) hB
  go_upto_region 63 with fail
  generalize w6.heap.size = g30 at *
  generalize w6.alloc (.cells #[.int .i64 (joinV bl).o, .int .i64 (joinV bl).h, .int .i64 (joinV bl).l, .int .i64 (joinV bl).c, .int .i64 (joinV bl).q] 38) = w7 at *
  go_wp2_with fail
  go_at_call 14
  refine (same_told _ _ (Laid.below HL.out hB)).mono ?_
  rintro e w8 ⟨rfl, hb⟩
  replace b18 := b18.keep hb
  replace b28 := b28.keep hb
  replace b30 := b30.keep hb
  replace hB := below_then hb hB
  clear hb
  rw [(whole_says l).1, (whole_says l).2] at b18
  have q18 := box5b b18
  have q28 := box5b b28
  have q30 := box5b b30
  clear b18 b28 b30
  go_wp2
  go_ret
  exact ⟨rfl, hB⟩
theorem barsTell_law {H : Type} {enc : TypeId × Value → H} {v0 v1 v2 : Value} {d0 d1 d2 : DataW H} {p0 p1 p2 : List MemPlace} {base : Nat} {W : World}
    (h0 : Arg enc W base 34 v0 d0 p0) (h1 : Arg enc W base 3 v1 d1 p1) (h2 : Arg enc W base 35 v2 d2 p2) (hl : Laid W) :
    Calls Tryd.prog 4 #[v0, v1, v2] W fun e w' => e = .returned (.bool true) ∧ Below W.heap.size W w' := by
  obtain ⟨A, l, c, rfl, hr⟩ := h0.trades
  obtain ⟨n, rfl, _⟩ := h1.int
  obtain ⟨A2, bl, c2, rfl, hm2, hr2⟩ := h2.bars
  have hm := arg_max Tryd.underlying34 h0
  exact bt_walk l A c n bl A2 c2 W hr hm.1 hm.2.1 hr2 hm2 hl
end Go.Proofs.YtefncbdkjljbjaaDoor
