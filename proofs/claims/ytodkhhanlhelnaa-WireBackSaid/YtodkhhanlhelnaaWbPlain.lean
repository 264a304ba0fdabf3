/- WireBack, plain: what is packed is unpacked, and the other way. -/
import Derived.Test.YtodkhhanlhelnaaWirePk
import Derived.Test.YtodkhhanlhelnaaWireUn
namespace Go.Proofs.Ytodkhhanlhelnaa
set_option linter.all false
open Go Go.RowKit
theorem ba_mk (b : ByteArray) : ∃ l : List UInt8, b = ⟨l.toArray⟩ := ⟨b.data.toList, by apply ByteArray.ext; simp⟩
theorem ba_size (l : List UInt8) : (⟨l.toArray⟩ : ByteArray).size = l.length := by simp [ByteArray.size]
theorem byt_mk (n : UInt8) (l : List UInt8) : byt ⟨(n :: l).toArray⟩ 0 = (n.toNat : Int) := by
  rw [byt, dif_pos (by rw [ba_size]; simp)]
  rfl
theorem ba_inj {a b : List UInt8} (h : (⟨a.toArray⟩ : ByteArray) = ⟨b.toArray⟩) : a = b := by
  injection h with h
  simpa using congrArg Array.toList h
theorem enc_mk (c : Cmd) : enc c = ⟨(enc c).data.toList.toArray⟩ := (ba_data _).symm
theorem enc_data (c : Cmd) : (enc c).data.toList.length = (enc c).size := by simp
/-- the first command of what is packed -/
theorem nx_pack {c : Cmd} (l : List Cmd) (h : c.err = 0) : nxC (packS (c :: l)) = some (c, packS l) := by
  have he := enc_len h
  have hn : (UInt8.ofNat (enc c).size).toNat = (enc c).size := by rw [UInt8.toNat_ofNat']; omega
  have e0 : packS (c :: l) = ⟨(UInt8.ofNat (enc c).size :: ((enc c).data.toList ++ packB l)).toArray⟩ := by simp [packS, packB]
  have hx : nxE (packS (c :: l)) = 1 + (enc c).size := by rw [nxE, e0, byt_mk, hn]; simp
  have hs : (packS (c :: l)).size = 1 + ((enc c).size + (packB l).length) := by rw [e0, ba_size, List.length_cons, List.length_append, enc_data]; omega
  rw [nxC, if_neg (by rw [hs, hx]; omega), hx]
  have e1 : (packS (c :: l)).extract 1 (1 + (enc c).size) = enc c := by
    rw [e0, ByteArray.extract_mk]
    conv => rhs; rw [enc_mk c]
    congr 2
    rw [List.drop_succ_cons, List.drop_zero, List.take_append_of_le_length (by rw [enc_data]; omega), List.take_of_length_le (by rw [enc_data]; omega)]
  have e2 : (packS (c :: l)).extract (1 + (enc c).size) (packS (c :: l)).size = packS l := by
    rw [hs, e0, ByteArray.extract_mk, packS]
    congr 2
    rw [show 1 + (enc c).size = (enc c).size + 1 by omega, List.drop_succ_cons, List.drop_append_of_le_length (by rw [enc_data]; exact Nat.le_refl _), List.drop_of_length_le (by rw [enc_data]; exact Nat.le_refl _), List.nil_append, List.take_of_length_le (by omega)]
  rw [e1, e2, rdC_iff.2 ⟨h, rfl⟩]
theorem un_pack : ∀ (l : List Cmd) (n : Nat) (out : List Cmd), (∀ c ∈ l, c.err = 0) → out.length + l.length ≤ 400 → (packS l).size < n → unRun n (packS l) out = some (out ++ l)
  | [], n, out, _, _, hn => by rw [List.append_nil]; exact un_end hn rfl
  | c :: l, n, out, h, hl, hn => by
    have hc := h c (List.mem_cons_self ..)
    have hx := nx_pack l hc
    have hz := nx_less hx
    simp only [List.length_cons] at hl
    rw [un_step hn hz.2.2, hx]
    dsimp only
    rw [if_neg (by omega), un_pack l n (out ++ [c]) (fun x hx => h x (List.mem_cons_of_mem _ hx)) (by rw [List.length_append, List.length_singleton]; omega) (by omega), List.append_assoc]
    rfl
theorem firstE_zero {l : List Cmd} (h : firstE l = 0) : ∀ c ∈ l, c.err = 0 := by
  unfold firstE at h
  cases hf : l.find? (fun c => c.err != 0) with
  | none =>
    rw [List.find?_eq_none] at hf
    intro c hc
    simpa using hf c hc
  | some c =>
    rw [hf] at h
    have := List.find?_some hf
    dsimp only at h
    simp [h] at this
theorem packE_zero {l : List Cmd} (h : packE l = 0) : l.length ≤ 400 ∧ ∀ c ∈ l, c.err = 0 := by
  unfold packE at h
  split at h
  · omega
  · exact ⟨by omega, firstE_zero h⟩
/-- what is packed is unpacked -/
theorem unC_pack {l : List Cmd} (h : packE l = 0) : unC (packS l) = some l := by
  obtain ⟨h1, h2⟩ := packE_zero h
  have := un_pack l ((packS l).size + 1) [] h2 (by simpa using h1) (by omega)
  rwa [List.nil_append] at this
/-- the first command of bytes, packed -/
theorem nx_bytes {b t : ByteArray} {c : Cmd} (h : nxC b = some (c, t)) : c.err = 0 ∧ ∀ l : List Cmd, t = packS l → b = packS (c :: l) := by
  have hz := nx_less h
  obtain ⟨L, rfl⟩ := ba_mk b
  cases L with
  | nil => exact absurd rfl hz.2.2
  | cons n L =>
    unfold nxC at h
    split at h
    · cases h
    · rename_i h0
      have hx : nxE ⟨(n :: L).toArray⟩ = 1 + n.toNat := by rw [nxE, byt_mk]; simp
      rw [hx, ba_size, List.length_cons] at h0
      rw [hx] at h
      cases hr : rdC ((⟨(n :: L).toArray⟩ : ByteArray).extract 1 (1 + n.toNat)) with
      | none => rw [hr] at h; cases h
      | some c' =>
        rw [hr] at h
        simp only [Option.some.injEq, Prod.mk.injEq] at h
        obtain ⟨rfl, rfl⟩ := h
        obtain ⟨he, hb⟩ := rdC_iff.1 hr
        refine ⟨he, fun l hl => ?_⟩
        rw [ByteArray.extract_mk, List.drop_succ_cons, List.drop_zero, show 1 + n.toNat - 1 = n.toNat by omega] at hb
        rw [ba_size, ByteArray.extract_mk, show 1 + n.toNat = n.toNat + 1 by omega, List.drop_succ_cons, List.length_cons, List.take_of_length_le (by rw [List.length_drop]; omega)] at hl
        have hl2 : packB l = L.drop n.toNat := (ba_inj hl).symm
        have h2 : (enc c').data.toList = L.take n.toNat := by rw [hb]
        have h3 : (enc c').size = n.toNat := by
          have : L.length + 1 ≠ 0 ∧ n.toNat ≤ L.length := by omega
          rw [← enc_data, h2, List.length_take]; omega
        have e0 : packS (c' :: l) = ⟨(UInt8.ofNat (enc c').size :: ((enc c').data.toList ++ packB l)).toArray⟩ := by simp [packS, packB]
        rw [e0, h2, hl2, List.take_append_drop, h3]
        rw [UInt8.ofNat_toNat]
theorem un_bytes : ∀ (n : Nat) (b : ByteArray) (out x : List Cmd), unRun n b out = some x → out.length ≤ 400 → ∃ l, x = out ++ l ∧ b = packS l ∧ (∀ c ∈ l, c.err = 0) ∧ x.length ≤ 400
  | 0, _, _, _, h, _ => by simp [unRun] at h
  | n + 1, b, out, x, h, ho => by
    unfold unRun at h
    split at h
    · rename_i h0
      cases h
      exact ⟨[], by simp, by rw [size0 h0]; rfl, fun c hc => by simp at hc, ho⟩
    · cases hn : nxC b with
      | none => rw [hn] at h; cases h
      | some p =>
        obtain ⟨c, t⟩ := p
        rw [hn] at h
        dsimp only at h
        split at h
        · cases h
        · obtain ⟨l, rfl, ht, hl, hx⟩ := un_bytes n t _ x h (by rw [List.length_append, List.length_singleton]; omega)
          obtain ⟨h1, h2⟩ := nx_bytes hn
          refine ⟨c :: l, by simp, h2 l ht, fun y hy => ?_, hx⟩
          rcases List.mem_cons.1 hy with rfl | hy
          · exact h1
          · exact hl y hy
/-- what is unpacked is packed -/
theorem pack_unC {b : ByteArray} {x : List Cmd} (h : unC b = some x) : packE x = 0 ∧ packS x = b := by
  obtain ⟨l, rfl, h1, h2, h3⟩ := un_bytes _ _ _ _ h (by simp)
  refine ⟨?_, h1.symm⟩
  rw [packE, if_neg (by omega)]
  exact firstE_none h2
end Go.Proofs.Ytodkhhanlhelnaa
