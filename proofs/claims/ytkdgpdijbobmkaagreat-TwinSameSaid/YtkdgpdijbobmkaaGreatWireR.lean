/- Bytes as a command: plain. -/
import Derived.Test.YtkdgpdijbobmkaaGreatWire6
namespace Go.Proofs.YtkdgpdijbobmkaaGreat
set_option linter.all false
open Go Go.RowKit
/-- byte i of a text -/
def byt (b : ByteArray) (i : Nat) : Int := if h : i < b.size then ((b[i]'h).toNat : Int) else 0
/-- a command that is right, as bytes -/
def enc (c : Cmd) : ByteArray := strOf (c.body ++ [c.body.sum % 251])
/-- the j-th number of two bytes -/
def w2 (b : ByteArray) (j : Nat) : Int := byt b (1 + 2 * j) * 256 + byt b (2 + 2 * j)
def cmd0 : Cmd := ⟨0, ⟨0, 0, 0, 0, 0, 0, 0, 0⟩, 0, 0⟩
/-- what bytes would be, if that was right; none: they are not of its length -/
def rawC (b : ByteArray) : Option Cmd :=
  if b.size < 2 then none
  else if byt b 0 = 1 then (if b.size = 18 then some ⟨1, ⟨w2 b 0, w2 b 1, w2 b 2, w2 b 3, w2 b 4, w2 b 5, w2 b 6, w2 b 7⟩, 0, 0⟩ else none)
  else if byt b 0 = 2 then (if b.size = 4 then some ⟨2, ⟨w2 b 0, 0, 0, 0, 0, 0, 0, 0⟩, 0, 0⟩ else none)
  else if byt b 0 = 3 then (if b.size = 8 then some ⟨3, ⟨w2 b 0, 0, 0, 0, w2 b 1, w2 b 2, 0, 0⟩, 0, 0⟩ else none)
  else if byt b 0 = 4 ∨ byt b 0 = 5 then (if b.size = 7 then some ⟨byt b 0, ⟨0, 0, 0, 0, 0, 0, 0, 0⟩, byt b 1, ((byt b 2 * 256 + byt b 3) * 256 + byt b 4) * 256 + byt b 5⟩ else none)
  else some ⟨byt b 0, ⟨0, 0, 0, 0, 0, 0, 0, 0⟩, 0, 0⟩
open Classical in
/-- the command of bytes -/
noncomputable def rdC (b : ByteArray) : Option Cmd := match rawC b with
  | none => none
  | some c => if c.err = 0 ∧ enc c = b then some c else none
theorem byt_in (b : ByteArray) (i : Nat) : 0 ≤ byt b i ∧ byt b i ≤ 255 := by
  unfold byt
  split
  · rename_i h; have := (b[i]'h).toNat_lt; omega
  · omega
theorem strOf_data (bs : List Int) : (strOf bs).data.toList = bs.map fun n => UInt8.ofNat n.toNat := by
  have h : ∀ (l : List Int) (r : ByteArray), (l.foldl (fun r n => r.push (UInt8.ofNat n.toNat)) r).data.toList = r.data.toList ++ l.map fun n => UInt8.ofNat n.toNat := by
    intro l
    induction l with
    | nil => intro r; simp
    | cons x l ih => intro r; rw [List.foldl_cons, ih]; simp [ByteArray.push]
  exact (h bs ByteArray.empty).trans (List.nil_append _)
theorem byt_strOf {bs : List Int} {i : Nat} {x : Int} (h : bs[i]? = some x) (h0 : 0 ≤ x) (h1 : x ≤ 255) : byt (strOf bs) i = x := by
  have hi : i < bs.length := (List.getElem?_eq_some_iff.1 h).1
  have hs : i < (strOf bs).size := by rw [strOf_size]; exact hi
  unfold byt
  rw [dif_pos hs]
  have e : (strOf bs)[i]'hs = UInt8.ofNat x.toNat := by
    have h2 : (strOf bs).data.toList[i]? = some (UInt8.ofNat x.toNat) := by rw [strOf_data, List.getElem?_map, h]; rfl
    have h3 : (strOf bs)[i]'hs = (strOf bs).data.toList[i]'(by simpa using hs) := rfl
    rw [h3]
    exact (List.getElem?_eq_some_iff.1 h2).2
  rw [e, UInt8.toNat_ofNat']
  omega
theorem Order.err_small {o : Order} (h : o.err = 0) : (0 ≤ o.id ∧ o.id ≤ 65535) ∧ (0 ≤ o.who ∧ o.who ≤ 65535) ∧ (0 ≤ o.side ∧ o.side ≤ 65535) ∧ (0 ≤ o.kind ∧ o.kind ≤ 65535) ∧ (0 ≤ o.price ∧ o.price ≤ 65535) ∧ (0 ≤ o.qty ∧ o.qty ≤ 65535) ∧ (0 ≤ o.show_ ∧ o.show_ ≤ 65535) ∧ (0 ≤ o.stop ∧ o.stop ≤ 65535) := by
  have hh := Order.err_ok h
  omega
theorem sum_in (l : List Int) : 0 ≤ l.sum % 251 ∧ l.sum % 251 ≤ 255 := by omega
theorem enc_size (c : Cmd) : (enc c).size = c.body.length + 1 := by rw [enc, strOf_size, List.length_append]; rfl
theorem cmd_err1 {o : Order} {who n : Int} (h : (Cmd.mk 1 o who n).err = 0) : o.err = 0 ∧ who = 0 ∧ n = 0 := by
  simp only [Cmd.err, if_true] at h
  by_cases h1 : o.err = 0
  · rw [if_neg (by simpa using h1)] at h
    by_cases h2 : who ≠ 0 ∨ n ≠ 0
    · rw [if_pos h2] at h; omega
    · omega
  · rw [if_pos h1] at h; exact absurd h h1
theorem cmd_err2 {o : Order} {who n : Int} (h : (Cmd.mk 2 o who n).err = 0) : inb o.id 1 9999 = true ∧ o.who = 0 ∧ o.side = 0 ∧ o.kind = 0 ∧ o.price = 0 ∧ o.qty = 0 ∧ o.show_ = 0 ∧ o.stop = 0 ∧ who = 0 ∧ n = 0 := by
  rw [Cmd.err, if_neg (by simp), if_pos rfl] at h
  cases h1 : inb o.id 1 9999
  · rw [if_pos h1] at h; omega
  · rw [if_neg (by simp [h1])] at h
    split at h
    · rename_i h2; exact ⟨rfl, h2⟩
    · omega
theorem cmd_err3 {o : Order} {who n : Int} (h : (Cmd.mk 3 o who n).err = 0) : inb o.id 1 9999 = true ∧ vp o.price = true ∧ inb o.qty 1 10000 = true ∧ o.who = 0 ∧ o.side = 0 ∧ o.kind = 0 ∧ o.show_ = 0 ∧ o.stop = 0 ∧ who = 0 ∧ n = 0 := by
  rw [Cmd.err, if_neg (by simp), if_neg (by simp), if_pos rfl] at h
  cases h1 : inb o.id 1 9999
  · rw [if_pos h1] at h; omega
  · rw [if_neg (by simp [h1])] at h
    cases h2 : vp o.price
    · rw [if_pos (.inl h2)] at h; omega
    · cases h3 : inb o.qty 1 10000
      · rw [if_pos (.inr h3)] at h; omega
      · rw [if_neg (by simp [h2, h3])] at h
        split at h
        · rename_i h4; exact ⟨rfl, rfl, rfl, h4⟩
        · omega
theorem cmd_err4 {k : Int} (hk : k = 4 ∨ k = 5) {o : Order} {who n : Int} (h : (Cmd.mk k o who n).err = 0) : inb who 1 9 = true ∧ 1 ≤ n ∧ n ≤ 1000000000 ∧ o.id = 0 ∧ o.who = 0 ∧ o.side = 0 ∧ o.kind = 0 ∧ o.price = 0 ∧ o.qty = 0 ∧ o.show_ = 0 ∧ o.stop = 0 := by
  have a1 : ¬ k = 1 := by omega
  have a2 : ¬ k = 2 := by omega
  have a3 : ¬ k = 3 := by omega
  simp only [Cmd.err, if_neg a1, if_neg a2, if_neg a3, if_pos hk] at h
  split at h
  · omega
  · split at h
    · rename_i g1 g2
      refine ⟨?_, by omega, by omega, g2⟩
      cases hw : inb who 1 9
      · exact absurd (.inl hw) g1
      · rfl
    · omega
theorem Cmd.kind0 {c : Cmd} (h : c.err = 0) : c.what = 1 ∨ c.what = 2 ∨ c.what = 3 ∨ (c.what = 4 ∨ c.what = 5) := by
  by_cases a1 : c.what = 1
  · exact .inl a1
  by_cases a2 : c.what = 2
  · exact .inr (.inl a2)
  by_cases a3 : c.what = 3
  · exact .inr (.inr (.inl a3))
  by_cases a4 : c.what = 4 ∨ c.what = 5
  · exact .inr (.inr (.inr a4))
  · rw [Cmd.err, if_neg a1, if_neg a2, if_neg a3, if_neg a4] at h
    omega
/-- a command that is right is read as it was -/
theorem raw_enc {c : Cmd} (h : c.err = 0) : rawC (enc c) = some c := by
  have hl := enc_size c
  rw [body_len] at hl
  obtain ⟨k, o, who, n⟩ := c
  have hk := Cmd.kind0 h
  dsimp only at hk hl
  have B : ∀ {i : Nat} {x : Int}, ((Cmd.mk k o who n).body ++ [(Cmd.mk k o who n).body.sum % 251])[i]? = some x → 0 ≤ x → x ≤ 255 → byt (enc ⟨k, o, who, n⟩) i = x := fun h h0 h1 => byt_strOf h h0 h1
  have W : ∀ {j : Nat} {x : Int}, ((Cmd.mk k o who n).body ++ [(Cmd.mk k o who n).body.sum % 251])[1 + 2 * j]? = some (x / 256) → ((Cmd.mk k o who n).body ++ [(Cmd.mk k o who n).body.sum % 251])[2 + 2 * j]? = some (x % 256) → 0 ≤ x → x ≤ 65535 → w2 (enc ⟨k, o, who, n⟩) j = x := fun h h' h0 h1 => by
    rw [w2, B h (by omega) (by omega), B h' (by omega) (by omega)]; omega
  rcases hk with rfl | rfl | rfl | hk
  · obtain ⟨ho, rfl, rfl⟩ := cmd_err1 h
    obtain ⟨s1, s2, s3, s4, s5, s6, s7, s8⟩ := Order.err_small ho
    have e0 : byt (enc ⟨1, o, 0, 0⟩) 0 = 1 := B rfl (by omega) (by omega)
    rw [rawC, if_neg (by rw [hl]; simp), if_pos e0, if_pos (by rw [hl]; simp)]
    rw [W (j := 0) (x := o.id) rfl rfl s1.1 s1.2, W (j := 1) (x := o.who) rfl rfl s2.1 s2.2, W (j := 2) (x := o.side) rfl rfl s3.1 s3.2, W (j := 3) (x := o.kind) rfl rfl s4.1 s4.2, W (j := 4) (x := o.price) rfl rfl s5.1 s5.2, W (j := 5) (x := o.qty) rfl rfl s6.1 s6.2, W (j := 6) (x := o.show_) rfl rfl s7.1 s7.2, W (j := 7) (x := o.stop) rfl rfl s8.1 s8.2]
  · obtain ⟨hi, h1, h2, h3, h4, h5, h6, h7, rfl, rfl⟩ := cmd_err2 h
    obtain ⟨id, ow, side, kind, price, qty, show_, stop⟩ := o
    dsimp only at *
    subst h1 h2 h3 h4 h5 h6 h7
    have := inb_t hi
    have e0 : byt (enc ⟨2, ⟨id, 0, 0, 0, 0, 0, 0, 0⟩, 0, 0⟩) 0 = 2 := B rfl (by omega) (by omega)
    rw [rawC, if_neg (by rw [hl]; simp), if_neg (by rw [e0]; omega), if_pos e0, if_pos (by rw [hl]; simp)]
    rw [W (j := 0) (x := id) rfl rfl (by omega) (by omega)]
  · obtain ⟨hi, hp, hq, h1, h2, h3, h4, h5, rfl, rfl⟩ := cmd_err3 h
    obtain ⟨id, ow, side, kind, price, qty, show_, stop⟩ := o
    dsimp only at *
    subst h1 h2 h3 h4 h5
    have := inb_t hi
    have := inb_t hq
    have hp' : 1 ≤ price ∧ price ≤ 10000 := by simpa [vp] using hp
    have e0 : byt (enc ⟨3, ⟨id, 0, 0, 0, price, qty, 0, 0⟩, 0, 0⟩) 0 = 3 := B rfl (by omega) (by omega)
    rw [rawC, if_neg (by rw [hl]; simp), if_neg (by rw [e0]; omega), if_neg (by rw [e0]; omega), if_pos e0, if_pos (by rw [hl]; simp)]
    rw [W (j := 0) (x := id) rfl rfl (by omega) (by omega), W (j := 1) (x := price) rfl rfl (by omega) (by omega), W (j := 2) (x := qty) rfl rfl (by omega) (by omega)]
  · obtain ⟨hw, hn, hn2, h1, h2, h3, h4, h5, h6, h7, h8⟩ := cmd_err4 hk h
    obtain ⟨id, ow, side, kind, price, qty, show_, stop⟩ := o
    dsimp only at *
    subst h1 h2 h3 h4 h5 h6 h7 h8
    have := inb_t hw
    have a1 : ¬ k = 1 := by omega
    have a2 : ¬ k = 2 := by omega
    have a3 : ¬ k = 3 := by omega
    have hb : (Cmd.mk k ⟨0, 0, 0, 0, 0, 0, 0, 0⟩ who n).body = [k, who, n / 16777216, n / 65536 % 256, n / 256 % 256, n % 256] := by rw [Cmd.body, if_pos hk]
    rw [hb] at B
    rw [if_neg a1, if_neg a2, if_pos hk] at hl
    have e0 : byt (enc ⟨k, ⟨0, 0, 0, 0, 0, 0, 0, 0⟩, who, n⟩) 0 = k := B rfl (by omega) (by omega)
    rw [rawC, if_neg (by rw [hl]; omega), e0, if_neg a1, if_neg a2, if_neg a3, if_pos hk, if_pos (by rw [hl])]
    rw [B (i := 1) (x := who) rfl (by omega) (by omega), B (i := 2) (x := n / 16777216) rfl (by omega) (by omega), B (i := 3) (x := n / 65536 % 256) rfl (by omega) (by omega), B (i := 4) (x := n / 256 % 256) rfl (by omega) (by omega), B (i := 5) (x := n % 256) rfl (by omega) (by omega)]
    rw [show ((n / 16777216 * 256 + n / 65536 % 256) * 256 + n / 256 % 256) * 256 + n % 256 = n by omega]
/-- bytes are a command just if they are its bytes -/
theorem rdC_iff {b : ByteArray} {c : Cmd} : rdC b = some c ↔ c.err = 0 ∧ enc c = b := by
  constructor
  · intro h
    unfold rdC at h
    split at h
    · cases h
    · split at h
      · cases h; assumption
      · cases h
  · rintro ⟨h, rfl⟩
    unfold rdC
    rw [raw_enc h]
    dsimp only
    rw [if_pos ⟨h, rfl⟩]
theorem rdC_none {b : ByteArray} (h : rawC b = none) : rdC b = none := by unfold rdC; rw [h]
theorem rdC_some {b : ByteArray} {c : Cmd} (h : rawC b = some c) (h1 : c.err = 0) (h2 : enc c = b) : rdC b = some c := rdC_iff.2 ⟨h1, h2⟩
theorem rdC_bad {b : ByteArray} {c : Cmd} (h : rawC b = some c) (h1 : ¬ (c.err = 0 ∧ enc c = b)) : rdC b = none := by
  unfold rdC
  rw [h]
  dsimp only
  rw [if_neg h1]
end Go.Proofs.YtkdgpdijbobmkaaGreat
