/- A trade, as it lies in memory. -/
import Derived.Test.YtkdgpdijbobmkaaGreatGrpA
namespace Go.Proofs.YtkdgpdijbobmkaaGreat
set_option linter.all false
open Go.RowKit
structure Trade where
  maker : Int
  taker : Int
  frm : Int
  to : Int
  price : Int
  qty : Int
def Trade.cell (t : Trade) : Nat → Value
  | 0 => .int .i64 t.maker
  | 1 => .int .i64 t.taker
  | 2 => .int .i64 t.frm
  | 3 => .int .i64 t.to
  | 4 => .int .i64 t.price
  | _ => .int .i64 t.qty
def tr0 : Trade := ⟨0, 0, 0, 0, 0, 0⟩
/-- cell j of trade i -/
def tcell (l : List Trade) (i j : Nat) : Value := (l.getD i tr0).cell j
def Trade.okB (t : Trade) : Bool := vp t.price && inb t.qty 1 10000
theorem tr_at {l : List Trade} {w : World} {B k : Nat} {A : Option Addr} (hr : Rd w B A l.length 6 (tcell l)) (hk : k < l.length) :
    ∃ b off t, A = some ⟨b, off, none⟩ ∧ b < B ∧ l[k]? = some t ∧ w.cell? ⟨b, off + k * 6, none⟩ = some (.int .i64 t.maker) ∧ w.cell? ⟨b, off + k * 6 + 1, none⟩ = some (.int .i64 t.taker) ∧ w.cell? ⟨b, off + k * 6 + 2, none⟩ = some (.int .i64 t.frm) ∧ w.cell? ⟨b, off + k * 6 + 3, none⟩ = some (.int .i64 t.to) ∧ w.cell? ⟨b, off + k * 6 + 4, none⟩ = some (.int .i64 t.price) ∧ w.cell? ⟨b, off + k * 6 + 5, none⟩ = some (.int .i64 t.qty) := by
  obtain ⟨b, off, e, hb, hc⟩ := hr (by omega)
  have hg : l.getD k tr0 = l[k] := by simp [hk]
  have h := hc k hk
  have h0 := h 0 (by omega); have h1 := h 1 (by omega); have h2 := h 2 (by omega); have h3 := h 3 (by omega); have h4 := h 4 (by omega); have h5 := h 5 (by omega)
  simp only [tcell, hg, Trade.cell] at h0 h1 h2 h3 h4 h5
  exact ⟨b, off, l[k], e, hb, List.getElem?_eq_getElem hk, h0, h1, h2, h3, h4, h5⟩
end Go.Proofs.YtkdgpdijbobmkaaGreat
