/- The contracts of package wire: Command, whatever it is given. -/
import Derived.Test.YtkdgpdijbobmkaaGreatWire5
import Derived.Test.YtkdgpdijbobmkaaGreatGrpV
namespace Go.Proofs.YtkdgpdijbobmkaaGreat
set_option linter.all false
open Go.RowKit
/-- the numbers of a command that stand in two bytes each -/
def Cmd.nums (c : Cmd) : List Int :=
  if c.what = 1 then [c.o.id, c.o.who, c.o.side, c.o.kind, c.o.price, c.o.qty, c.o.show_, c.o.stop] else if c.what = 2 then [c.o.id] else [c.o.id, c.o.price, c.o.qty]
/-- a command as bytes, but for the sum -/
def Cmd.body (c : Cmd) : List Int :=
  if c.what = 4 ∨ c.what = 5 then [c.what, c.who, c.n / 16777216, c.n / 65536 % 256, c.n / 256 % 256, c.n % 256] else c.what :: duo c.nums
abbrev Cmd.CC (c : Cmd) : Prop := ∀ w, Calls Tryz.prog 33 #[.agg #[.int .i64 c.what, .int .i64 c.o.id, .int .i64 c.o.who, .int .i64 c.o.side, .int .i64 c.o.kind, .int .i64 c.o.price, .int .i64 c.o.qty, .int .i64 c.o.show_, .int .i64 c.o.stop, .int .i64 c.who, .int .i64 c.n]] w fun e w' => e = .returned .nilIface ∧ Below w.heap.size w w'
theorem Cmd.cc {c : Cmd} (h : c.err = 0) : c.CC := fun w => (wcheck_any c w).mono fun e w' ⟨h1, h2⟩ => ⟨by rw [h1, errV, if_pos h], h2⟩
/-- how long the bytes are -/
theorem body_len (c : Cmd) : c.body.length = if c.what = 1 then 17 else if c.what = 2 then 3 else if c.what = 4 ∨ c.what = 5 then 6 else 7 := by
  unfold Cmd.body Cmd.nums
  by_cases h1 : c.what = 1
  · simp [h1, duo]
  by_cases h2 : c.what = 2
  · simp [h2, duo]
  by_cases h3 : c.what = 4 ∨ c.what = 5
  · simp [h1, h2, h3]
  · simp [h1, h2, h3, duo]
end Go.Proofs.YtkdgpdijbobmkaaGreat
