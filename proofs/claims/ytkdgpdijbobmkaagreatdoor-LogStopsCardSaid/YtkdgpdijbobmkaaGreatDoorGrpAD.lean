/- A log of commands: plain. The contracts of a log: New, step, Bytes. The contract of a log's redo. The contract of a log's Do. The contracts of a log's Sync, Fail, Floor, Crash. The contract of a log's Crash. -/
import Derived.Test.YtkdgpdijbobmkaaGreatDoorGrpAA
import Derived.Test.YtkdgpdijbobmkaaGreatDoorGrpAC
import Derived.Deep.LoopGhost
import Derived.Test.YtkdgpdijbobmkaaGreatDoorBkOwn
namespace Go.Proofs.YtkdgpdijbobmkaaGreatDoor
set_option linter.all false
open Go Go.RowKit
/-- a log -/
structure LgS where
  mode : Int
  f : FS
  b : ByteArray
  safe : Int
  left : Int
  stopped : Bool
/-- what bytes say is done: the floor, and what is left of them -/
noncomputable def redoF : Nat → FS → ByteArray → FS × ByteArray
  | 0, f, b => (f, b)
  | n + 1, f, b => match nxC b with
    | none => (f, b)
    | some (c, t) => if f.doE c ≠ 0 then (f, b) else redoF n (f.doS c) t
noncomputable def redoR (mode : Int) (b : ByteArray) : FS × ByteArray := redoF (b.size + 1) (FS.new mode) b
theorem redoF_ok : ∀ (n : Nat) (f : FS) (b : ByteArray), FSOk f → FSOk (redoF n f b).1
  | 0, _, _, h => h
  | n + 1, f, b, h => by
    unfold redoF
    cases hn : nxC b with
    | none => exact h
    | some z =>
      obtain ⟨c, t⟩ := z
      dsimp only
      split
      · exact h
      · exact redoF_ok n _ _ (h.do c)
theorem redoF_le : ∀ (n : Nat) (f : FS) (b : ByteArray), (redoF n f b).2.size ≤ b.size
  | 0, _, _ => Nat.le_refl _
  | n + 1, f, b => by
    unfold redoF
    cases hn : nxC b with
    | none => exact Nat.le_refl _
    | some z =>
      obtain ⟨c, t⟩ := z
      dsimp only
      split
      · exact Nat.le_refl _
      · have := redoF_le n (f.doS c) t
        have := (nx_less hn).1
        omega
def LgS.step (s : LgS) : LgS := { s with stopped := decide (s.left = 0), left := max (-1) (s.left - 1) }
def halfB (b : ByteArray) : ByteArray := b.extract 0 (b.size / 2)
noncomputable def LgS.doR (s : LgS) (c : Cmd) : Int × List Ev × LgS :=
  if s.stopped = true then (6, [], s) else if c.err ≠ 0 then (c.err, [], s) else if s.f.doE c ≠ 0 then (s.f.doE c, [], s)
  else if s.left = 0 then (6, [], { s.step with f := (redoR s.mode s.b).1, b := s.b ++ halfB (packS [c]) })
  else (0, s.f.doV c, { s.step with f := s.f.doS c, b := s.b ++ packS [c] })
def LgS.syncR (s : LgS) : Int × LgS :=
  if s.stopped = true then (6, s) else if s.left = 0 then (6, s.step) else (0, { s.step with safe := s.b.size })
def LgS.fail (s : LgS) (n : Int) : LgS := { s with left := max (-1) n }
def LgS.kept (s : LgS) (keep : Int) : ByteArray := s.b.extract 0 (s.safe + max 0 (min keep ((s.b.size : Int) - s.safe))).toNat
noncomputable def LgS.crash (s : LgS) (keep : Int) : LgS :=
  { s with f := (redoR s.mode (s.kept keep)).1, b := (s.kept keep).extract 0 ((s.kept keep).size - (redoR s.mode (s.kept keep)).2.size), safe := ((s.kept keep).size - (redoR s.mode (s.kept keep)).2.size : Nat), left := -1, stopped := false }
def LgS.new (mode : Int) : LgS := ⟨mode, FS.new mode, ⟨#[]⟩, 0, -1, false⟩
/-- a log that is right -/
structure LgOk (s : LgS) : Prop where
  mode : inb s.mode 0 3 = true
  f : FSOk s.f
  safe0 : 0 ≤ s.safe
  safe1 : s.safe ≤ s.b.size
  left0 : -1 ≤ s.left
  left1 : s.left ≤ 9223372036854775807
theorem LgOk.new {mode : Int} (h : inb mode 0 3 = true) : LgOk (LgS.new mode) := ⟨h, FSOk.new mode, Int.le_refl _, Int.le_refl _, Int.le_refl _, by show (-1 : Int) ≤ _; omega⟩
theorem packE_one (c : Cmd) : packE [c] = c.err := by
  unfold packE
  rw [if_neg (by simp)]
  by_cases h : c.err = 0
  · rw [firstE_none (by simpa using h), h]
  · rw [firstE_at (k := 0) (c := c) rfl h (fun j hj => by omega)]
/-- a log in memory: what of it is written lies from block lo on -/
def LgM (w : World) (lo gl : Nat) (s : LgS) : Prop :=
  ∃ X gf, Bk w gl 119 #[.int .i64 s.mode, .pointer (some ⟨gf, 0, none⟩), .string s.b, .int .i64 s.safe, .int .i64 s.left, .bool s.stopped] ∧ FlM w X gf s.f ∧ X gl ∧ gl ≠ gf ∧ ∀ k, X k → lo ≤ k
theorem LgM.below {w w' : World} {lo gl : Nat} {s : LgS} (h : LgM w lo gl s) (hb : Below w.heap.size w w') : LgM w' lo gl s := by
  obtain ⟨X, gf, h1, h2, h3⟩ := h
  exact ⟨X, gf, h1.keep hb, h2.below hb, h3⟩
theorem FlM.set {w : World} {X : Nat → Prop} {g gl j : Nat} {f : FS} (h : FlM w X g f) (hx : X gl) (hn : gl ≠ g) (v : Value) : FlM (w.setCell ⟨gl, j, none⟩ v) X g f :=
  h.grown (grown_set w ⟨gl, j, none⟩ v) (fun k e => by cases e; exact ⟨hx, hn⟩) (fun k e => .inl e) h.x (fun k e => by have := h.xlt k e; simp; exact this)
end Go.Proofs.YtkdgpdijbobmkaaGreatDoor
namespace Go.Proofs.YtkdgpdijbobmkaaGreatDoor
set_option linter.all false
open Go Go.RowKit
theorem lbox {w : World} {x0 x1 x2 x3 x4 x5 : Value} {g : Nat} {t : TypeId} (h : Bk w g t #[x0, x1, x2, x3, x4, x5]) : w.cell? ⟨g, 0, none⟩ = some x0 ∧ w.cell? ⟨g, 1, none⟩ = some x1 ∧ w.cell? ⟨g, 2, none⟩ = some x2 ∧ w.cell? ⟨g, 3, none⟩ = some x3 ∧ w.cell? ⟨g, 4, none⟩ = some x4 ∧ w.cell? ⟨g, 5, none⟩ = some x5 :=
  ⟨h.cell 0, h.cell 1, h.cell 2, h.cell 3, h.cell 4, h.cell 5⟩
def LNewPost (mode : Int) (w : World) (e : Ending) (w' : World) : Prop :=
  ∃ gl, e = .returned (.tuple #[.pointer (some ⟨gl, 0, none⟩), .nilIface]) ∧ Hid (LgM w' w.heap.size gl (LgS.new mode)) ∧ Below w.heap.size w w'
theorem lnew_any (mode : Int) (hm : inb mode 0 3 = true) (w : World) : Calls Tryz.prog 16 #[.int .i64 mode] w (LNewPost mode w) := by
  have CN := Lib.hid (fnew_any mode hm w)
  clear hm
  go_enter Tryz.func16, Tryz.ntmps16
  go_wp2_with (go_at_call 8; refine CN.out.mono ?_; rintro e w1 ⟨g, rfl, hg, hM, hb⟩)
  go_ret2
  have hz := hM.out.lt
  have hb2 : Below w1.heap.size w1 (w1.alloc (.cells #[.int .i64 mode, .pointer (some ⟨g, 0, none⟩), .string ⟨#[]⟩, .int .i64 0, .int .i64 (-1), .bool false] 119)) := below_then_alloc (Below.refl _ _)
  have hz1 := hb.size
  refine ⟨w1.heap.size, rfl, Lib.hid ⟨fun k => k = g ∨ k = w1.heap.size, g, Bk.new w1 _ _, hM.out.grown (grown_of_below hb2 none) (fun k e => by cases e) (fun k e => e.imp id (fun e => by omega)) (.inl rfl) (fun k e => ?_), .inr rfl, by omega, fun k e => ?_⟩, below_then hb2 hb⟩
  · simp; omega
  · rcases e with e | e <;> omega
theorem lstep_any (s : LgS) (lo gl : Nat) (w : World) (h : LgM w lo gl s) (h1 : -1 ≤ s.left) (h2 : s.left ≤ 9223372036854775807) : Calls Tryz.prog 61 #[.pointer (some ⟨gl, 0, none⟩)] w fun e w' => e = .returned (.bool (decide (s.left = 0))) ∧ Hid (LgM w' lo gl s.step) ∧ w.grownBy w' (some gl) := by
  obtain ⟨X, gf, hb, hf, hx, hn, hl⟩ := h
  have HB := Lib.hid hb; have HF := Lib.hid hf; have HX := Lib.hid hx; have HL := Lib.hid hl; have HN := Lib.hid hn
  obtain ⟨q0, q1, q2, q3, q4, q5⟩ := lbox hb
  have z4 := hb.free 4; have z5 := hb.free 5
  clear hb hf hx hl hn q0 q1 q2 q3
  go_enter Tryz.func61, Tryz.ntmps61
  go_wp2
  go_ret
  have e : (s.left == 0) = decide (s.left = 0) := by rw [Bool.eq_iff_iff]; simp
  rw [e]
  exact ⟨rfl, Lib.hid ⟨X, gf, (HB.out.set_ 5 (.bool (decide (s.left = 0)))).set_ 4 (.int .i64 (max (-1) (s.left - 1))), (HF.out.set HX.out HN.out _).set HX.out HN.out _, HX.out, HN.out, HL.out⟩, (grown_set w ⟨gl, 5, none⟩ _).trans (grown_set _ ⟨gl, 4, none⟩ _)⟩
theorem lbytes_any (s : LgS) (lo gl : Nat) (w : World) (h : LgM w lo gl s) : Calls Tryz.prog 19 #[.pointer (some ⟨gl, 0, none⟩)] w fun e w' => e = .returned (.int .i64 s.b.size) ∧ w = w' := by
  obtain ⟨X, gf, hb, _⟩ := h
  obtain ⟨q0, q1, q2, q3, q4, q5⟩ := lbox hb
  clear hb q0 q1 q3 q4 q5
  go_enter Tryz.func19, Tryz.ntmps19
  go_wp2
  go_ret
  exact ⟨rfl, rfl⟩
end Go.Proofs.YtkdgpdijbobmkaaGreatDoor
namespace Go.Proofs.YtkdgpdijbobmkaaGreatDoor
set_option linter.all false
open Go Go.RowKit
/-- how redo ends -/
def RedoPost (mode : Int) (b : ByteArray) (w : World) (e : Ending) (w' : World) : Prop :=
  ∃ g, e = .returned (.tuple #[.pointer (some ⟨g, 0, none⟩), .int .i64 ((b.size : Int) - ((redoR mode b).2.size : Int)), .nilIface]) ∧ w.heap.size ≤ g ∧ Hid (FlM w' (fun k => k = g ∨ k < w.heap.size) g (redoR mode b).1) ∧ Below w.heap.size w w'
theorem redo_end {mode : Int} {b b' : ByteArray} {f : FS} {g : Nat} {w w' : World} (hr : redoR mode b = (f, b')) (hg : w.heap.size ≤ g) (hm : FlM w' (fun k => k = g ∨ k < w.heap.size) g f) (hb : Below w.heap.size w w') : RedoPost mode b w (.returned (.tuple #[.pointer (some ⟨g, 0, none⟩), .int .i64 ((b.size : Int) - (b'.size : Int)), .nilIface])) w' := by
  refine ⟨g, by rw [hr], hg, Lib.hid (by rw [hr]; exact hm), hb⟩
set_option maxRecDepth 100000 in
set_option maxHeartbeats 8000000 in
theorem redo_any (mode : Int) (hm : inb mode 0 3 = true) (b : ByteArray) (hb : b.size ≤ 100000000) (w : World) : Calls Tryz.prog 62 #[.int .i64 mode, .string b] w (RedoPost mode b w) := by
  have CN := Lib.hid (fnew_all mode hm w)
  have CX := Lib.hid (fun (b : ByteArray) (h : b.size ≤ maxLen) w => next_any b h w)
  clear hm
  go_enter Tryz.func62, Tryz.ntmps62
  go_wp2_with (go_at_call 8; refine CN.out.mono ?_; rintro e w1 ⟨g, rfl, hg, hM, hb1⟩)
  go_loopg [9] (b.size + 1) (fun n v wr => ∃ (f : FS) (b' : ByteArray), v = .string b' ∧ Hid (FlM wr (fun k => k = g ∨ k < w.heap.size) g f) ∧ Hid (FSOk f) ∧ Hid (redoR mode b = redoF n f b') ∧ b'.size < n ∧ b'.size ≤ b.size ∧ Below w.heap.size w wr)
  case atStart => exact ⟨FS.new mode, b, rfl, hM, Lib.hid (FSOk.new mode), Lib.hid rfl, by omega, Nat.le_refl _, hb1⟩
  case round =>
    obtain ⟨f, b', rfl, HF, HOK, HR, hn, hs, hbr⟩ := hrel
    clear hM hb1 CN
    obtain ⟨m, rfl⟩ : ∃ m, gk = m + 1 := ⟨gk - 1, by omega⟩
    have cX := CX.out b' (by unfold maxLen; omega) wr
    unfold NxPost at cX
    cases hx : nxC b' with
    | none =>
      rw [hx] at cX
      have C := Lib.hid (show Calls Tryz.prog 103 #[.string b'] wr fun e w' => e = .returned (.tuple #[.agg #[.int .i64 0, .int .i64 0, .int .i64 0, .int .i64 0, .int .i64 0, .int .i64 0, .int .i64 0, .int .i64 0, .int .i64 0, .int .i64 0, .int .i64 0], .string b', .bool false]) ∧ Below wr.heap.size wr w' from cX)
      have HR2 := Lib.hid (show redoR mode b = (f, b') by rw [HR.out, redoF, hx])
      clear cX hx
      go_wp2_with (go_at_call 103; (with_reducible refine C.out.mono ?_); rintro e w2 ⟨rfl, hb2⟩)
      go_ret3
      exact redo_end HR2.out hg (HF.out.below (below_then_alloc hb2)) (below_then (below_then_alloc hb2) hbr)
    | some z =>
      obtain ⟨c, t⟩ := z
      rw [hx] at cX
      have C := Lib.hid (show Calls Tryz.prog 103 #[.string b'] wr fun e w' => e = .returned (.tuple #[.agg #[.int .i64 c.what, .int .i64 c.o.id, .int .i64 c.o.who, .int .i64 c.o.side, .int .i64 c.o.kind, .int .i64 c.o.price, .int .i64 c.o.qty, .int .i64 c.o.show_, .int .i64 c.o.stop, .int .i64 c.who, .int .i64 c.n], .string t, .bool true]) ∧ Below wr.heap.size wr w' from cX)
      have hlt := nx_less hx
      have HX := Lib.hid hx
      clear cX hx
      go_upto_region 7 with (go_at_call 103; (with_reducible refine C.out.mono ?_); rintro e w2 ⟨rfl, hb2⟩)
      have bx := Bk.new w2 47 #[.int .i64 c.what, .int .i64 c.o.id, .int .i64 c.o.who, .int .i64 c.o.side, .int .i64 c.o.kind, .int .i64 c.o.price, .int .i64 c.o.qty, .int .i64 c.o.show_, .int .i64 c.o.stop, .int .i64 c.who, .int .i64 c.n]
      have HF3 := Lib.hid (HF.out.below (below_then_alloc (o := .cells #[.int .i64 c.what, .int .i64 c.o.id, .int .i64 c.o.who, .int .i64 c.o.side, .int .i64 c.o.kind, .int .i64 c.o.price, .int .i64 c.o.qty, .int .i64 c.o.show_, .int .i64 c.o.stop, .int .i64 c.who, .int .i64 c.n] 47) hb2))
      have HB3 := Lib.hid (below_then (below_then_alloc (o := .cells #[.int .i64 c.what, .int .i64 c.o.id, .int .i64 c.o.who, .int .i64 c.o.side, .int .i64 c.o.kind, .int .i64 c.o.price, .int .i64 c.o.qty, .int .i64 c.o.show_, .int .i64 c.o.stop, .int .i64 c.who, .int .i64 c.n] 47) hb2) hbr)
      generalize w2.alloc (.cells #[.int .i64 c.what, .int .i64 c.o.id, .int .i64 c.o.who, .int .i64 c.o.side, .int .i64 c.o.kind, .int .i64 c.o.price, .int .i64 c.o.qty, .int .i64 c.o.show_, .int .i64 c.o.stop, .int .i64 c.who, .int .i64 c.n] 47) = w3 at *
      obtain ⟨o0, o1, o2, o3, o4, o5, o6, o7, o8, o9, o10⟩ := box11 bx
      clear bx hb2 hbr C HF CX
      have cD := fldo_any f (fun k => k = g ∨ k < w.heap.size) g c w3 HF3.out HOK.out
      unfold DoPost at cD
      by_cases hE : f.doE c = 0
      · rw [hE, show errV 0 = Value.nilIface from rfl] at cD
        have CD := Lib.hid cD
        have HR2 := Lib.hid (show redoR mode b = redoF m (f.doS c) t by rw [HR.out, redoF, HX.out]; exact if_neg (by simpa using hE))
        clear cD hE
        go_wp2_with (go_at_call 11; (with_reducible refine CD.out.mono ?_); rintro e w4 ⟨A, cap, rfl, H4, _, g4⟩)
        go_roundg m
        case measure => omega
        case rel => exact ⟨f.doS c, t, rfl, H4, Lib.hid (HOK.out.do c), HR2, by omega, by omega, grown_below HB3.out g4 hg⟩
      · rw [errV, if_neg hE] at cD
        have CD := Lib.hid cD
        have HR2 := Lib.hid (show redoR mode b = (f, b') by rw [HR.out, redoF, HX.out]; exact if_pos hE)
        have HS := Lib.hid (show f.doS c = f by unfold FS.doS; unfold FS.doE at hE; rw [if_pos hE])
        clear cD hE
        go_wp2_with (go_at_call 11; (with_reducible refine CD.out.mono ?_); rintro e w4 ⟨A, cap, rfl, H4, _, g4⟩)
        go_ret3
        rw [HS.out] at H4
        exact redo_end HR2.out hg H4.out (grown_below HB3.out g4 hg)
end Go.Proofs.YtkdgpdijbobmkaaGreatDoor
namespace Go.Proofs.YtkdgpdijbobmkaaGreatDoor
set_option linter.all false
open Go Go.RowKit
/-- how a log's Do ends -/
def LgPost (r : Int × List Ev × LgS) (lo gl : Nat) (w : World) (e : Ending) (w' : World) : Prop :=
  ∃ A cap, e = .returned (.tuple #[.slice A r.2.1.length cap, errV r.1]) ∧ Hid (LgM w' lo gl r.2.2) ∧ Hid (OwnS w' w.heap.size 10 A r.2.1.length cap (evs r.2.1)) ∧ Below lo w w'
theorem lg_bad {r : Int × List Ev × LgS} {lo gl : Nat} {w w' : World} {E : Int} {s : LgS} {A : Option Addr} {cap : Nat} (h : r = (E, [], s)) (h0 : E ≠ 0) (hm : LgM w' lo gl s) (hb : Below lo w w') : LgPost r lo gl w (.returned (.tuple #[.slice none 0 0, er E])) w' := by
  subst h
  exact ⟨none, 0, by rw [errV, if_neg h0]; rfl, Lib.hid hm, Lib.hid (OwnS.nil _ _ _ _), hb⟩
set_option maxRecDepth 100000 in
set_option maxHeartbeats 8000000 in
theorem lgdo_any (s : LgS) (c : Cmd) (lo gl : Nat) (w : World) (h : LgM w lo gl s) (hok : LgOk s) (hlo : lo ≤ w.heap.size) (hbs : s.b.size ≤ 10000000) :
    Calls Tryz.prog 17 #[.pointer (some ⟨gl, 0, none⟩), .agg #[.int .i64 c.what, .int .i64 c.o.id, .int .i64 c.o.who, .int .i64 c.o.side, .int .i64 c.o.kind, .int .i64 c.o.price, .int .i64 c.o.qty, .int .i64 c.o.show_, .int .i64 c.o.stop, .int .i64 c.who, .int .i64 c.n]] w (LgPost (s.doR c) lo gl w) := by
  have hb : Below w.heap.size w (w.alloc (.cells #[.int .i64 c.what, .int .i64 c.o.id, .int .i64 c.o.who, .int .i64 c.o.side, .int .i64 c.o.kind, .int .i64 c.o.price, .int .i64 c.o.qty, .int .i64 c.o.show_, .int .i64 c.o.stop, .int .i64 c.who, .int .i64 c.n] 47)) := below_then_alloc (Below.refl _ _)
  have HM := Lib.hid (h.below hb); have HOK := Lib.hid hok; have HB := Lib.hid (hb.mono hlo)
  have hlo1 : lo ≤ (w.alloc (.cells #[.int .i64 c.what, .int .i64 c.o.id, .int .i64 c.o.who, .int .i64 c.o.side, .int .i64 c.o.kind, .int .i64 c.o.price, .int .i64 c.o.qty, .int .i64 c.o.show_, .int .i64 c.o.stop, .int .i64 c.who, .int .i64 c.n] 47)).heap.size := Nat.le_trans hlo hb.size
  have bo := Bk.new w 47 #[.int .i64 c.what, .int .i64 c.o.id, .int .i64 c.o.who, .int .i64 c.o.side, .int .i64 c.o.kind, .int .i64 c.o.price, .int .i64 c.o.qty, .int .i64 c.o.show_, .int .i64 c.o.stop, .int .i64 c.who, .int .i64 c.n]
  have HBS := Lib.hid hbs
  obtain ⟨X, gf, hlb, hfm, hx, hn, hl⟩ := h
  have HLB := Lib.hid (hlb.keep hb); have HFM := Lib.hid (hfm.below hb); have HGF := Lib.hid hfm.lt; have HX := Lib.hid hx; have HN := Lib.hid hn; have HL := Lib.hid hl
  clear hok hb hbs hlb hfm hx hn hl
  go_enter Tryz.func17, Tryz.ntmps17
  go_upto_region 1 with fail
  generalize w.alloc (.cells #[.int .i64 c.what, .int .i64 c.o.id, .int .i64 c.o.who, .int .i64 c.o.side, .int .i64 c.o.kind, .int .i64 c.o.price, .int .i64 c.o.qty, .int .i64 c.o.show_, .int .i64 c.o.stop, .int .i64 c.who, .int .i64 c.n] 47) = w1 at *
  obtain ⟨q0, q1, q2, q3, q4, q5⟩ := lbox HLB.out
  clear q0 q1 q2 q3 q4
  rcases (show s.stopped = true ∨ s.stopped = false by cases s.stopped <;> simp) with hst | hst
  · as_aux_lemma =>
    rw [hst] at q5
    have HR := Lib.hid (show s.doR c = (6, [], s) from if_pos hst)
    clear hst
    go_wp2
    go_ret2
    exact lg_bad (A := none) (cap := 0) HR.out (by decide) HM.out HB.out
  have HR := Lib.hid (show s.doR c = if c.err ≠ 0 then (c.err, [], s) else if s.f.doE c ≠ 0 then (s.f.doE c, [], s) else if s.left = 0 then (6, [], { s.step with f := (redoR s.mode s.b).1, b := s.b ++ halfB (packS [c]) }) else (0, s.f.doV c, { s.step with f := s.f.doS c, b := s.b ++ packS [c] }) by rw [LgS.doR, if_neg (by rw [hst]; simp)])
  rw [hst] at q5
  have HST := Lib.hid hst
  clear hst
  obtain ⟨o0, o1, o2, o3, o4, o5, o6, o7, o8, o9, o10⟩ := box11 bo
  have hb2 : Below w1.heap.size w1 (w1.alloc (.cells #[.int .i64 c.what, .int .i64 c.o.id, .int .i64 c.o.who, .int .i64 c.o.side, .int .i64 c.o.kind, .int .i64 c.o.price, .int .i64 c.o.qty, .int .i64 c.o.show_, .int .i64 c.o.stop, .int .i64 c.who, .int .i64 c.n] 47)) := below_then_alloc (Below.refl _ _)
  have bk2 := Bk.new w1 47 #[.int .i64 c.what, .int .i64 c.o.id, .int .i64 c.o.who, .int .i64 c.o.side, .int .i64 c.o.kind, .int .i64 c.o.price, .int .i64 c.o.qty, .int .i64 c.o.show_, .int .i64 c.o.stop, .int .i64 c.who, .int .i64 c.n]
  have oo : OwnS (w1.alloc (.cells #[.int .i64 c.what, .int .i64 c.o.id, .int .i64 c.o.who, .int .i64 c.o.side, .int .i64 c.o.kind, .int .i64 c.o.price, .int .i64 c.o.qty, .int .i64 c.o.show_, .int .i64 c.o.stop, .int .i64 c.who, .int .i64 c.n] 47)) 0 11 (some ⟨w1.heap.size, 0, none⟩) 1 1 (cmds [c]) := bk2.own (base := 0) (s := 11) (n := 1) (Nat.zero_le _) rfl (by decide)
  have cP := pack_any [c] (some ⟨w1.heap.size, 0, none⟩) 1 _ oo.rdC (by show 1 ≤ maxLen; decide)
  rw [show [c].length = 1 from rfl] at cP
  unfold PkPost at cP
  rw [packE_one] at cP
  have HB2 := Lib.hid hb2
  have BO := Lib.hid bo
  clear hb2 bk2 oo bo
  by_cases hce : c.err = 0
  case neg => 
    have HR2 := Lib.hid (show s.doR c = (c.err, [], s) by rw [HR.out, if_pos hce])
    rw [if_neg hce, errV, if_neg hce] at cP
    have CP := Lib.hid cP
    have HNZ := Lib.hid hce
    clear hce cP HR
    generalize c.err = E at *
    go_wp2_with (go_at_call 60; (with_reducible refine CP.out.mono ?_); rintro e w3 ⟨rfl, hb3⟩)
    go_ret2
    exact lg_bad (A := none) (cap := 0) HR2.out HNZ.out (HM.out.below (below_then hb3 HB2.out)) (HB.out.trans ((below_then hb3 HB2.out).mono hlo1))
  have HR2 := Lib.hid (show s.doR c = if s.f.doE c ≠ 0 then (s.f.doE c, [], s) else if s.left = 0 then (6, [], { s.step with f := (redoR s.mode s.b).1, b := s.b ++ halfB (packS [c]) }) else (0, s.f.doV c, { s.step with f := s.f.doS c, b := s.b ++ packS [c] }) by rw [HR.out, if_neg (by simpa using hce)])
  have hps : (packS [c]).size ≤ 19 := by have := packS_size (l := [c]) (by simpa using hce); simpa using this
  rw [hce, if_pos rfl, show errV 0 = Value.nilIface from rfl] at cP
  have CP := Lib.hid cP
  clear hce cP HR
  generalize packS [c] = P at *
  go_upto_region 6 with (go_at_call 60; (with_reducible refine CP.out.mono ?_); rintro e w3 ⟨rfl, hb3⟩)
  have hb13 := below_then hb3 HB2.out
  have HLB3 := Lib.hid (HLB.out.keep hb13); have HFM3 := Lib.hid (HFM.out.below hb13); have BO3 := Lib.hid (BO.out.keep hb13)
  have HB3 := Lib.hid (HB.out.trans (hb13.mono hlo1))
  have hlo3 : lo ≤ w3.heap.size := Nat.le_trans hlo1 hb13.size
  have HZ3 := Lib.hid (show w.heap.size ≤ w3.heap.size from HB3.out.size)
  clear o0 o1 o2 o3 o4 o5 o6 o7 o8 o9 o10 q5 hb3 hb13 CP HB2 HLB HFM BO HM
  obtain ⟨q0, q1, q2, q3, q4, q5⟩ := lbox HLB3.out
  obtain ⟨o0, o1, o2, o3, o4, o5, o6, o7, o8, o9, o10⟩ := box11 BO3.out
  have cD := fldo_any s.f X gf c w3.drew (HFM3.out.below (Below.refl _ _).drew) HOK.out.f
  unfold DoPost at cD
  have HKE := Lib.hid (show ∀ (w4 : World), w3.drew.grownBy w4 (some gf) → Bk w4 gl 119 #[.int .i64 s.mode, .pointer (some ⟨gf, 0, none⟩), .string s.b, .int .i64 s.safe, .int .i64 s.left, .bool s.stopped] ∧ Bk w4 w.heap.size 47 #[.int .i64 c.what, .int .i64 c.o.id, .int .i64 c.o.who, .int .i64 c.o.side, .int .i64 c.o.kind, .int .i64 c.o.price, .int .i64 c.o.qty, .int .i64 c.o.show_, .int .i64 c.o.stop, .int .i64 c.who, .int .i64 c.n] from fun w4 hg => ⟨HLB3.out.drew.grown hg (fun e => HN.out (Option.some.inj e)), BO3.out.drew.grown hg (fun e => by have := Option.some.inj e; have := HGF.out; omega)⟩)
  clear q0 q2 q3 q4 q5
  by_cases hE : s.f.doE c = 0
  case neg =>
    have HR3 := Lib.hid (show s.doR c = (s.f.doE c, [], s) by rw [HR2.out, if_pos hE])
    have HSF := Lib.hid (show s.f.doS c = s.f by unfold FS.doS; unfold FS.doE at hE; rw [if_pos hE])
    rw [errV, if_neg hE] at cD
    have HNZ := Lib.hid hE
    have CD := Lib.hid cD
    clear hE cD HR2
    generalize s.f.doE c = E at *
    go_cut [8, 7] (fun v e wx => e = er E ∧ Hid (FlM wx X gf s.f) ∧ w3.drew.grownBy wx (some gf))
    case first =>
      go_region_held3 (fun w' => w'.cell? ⟨gl, 1, none⟩ = some (.pointer (some ⟨gf, 0, none⟩)) ∧ w'.cell? ⟨w.heap.size, 0, none⟩ = some (.int .i64 c.what) ∧ w'.cell? ⟨w.heap.size, 1, none⟩ = some (.int .i64 c.o.id) ∧ w'.cell? ⟨w.heap.size, 2, none⟩ = some (.int .i64 c.o.who) ∧ w'.cell? ⟨w.heap.size, 3, none⟩ = some (.int .i64 c.o.side) ∧ w'.cell? ⟨w.heap.size, 4, none⟩ = some (.int .i64 c.o.kind) ∧ w'.cell? ⟨w.heap.size, 5, none⟩ = some (.int .i64 c.o.price) ∧ w'.cell? ⟨w.heap.size, 6, none⟩ = some (.int .i64 c.o.qty) ∧ w'.cell? ⟨w.heap.size, 7, none⟩ = some (.int .i64 c.o.show_) ∧ w'.cell? ⟨w.heap.size, 8, none⟩ = some (.int .i64 c.o.stop) ∧ w'.cell? ⟨w.heap.size, 9, none⟩ = some (.int .i64 c.who) ∧ w'.cell? ⟨w.heap.size, 10, none⟩ = some (.int .i64 c.n)) ((repeat' apply And.intro) <;> first | assumption | (exact cell_alloc_drew (by assumption) _) | (exact cell_alloc (by assumption) _) | (exact cell_drew (by assumption)) | (exact below_alloc_drew (by assumption) (Nat.le_refl _) _) | (exact below_alloc (by assumption) (Nat.le_refl _) _) | (exact Below.drew (by assumption))) ((go_at_call 11; (with_reducible refine CD.out.mono ?_); rintro e w4 ⟨A4, c4, rfl, H4, _, g4⟩; obtain ⟨hl4, hc4⟩ := HKE.out w4 g4; obtain ⟨_, p1, _⟩ := lbox hl4; obtain ⟨k0, k1, k2, k3, k4, k5, k6, k7, k8, k9, k10⟩ := box11 hc4; clear hl4 hc4))
      go_wp2
      go_meet
      case rel => exact ⟨rfl, by rw [← HSF.out]; exact H4, g4⟩
    obtain ⟨rfl, hf4, g4⟩ := hcut
    go_wp2
    go_ret2
    exact lg_bad (A := none) (cap := 0) HR3.out HNZ.out ⟨X, gf, (HKE.out wc g4).1, hf4.out, HX.out, HN.out, HL.out⟩ (HB3.out.drew.grown g4 hlo3 (fun k e => by cases e; exact HL.out gf HFM3.out.x))
  have HR3 := Lib.hid (show s.doR c = if s.left = 0 then (6, [], { s.step with f := (redoR s.mode s.b).1, b := s.b ++ halfB P }) else (0, s.f.doV c, { s.step with f := s.f.doS c, b := s.b ++ P }) by rw [HR2.out, if_neg (by simpa using hE)])
  rw [hE, show errV 0 = Value.nilIface from rfl] at cD
  have CD := Lib.hid cD
  clear hE cD HR2
  have HOK5 := Lib.hid (HOK.out.f.do c)
  generalize s.f.doS c = f5 at *
  generalize s.f.doV c = V5 at *
  go_cut [8, 7] (fun v e wx => ∃ A cap, v = .slice A V5.length cap ∧ e = .nilIface ∧ Hid (FlM wx X gf f5) ∧ Hid (OwnS wx w3.drew.heap.size 10 A V5.length cap (evs V5)) ∧ w3.drew.grownBy wx (some gf))
  case first =>
    go_region_held3 (fun w' => w'.cell? ⟨gl, 1, none⟩ = some (.pointer (some ⟨gf, 0, none⟩)) ∧ w'.cell? ⟨w.heap.size, 0, none⟩ = some (.int .i64 c.what) ∧ w'.cell? ⟨w.heap.size, 1, none⟩ = some (.int .i64 c.o.id) ∧ w'.cell? ⟨w.heap.size, 2, none⟩ = some (.int .i64 c.o.who) ∧ w'.cell? ⟨w.heap.size, 3, none⟩ = some (.int .i64 c.o.side) ∧ w'.cell? ⟨w.heap.size, 4, none⟩ = some (.int .i64 c.o.kind) ∧ w'.cell? ⟨w.heap.size, 5, none⟩ = some (.int .i64 c.o.price) ∧ w'.cell? ⟨w.heap.size, 6, none⟩ = some (.int .i64 c.o.qty) ∧ w'.cell? ⟨w.heap.size, 7, none⟩ = some (.int .i64 c.o.show_) ∧ w'.cell? ⟨w.heap.size, 8, none⟩ = some (.int .i64 c.o.stop) ∧ w'.cell? ⟨w.heap.size, 9, none⟩ = some (.int .i64 c.who) ∧ w'.cell? ⟨w.heap.size, 10, none⟩ = some (.int .i64 c.n)) ((repeat' apply And.intro) <;> first | assumption | (exact cell_alloc_drew (by assumption) _) | (exact cell_alloc (by assumption) _) | (exact cell_drew (by assumption)) | (exact below_alloc_drew (by assumption) (Nat.le_refl _) _) | (exact below_alloc (by assumption) (Nat.le_refl _) _) | (exact Below.drew (by assumption))) ((go_at_call 11; (with_reducible refine CD.out.mono ?_); rintro e w4 ⟨A4, c4, rfl, H4, O4, g4⟩; obtain ⟨hl4, hc4⟩ := HKE.out w4 g4; obtain ⟨_, p1, _⟩ := lbox hl4; obtain ⟨k0, k1, k2, k3, k4, k5, k6, k7, k8, k9, k10⟩ := box11 hc4; clear hl4 hc4))
    go_wp2
    go_meet
    case rel => exact ⟨A4, c4, rfl, rfl, H4, O4, g4⟩
  obtain ⟨A5, c5, rfl, rfl, hf5, ho5, g5⟩ := hcut
  obtain ⟨w5, rfl⟩ : ∃ x : World, x = wc := ⟨_, rfl⟩
  have HM5 := Lib.hid (show LgM w5 lo gl { s with f := f5 } from ⟨X, gf, (HKE.out w5 g5).1, hf5.out, HX.out, HN.out, HL.out⟩)
  have HB5 := Lib.hid (HB3.out.drew.grown g5 hlo3 (fun k e => by cases e; exact HL.out gf HFM3.out.x))
  have HZ5 := Lib.hid (show w.heap.size ≤ w5.heap.size from HB5.out.size)
  have HLG := Lib.hid (show gl < w3.heap.size from HLB3.out.lt)
  have HZ35 := Lib.hid (show w3.heap.size ≤ w5.heap.size from g5.size)
  have CS := Lib.hid (lstep_any { s with f := f5 } lo gl w5 HM5.out HOK.out.left0 HOK.out.left1)
  clear q1 o0 o1 o2 o3 o4 o5 o6 o7 o8 o9 o10 CD HKE hf5 g5
  by_cases hl0 : s.left = 0
  case neg =>
    --<goes
    have HR4 := Lib.hid (show s.doR c = (0, V5, { s.step with f := f5, b := s.b ++ P }) by rw [HR3.out, if_neg hl0])
    have HD := Lib.hid (show decide (({ s with f := f5 } : LgS).left = 0) = false from decide_eq_false hl0)
    have cS := CS.out
    rw [HD.out] at cS
    have CS2 := Lib.hid cS
    have hsz : s.b.size ≤ 10000000 := HBS.out
    clear hl0 cS CS HR3 HD
    go_upto_region 10 with (go_at_call 61; (with_reducible refine CS2.out.mono ?_); rintro e w6 ⟨rfl, H6, g6⟩)
    obtain ⟨X6, gf6, hlb6, hfm6, hx6, hn6, hl6⟩ := H6.out
    obtain ⟨r0, r1, r2, r3, r4, r5⟩ := lbox hlb6
    have z2 := hlb6.free 2
    change w6.cell? ⟨gl, 2, none⟩ = some (.string s.b) at r2
    have HM7 := Lib.hid (show LgM (w6.setCell ⟨gl, 2, none⟩ (.string (s.b ++ P))) lo gl { s.step with f := f5, b := s.b ++ P } from ⟨X6, gf6, hlb6.set_ 2 (.string (s.b ++ P)), hfm6.set hx6 hn6 _, hx6, hn6, hl6⟩)
    have HO7 := Lib.hid (show OwnS (w6.setCell ⟨gl, 2, none⟩ (.string (s.b ++ P))) w.heap.size 10 A5 V5.length c5 (evs V5) from ((ho5.out.apart0 g6 (by
      cases hr : rowOf A5 c5 with
      | none => exact .inl rfl
      | some k => exact .inr (fun e => by have := Option.some.inj e; have := (ho5.out.row_lt k hr).1; have := HLG.out; simp at *; omega))).apart0 (grown_set w6 ⟨gl, 2, none⟩ _) (by
      cases hr : rowOf A5 c5 with
      | none => exact .inl rfl
      | some k => exact .inr (fun e => by have := Option.some.inj e; have := (ho5.out.row_lt k hr).1; have := HLG.out; simp at *; omega))).lower (by have := HZ3.out; simp; omega))
    have HB7 := Lib.hid ((HB5.out.grown g6 (Nat.le_trans hlo3 HZ35.out) (fun k e => by cases e; exact HL.out gl HX.out)).setCell (p := ⟨gl, 2, none⟩) (HL.out gl HX.out) (.string (s.b ++ P)))
    clear hlb6 hfm6 hx6 hn6 hl6 r0 r1 r3 r4 r5 H6 g6
    go_wp2
    go_ret2
    exact ⟨A5, c5, by rw [HR4.out]; rfl, by rw [HR4.out]; exact HM7, by rw [HR4.out]; exact HO7, HB7.out⟩
    -->goes
  case pos =>
    --<stops
    have HR4 := Lib.hid (show s.doR c = (6, [], { s.step with f := (redoR s.mode s.b).1, b := s.b ++ halfB P }) by rw [HR3.out, if_pos hl0])
    have HD := Lib.hid (show decide (({ s with f := f5 } : LgS).left = 0) = true from decide_eq_true hl0)
    have cS := CS.out
    rw [HD.out] at cS
    have CS2 := Lib.hid cS
    have hsz : s.b.size ≤ 10000000 := HBS.out
    clear hl0 cS CS HR3 HD
    go_upto_region 12 with (go_at_call 61; (with_reducible refine CS2.out.mono ?_); rintro e w6 ⟨rfl, H6, g6⟩)
    obtain ⟨X6, gf6, hlb6, hfm6, hx6, hn6, hl6⟩ := H6.out
    obtain ⟨r0, r1, r2, r3, r4, r5⟩ := lbox hlb6
    change w6.cell? ⟨gl, 0, none⟩ = some (.int .i64 s.mode) at r0
    change w6.cell? ⟨gl, 2, none⟩ = some (.string s.b) at r2
    have CRE := Lib.hid (redo_any s.mode HOK.out.mode s.b (by omega) w6.drew)
    have HLB6 := Lib.hid hlb6
    have HB6 := Lib.hid (HB5.out.grown g6 (Nat.le_trans hlo3 HZ35.out) (fun k e => by cases e; exact HL.out gl HX.out))
    have hlo6 : lo ≤ w6.heap.size := Nat.le_trans (Nat.le_trans hlo3 HZ35.out) g6.size
    have HKE := Lib.hid (show ∀ (w7 : World), Below w6.drew.heap.size w6.drew w7 → w7.cell? ⟨gl, 0, none⟩ = some (.int .i64 s.mode) ∧ w7.cell? ⟨gl, 2, none⟩ = some (.string s.b) from fun w7 hb => by
      obtain ⟨p0, _, p2, _⟩ := lbox (HLB6.out.drew.keep hb)
      exact ⟨p0, p2⟩)
    clear hlb6 hfm6 hx6 hn6 hl6 r1 r3 r4 r5 H6 g6 CS2
    unfold RedoPost at CRE
    go_cut [9, 10, 7] (fun v n e wx => ∃ g, v = .pointer (some ⟨g, 0, none⟩) ∧ e = .nilIface ∧ w6.drew.heap.size ≤ g ∧ Hid (FlM wx (fun k => k = g ∨ k < w6.drew.heap.size) g (redoR s.mode s.b).1) ∧ Below w6.drew.heap.size w6.drew wx)
    case first =>
      go_region_held3 (fun w' => w'.cell? ⟨gl, 0, none⟩ = some (.int .i64 s.mode) ∧ w'.cell? ⟨gl, 2, none⟩ = some (.string s.b)) ((repeat' apply And.intro) <;> first | assumption | (exact cell_alloc_drew (by assumption) _) | (exact cell_alloc (by assumption) _) | (exact cell_drew (by assumption)) | (exact below_alloc_drew (by assumption) (Nat.le_refl _) _) | (exact below_alloc (by assumption) (Nat.le_refl _) _) | (exact Below.drew (by assumption))) ((go_at_call 62; (with_reducible refine CRE.out.mono ?_); rintro e w7 ⟨g7, rfl, hg7, H7, hb7⟩; obtain ⟨p0, p2⟩ := HKE.out w7 hb7))
      go_wp2
      go_meet
      case rel => exact ⟨g7, rfl, rfl, hg7, H7, hb7⟩
    obtain ⟨g7, rfl, rfl, hg7, H7, hb7⟩ := hcut
    obtain ⟨w7, rfl⟩ : ∃ x : World, x = wc := ⟨_, rfl⟩
    have HLB7 := Lib.hid (HLB6.out.drew.keep hb7)
    have hgl7 : gl < w6.drew.heap.size := HLB6.out.drew.lt
    have z1 := HLB7.out.free 1
    have r1 := HLB7.out.cell 1
    simp at r1
    clear r0 r2 CRE HKE
    go_upto_region 16 with fail
    obtain ⟨w8, hw8⟩ : ∃ x : World, x = w7.setCell ⟨gl, 1, none⟩ (.pointer (some ⟨g7, 0, none⟩)) := ⟨_, rfl⟩
    have HLB8 := Lib.hid (HLB7.out.set_ 1 (.pointer (some ⟨g7, 0, none⟩)))
    have H8 := Lib.hid ((H7.out.less (X' := fun k => k = g7 ∨ k = gl) (fun k e => e.imp id (fun e => by rw [e]; exact hgl7)) (.inl rfl)).set (j := 1) (.inr rfl) (show gl ≠ g7 by omega) (.pointer (some ⟨g7, 0, none⟩)))
    have HB8 := Lib.hid ((HB6.out.drew.trans (hb7.mono hlo6)).setCell (p := ⟨gl, 1, none⟩) (HL.out gl HX.out) (.pointer (some ⟨g7, 0, none⟩)))
    rw [← hw8] at HLB8 H8 HB8
    rw [← hw8]
    clear hw8 r1 z1 H7 HLB7 HLB6
    have r2 := HLB8.out.cell 2
    have z2 := HLB8.out.free 2
    change w8.cell? ⟨gl, 2, none⟩ = some (.string s.b) at r2
    have hq1 : (0 : Int) ≤ (P.size : Int) / 2 := by omega
    have hq2 : (P.size : Int) / 2 ≤ (P.size : Int) := by omega
    go_region
    have hd : Below (w8.setCell ⟨gl, 2, none⟩ (.string (s.b ++ halfB P))).heap.size (w8.setCell ⟨gl, 2, none⟩ (.string (s.b ++ halfB P))) (w8.setCell ⟨gl, 2, none⟩ (.string (s.b ++ halfB P))).drew := (Below.refl _ _).drew
    have HM9 : LgM (w8.setCell ⟨gl, 2, none⟩ (.string (s.b ++ halfB P))) lo gl { s.step with f := (redoR s.mode s.b).1, b := s.b ++ halfB P } := ⟨fun k => k = g7 ∨ k = gl, g7, HLB8.out.set_ 2 (.string (s.b ++ halfB P)), H8.out.set (.inr rfl) (show gl ≠ g7 by omega) _, .inr rfl, (show gl ≠ g7 by omega), fun k e => e.elim (fun e => by rw [e]; exact Nat.le_trans hlo6 hg7) (fun e => by rw [e]; exact HL.out gl HX.out)⟩
    have HM := Lib.hid (HM9.below hd)
    have HBF := Lib.hid ((HB8.out.setCell (p := ⟨gl, 2, none⟩) (HL.out gl HX.out) (.string (s.b ++ halfB P))).drew)
    clear hd HM9 r2 z2 HLB8 H8 HB8
    go_wp2
    go_ret2
    exact lg_bad (A := none) (cap := 0) HR4.out (by decide) HM.out HBF.out
    -->stops
end Go.Proofs.YtkdgpdijbobmkaaGreatDoor
namespace Go.Proofs.YtkdgpdijbobmkaaGreatDoor
set_option linter.all false
open Go Go.RowKit
theorem lsync_any (s : LgS) (lo gl : Nat) (w : World) (h : LgM w lo gl s) (hok : LgOk s) (hb7 : s.b.size ≤ 10000000) : Calls Tryz.prog 21 #[.pointer (some ⟨gl, 0, none⟩)] w fun e w' => e = .returned (errV s.syncR.1) ∧ Hid (LgM w' lo gl s.syncR.2) ∧ w.grownBy w' (some gl) := by
  have HM := Lib.hid h
  obtain ⟨X, gf, hb, hf, hx, hn, hl⟩ := h
  obtain ⟨q0, q1, q2, q3, q4, q5⟩ := lbox hb
  have CS := Lib.hid (lstep_any s lo gl w HM.out hok.left0 hok.left1)
  clear hb hf hx hn hl q0 q1 q2 q3 q4
  rcases (show s.stopped = true ∨ s.stopped = false by cases s.stopped <;> simp) with hst | hst
  · have HR := Lib.hid (show s.syncR = (6, s) from if_pos hst)
    rw [hst] at q5
    clear hst
    go_enter Tryz.func21, Tryz.ntmps21
    go_wp2
    go_ret
    exact ⟨by rw [HR.out]; rfl, by rw [HR.out]; exact HM, grown_of_below (Below.refl _ _) _⟩
  · by_cases hl0 : s.left = 0
    · have HR := Lib.hid (show s.syncR = (6, s.step) by unfold LgS.syncR; rw [if_neg (by rw [hst]; simp), if_pos hl0])
      have cS := CS.out
      rw [decide_eq_true hl0] at cS
      have CS2 := Lib.hid cS
      rw [hst] at q5
      clear hst hl0 cS CS
      go_enter Tryz.func21, Tryz.ntmps21
      go_wp2_with (go_at_call 61; (with_reducible refine CS2.out.mono ?_); rintro e w2 ⟨rfl, H2, g2⟩)
      go_ret
      exact ⟨by rw [HR.out]; rfl, by rw [HR.out]; exact H2, g2⟩
    · have HR := Lib.hid (show s.syncR = (0, { s.step with safe := s.b.size }) by unfold LgS.syncR; rw [if_neg (by rw [hst]; simp), if_neg hl0])
      have cS := CS.out
      rw [decide_eq_false hl0] at cS
      have CS2 := Lib.hid cS
      rw [hst] at q5
      clear hst hl0 cS CS
      go_enter Tryz.func21, Tryz.ntmps21
      go_upto_region 3 with (go_at_call 61; (with_reducible refine CS2.out.mono ?_); rintro e w2 ⟨rfl, H2, g2⟩)
      obtain ⟨X2, gf2, hb2, hf2, hx2, hn2, hl2⟩ := H2.out
      obtain ⟨r0, r1, r2, r3, r4, r5⟩ := lbox hb2
      have z3 := hb2.free 3
      change w2.cell? ⟨gl, 2, none⟩ = some (.string s.b) at r2
      have HM3 := Lib.hid (show LgM (w2.setCell ⟨gl, 3, none⟩ (.int .i64 s.b.size)) lo gl { s.step with safe := s.b.size } from ⟨X2, gf2, hb2.set_ 3 (.int .i64 s.b.size), hf2.set hx2 hn2 _, hx2, hn2, hl2⟩)
      clear hb2 hf2 hx2 hn2 hl2 r0 r1 r4 r5 H2
      go_wp2
      go_ret
      exact ⟨by rw [HR.out]; rfl, by rw [HR.out]; exact HM3, g2.trans (grown_set _ ⟨gl, 3, none⟩ _)⟩
theorem lfail_any (s : LgS) (n : Int) (lo gl : Nat) (w : World) (h : LgM w lo gl s) : Calls Tryz.prog 20 #[.pointer (some ⟨gl, 0, none⟩), .int .i64 n] w fun e w' => e = .returned (.tuple #[]) ∧ Hid (LgM w' lo gl (s.fail n)) ∧ w.grownBy w' (some gl) := by
  obtain ⟨X, gf, hb, hf, hx, hn, hl⟩ := h
  have HM := Lib.hid (show LgM (w.setCell ⟨gl, 4, none⟩ (.int .i64 (max (-1) n))) lo gl (s.fail n) from ⟨X, gf, hb.set_ 4 (.int .i64 (max (-1) n)), hf.set hx hn _, hx, hn, hl⟩)
  obtain ⟨q0, q1, q2, q3, q4, q5⟩ := lbox hb
  have z4 := hb.free 4
  clear hb hf hx hn hl q0 q1 q2 q3 q5
  go_enter Tryz.func20, Tryz.ntmps20
  go_wp2
  go_end0
  exact ⟨rfl, HM, grown_set _ ⟨gl, 4, none⟩ _⟩
theorem lfloor_any (s : LgS) (lo gl : Nat) (w : World) (h : LgM w lo gl s) : Calls Tryz.prog 23 #[.pointer (some ⟨gl, 0, none⟩)] w fun e w' => (∃ X g, e = .returned (.pointer (some ⟨g, 0, none⟩)) ∧ Hid (FlM w X g s.f)) ∧ w = w' := by
  obtain ⟨X, gf, hb, hf, _⟩ := h
  obtain ⟨q0, q1, q2, q3, q4, q5⟩ := lbox hb
  have HF := Lib.hid hf
  clear hb hf q0 q2 q3 q4 q5
  go_enter Tryz.func23, Tryz.ntmps23
  go_wp2
  go_ret
  exact ⟨⟨X, gf, rfl, HF⟩, rfl⟩
end Go.Proofs.YtkdgpdijbobmkaaGreatDoor
namespace Go.Proofs.YtkdgpdijbobmkaaGreatDoor
set_option linter.all false
open Go Go.RowKit
set_option maxRecDepth 100000 in
set_option maxHeartbeats 8000000 in
theorem lcrash_any (s : LgS) (keep : Int) (lo gl : Nat) (w : World) (h : LgM w lo gl s) (hok : LgOk s) (hlo : lo ≤ w.heap.size) (hb7 : s.b.size ≤ 10000000) : Calls Tryz.prog 22 #[.pointer (some ⟨gl, 0, none⟩), .int .i64 keep] w fun e w' => e = .returned (.tuple #[]) ∧ Hid (LgM w' lo gl (s.crash keep)) ∧ Below lo w w' := by
  obtain ⟨X, gf, hb, hf, hx, hn, hl⟩ := h
  obtain ⟨q0, q1, q2, q3, q4, q5⟩ := lbox hb
  have HLB := Lib.hid hb; have HOK := Lib.hid hok; have HX := Lib.hid hx; have HL := Lib.hid hl
  obtain ⟨N, hN⟩ : ∃ N, N = s.safe + max 0 (min keep ((s.b.size : Int) - s.safe)) := ⟨_, rfl⟩
  have h0 := hok.safe0; have h1 := hok.safe1
  have n0 : 0 ≤ s.safe + max 0 (min keep ((s.b.size : Int) - s.safe)) := by omega
  have n1 : s.safe + max 0 (min keep ((s.b.size : Int) - s.safe)) ≤ (s.b.size : Int) := by omega
  clear hb hf hx hn hl hok q0 q1 q4 q5 hN
  go_enter Tryz.func22, Tryz.ntmps22
  go_upto_region 0 with fail
  go_quiet (fail)
  rw [show s.b.extract 0 (s.safe + max 0 (min keep ((s.b.size : Int) - s.safe))).toNat = s.kept keep from rfl]
  have hks : (s.kept keep).size ≤ s.b.size := by unfold LgS.kept; rw [ByteArray.size_extract]; omega
  obtain ⟨K, hK⟩ : ∃ K, K = s.kept keep := ⟨_, rfl⟩
  rw [← hK] at hks ⊢
  have HK := Lib.hid hK
  have hb1 : Below w.heap.size w (w.drewN nq) := below_drewN (Below.refl _ _) _
  have HB1 := Lib.hid (hb1.mono hlo)
  have HLB1 := Lib.hid (HLB.out.keep hb1)
  have hlo1 : lo ≤ (w.drewN nq).heap.size := Nat.le_trans hlo hb1.size
  clear hK q2 q3 n0 n1 h0 h1 hb1
  generalize w.drewN nq = w1 at *
  obtain ⟨q0, q1, q2, q3, q4, q5⟩ := lbox HLB1.out
  have CR := Lib.hid (redo_any s.mode HOK.out.mode K (by omega) w1)
  unfold RedoPost at CR
  have hle := redoF_le (K.size + 1) (FS.new s.mode) K
  obtain ⟨R, hR⟩ : ∃ R, R = redoR s.mode K := ⟨_, rfl⟩
  rw [← hR] at CR
  have hle2 : R.2.size ≤ K.size := by rw [hR]; exact hle
  have HR := Lib.hid hR
  clear hR hle q1 q2 q3 q4 q5
  go_upto_region 3 with (go_at_call 62; (with_reducible refine CR.out.mono ?_); rintro e w2 ⟨g, rfl, hg, H2, hb2⟩)
  have HLB2 := Lib.hid (HLB1.out.keep hb2)
  have hgl : gl < w1.heap.size := HLB1.out.lt
  have z1 := HLB2.out.free 1; have z2 := HLB2.out.free 2; have z3 := HLB2.out.free 3; have z4 := HLB2.out.free 4; have z5 := HLB2.out.free 5
  obtain ⟨r0, r1, r2, r3, r4, r5⟩ := lbox HLB2.out
  obtain ⟨n, hn⟩ : ∃ n : Nat, n = K.size - R.2.size := ⟨_, rfl⟩
  rw [show (K.size : Int) - (R.2.size : Int) = (n : Int) by omega]
  have HN := Lib.hid hn
  have k1 : (n : Int) ≤ (K.size : Int) := by omega
  clear hn hle2 q0 CR r0
  go_region
  go_end0
  have hgn : gl ≠ g := by omega
  have F0 : FlM w2 (fun k => k = g ∨ k = gl) g R.1 := H2.out.less (fun k e => e.imp id (fun e => by rw [e]; exact hgl)) (.inl rfl)
  have F5 := ((((F0.set (j := 1) (.inr rfl) hgn (.pointer (some ⟨g, 0, none⟩))).set (j := 2) (.inr rfl) hgn (.string (K.extract 0 n))).set (j := 3) (.inr rfl) hgn (.int .i64 n)).set (j := 4) (.inr rfl) hgn (.int .i64 (-1))).set (j := 5) (.inr rfl) hgn (.bool false)
  have B5 := ((((HLB2.out.set_ 1 (.pointer (some ⟨g, 0, none⟩))).set_ 2 (.string (K.extract 0 n))).set_ 3 (.int .i64 n)).set_ 4 (.int .i64 (-1))).set_ 5 (.bool false)
  have hlg := HL.out gl HX.out
  have HBF := (((((HB1.out.trans (hb2.mono hlo1)).setCell (p := ⟨gl, 1, none⟩) hlg (.pointer (some ⟨g, 0, none⟩))).setCell (p := ⟨gl, 2, none⟩) hlg (.string (K.extract 0 n))).setCell (p := ⟨gl, 3, none⟩) hlg (.int .i64 n)).setCell (p := ⟨gl, 4, none⟩) hlg (.int .i64 (-1))).setCell (p := ⟨gl, 5, none⟩) hlg (.bool false)
  have ec : s.crash keep = ⟨s.mode, R.1, K.extract 0 n, n, -1, false⟩ := by
    unfold LgS.crash
    rw [← HK.out, ← HR.out, ← HN.out]
  refine ⟨rfl, Lib.hid ?_, HBF.drew⟩
  rw [ec]
  exact LgM.below ⟨fun k => k = g ∨ k = gl, g, B5, F5, .inr rfl, hgn, fun k e => e.elim (fun e => by rw [e]; exact Nat.le_trans hlo1 hg) (fun e => by rw [e]; exact hlg)⟩ (Below.refl _ _).drew
end Go.Proofs.YtkdgpdijbobmkaaGreatDoor
