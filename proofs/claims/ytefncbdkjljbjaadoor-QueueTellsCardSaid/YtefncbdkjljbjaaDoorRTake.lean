/- The contract of the reference's Take. -/
import Derived.Test.YtefncbdkjljbjaaDoorRFill
import Derived.Test.YtefncbdkjljbjaaDoorTake3
namespace Go.Proofs.YtefncbdkjljbjaaDoor
set_option linter.all false
open Go Go.RowKit
/-- where the loop stands -/
structure RT (l0 : List Rest) (n0 : Int) (w wr : World) (l : List Rest) (n : Int) (fs : List Fill) (A : Option Addr) (c : Nat) (Ao : Option Addr) (co : Nat) : Prop where
  rd : Rd wr wr.heap.size A l.length 5 (rcell l)
  cap : l.length ≤ c
  max : c ≤ maxLen
  ownF : OwnS wr w.heap.size 3 Ao fs.length co (frows fs)
  below : Below w.heap.size w wr
  sound : Sound l
  len : l.length ≤ 60
  pos : 0 ≤ n
  bound : (fs.length : Int) + n ≤ 10000
  told : qTake l0 n0 = (fs ++ (qTake l n).1, (qTake l n).2)
/-- how Take ends -/
def RTakePost (fs : List Fill) (l : List Rest) (w : World) (e : Ending) (w' : World) : Prop :=
  ∃ Ao co A c, e = .returned (.tuple #[.slice Ao fs.length co, .slice A l.length c]) ∧ OwnS w' w.heap.size 3 Ao fs.length co (frows fs) ∧ Rd w' w'.heap.size A l.length 5 (rcell l) ∧ Below w.heap.size w w'
set_option maxRecDepth 100000 in
set_option maxHeartbeats 2000000 in
theorem rtake_any (l : List Rest) (A : Option Addr) (c : Nat) (n : Int) (w : World) (hr : Rd w w.heap.size A l.length 5 (rcell l)) (hcap : l.length ≤ c) (hmx : c ≤ maxLen) (hs : Sound l) (hl : l.length ≤ 60) (hn : 0 ≤ n) (hn2 : n ≤ 10000) :
    Calls Tryd.prog 50 #[.slice A l.length c, .int .i64 n] w (RTakePost (qTake l n).1 (qTake l n).2 w) := by
  have HI0 := Lib.hid (⟨hr, hcap, hmx, OwnS.nil _ _ _ none, Below.refl _ _, hs, hl, hn, by simpa using hn2, by simp⟩ : RT l n w w l n [] A c none 0)
  obtain ⟨i0, hi0, hz0, hz1, hz2⟩ := info_parts info_fill
  have HI := Lib.hid hi0; have H0 := Lib.hid hz0; have H1 := Lib.hid hz1; have H2 := Lib.hid hz2
  clear hi0 hz0 hz1 hz2 hr hs
  go_enter Tryd.func50, Tryd.ntmps50
  go_wp2_with fail
  go_loopw [0, 1, 6] (fun sl sn sf wr => ∃ (l' : List Rest) (n' : Int) (fs : List Fill) (A' : Option Addr) (c' : Nat) (Ao : Option Addr) (co : Nat), sl = .slice A' l'.length c' ∧ sn = .int .i64 n' ∧ sf = .slice Ao fs.length co ∧ RT l n w wr l' n' fs A' c' Ao co) (fun _ sn _ _ => (intOf sn).toNat)
  case atStart => exact ⟨l, n, [], A, c, none, 0, rfl, rfl, rfl, HI0.out⟩
  case round =>
    obtain ⟨l', n', fs, A', c', Ao, co, rfl, rfl, rfl, R⟩ := hrel
    have hnb := R.bound
    have hn0 := R.pos
    have hlb := R.len
    have hbz := R.below.size
    by_cases hn : n' ≤ 0
    · have HT := Lib.hid (show qTake l n = (fs, l') by rw [R.told, qTake_le0 hn]; simp)
      have HN := Lib.hid R
      clear R
      go_wp2
      go_ret2
      rw [HT.out]
      exact ⟨Ao, co, A', c', rfl, HN.out.ownF, HN.out.rd, HN.out.below⟩
    · cases l' with
      | nil =>
        have HT := Lib.hid (show qTake l n = (fs, []) by rw [R.told, qTake_nil]; simp)
        have HN := Lib.hid R
        clear R
        dsimp only [List.length_nil] at *
        go_wp2
        go_ret2
        rw [HT.out]
        exact ⟨Ao, co, A', c', rfl, HN.out.ownF, Rd.nil, HN.out.below⟩
      | cons r t =>
        have hsd := first_sound R.sound (show 1 ≤ n' by omega)
        obtain ⟨_, hf1, hf2, _⟩ := hsd
        obtain ⟨b, off, r', rfl, hbb, hr', e0, e1, e2, e3, e4⟩ := rest_at (l := r :: t) R.rd (k := 0) (by simp)
        obtain rfl : r = r' := by simpa using hr'
        clear hr'
        simp only [Nat.zero_mul, Nat.add_zero] at e0 e1 e2 e3 e4
        have hb1 : Below wr.heap.size wr (wr.alloc (.cells #[.int .i64 r.id, .int .i64 r.who, .int .i64 r.qty, .int .i64 r.hidden, .int .i64 r.show_] 70)) := (Below.refl _ _).alloc (Nat.le_refl _) _
        have cF := rfill_any r t (some ⟨b, off, none⟩) c' n' (wr.alloc (.cells #[.int .i64 r.id, .int .i64 r.who, .int .i64 r.qty, .int .i64 r.hidden, .int .i64 r.show_] 70)) ((R.rd.below hb1).more hb1.size) (by simp only [List.length_cons] at hlb; omega) (by have := R.cap; simpa using this) R.max (by omega) (R.sound r (by simp))
        have KF := Lib.hid cF
        have b7 := Bk.new wr 70 #[.int .i64 r.id, .int .i64 r.who, .int .i64 r.qty, .int .i64 r.hidden, .int .i64 r.show_]
        have HN := Lib.hid R
        have HQ := Lib.hid (qTake_cons R.sound (show 1 ≤ n' by omega))
        have HS := Lib.hid (first_sound R.sound (show 1 ≤ n' by omega))
        have HIW := Lib.hid (show (qFirst r t n').1.id = r.id ∧ (qFirst r t n').1.who = r.who by unfold qFirst; (repeat' split) <;> exact ⟨rfl, rfl⟩)
        have hlt : (0 : Int) < ((t.length + 1 : Nat) : Int) := by omega
        have hz0 : (0 : Int) < (t.length : Int) + 1 := by omega
        clear R hn cF
        simp only [List.length_cons] at *
        go_wp2_with fail
        go_at_call 84
        refine KF.out.mono ?_
        rintro e w3 ⟨A3, c3, rfl, own3, hb3⟩
        have b73 := b7.keep hb3
        have q7 := box5' b73
        have hbw := below_then hb3 hb1
        have oF3 : OwnS w3 w.heap.size 3 Ao fs.length co (frows fs) := HN.out.ownF.below hbw
        have hz3 := hbw.size
        have HO := Lib.hid own3
        clear b7 b73 hb3 hb1 e0 e1 e2 e3 e4 own3 KF
        generalize hX : qFirst r t n' = X at *
        obtain ⟨⟨fid, fwho, fq⟩, l3⟩ := X
        dsimp only at *
        clear hX
        go_wp2_with (at_builtin; go_loud (refine wpList_append_S (base := w.heap.size) (s := 3) (n := fs.length) rfl _ _ _ _ rfl 135 i0 _ 24 Tryd.underlying85 HI.out H0.out H1.out H2.out rfl rfl (oF3.alloc _) (by simp; omega) _ rfl 1 (Fill.vals ⟨r.id, r.who, fq⟩) (src_block (m := 1) (Bk.at_ (by simp) 135 #[.int .i64 r.id, .int .i64 r.who, .int .i64 fq]) Tryd.underlying85 rfl (fill_one _ _ _) 1) (by unfold maxLen; omega) (by omega) ?_); intro Ao' co' w4 gr)
        have hwr : IntKind.i64.wrap (n' - fq) = n' - fq := IntWalk.i64_in _ (by omega)
        have HW := Lib.hid hwr; clear hwr
        have hRT : RT l n w w4 l3 (n' - fq) (fs ++ [⟨r.id, r.who, fq⟩]) A3 c3 Ao' co' := by
          have R := HN.out
          have hsd := HS.out
          have hne : rowOf Ao co = none ∨ rowOf A3 c3 ≠ rowOf Ao co := by
            cases hrow : rowOf Ao co with
            | none => exact .inl rfl
            | some k =>
              refine .inr fun e => ?_
              have h1 := (R.ownF.row_lt k hrow).2
              have h2 := (HO.out.row_lt k e).1
              simp at h2
              omega
          have o3 := (HO.out.alloc (.cells #[.int .i64 r.id, .int .i64 r.who, .int .i64 fq] 135)).keep gr.grown hne
          refine ⟨o3.rd (fun i j hi hj => rows_get hi hj), o3.le, o3.max, ?_, ?_, hsd.1, by omega, by omega, ?_, ?_⟩
          · rw [frows_app, List.length_append]; exact gr.own
          · exact (below_then_alloc (below_then hbw R.below)).grown gr.grown (by simp; omega) (fun k hk => (oF3.row_lt k hk).1)
          · simp; omega
          · rw [R.told, HQ.out]; obtain ⟨rfl, rfl⟩ := HIW.out; simp
        have HRT := Lib.hid hRT
        clear hRT
        go_wp2
        go_roundw
        case rel => exact ⟨l3, n' - fq, _, A3, c3, Ao', co', rfl, rfl, by simp, HRT.out⟩
        case measure =>
          simp [intOf]
          omega
end Go.Proofs.YtefncbdkjljbjaaDoor
