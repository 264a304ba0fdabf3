/- The contract of queue.Drop. -/
import Derived.Test.YtefncbdkjljbjaaDoorDelRest
import Derived.Test.YtefncbdkjljbjaaDoorTakeLaw
import Derived.Test.YtefncbdkjljbjaaDoorPush
import Derived.Deep.DeepCutAuto
import Derived.IntWalk
namespace Go.Proofs.YtefncbdkjljbjaaDoor
set_option linter.all false
open Go Go.RowKit
theorem box5 {w' : World} {v0 v1 v2 v3 v4 : Value} {g : Nat} {t : TypeId} (h : Bk w' g t #[v0, v1, v2, v3, v4]) : w'.cell? ⟨g, 0, none⟩ = some v0 ∧ w'.cell? ⟨g, 1, none⟩ = some v1 ∧ w'.cell? ⟨g, 2, none⟩ = some v2 ∧ w'.cell? ⟨g, 3, none⟩ = some v3 ∧ w'.cell? ⟨g, 4, none⟩ = some v4 :=
  ⟨h.cell 0, h.cell 1, h.cell 2, h.cell 3, h.cell 4⟩
theorem findI_lt {l : List Rest} {id : Int} {k : Nat} (h : findI l id = k) : k < l.length := by
  unfold findI at h
  split at h
  · rename_i i hi
    have := (List.findIdx?_eq_some_iff_getElem.1 hi).1
    omega
  · omega
theorem row_ne9 {w : World} {base s n cap b : Nat} {A : Option Addr} {xs : List Value} (h : OwnS w base s A n cap xs) (hb : b < base) : some b ≠ rowOf A cap := fun e => by
  have := (h.row_lt b e.symm).1
  omega
/-- what is wrong with taking an id out -/
def dropE (l : List Rest) (id : Int) : Int := if qErr l ≠ 0 then qErr l else if findI l id < 0 then 5 else 0
/-- a slice, a rest, and the fault -/
def DropBad (k : Int) (w : World) (e : Ending) (w' : World) : Prop := e = .returned (.tuple #[.slice none 0 0, .agg #[.int .i64 0, .int .i64 0, .int .i64 0, .int .i64 0, .int .i64 0], er k]) ∧ Below w.heap.size w w'
set_option maxHeartbeats 1000000 in
theorem drop_bad (l : List Rest) (A : Option Addr) (c : Nat) (id : Int) (w : World) (hr : Rd w w.heap.size A l.length 5 (rcell l)) (hcap : l.length ≤ c) (h : dropE l id ≠ 0) :
    Calls Tryd.prog 49 #[.slice A l.length c, .int .i64 id] w (DropBad (dropE l id) w) := by
  have cC := fun w' hr' => qcheck_any l A c w' hr' hcap
  have HR := Lib.hid hr
  have b5 := Bk.new w 70 #[.int .i64 0, .int .i64 0, .int .i64 0, .int .i64 0, .int .i64 0]
  have hb0 : Below w.heap.size w (w.alloc (.cells #[.int .i64 0, .int .i64 0, .int .i64 0, .int .i64 0, .int .i64 0] 70)) := (Below.refl _ _).alloc (Nat.le_refl _) _
  have hlt : w.heap.size < w.heap.size + 1 := by omega
  by_cases h0 : qErr l = 0
  case neg =>
    rw [show dropE l id = qErr l by rw [dropE, if_pos h0]]
    rw [show errV (qErr l) = er (qErr l) by simp [errV, h0]] at cC
    have CC := Lib.hid cC
    clear h h0 hr cC
    generalize qErr l = k at *
    go_enter Tryd.func49, Tryd.ntmps49
    go_wp2_with fail
    go_at_call 43
    refine (CC.out _ ((HR.out.below hb0).more hb0.size)).mono ?_
    rintro e w1 ⟨rfl, hb1⟩
    have hb1' := below_then hb1 hb0
    have b51 := b5.keep hb1
    have q5 := box5 b51
    have z0 := b51.free 0; have z1 := b51.free 1; have z2 := b51.free 2; have z3 := b51.free 3; have z4 := b51.free 4
    go_wp2
    refine bodyPost_ret (v := .tuple #[.slice none 0 0, .agg #[.int .i64 0, .int .i64 0, .int .i64 0, .int .i64 0, .int .i64 0], er k]) (by simp [results, Tryd.results49, go_sem, q5]) rfl ⟨rfl, ?_⟩
    exact ((((hb1'.setCell (Nat.le_refl _) _).setCell (Nat.le_refl _) _).setCell (Nat.le_refl _) _).setCell (Nat.le_refl _) _).setCell (Nat.le_refl _) _
  case pos =>
    have hf : findI l id < 0 := by
      rw [dropE, if_neg (by simpa using h0)] at h
      by_cases hf : findI l id < 0
      · exact hf
      · rw [if_neg hf] at h; omega
    rw [show dropE l id = 5 by rw [dropE, if_neg (by simpa using h0), if_pos hf]]
    rw [h0, show errV 0 = .nilIface from rfl] at cC
    have hl := (bodyBounds h0).1
    have cF := Lib.hid fun w' hr' => find_any l A c id w' hr' (by omega)
    have CC := Lib.hid cC
    clear h h0 hr cC
    generalize findI l id = fi at *
    go_enter Tryd.func49, Tryd.ntmps49
    go_wp2_with fail
    go_at_call 43
    refine (CC.out _ ((HR.out.below hb0).more hb0.size)).mono ?_
    rintro e w1 ⟨rfl, hb1⟩
    have hb1' := below_then hb1 hb0
    have b51 := b5.keep hb1
    go_wp2_with fail
    go_at_call 79
    refine (cF.out _ ((HR.out.below hb1').more hb1'.size)).mono ?_
    rintro e w2 ⟨rfl, hb2⟩
    have hb2' := below_then hb2 hb1'
    have b52 := b51.keep hb2
    have q5 := box5 b52
    have z0 := b52.free 0; have z1 := b52.free 1; have z2 := b52.free 2; have z3 := b52.free 3; have z4 := b52.free 4
    go_wp2
    refine bodyPost_ret (v := .tuple #[.slice none 0 0, .agg #[.int .i64 0, .int .i64 0, .int .i64 0, .int .i64 0, .int .i64 0], er 5]) (by simp [results, Tryd.results49, go_sem, q5]) rfl ⟨rfl, ?_⟩
    exact ((((hb2'.setCell (Nat.le_refl _) _).setCell (Nat.le_refl _) _).setCell (Nat.le_refl _) _).setCell (Nat.le_refl _) _).setCell (Nat.le_refl _) _
/-- how Drop ends where nothing is wrong -/
def DropPost (l : List Rest) (k : Nat) (r : Rest) (w : World) (e : Ending) (w' : World) : Prop :=
  ∃ A' c', e = .returned (.tuple #[.slice A' (l.eraseIdx k).length c', .agg #[.int .i64 r.id, .int .i64 r.who, .int .i64 r.qty, .int .i64 r.hidden, .int .i64 r.show_], .nilIface]) ∧ OwnS w' w.heap.size 5 A' (l.eraseIdx k).length c' (rows (l.eraseIdx k)) ∧ Below w.heap.size w w'
set_option maxRecDepth 20000 in
set_option maxHeartbeats 4000000 in
theorem drop_ok (l : List Rest) (A : Option Addr) (c : Nat) (id : Int) (k : Nat) (r : Rest) (w : World) (hr : Rd w w.heap.size A l.length 5 (rcell l)) (hcap : l.length ≤ c) (hA : A = none → l.length = 0 ∧ c = 0) (h0 : qErr l = 0) (hk : findI l id = k) (hrk : l[k]? = some r) :
    Calls Tryd.prog 49 #[.slice A l.length c, .int .i64 id] w (DropPost l k r w) := by
  have cC := fun w' hr' => qcheck_any l A c w' hr' hcap
  rw [h0, show errV 0 = .nilIface from rfl] at cC
  have hl := (bodyBounds h0).1
  have cF := fun w' hr' => find_any l A c id w' hr' (by omega)
  have hkl := findI_lt hk
  rw [hk] at cF
  have CC := Lib.hid cC; have CF := Lib.hid cF
  have HR := Lib.hid hr
  have hn : l.length = k + 1 + (l.length - (k + 1)) := by omega
  have HN := Lib.hid hn
  have b5 := Bk.new w 70 #[.int .i64 0, .int .i64 0, .int .i64 0, .int .i64 0, .int .i64 0]
  have hb0 : Below w.heap.size w (w.alloc (.cells #[.int .i64 0, .int .i64 0, .int .i64 0, .int .i64 0, .int .i64 0] 70)) := (Below.refl _ _).alloc (Nat.le_refl _) _
  have HRK := Lib.hid hrk
  have k0 : (0 : Int) ≤ (k : Int) := by omega
  have k1 : (k : Int) < (l.length : Int) := by omega
  clear h0 hk hrk cC cF hr hn
  go_enter Tryd.func49, Tryd.ntmps49
  go_wp2_with fail
  go_at_call 43
  refine (CC.out _ ((HR.out.below hb0).more hb0.size)).mono ?_
  rintro e w1 ⟨rfl, hb1⟩
  have hb1' := below_then hb1 hb0
  have b51 := b5.keep hb1
  clear b5 hb0 hb1
  go_wp2_with fail
  go_at_call 79
  refine (CF.out _ ((HR.out.below hb1').more hb1'.size)).mono ?_
  rintro e w2 ⟨rfl, hb2⟩
  have hb2' := below_then hb2 hb1'
  have b52 := b51.keep hb2
  clear b51 hb1' hb2
  obtain ⟨b, off, t, rfl, hbb, ht, e0, e1, e2, e3, e4⟩ := rest_at (HR.out.below hb2') hkl
  obtain rfl : t = r := Option.some.inj (ht.symm.trans HRK.out)
  clear ht
  have hz2 := b52.lt
  go_upto_region 8 with fail
  have b9 := Bk.new w2 70 #[.int .i64 t.id, .int .i64 t.who, .int .i64 t.qty, .int .i64 t.hidden, .int .i64 t.show_]
  have b5w := b52.alloc (.cells #[.int .i64 t.id, .int .i64 t.who, .int .i64 t.qty, .int .i64 t.hidden, .int .i64 t.show_] 70)
  have hb3 : Below w.heap.size w (w2.alloc (.cells #[.int .i64 t.id, .int .i64 t.who, .int .i64 t.qty, .int .i64 t.hidden, .int .i64 t.show_] 70)) := below_then_alloc hb2'
  obtain ⟨W, hW⟩ : ∃ W, W = w2.alloc (.cells #[.int .i64 t.id, .int .i64 t.who, .int .i64 t.qty, .int .i64 t.hidden, .int .i64 t.show_] 70) := ⟨_, rfl⟩
  rw [← hW] at b9 b5w hb3 ⊢
  clear hW e0 e1 e2 e3 e4 b52
  have hRW := Lib.hid ((HR.out.below hb3).more hb3.size)
  have hne9 := b9.lt
  have q9 := box5 b9
  obtain ⟨s0, s1, s2, s3, s4⟩ := q9
  have hsz := hb3.size
  have hne1 : ¬ w2.heap.size = w.heap.size := by omega
  have hne2 : ¬ w.heap.size = w2.heap.size := by omega
  have x1 : IntKind.i64.wrap ((k : Int) + 1) = (k : Int) + 1 := IntWalk.i64_in _ (by omega)
  go_region_held3 (fun w' => w'.cell? ⟨w2.heap.size, 0, none⟩ = some (.int .i64 t.id) ∧ w'.cell? ⟨w2.heap.size, 1, none⟩ = some (.int .i64 t.who) ∧ w'.cell? ⟨w2.heap.size, 2, none⟩ = some (.int .i64 t.qty) ∧ w'.cell? ⟨w2.heap.size, 3, none⟩ = some (.int .i64 t.hidden) ∧ w'.cell? ⟨w2.heap.size, 4, none⟩ = some (.int .i64 t.show_)) ((repeat' apply And.intro) <;> first | (with_reducible assumption) | (with_reducible exact cell_drew (by assumption)) | (go_simp; done)) (first | (go_at_call 80; go_loud (refine (clone_rests l _ c _ (by exact hRW.out) (by omega) hA).mono ?_); rintro e w4 ⟨A4, c4, rfl, own4, hb4, _⟩; go_loud (have b94 := Bk.keep (Bk.drew b9) hb4); go_loud (have b54 := Bk.keep (Bk.drew b5w) hb4); have s0 := b94.cell 0; have s1 := b94.cell 1; have s2 := b94.cell 2; have s3 := b94.cell 3; have s4 := b94.cell 4; go_loud (have n9 : some w2.heap.size ≠ rowOf A4 c4 := row_ne9 own4 (by simp; exact b9.lt)); go_loud (have n5 : some w.heap.size ≠ rowOf A4 c4 := row_ne9 own4 (by simp; exact b5w.lt))) | (go_at_call 83; go_loud (refine (delete_rests l A4 c4 _ k _ _ (by exact own4) HN.out (by omega)).mono ?_); rintro e w6 ⟨rfl, own6, gr6⟩; go_loud (have b96 := b94.grown gr6 n9); go_loud (have b56 := b54.grown gr6 n5); have s0 := b96.cell 0; have s1 := b96.cell 1; have s2 := b96.cell 2; have s3 := b96.cell 3; have s4 := b96.cell 4; have y5 := box5 b56; have z0 := b56.free 0; have z1 := b56.free 1; have z2 := b56.free 2; have z3 := b56.free 3; have z4 := b56.free 4))
  have q5 := box5 b56
  go_wp2
  refine bodyPost_ret (v := .tuple #[.slice A4 (l.eraseIdx k).length c4, .agg #[.int .i64 t.id, .int .i64 t.who, .int .i64 t.qty, .int .i64 t.hidden, .int .i64 t.show_], .nilIface]) (by simp [results, Tryd.results49, go_sem, q5]) rfl ⟨A4, c4, rfl, ?_, ?_⟩
  · have o6 := own6.lower (b := w.heap.size) hsz
    exact ((((o6.far (Ne.symm n5) _).far (Ne.symm n5) _).far (Ne.symm n5) _).far (Ne.symm n5) _).far (Ne.symm n5) _
  · have hb5 : Below w.heap.size w w4 := hb3.trans ((Below.drew_keep hb4).mono hsz)
    have hb6 : Below w.heap.size w w6 := hb5.grown gr6 hb5.size (fun k hk => Nat.le_trans hsz (own4.row_lt k hk).1)
    exact ((((hb6.setCell (Nat.le_refl _) _).setCell (Nat.le_refl _) _).setCell (Nat.le_refl _) _).setCell (Nat.le_refl _) _).setCell (Nat.le_refl _) _
end Go.Proofs.YtefncbdkjljbjaaDoor
