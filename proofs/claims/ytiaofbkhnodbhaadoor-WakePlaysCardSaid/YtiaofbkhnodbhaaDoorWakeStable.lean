/- The library's stable sort over at most twenty orders. -/
import Derived.Test.YtiaofbkhnodbhaaDoorWakeMem
namespace Go.Proofs.YtiaofbkhnodbhaaDoor
set_option linter.all false
open Go Go.RowKit Go.Sort
theorem insert_none (A : Option Addr) (n c : Nat) (a b : Int) (h : b ≤ a + 1) (h1 : 0 ≤ a) (h2 : a ≤ 1000) (v : Value) (w : World) :
    Calls Tryd.prog 115 #[.slice A n c, .int .i64 a, .int .i64 b, v] w fun e w' => e = .returned (.tuple #[]) ∧ w = w' := by
  have h3 : ¬ a + 1 < b := by omega
  go_enter Tryd.func115, Tryd.ntmps115
  go_wp2
  refine wp_loop_rounds 1 ?_
  rw [rounds_succ]
  go_wp2
  go_end0
  exact ⟨rfl, rfl⟩
set_option maxRecDepth 100000 in
theorem stable_any (cf : Order → Order → Int) (f : Nat) (eg : ∀ args w, (callFunc f args).run Tryd.prog w = .ok (.enter f args) w) (hc : CmpO f cf) (l : List Order) (base : Nat) (A : Option Addr) (cap : Nat) (w : World) (h : OwnS w base 8 A l.length cap (ords l)) (hl : l.length ≤ 20) :
    Calls Tryd.prog 101 #[.slice A l.length cap, .int .i64 l.length, .func (.func f) #[] #[]] w (SortPost (isort (ltOf cf) l) base A cap w) := by
  have hi : Calls Tryd.prog 115 #[.slice A l.length cap, .int .i64 0, .int .i64 l.length, .func (.func f) #[] #[]] w (SortPost (isort (ltOf cf) l) base A cap w) := by
    rcases Nat.eq_zero_or_pos l.length with h0 | h0
    · obtain rfl := List.eq_nil_of_length_eq_zero h0
      refine (insert_none A 0 cap 0 0 (by decide) (by decide) (by decide) _ w).mono ?_
      rintro e w' ⟨rfl, rfl⟩
      exact ⟨rfl, h, grown_refl _ _⟩
    · exact insert_any cf f eg hc l base A cap w h h0 (by omega)
  have HI := Lib.hid hi
  clear h hc eg hi
  generalize isort (ltOf cf) l = l' at *
  by_cases h20 : l.length = 20
  · have hn := Lib.hid (fun w => insert_none A 20 cap 20 20 (by decide) (by decide) (by decide) (.func (.func f) #[] #[]) w)
    rw [h20] at HI ⊢
    clear hl h20
    go_enter Tryd.func101, Tryd.ntmps101
    go_wp2
    refine wp_loop_rounds 2 ?_
    rw [rounds_succ]
    go_wp2_with fail
    go_at_call 115
    refine HI.out.mono ?_
    rintro e w1 ⟨rfl, HO, HG⟩
    go_wp2
    rw [rounds_succ]
    go_wp2_with fail
    go_at_call 115
    refine (hn.out _).mono ?_
    rintro e w2 ⟨rfl, rfl⟩
    go_wp2
    refine wp_loop_rounds 1 ?_
    rw [rounds_succ]
    go_wp2
    go_end0
    exact ⟨rfl, HO, HG⟩
  · have hlt : ¬ (20 : Int) ≤ (l.length : Int) := by omega
    have hlt2 : ¬ (20 : Int) < (l.length : Int) := by omega
    have d1 : decide ((20 : Int) ≤ (l.length : Int)) = false := decide_eq_false hlt
    have d2 : decide ((20 : Int) < (l.length : Int)) = false := decide_eq_false hlt2
    clear hl h20 hlt hlt2
    go_enter Tryd.func101, Tryd.ntmps101
    go_wp2
    refine wp_loop_rounds 1 ?_
    rw [rounds_succ]
    go_wp2_with fail
    go_at_call 115
    refine HI.out.mono ?_
    rintro e w1 ⟨rfl, HO, HG⟩
    go_wp2
    refine wp_loop_rounds 1 ?_
    rw [rounds_succ]
    go_wp2
    go_end0
    exact ⟨rfl, HO, HG⟩
theorem sortst_any (cf : Order → Order → Int) (f : Nat) (eg : ∀ args w, (callFunc f args).run Tryd.prog w = .ok (.enter f args) w) (hc : CmpO f cf) (l : List Order) (base : Nat) (A : Option Addr) (cap : Nat) (w : World) (h : OwnS w base 8 A l.length cap (ords l)) (hl : l.length ≤ 20) :
    Calls Tryd.prog 71 #[.slice A l.length cap, .func (.func f) #[] #[]] w (SortPost (isort (ltOf cf) l) base A cap w) := by
  have HI := Lib.hid (stable_any cf f eg hc l base A cap w h hl)
  clear h hc eg
  generalize isort (ltOf cf) l = l' at *
  go_enter Tryd.func71, Tryd.ntmps71
  go_wp2_with fail
  go_at_call 101
  refine HI.out.mono ?_
  rintro e w1 ⟨rfl, HO, HG⟩
  go_wp2
  go_end0
  exact ⟨rfl, HO, HG⟩
end Go.Proofs.YtiaofbkhnodbhaaDoor
