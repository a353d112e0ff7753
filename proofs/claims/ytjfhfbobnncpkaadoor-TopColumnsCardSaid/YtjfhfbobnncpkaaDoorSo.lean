/-
  The order of sounds: the program's and the reference's.
-/
import Derived.Test.YtjfhfbobnncpkaaDoorLex
import Derived.StillTailTactics
import Derived.Handy
import Derived.Deep.RegionWith
namespace Go.Proofs.YtjfhfbobnncpkaaDoor
open Go.RowKit
theorem cmp_any (x y : Int) (w : World) : Calls Tryd.prog 69 #[.int .u32 x, .int .u32 y] w fun e w' => e = .returned (.int .i64 (cmpI x y)) ∧ w' = w := by
  have hx : (x != x) = false := by simp
  have hy : (y != y) = false := by simp
  by_cases h1 : x < y
  · go_enter Tryd.func69, Tryd.ntmps69
    go_wp2
    go_ret
    exact ⟨ret_int (cmpI_lt h1).symm, rfl⟩
  by_cases h2 : y < x
  · go_enter Tryd.func69, Tryd.ntmps69
    go_wp2
    go_ret
    exact ⟨ret_int (cmpI_gt h2).symm, rfl⟩
  · go_enter Tryd.func69, Tryd.ntmps69
    go_wp2
    go_ret
    exact ⟨ret_int (cmpI_eq (by omega)).symm, rfl⟩

/-- cmp.Or of two numbers. -/
def orI (x y : Int) : Int := if x = 0 then y else x
theorem or_any (x y : Int) (b cap : Nat) (w : World) (h0 : w.cell? ⟨b, 0, none⟩ = some (.int .i64 x)) (h1 : w.cell? ⟨b, 1, none⟩ = some (.int .i64 y)) :
    Calls Tryd.prog 68 #[.slice (some ⟨b, 0, none⟩) 2 cap] w fun e w' => e = .returned (.int .i64 (orI x y)) ∧ w' = w := by
  by_cases hx : x = 0
  · subst hx
    by_cases hy : y = 0
    · subst hy
      go_enter Tryd.func68, Tryd.ntmps68
      go_wp2
      go_rounds 3
      go_ret
      exact ⟨ret_int (by simp [orI]), rfl⟩
    · have hyb : (y != 0) = true := by simpa using hy
      go_enter Tryd.func68, Tryd.ntmps68
      go_wp2
      go_rounds 3
      go_ret
      exact ⟨ret_int (by simp [orI]), rfl⟩
  · have hxb : (x != 0) = true := by simpa using hx
    go_enter Tryd.func68, Tryd.ntmps68
    go_wp2
    go_rounds 3
    go_ret
    exact ⟨ret_int (by rw [orI, if_neg hx]), rfl⟩
theorem orI_cmpS (s t : Snd) : orI (cmpI s.p.toNat t.p.toNat) (cmpI s.m.toNat t.m.toNat) = cmpS s t := rfl
theorem order_any (s t : Snd) (w : World) :
    Calls Tryd.prog 52 #[.agg #[.int .u32 s.p.toNat, .int .u32 s.m.toNat], .agg #[.int .u32 t.p.toNat, .int .u32 t.m.toNat]] w fun e w' => e = .returned (.int .i64 (cmpS s t)) ∧ Ext w w' := by
  go_enter Tryd.func52, Tryd.ntmps52
  go_wp2_with fail
  have f0 := fun x : ExtOf ((w.alloc (.cells #[.int .u32 s.p.toNat, .int .u32 s.m.toNat] 48)).alloc (.cells #[.int .u32 t.p.toNat, .int .u32 t.m.toNat] 48)) => x.cell (b := w.heap.size) (o := 0) (v := .int .u32 s.p.toNat) (by go_simp)
  have f1 := fun x : ExtOf ((w.alloc (.cells #[.int .u32 s.p.toNat, .int .u32 s.m.toNat] 48)).alloc (.cells #[.int .u32 t.p.toNat, .int .u32 t.m.toNat] 48)) => x.cell (b := w.heap.size) (o := 1) (v := .int .u32 s.m.toNat) (by go_simp)
  have f2 := fun x : ExtOf ((w.alloc (.cells #[.int .u32 s.p.toNat, .int .u32 s.m.toNat] 48)).alloc (.cells #[.int .u32 t.p.toNat, .int .u32 t.m.toNat] 48)) => x.cell (b := w.heap.size + 1) (o := 0) (v := .int .u32 t.p.toNat) (by go_simp)
  have f3 := fun x : ExtOf ((w.alloc (.cells #[.int .u32 s.p.toNat, .int .u32 s.m.toNat] 48)).alloc (.cells #[.int .u32 t.p.toNat, .int .u32 t.m.toNat] 48)) => x.cell (b := w.heap.size + 1) (o := 1) (v := .int .u32 t.m.toNat) (by go_simp)
  (refine wp_region_qxt 10 (by kernel_rfl) (by kernel_rfl) ?_
   simp only [List.take_succ_cons, List.take_zero, List.drop_succ_cons, List.drop_zero]
   repeat (go_big_quiet_step ((go_at_call 69; exact calls_ext_same (cmp_any _ _ _))))
   refine wpQuiet_nil ?_
   intro wq hw'
   have hxq := ext_of_ex hw'
   clear hw')
  go_wp2_with (go_at_call 68; refine (or_any (cmpI s.p.toNat t.p.toNat) (cmpI s.m.toNat t.m.toNat) _ _ _ (by go_simp) (by go_simp)).mono ?_; rintro e w' ⟨rfl, rfl⟩)
  go_ret
  exact ⟨rfl, (((Ext.alloc1 w _).alloc _).trans hxq).alloc _⟩

/-! ### The reference's -/
theorem cmpS_lt {s t : Snd} (h : s.p.toNat < t.p.toNat ∨ s.p.toNat = t.p.toNat ∧ s.m.toNat < t.m.toNat) : cmpS s t = -1 := by
  unfold cmpS
  rcases h with h | ⟨h1, h2⟩
  · rw [cmpI_lt (by omega)]; rfl
  · rw [cmpI_eq (by omega), if_pos rfl, cmpI_lt (by omega)]
theorem cmpS_gt {s t : Snd} (h1 : ¬ (s.p.toNat < t.p.toNat ∨ s.p.toNat = t.p.toNat ∧ s.m.toNat < t.m.toNat)) (h2 : s ≠ t) : cmpS s t = 1 := by
  have h3 : ¬ cmpS s t = 0 := fun h => h2 (cmpS_tot.zero h)
  rcases cmpS_tot.tri s t with h | h | h
  · exfalso
    unfold cmpS at h
    rcases cmpI_spec (s.p.toNat : Int) (t.p.toNat : Int) with ⟨e, hh⟩ | ⟨e, hh⟩ | ⟨e, hh⟩
    · exact h1 (.inl (by omega))
    · rw [if_pos e] at h
      rcases cmpI_spec (s.m.toNat : Int) (t.m.toNat : Int) with ⟨e2, hh2⟩ | ⟨e2, hh2⟩ | ⟨e2, hh2⟩
      · exact h1 (.inr ⟨by omega, by omega⟩)
      · omega
      · omega
    · rw [if_neg (by omega)] at h; omega
  · exact absurd h h3
  · exact h
end Go.Proofs.YtjfhfbobnncpkaaDoor
