/-
  Walks of layer 2: the order of sounds and of words.
-/
import Derived.Test.YtphfnmmdfnfnaaaWd
import Derived.Test.YtphfnmmdfnfnaaaQt
import Derived.StillTailTactics
import Derived.Handy
import Derived.Deep.RegionWith
namespace Go.Proofs.Ytphfnmmdfnfnaaa
open Go.RowKit
def cmpI (x y : Int) : Int := if x < y then -1 else if y < x then 1 else 0
theorem cmpI_lt {x y : Int} (h : x < y) : cmpI x y = -1 := by simp [cmpI, h]
theorem cmpI_gt {x y : Int} (h : y < x) : cmpI x y = 1 := by rw [cmpI, if_neg (by omega), if_pos h]
theorem cmpI_eq {x y : Int} (h : x = y) : cmpI x y = 0 := by subst h; simp [cmpI]
theorem cmp_any (x y : Int) (w : World) : Calls Try.prog 62 #[.int .u32 x, .int .u32 y] w fun e w' => e = .returned (.int .i64 (cmpI x y)) ∧ w' = w := by
  have hx : (x != x) = false := by simp
  have hy : (y != y) = false := by simp
  by_cases h1 : x < y
  · go_enter Try.func62, Try.ntmps62
    go_wp2
    go_ret
    exact ⟨ret_int (cmpI_lt h1).symm, rfl⟩
  by_cases h2 : y < x
  · go_enter Try.func62, Try.ntmps62
    go_wp2
    go_ret
    exact ⟨ret_int (cmpI_gt h2).symm, rfl⟩
  · go_enter Try.func62, Try.ntmps62
    go_wp2
    go_ret
    exact ⟨ret_int (cmpI_eq (by omega)).symm, rfl⟩

/-- cmp.Or of two numbers. -/
def orI (x y : Int) : Int := if x = 0 then y else x
theorem or_any (x y : Int) (b cap : Nat) (w : World) (h0 : w.cell? ⟨b, 0, none⟩ = some (.int .i64 x)) (h1 : w.cell? ⟨b, 1, none⟩ = some (.int .i64 y)) :
    Calls Try.prog 61 #[.slice (some ⟨b, 0, none⟩) 2 cap] w fun e w' => e = .returned (.int .i64 (orI x y)) ∧ w' = w := by
  by_cases hx : x = 0
  · subst hx
    by_cases hy : y = 0
    · subst hy
      go_enter Try.func61, Try.ntmps61
      go_wp2
      go_rounds 3
      go_ret
      exact ⟨ret_int (by simp [orI]), rfl⟩
    · have hyb : (y != 0) = true := by simpa using hy
      go_enter Try.func61, Try.ntmps61
      go_wp2
      go_rounds 3
      go_ret
      exact ⟨ret_int (by simp [orI]), rfl⟩
  · have hxb : (x != 0) = true := by simpa using hx
    go_enter Try.func61, Try.ntmps61
    go_wp2
    go_rounds 3
    go_ret
    exact ⟨ret_int (by rw [orI, if_neg hx]), rfl⟩
/-- The order of sounds. -/
def cmpS (s t : Snd) : Int := orI (cmpI s.p.toNat t.p.toNat) (cmpI s.m.toNat t.m.toNat)
theorem order_any (s t : Snd) (w : World) :
    Calls Try.prog 49 #[.agg #[.int .u32 s.p.toNat, .int .u32 s.m.toNat], .agg #[.int .u32 t.p.toNat, .int .u32 t.m.toNat]] w fun e w' => e = .returned (.int .i64 (cmpS s t)) ∧ Ext w w' := by
  go_enter Try.func49, Try.ntmps49
  go_wp2_with fail
  have f0 := fun x : ExtOf ((w.alloc (.cells #[.int .u32 s.p.toNat, .int .u32 s.m.toNat] 39)).alloc (.cells #[.int .u32 t.p.toNat, .int .u32 t.m.toNat] 39)) => x.cell (b := w.heap.size) (o := 0) (v := .int .u32 s.p.toNat) (by go_simp)
  have f1 := fun x : ExtOf ((w.alloc (.cells #[.int .u32 s.p.toNat, .int .u32 s.m.toNat] 39)).alloc (.cells #[.int .u32 t.p.toNat, .int .u32 t.m.toNat] 39)) => x.cell (b := w.heap.size) (o := 1) (v := .int .u32 s.m.toNat) (by go_simp)
  have f2 := fun x : ExtOf ((w.alloc (.cells #[.int .u32 s.p.toNat, .int .u32 s.m.toNat] 39)).alloc (.cells #[.int .u32 t.p.toNat, .int .u32 t.m.toNat] 39)) => x.cell (b := w.heap.size + 1) (o := 0) (v := .int .u32 t.p.toNat) (by go_simp)
  have f3 := fun x : ExtOf ((w.alloc (.cells #[.int .u32 s.p.toNat, .int .u32 s.m.toNat] 39)).alloc (.cells #[.int .u32 t.p.toNat, .int .u32 t.m.toNat] 39)) => x.cell (b := w.heap.size + 1) (o := 1) (v := .int .u32 t.m.toNat) (by go_simp)
  (refine wp_region_qxt 10 (by kernel_rfl) (by kernel_rfl) ?_
   simp only [List.take_succ_cons, List.take_zero, List.drop_succ_cons, List.drop_zero]
   repeat (go_big_quiet_step ((go_at_call 62; exact calls_ext_same (cmp_any _ _ _))))
   refine wpQuiet_nil ?_
   intro wq hw'
   have hxq := ext_of_ex hw'
   clear hw')
  go_wp2_with (go_at_call 61; refine (or_any (cmpI s.p.toNat t.p.toNat) (cmpI s.m.toNat t.m.toNat) _ _ _ (by go_simp) (by go_simp)).mono ?_; rintro e w' ⟨rfl, rfl⟩)
  go_ret
  exact ⟨rfl, (((Ext.alloc1 w _).alloc _).trans hxq).alloc _⟩
end Go.Proofs.Ytphfnmmdfnfnaaa
