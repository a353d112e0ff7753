/-
  The order of sounds: the program's and the reference's.
-/
import Derived.Test.YtkdancoffmhjhaaLex
import Derived.StillTailTactics
import Derived.Handy
import Derived.Deep.RegionWith
namespace Go.Proofs.Ytkdancoffmhjhaa
open Go.RowKit
theorem cmp_any (x y : Int) (w : World) : Calls Try.prog 70 #[.int .u32 x, .int .u32 y] w fun e w' => e = .returned (.int .i64 (cmpI x y)) ∧ w' = w := by
  have hx : (x != x) = false := by simp
  have hy : (y != y) = false := by simp
  by_cases h1 : x < y
  · go_enter Try.func70, Try.ntmps70
    go_wp2
    go_ret
    exact ⟨ret_int (cmpI_lt h1).symm, rfl⟩
  by_cases h2 : y < x
  · go_enter Try.func70, Try.ntmps70
    go_wp2
    go_ret
    exact ⟨ret_int (cmpI_gt h2).symm, rfl⟩
  · go_enter Try.func70, Try.ntmps70
    go_wp2
    go_ret
    exact ⟨ret_int (cmpI_eq (by omega)).symm, rfl⟩

/-- cmp.Or of two numbers. -/
def orI (x y : Int) : Int := if x = 0 then y else x
theorem or_any (x y : Int) (b cap : Nat) (w : World) (h0 : w.cell? ⟨b, 0, none⟩ = some (.int .i64 x)) (h1 : w.cell? ⟨b, 1, none⟩ = some (.int .i64 y)) :
    Calls Try.prog 69 #[.slice (some ⟨b, 0, none⟩) 2 cap] w fun e w' => e = .returned (.int .i64 (orI x y)) ∧ w' = w := by
  by_cases hx : x = 0
  · subst hx
    by_cases hy : y = 0
    · subst hy
      go_enter Try.func69, Try.ntmps69
      go_wp2
      go_rounds 3
      go_ret
      exact ⟨ret_int (by simp [orI]), rfl⟩
    · have hyb : (y != 0) = true := by simpa using hy
      go_enter Try.func69, Try.ntmps69
      go_wp2
      go_rounds 3
      go_ret
      exact ⟨ret_int (by simp [orI]), rfl⟩
  · have hxb : (x != 0) = true := by simpa using hx
    go_enter Try.func69, Try.ntmps69
    go_wp2
    go_rounds 3
    go_ret
    exact ⟨ret_int (by rw [orI, if_neg hx]), rfl⟩
theorem orI_cmpS (s t : Snd) : orI (cmpI s.p.toNat t.p.toNat) (cmpI s.m.toNat t.m.toNat) = cmpS s t := rfl
theorem order_any (s t : Snd) (w : World) :
    Calls Try.prog 46 #[.agg #[.int .u32 s.p.toNat, .int .u32 s.m.toNat], .agg #[.int .u32 t.p.toNat, .int .u32 t.m.toNat]] w fun e w' => e = .returned (.int .i64 (cmpS s t)) ∧ Ext w w' := by
  go_enter Try.func46, Try.ntmps46
  go_wp2_with fail
  have f0 := fun x : ExtOf ((w.alloc (.cells #[.int .u32 s.p.toNat, .int .u32 s.m.toNat] 37)).alloc (.cells #[.int .u32 t.p.toNat, .int .u32 t.m.toNat] 37)) => x.cell (b := w.heap.size) (o := 0) (v := .int .u32 s.p.toNat) (by go_simp)
  have f1 := fun x : ExtOf ((w.alloc (.cells #[.int .u32 s.p.toNat, .int .u32 s.m.toNat] 37)).alloc (.cells #[.int .u32 t.p.toNat, .int .u32 t.m.toNat] 37)) => x.cell (b := w.heap.size) (o := 1) (v := .int .u32 s.m.toNat) (by go_simp)
  have f2 := fun x : ExtOf ((w.alloc (.cells #[.int .u32 s.p.toNat, .int .u32 s.m.toNat] 37)).alloc (.cells #[.int .u32 t.p.toNat, .int .u32 t.m.toNat] 37)) => x.cell (b := w.heap.size + 1) (o := 0) (v := .int .u32 t.p.toNat) (by go_simp)
  have f3 := fun x : ExtOf ((w.alloc (.cells #[.int .u32 s.p.toNat, .int .u32 s.m.toNat] 37)).alloc (.cells #[.int .u32 t.p.toNat, .int .u32 t.m.toNat] 37)) => x.cell (b := w.heap.size + 1) (o := 1) (v := .int .u32 t.m.toNat) (by go_simp)
  (refine wp_region_qxt 10 (by kernel_rfl) (by kernel_rfl) ?_
   simp only [List.take_succ_cons, List.take_zero, List.drop_succ_cons, List.drop_zero]
   repeat (go_big_quiet_step ((go_at_call 70; exact calls_ext_same (cmp_any _ _ _))))
   refine wpQuiet_nil ?_
   intro wq hw'
   have hxq := ext_of_ex hw'
   clear hw')
  go_wp2_with (go_at_call 69; refine (or_any (cmpI s.p.toNat t.p.toNat) (cmpI s.m.toNat t.m.toNat) _ _ _ (by go_simp) (by go_simp)).mono ?_; rintro e w' ⟨rfl, rfl⟩)
  go_ret
  exact ⟨rfl, (((Ext.alloc1 w _).alloc _).trans hxq).alloc _⟩

/-! ### The reference's -/
theorem cmpS_lt {s t : Snd} (h : s.p.toNat < t.p.toNat ∨ s.p.toNat = t.p.toNat ∧ s.m.toNat < t.m.toNat) : cmpS s t = -1 := by
  unfold cmpS
  rcases h with h | ⟨h1, h2⟩
  · rw [cmpI_lt (by omega)]; rfl
  · rw [cmpI_eq (by omega), if_pos rfl, cmpI_lt (by omega)]
theorem cmpS_gt {s t : Snd} (h1 : ¬ (s.p.toNat < t.p.toNat ∨ s.p.toNat = t.p.toNat ∧ s.m.toNat < t.m.toNat)) (h2 : s ≠ t) : cmpS s t = 1 := by
  have h3 : ¬ cmpS s t = 0 := fun h => h2 (cmpS_tot.zero h)
  rcases cmpS_tot.tri s t with h | h | h
  · exfalso
    unfold cmpS at h
    rcases cmpI_spec (s.p.toNat : Int) (t.p.toNat : Int) with ⟨e, hh⟩ | ⟨e, hh⟩ | ⟨e, hh⟩
    · exact h1 (.inl (by omega))
    · rw [if_pos e] at h
      rcases cmpI_spec (s.m.toNat : Int) (t.m.toNat : Int) with ⟨e2, hh2⟩ | ⟨e2, hh2⟩ | ⟨e2, hh2⟩
      · exact h1 (.inr ⟨by omega, by omega⟩)
      · omega
      · omega
    · rw [if_neg (by omega)] at h; omega
  · exact absurd h h3
  · exact h
set_option maxHeartbeats 1000000 in
theorem rorder_any (s t : Snd) (w : World) :
    Calls Try.prog 47 #[.agg #[.int .u32 s.p.toNat, .int .u32 s.m.toNat], .agg #[.int .u32 t.p.toNat, .int .u32 t.m.toNat]] w fun e w' => e = .returned (.int .i64 (cmpS s t)) ∧ Ext w w' := by
  have heq := eql_snd
  by_cases h1 : s.p.toNat < t.p.toNat
  · have d1 : decide (s.p.toNat < t.p.toNat) = true := by simpa using h1
    have hR := cmpS_lt (.inl h1)
    rw [hR]
    clear hR
    replace h1 := Lib.hid h1
    go_enter Try.func47, Try.ntmps47
    go_wp2_with fail
    go_ret
    exact ⟨rfl, (by repeat (first | exact Ext.refl _ | assumption | refine Ext.drew ?_ | refine Ext.drewN ?_ _ | refine Ext.alloc ?_ _ | refine Ext.trans ?_ (by assumption)))⟩
  have d1 : decide (s.p.toNat < t.p.toNat) = false := by simpa using h1
  by_cases h2 : s.p.toNat = t.p.toNat
  · have d2 : ((s.p.toNat : Int) == (t.p.toNat : Int)) = true := by simp [h2]
    by_cases h3 : s.m.toNat < t.m.toNat
    · have d3 : decide (s.m.toNat < t.m.toNat) = true := by simpa using h3
      have hR := cmpS_lt (.inr ⟨h2, h3⟩)
      rw [hR]
      clear hR
      replace h2 := Lib.hid h2
      replace h3 := Lib.hid h3
      go_enter Try.func47, Try.ntmps47
      go_wp2_with fail
      go_ret
      exact ⟨rfl, (by repeat (first | exact Ext.refl _ | assumption | refine Ext.drew ?_ | refine Ext.drewN ?_ _ | refine Ext.alloc ?_ _ | refine Ext.trans ?_ (by assumption)))⟩
    have d3 : decide (s.m.toNat < t.m.toNat) = false := by simpa using h3
    by_cases h4 : s = t
    · subst h4
      rw [cmpS_tot.self]
      have d4 : decide (s = s) = true := by simp
      clear h2 h1 h3
      go_enter Try.func47, Try.ntmps47
      go_wp2_with fail
      go_ret
      exact ⟨rfl, (by repeat (first | exact Ext.refl _ | assumption | refine Ext.drew ?_ | refine Ext.drewN ?_ _ | refine Ext.alloc ?_ _ | refine Ext.trans ?_ (by assumption)))⟩
    · have d4 : decide (s = t) = false := by simpa using h4
      have hR := cmpS_gt (fun h => h.elim h1 fun h => h3 h.2) h4
      rw [hR]
      clear hR
      replace h1 := Lib.hid h1
      replace h2 := Lib.hid h2
      replace h3 := Lib.hid h3
      replace h4 := Lib.hid h4
      go_enter Try.func47, Try.ntmps47
      go_wp2_with fail
      go_ret
      exact ⟨rfl, (by repeat (first | exact Ext.refl _ | assumption | refine Ext.drew ?_ | refine Ext.drewN ?_ _ | refine Ext.alloc ?_ _ | refine Ext.trans ?_ (by assumption)))⟩
  · have d2 : ((s.p.toNat : Int) == (t.p.toNat : Int)) = false := by simp; omega
    have h4 : s ≠ t := fun h => h2 (by rw [h])
    have d4 : decide (s = t) = false := by simpa using h4
    have hR := cmpS_gt (fun h => h.elim h1 fun h => h2 h.1) h4
    rw [hR]
    clear hR
    replace h1 := Lib.hid h1
    replace h2 := Lib.hid h2
    replace h4 := Lib.hid h4
    go_enter Try.func47, Try.ntmps47
    go_wp2_with fail
    go_ret
    exact ⟨rfl, (by repeat (first | exact Ext.refl _ | assumption | refine Ext.drew ?_ | refine Ext.drewN ?_ _ | refine Ext.alloc ?_ _ | refine Ext.trans ?_ (by assumption)))⟩
end Go.Proofs.Ytkdancoffmhjhaa
