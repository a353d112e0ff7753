/-
  Layer 1: CheckCosts of the program and of the reference.
-/
import Derived.Test.YtjfhfbobnncpkaaDoorFv
namespace Go.Proofs.YtjfhfbobnncpkaaDoor
open Go.RowKit
/-! ### Costs -/
def wOk (x : Int) : Bool := decide (0 ≤ x) && decide (x ≤ 1073741824)
/-- Weights and the cost of a gap are valid. -/
def costsB (ws : List Int) (g : Int) : Bool := decide (ws.length ≤ 24) && wOk g && ws.all wOk
def costsE (ws : List Int) (g : Int) : Int := if costsB ws g = true then 0 else 2
theorem costsE_bad {ws : List Int} {g : Int} (h : costsB ws g = false) : costsE ws g = 2 := by simp [costsE, h]
theorem costs_any (a : Option Addr) (n cap : Nat) (ws : List Int) (g : Int) (w : World) (hr : RdI w a n cap ws) :
    Calls Tryd.prog 8 #[.agg #[.slice a n cap, .int .i64 g]] w fun e w' => e = .returned (.int .i64 (costsE ws g)) ∧ Ext w w' := by
  have hl := hr.len
  have hmax : n ≤ 9223372036854775807 := by have := hr.le; have := hr.most; unfold maxLen at this; omega
  by_cases h1 : 24 < n
  · go_enter Tryd.func8, Tryd.ntmps8
    go_wp2_with fail
    go_ret
    exact ⟨ret_int (costsE_bad (by simp [costsB, hl]; omega)).symm, (by repeat (first | exact Ext.refl _ | assumption | refine Ext.drew ?_ | refine Ext.drewN ?_ _ | refine Ext.alloc ?_ _ | refine Ext.trans ?_ (by assumption)))⟩
  by_cases h2 : g < 0
  · go_enter Tryd.func8, Tryd.ntmps8
    go_wp2_with fail
    go_ret
    exact ⟨ret_int (costsE_bad (by have : wOk g = false := by simp [wOk]; omega
                                   simp [costsB, this])).symm, (by repeat (first | exact Ext.refl _ | assumption | refine Ext.drew ?_ | refine Ext.drewN ?_ _ | refine Ext.alloc ?_ _ | refine Ext.trans ?_ (by assumption)))⟩
  by_cases h3 : 1073741824 < g
  · go_enter Tryd.func8, Tryd.ntmps8
    go_wp2_with fail
    go_ret
    exact ⟨ret_int (costsE_bad (by have : wOk g = false := by simp [wOk]; omega
                                   simp [costsB, this])).symm, (by repeat (first | exact Ext.refl _ | assumption | refine Ext.drew ?_ | refine Ext.drewN ?_ _ | refine Ext.alloc ?_ _ | refine Ext.trans ?_ (by assumption)))⟩
  have hg : wOk g = true := by simp [wOk]; omega
  replace hl := Lib.hid hl
  replace hg := Lib.hid hg
  go_enter Tryd.func8, Tryd.ntmps8
  go_wp2_with fail
  go_loopw [22] (fun i wr => ∃ k : Nat, k ≤ n ∧ i = .int .i64 k ∧ Ext (w.alloc (.cells #[.slice a n cap, .int .i64 g] 25)) wr ∧ Hid (∀ (i : Nat) (x : Int), i < k → ws[i]? = some x → wOk x = true)) (fun i _ => n - (intOf i).toNat)
  case atStart => exact ⟨0, Nat.zero_le _, rfl, Ext.refl _, fun i x hi => absurd hi (Nat.not_lt_zero _)⟩
  case round =>
    obtain ⟨k, hk, rfl, hx, hall⟩ := hrel
    have hx0 : Ext w wr := (Ext.alloc1 _ _).trans hx
    have hb0 := hx.cellv (cell_new_list w [.slice a n cap, .int .i64 g] 25 0 _ rfl)
    by_cases hlt : k < n
    · obtain ⟨b, off, s, rfl, hs, hb, hc0⟩ := (hr.ext hx0).i64 hlt
      by_cases hlo : s < 0
      · go_wp2_with fail
        go_ret
        have := all_not hs.out (show wOk s = false by simp [wOk]; omega)
        exact ⟨ret_int (costsE_bad (by simp [costsB, this])).symm, (by repeat (first | exact Ext.refl _ | assumption | refine Ext.drew ?_ | refine Ext.drewN ?_ _ | refine Ext.alloc ?_ _ | refine Ext.trans ?_ (by assumption)))⟩
      by_cases hhi : 1073741824 < s
      · go_wp2_with fail
        go_ret
        have := all_not hs.out (show wOk s = false by simp [wOk]; omega)
        exact ⟨ret_int (costsE_bad (by simp [costsB, this])).symm, (by repeat (first | exact Ext.refl _ | assumption | refine Ext.drew ?_ | refine Ext.drewN ?_ _ | refine Ext.alloc ?_ _ | refine Ext.trans ?_ (by assumption)))⟩
      go_wp2_with fail
      (first | exact ⟨⟨k + 1, by omega, by go_num, hx, all_succ hall hs (by simp [wOk]; omega)⟩, (by simp [intOf]; omega)⟩ | (go_roundw; case rel => exact ⟨k + 1, by omega, by go_num, hx, all_succ hall hs (by simp [wOk]; omega)⟩; case measure => exact (by simp [intOf]; omega)))
    · go_wp2_with fail
      go_ret
      have h5 := all_of_each hl.out (fun i x hi => hall.out i x (by omega))
      have h6 := hl.out
      exact ⟨ret_int (by simp [costsE, costsB, h5, hg.out, h6]; omega), hx0⟩
end Go.Proofs.YtjfhfbobnncpkaaDoor
