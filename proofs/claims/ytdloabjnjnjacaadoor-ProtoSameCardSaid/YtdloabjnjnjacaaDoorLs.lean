/-
  The case of the laws of chapter 24: whether it is small.
-/
import Derived.Test.YtdloabjnjnjacaaDoorLx
namespace Go.Proofs.YtdloabjnjnjacaaDoor
open Go.RowKit Go.Shelf
/-- A case by value: the tree, the candidates, the weights and the gap. -/
abbrev caseV (a : Option Addr) (n cap : Nat) (ac : Option Addr) (nc cc : Nat) (aw : Option Addr) (nw cw : Nat) (g : Int) : Value := .agg #[.slice a n cap, .slice ac nc cc, .slice aw nw cw, .int .i64 g]
def smallB (n nc nw : Nat) : Bool := decide (n ≤ 8) && (decide (nc ≤ 4) || (decide (11 < nc) && decide (nc < 20))) && decide (nw ≤ 30)
/-- The lengths of a case's lists are ints. -/
theorem len_int {k : Nat} {α : Type} {enc : α → List Value} {w : World} {a : Option Addr} {n cap : Nat} {xs : List α} (h : RdK k enc w a n cap xs) : n ≤ 9223372036854775807 := by
  have := h.le; have := h.most; unfold maxLen at this; omega
set_option maxHeartbeats 2000000 in
set_option maxRecDepth 20000 in
theorem small_any (a : Option Addr) (n cap : Nat) (ac : Option Addr) (nc cc : Nat) (aw : Option Addr) (nw cw : Nat) (g : Int) (w : World) (hn : n ≤ 9223372036854775807) (hnc : nc ≤ 9223372036854775807) (hnw : nw ≤ 9223372036854775807) :
    Calls Tryd.prog 17 #[caseV a n cap ac nc cc aw nw cw g] w fun e w' => e = .returned (.bool (smallB n nc nw)) ∧ Ext w w' := by
  have e : Hid (smallB n nc nw = (decide (n ≤ 8) && (decide (nc ≤ 4) || (decide (11 < nc) && decide (nc < 20))) && decide (nw ≤ 30))) := Lib.hid rfl
  generalize smallB n nc nw = s at *
  by_cases h1 : n ≤ 8
  · have d1 : decide (n ≤ 8) = true := by simpa using h1
    by_cases h2 : nc ≤ 4
    · have d2 : decide (nc ≤ 4) = true := by simpa using h2
      go_enter Tryd.func17, Tryd.ntmps17
      go_wp2_with fail
      go_ret
      refine ⟨?_, (by repeat (first | exact Ext.refl _ | assumption | refine Ext.drew ?_ | refine Ext.drewN ?_ _ | refine Ext.alloc ?_ _ | refine Ext.trans ?_ (by assumption)))⟩
      rw [e.out]
      simp [h1]
      first | done | omega | (rw [Bool.eq_iff_iff]; simp; omega)
    · have d2 : decide (nc ≤ 4) = false := by simpa using h2
      by_cases h3 : 11 < nc
      · have d3 : decide (11 < nc) = true := by simpa using h3
        by_cases h4 : nc < 20
        · have d4 : decide (nc < 20) = true := by simpa using h4
          go_enter Tryd.func17, Tryd.ntmps17
          go_wp2_with fail
          go_ret
          refine ⟨?_, (by repeat (first | exact Ext.refl _ | assumption | refine Ext.drew ?_ | refine Ext.drewN ?_ _ | refine Ext.alloc ?_ _ | refine Ext.trans ?_ (by assumption)))⟩
          rw [e.out]
          simp [h1]
          first | done | omega | (rw [Bool.eq_iff_iff]; simp; omega)
        · have d4 : decide (nc < 20) = false := by simpa using h4
          go_enter Tryd.func17, Tryd.ntmps17
          go_wp2_with fail
          go_ret
          refine ⟨?_, (by repeat (first | exact Ext.refl _ | assumption | refine Ext.drew ?_ | refine Ext.drewN ?_ _ | refine Ext.alloc ?_ _ | refine Ext.trans ?_ (by assumption)))⟩
          rw [e.out]
          simp [h1]
          first | done | omega | (rw [Bool.eq_iff_iff]; simp; omega)
      · have d3 : decide (11 < nc) = false := by simpa using h3
        go_enter Tryd.func17, Tryd.ntmps17
        go_wp2_with fail
        go_ret
        refine ⟨?_, (by repeat (first | exact Ext.refl _ | assumption | refine Ext.drew ?_ | refine Ext.drewN ?_ _ | refine Ext.alloc ?_ _ | refine Ext.trans ?_ (by assumption)))⟩
        rw [e.out]
        simp [h1]
        first | done | omega | (rw [Bool.eq_iff_iff]; simp; omega)
  · have d1 : decide (n ≤ 8) = false := by simpa using h1
    go_enter Tryd.func17, Tryd.ntmps17
    go_wp2_with fail
    go_ret
    refine ⟨?_, (by repeat (first | exact Ext.refl _ | assumption | refine Ext.drew ?_ | refine Ext.drewN ?_ _ | refine Ext.alloc ?_ _ | refine Ext.trans ?_ (by assumption)))⟩
    rw [e.out]
    simp [h1]
    first | done | omega | (rw [Bool.eq_iff_iff]; simp; omega)
end Go.Proofs.YtdloabjnjnjacaaDoor
