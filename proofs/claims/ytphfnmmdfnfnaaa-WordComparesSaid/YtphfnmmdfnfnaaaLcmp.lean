/-
  The statement WordCompares: the walk.
-/
import Derived.Test.YtphfnmmdfnfnaaaWr
namespace Go.Proofs.Ytphfnmmdfnfnaaa
open Go.RowKit
set_option maxHeartbeats 2000000 in
theorem wordCompares_any (ad ad' : Option Addr) (n cap n' cap' : Nat) (xs ys : List Snd) (w : World) (hr : RdS w ad n cap xs) (hr' : RdS w ad' n' cap' ys) :
    Calls Try.prog 4 #[.slice ad n cap, .slice ad' n' cap'] w fun e w' => e = .returned (.bool true) ∧ Ext w w' := by
  by_cases hb : n ≤ 300 ∧ n' ≤ 300
  · have hd : decide ((300 : Int) < n) = false := by simp; omega
    have hd' : decide ((300 : Int) < n') = false := by simp; omega
    have hn : n ≤ 60000 := by omega
    have hn' : n' ≤ 60000 := by omega
    clear hb
    go_enter Try.func4, Try.ntmps4
    go_wp2_with fail
    refine (common_any _ _ _ _ _ _ _ _ _ (hr.ext (by repeat (first | exact Ext.refl _ | assumption | refine Ext.drew ?_ | refine Ext.drewN ?_ _ | refine Ext.alloc ?_ _ | refine Ext.trans ?_ (by assumption)))) (hr'.ext (by repeat (first | exact Ext.refl _ | assumption | refine Ext.drew ?_ | refine Ext.drewN ?_ _ | refine Ext.alloc ?_ _ | refine Ext.trans ?_ (by assumption)))) hn hn').mono ?_
    rintro e w1 ⟨rfl, _⟩
    go_wp2_with fail
    refine (rcommon_any _ _ _ _ _ _ _ _ _ (hr.ext (by repeat (first | exact Ext.refl _ | assumption | refine Ext.drew ?_ | refine Ext.drewN ?_ _ | refine Ext.alloc ?_ _ | refine Ext.trans ?_ (by assumption)))) (hr'.ext (by repeat (first | exact Ext.refl _ | assumption | refine Ext.drew ?_ | refine Ext.drewN ?_ _ | refine Ext.alloc ?_ _ | refine Ext.trans ?_ (by assumption)))) hn hn').mono ?_
    rintro e w1 ⟨rfl, _⟩
    go_wp2_with fail
    refine (wequal_any _ _ _ _ _ _ _ _ _ (hr.ext (by repeat (first | exact Ext.refl _ | assumption | refine Ext.drew ?_ | refine Ext.drewN ?_ _ | refine Ext.alloc ?_ _ | refine Ext.trans ?_ (by assumption)))) (hr'.ext (by repeat (first | exact Ext.refl _ | assumption | refine Ext.drew ?_ | refine Ext.drewN ?_ _ | refine Ext.alloc ?_ _ | refine Ext.trans ?_ (by assumption))))).mono ?_
    rintro e w1 ⟨rfl, _⟩
    go_wp2_with fail
    refine (req_any _ _ _ _ _ _ _ _ _ (hr.ext (by repeat (first | exact Ext.refl _ | assumption | refine Ext.drew ?_ | refine Ext.drewN ?_ _ | refine Ext.alloc ?_ _ | refine Ext.trans ?_ (by assumption)))) (hr'.ext (by repeat (first | exact Ext.refl _ | assumption | refine Ext.drew ?_ | refine Ext.drewN ?_ _ | refine Ext.alloc ?_ _ | refine Ext.trans ?_ (by assumption))))).mono ?_
    rintro e w1 ⟨rfl, _⟩
    go_wp2_with fail
    refine (worder_any _ _ _ _ _ _ _ _ _ (hr.ext (by repeat (first | exact Ext.refl _ | assumption | refine Ext.drew ?_ | refine Ext.drewN ?_ _ | refine Ext.alloc ?_ _ | refine Ext.trans ?_ (by assumption)))) (hr'.ext (by repeat (first | exact Ext.refl _ | assumption | refine Ext.drew ?_ | refine Ext.drewN ?_ _ | refine Ext.alloc ?_ _ | refine Ext.trans ?_ (by assumption))))).mono ?_
    rintro e w1 ⟨rfl, _⟩
    go_wp2_with fail
    refine (rorder_any _ _ _ _ _ _ _ _ _ (hr.ext (by repeat (first | exact Ext.refl _ | assumption | refine Ext.drew ?_ | refine Ext.drewN ?_ _ | refine Ext.alloc ?_ _ | refine Ext.trans ?_ (by assumption)))) (hr'.ext (by repeat (first | exact Ext.refl _ | assumption | refine Ext.drew ?_ | refine Ext.drewN ?_ _ | refine Ext.alloc ?_ _ | refine Ext.trans ?_ (by assumption))))).mono ?_
    rintro e w1 ⟨rfl, _⟩
    go_wp2_with fail
    refine (find_any _ _ _ _ _ _ _ _ _ (hr.ext (by repeat (first | exact Ext.refl _ | assumption | refine Ext.drew ?_ | refine Ext.drewN ?_ _ | refine Ext.alloc ?_ _ | refine Ext.trans ?_ (by assumption)))) (hr'.ext (by repeat (first | exact Ext.refl _ | assumption | refine Ext.drew ?_ | refine Ext.drewN ?_ _ | refine Ext.alloc ?_ _ | refine Ext.trans ?_ (by assumption)))) hn hn').mono ?_
    rintro e w1 ⟨rfl, _⟩
    go_wp2_with fail
    refine (rfind_any _ _ _ _ _ _ _ _ _ (hr.ext (by repeat (first | exact Ext.refl _ | assumption | refine Ext.drew ?_ | refine Ext.drewN ?_ _ | refine Ext.alloc ?_ _ | refine Ext.trans ?_ (by assumption)))) (hr'.ext (by repeat (first | exact Ext.refl _ | assumption | refine Ext.drew ?_ | refine Ext.drewN ?_ _ | refine Ext.alloc ?_ _ | refine Ext.trans ?_ (by assumption)))) hn hn').mono ?_
    rintro e w1 ⟨rfl, _⟩
    go_wp2_with fail
    refine (find_any _ _ _ _ _ _ _ _ _ (hr'.ext (by repeat (first | exact Ext.refl _ | assumption | refine Ext.drew ?_ | refine Ext.drewN ?_ _ | refine Ext.alloc ?_ _ | refine Ext.trans ?_ (by assumption)))) (hr.ext (by repeat (first | exact Ext.refl _ | assumption | refine Ext.drew ?_ | refine Ext.drewN ?_ _ | refine Ext.alloc ?_ _ | refine Ext.trans ?_ (by assumption)))) hn' hn).mono ?_
    rintro e w1 ⟨rfl, _⟩
    go_wp2_with fail
    refine (rfind_any _ _ _ _ _ _ _ _ _ (hr'.ext (by repeat (first | exact Ext.refl _ | assumption | refine Ext.drew ?_ | refine Ext.drewN ?_ _ | refine Ext.alloc ?_ _ | refine Ext.trans ?_ (by assumption)))) (hr.ext (by repeat (first | exact Ext.refl _ | assumption | refine Ext.drew ?_ | refine Ext.drewN ?_ _ | refine Ext.alloc ?_ _ | refine Ext.trans ?_ (by assumption)))) hn' hn).mono ?_
    rintro e w1 ⟨rfl, _⟩
    go_wp2_with fail
    refine (inside_any _ _ _ _ _ _ _ _ _ (hr.ext (by repeat (first | exact Ext.refl _ | assumption | refine Ext.drew ?_ | refine Ext.drewN ?_ _ | refine Ext.alloc ?_ _ | refine Ext.trans ?_ (by assumption)))) (hr'.ext (by repeat (first | exact Ext.refl _ | assumption | refine Ext.drew ?_ | refine Ext.drewN ?_ _ | refine Ext.alloc ?_ _ | refine Ext.trans ?_ (by assumption)))) hn' hn).mono ?_
    rintro e w1 ⟨rfl, _⟩
    go_wp2_with fail
    refine (rinside_any _ _ _ _ _ _ _ _ _ (hr.ext (by repeat (first | exact Ext.refl _ | assumption | refine Ext.drew ?_ | refine Ext.drewN ?_ _ | refine Ext.alloc ?_ _ | refine Ext.trans ?_ (by assumption)))) (hr'.ext (by repeat (first | exact Ext.refl _ | assumption | refine Ext.drew ?_ | refine Ext.drewN ?_ _ | refine Ext.alloc ?_ _ | refine Ext.trans ?_ (by assumption)))) hn' hn).mono ?_
    rintro e w1 ⟨rfl, _⟩
    go_wp2_with fail
    refine (inside_any _ _ _ _ _ _ _ _ _ (hr'.ext (by repeat (first | exact Ext.refl _ | assumption | refine Ext.drew ?_ | refine Ext.drewN ?_ _ | refine Ext.alloc ?_ _ | refine Ext.trans ?_ (by assumption)))) (hr.ext (by repeat (first | exact Ext.refl _ | assumption | refine Ext.drew ?_ | refine Ext.drewN ?_ _ | refine Ext.alloc ?_ _ | refine Ext.trans ?_ (by assumption)))) hn hn').mono ?_
    rintro e w1 ⟨rfl, _⟩
    go_wp2_with fail
    refine (rinside_any _ _ _ _ _ _ _ _ _ (hr'.ext (by repeat (first | exact Ext.refl _ | assumption | refine Ext.drew ?_ | refine Ext.drewN ?_ _ | refine Ext.alloc ?_ _ | refine Ext.trans ?_ (by assumption)))) (hr.ext (by repeat (first | exact Ext.refl _ | assumption | refine Ext.drew ?_ | refine Ext.drewN ?_ _ | refine Ext.alloc ?_ _ | refine Ext.trans ?_ (by assumption)))) hn hn').mono ?_
    rintro e w1 ⟨rfl, _⟩
    go_wp2_with fail
    refine (works_any _).mono ?_
    rintro e w4 ⟨rfl, x4⟩
    go_wp2_with fail
    go_ret
    exact ⟨rfl, (by repeat (first | exact Ext.refl _ | assumption | refine Ext.drew ?_ | refine Ext.drewN ?_ _ | refine Ext.alloc ?_ _ | refine Ext.trans ?_ (by assumption)))⟩
  · by_cases h1 : 300 < n
    · have hd : decide ((300 : Int) < n) = true := by simp; omega
      clear hb
      go_enter Try.func4, Try.ntmps4
      go_wp2_with fail
      refine (works_any _).mono ?_
      rintro e w1 ⟨rfl, x1⟩
      go_wp2_with fail
      go_ret
      exact ⟨rfl, x1⟩
    · have hd : decide ((300 : Int) < n) = false := by simp; omega
      have hd' : decide ((300 : Int) < n') = true := by simp; omega
      clear hb h1
      go_enter Try.func4, Try.ntmps4
      go_wp2_with fail
      refine (works_any _).mono ?_
      rintro e w1 ⟨rfl, x1⟩
      go_wp2_with fail
      go_ret
      exact ⟨rfl, x1⟩
end Go.Proofs.Ytphfnmmdfnfnaaa
