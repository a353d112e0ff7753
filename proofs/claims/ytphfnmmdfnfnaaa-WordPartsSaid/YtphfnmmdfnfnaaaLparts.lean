/-
  The statement WordParts: the walk.
-/
import Derived.Test.YtphfnmmdfnfnaaaWr
namespace Go.Proofs.Ytphfnmmdfnfnaaa
open Go.RowKit
theorem wordParts_any (ad : Option Addr) (n cap : Nat) (xs : List Snd) (a b : Int) (w : World) (hr : RdS w ad n cap xs) :
    Calls Try.prog 3 #[.slice ad n cap, .int .i64 a, .int .i64 b] w fun e w' => e = .returned (.bool true) ∧ Ext w w' := by
  by_cases hb : 300 < n
  · have hd : decide ((300 : Int) < n) = true := by simp; omega
    go_enter Try.func3, Try.ntmps3
    go_wp2_with fail
    refine (works_any _).mono ?_
    rintro e w1 ⟨rfl, x1⟩
    go_wp2_with fail
    go_ret
    exact ⟨rfl, x1⟩
  · have hd : decide ((300 : Int) < n) = false := by simp; omega
    have hn : n ≤ 60000 := by omega
    go_enter Try.func3, Try.ntmps3
    go_wp2_with fail
    refine (RetSE.rd (cut_any _ _ _ _ _ _ _ hr hn) rfl).mono ?_
    rintro e w1 ⟨a1, _, rfl, r1, x1⟩
    go_wp2_with fail
    refine (RetSE.rd (rcut_any _ _ _ _ _ _ _ (hr.ext x1) hn) rfl).mono ?_
    rintro e w2 ⟨a2, _, rfl, r2, x2⟩
    go_wp2_with fail
    refine (cbool (req_any _ _ _ _ _ _ _ _ _ (r1.ext x2) r2) (decide_eq_true rfl)).mono ?_
    rintro e w3 ⟨rfl, x3⟩
    go_wp2_with fail
    refine (works_any _).mono ?_
    rintro e w4 ⟨rfl, x4⟩
    go_wp2_with fail
    go_ret
    exact ⟨rfl, (by repeat (first | exact Ext.refl _ | assumption | refine Ext.drew ?_ | refine Ext.drewN ?_ _ | refine Ext.alloc ?_ _ | refine Ext.trans ?_ (by assumption)))⟩
end Go.Proofs.Ytphfnmmdfnfnaaa
