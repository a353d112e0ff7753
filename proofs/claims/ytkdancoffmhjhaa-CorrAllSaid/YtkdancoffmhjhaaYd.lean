/-
  The law CorrOnly: the walk.
-/
import Derived.Test.YtkdancoffmhjhaaYc
import Derived.Test.YtkdancoffmhjhaaLp
namespace Go.Proofs.Ytkdancoffmhjhaa
open Go.RowKit Go.Shelf
theorem RdI.max {w : World} {a : Option Addr} {n cap : Nat} {xs : List Int} (h : RdI w a n cap xs) : n ≤ 9223372036854775807 := by
  have := h.le; have := h.most; unfold maxLen at this; omega
set_option maxHeartbeats 1000000 in
theorem corrOnly_any (a : Option Addr) (n cap : Nat) (l : List HCo) (ak : Option Addr) (nk ck : Nat) (ks : List Int) (w : World) (hr : RdH w a n cap l) (hk : RdI w ak nk ck ks) :
    Calls Try.prog 11 #[.slice a n cap, .slice ak nk ck] w fun e w' => e = .returned (.bool true) ∧ Ext w w' := by
  have hm1 := hr.max
  have hm2 := RdI.max hk
  have hA := fun W (z : Ext w W) => (only_any a n cap l ak nk ck ks W (hr.ext z) (hk.ext z)).mono (fun _ _ h => orSum_v h)
  have hB := fun W (z : Ext w W) => (ronly_any a n cap l ak nk ck ks W (hr.ext z) (hk.ext z) hm2).mono (fun _ _ h => orSum_v h)
  unfold ListRet at hA hB
  generalize sumVa (onlyE l ks) (onlyL ks l) = V at *
  generalize sumEr (onlyE l ks) (onlyL ks l) = E at *
  by_cases h1 : n ≤ 60 ∨ 4096 < n ∧ n ≤ 5000
  · have d1 : decide (n ≤ 60 ∨ 4096 < n ∧ n ≤ 5000) = true := decide_eq_true h1
    replace h1 := Lib.hid h1
    replace d1 := Lib.hid d1
    by_cases h2 : nk ≤ 70
    · have d2 : decide ((70 : Int) < (nk : Int)) = false := by simp; omega
      replace h2 := Lib.hid h2
      go_enter Try.func11, Try.ntmps11
      go_wp2_with fail
      refine (few_any _ n _ _ (by assumption)).mono ?_
      rintro e wf ⟨rfl, hwf⟩
      subst wf
      rw [d1.out]
      go_wp2_with fail
      refine (hA _ (Ext.refl _)).mono ?_
      rintro e w1 ⟨a1, n1, c1, hs1, rfl, hr1, hk1, hx1⟩
      have hB1 := hB _ hx1
      go_wp2_with fail
      refine hB1.mono ?_
      rintro e w2 ⟨a2, n2, c2, hs2, rfl, hr2, hk2, hx2⟩
      have hsame := same_any a1 n1 c1 hs1 a2 n2 c2 hs2 w2 (hr1.ext hx2) hr2
      rw [hk1, hk2, decide_eq_true rfl] at hsame
      clear hA hB hB1 hk1 hk2
      go_wp2_with fail
      refine hsame.mono ?_
      rintro e w3 ⟨rfl, hx3⟩
      go_wp2_with fail
      refine (works_any _).mono ?_
      rintro e wz ⟨rfl, hxz⟩
      go_wp2_with fail
      go_ret
      exact ⟨rfl, (by repeat (first | exact Ext.refl _ | assumption | refine Ext.drew ?_ | refine Ext.drewN ?_ _ | refine Ext.alloc ?_ _ | refine Ext.trans ?_ (by assumption)))⟩
    · have d2 : decide ((70 : Int) < (nk : Int)) = true := by simp; omega
      replace h2 := Lib.hid h2
      go_enter Try.func11, Try.ntmps11
      go_wp2_with fail
      refine (few_any _ n _ _ (by assumption)).mono ?_
      rintro e wf ⟨rfl, hwf⟩
      subst wf
      rw [d1.out]
      go_wp2_with fail
      refine (works_any _).mono ?_
      rintro e wz ⟨rfl, hxz⟩
      go_wp2_with fail
      go_ret
      exact ⟨rfl, (by repeat (first | exact Ext.refl _ | assumption | refine Ext.drew ?_ | refine Ext.drewN ?_ _ | refine Ext.alloc ?_ _ | refine Ext.trans ?_ (by assumption)))⟩
  · have d1 : decide (n ≤ 60 ∨ 4096 < n ∧ n ≤ 5000) = false := decide_eq_false h1
    replace h1 := Lib.hid h1
    replace d1 := Lib.hid d1
    go_enter Try.func11, Try.ntmps11
    go_wp2_with fail
    refine (few_any _ n _ _ (by assumption)).mono ?_
    rintro e wf ⟨rfl, hwf⟩
    subst wf
    rw [d1.out]
    go_wp2_with fail
    refine (works_any _).mono ?_
    rintro e wz ⟨rfl, hxz⟩
    go_wp2_with fail
    go_ret
    exact ⟨rfl, (by repeat (first | exact Ext.refl _ | assumption | refine Ext.drew ?_ | refine Ext.drewN ?_ _ | refine Ext.alloc ?_ _ | refine Ext.trans ?_ (by assumption)))⟩
end Go.Proofs.Ytkdancoffmhjhaa
