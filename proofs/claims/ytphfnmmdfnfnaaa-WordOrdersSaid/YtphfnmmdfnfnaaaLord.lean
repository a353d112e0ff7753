/-
  The statement WordOrders: the walk.
-/
import Derived.Test.YtphfnmmdfnfnaaaWr
import Derived.Test.YtphfnmmdfnfnaaaApp
namespace Go.Proofs.Ytphfnmmdfnfnaaa
open Go.RowKit
theorem minE (x0 x1 : List Snd) (n1 : Nat) (h : x1.length = n1) : (cmpW x0 ([] ++ x0 ++ x1) == min 0 (-min 1 (n1 : Int))) = true := by
  rw [List.nil_append, cmpW_append, beq_iff_eq]
  subst h
  cases x1 with
  | nil => rfl
  | cons s t => rw [if_neg (by simp)]; simp; omega
theorem cmpW_eq0 (xs ys : List Snd) : decide (xs = ys) = (cmpW xs ys == 0) := by
  rw [Bool.eq_iff_iff]; simp only [decide_eq_true_eq, beq_iff_eq]
  exact ⟨fun h => by rw [h]; exact cmpW_self _, cmpW_zero⟩
set_option maxHeartbeats 4000000 in
set_option maxRecDepth 20000 in
theorem wordOrders_small (a0 : Option Addr) (n0 c0 : Nat) (x0 : List Snd) (a1 : Option Addr) (n1 c1 : Nat) (x1 : List Snd) (a2 : Option Addr) (n2 c2 : Nat) (x2 : List Snd) (w : World)
    (h0 : RdS w a0 n0 c0 x0) (h1 : RdS w a1 n1 c1 x1) (h2 : RdS w a2 n2 c2 x2) (l0 : n0 ≤ 100) (l1 : n1 ≤ 100) (l2 : n2 ≤ 100) :
    Calls Try.prog 6 #[.slice a0 n0 c0, .slice a1 n1 c1, .slice a2 n2 c2] w fun e w' => e = .returned (.bool true) ∧ Ext w w' := by
  have e0 : decide ((100 : Int) < n0) = false := by simp; omega
  have e1 : decide ((100 : Int) < n1) = false := by simp; omega
  have e2 : decide ((100 : Int) < n2) = false := by simp; omega
  have hxt := cmpW_tri x0 x1
  have hyt := cmpW_tri x1 x2
  have hzt := cmpW_tri x0 x2
  have htr := cmpW_trans (a := x0) (b := x1) (c := x2)
  have hba := Lib.hid (cmpW_anti x0 x1)
  have heq := Lib.hid (cmpW_eq0 x0 x1)
  have t1 : decide (cmpW x0 x1 < -1) = false := by simp; omega
  have t2 : decide (1 < cmpW x0 x1) = false := by simp; omega
  have t3 : IntKind.i64.wrap (- cmpW x0 x1) = - cmpW x0 x1 := IntWalk.i64_in _ (by omega)
  by_cases hx : cmpW x0 x1 ≤ 0
  · have q1 : decide (cmpW x0 x1 ≤ 0) = true := by simpa using hx
    by_cases hy : cmpW x1 x2 ≤ 0
    · have q2 : decide (cmpW x1 x2 ≤ 0) = true := by simpa using hy
      have ht := htr hx hy
      have q3 : decide (0 < cmpW x0 x2) = false := by simp; omega
      by_cases hz : cmpW x0 x2 = 0
      · have q4 : (cmpW x0 x2 == 0) = true := by simpa using hz
        have q5 : decide (cmpW x0 x1 < 0) = false := by simp; omega
        have q6 : decide (cmpW x1 x2 < 0) = false := by simp; omega
        clear hxt hyt hzt htr hx hy ht hz
        go_enter Try.func6, Try.ntmps6
        go_wp2_with fail
        refine (worder_any _ _ _ _ _ _ _ _ _ (h0.ext (by repeat (first | exact Ext.refl _ | assumption | refine Ext.drew ?_ | refine Ext.drewN ?_ _ | refine Ext.alloc ?_ _ | refine Ext.trans ?_ (by assumption)))) (h1.ext (by repeat (first | exact Ext.refl _ | assumption | refine Ext.drew ?_ | refine Ext.drewN ?_ _ | refine Ext.alloc ?_ _ | refine Ext.trans ?_ (by assumption))))).mono ?_
        rintro e w1 ⟨rfl, _⟩
        go_wp2_with fail
        refine (worder_any _ _ _ _ _ _ _ _ _ (h1.ext (by repeat (first | exact Ext.refl _ | assumption | refine Ext.drew ?_ | refine Ext.drewN ?_ _ | refine Ext.alloc ?_ _ | refine Ext.trans ?_ (by assumption)))) (h2.ext (by repeat (first | exact Ext.refl _ | assumption | refine Ext.drew ?_ | refine Ext.drewN ?_ _ | refine Ext.alloc ?_ _ | refine Ext.trans ?_ (by assumption))))).mono ?_
        rintro e w1 ⟨rfl, _⟩
        go_wp2_with fail
        refine (worder_any _ _ _ _ _ _ _ _ _ (h0.ext (by repeat (first | exact Ext.refl _ | assumption | refine Ext.drew ?_ | refine Ext.drewN ?_ _ | refine Ext.alloc ?_ _ | refine Ext.trans ?_ (by assumption)))) (h2.ext (by repeat (first | exact Ext.refl _ | assumption | refine Ext.drew ?_ | refine Ext.drewN ?_ _ | refine Ext.alloc ?_ _ | refine Ext.trans ?_ (by assumption))))).mono ?_
        rintro e w1 ⟨rfl, _⟩
        go_wp2_with fail
        refine (cint (worder_any _ _ _ _ _ _ _ _ _ (h1.ext (by repeat (first | exact Ext.refl _ | assumption | refine Ext.drew ?_ | refine Ext.drewN ?_ _ | refine Ext.alloc ?_ _ | refine Ext.trans ?_ (by assumption)))) (h0.ext (by repeat (first | exact Ext.refl _ | assumption | refine Ext.drew ?_ | refine Ext.drewN ?_ _ | refine Ext.alloc ?_ _ | refine Ext.trans ?_ (by assumption))))) hba.out).mono ?_
        rintro e w1 ⟨rfl, _⟩
        go_wp2_with fail
        refine (cint (worder_any _ _ _ _ _ _ _ _ _ (h0.ext (by repeat (first | exact Ext.refl _ | assumption | refine Ext.drew ?_ | refine Ext.drewN ?_ _ | refine Ext.alloc ?_ _ | refine Ext.trans ?_ (by assumption)))) (h0.ext (by repeat (first | exact Ext.refl _ | assumption | refine Ext.drew ?_ | refine Ext.drewN ?_ _ | refine Ext.alloc ?_ _ | refine Ext.trans ?_ (by assumption))))) (cmpW_self _)).mono ?_
        rintro e w1 ⟨rfl, _⟩
        go_wp2_with fail
        refine (cbool (lsame_any _ _ _ _ _ _ _ _ _ (h0.ext (by repeat (first | exact Ext.refl _ | assumption | refine Ext.drew ?_ | refine Ext.drewN ?_ _ | refine Ext.alloc ?_ _ | refine Ext.trans ?_ (by assumption)))) (h1.ext (by repeat (first | exact Ext.refl _ | assumption | refine Ext.drew ?_ | refine Ext.drewN ?_ _ | refine Ext.alloc ?_ _ | refine Ext.trans ?_ (by assumption))))) heq.out).mono ?_
        rintro e w1 ⟨rfl, _⟩
        go_wp2_with fail
        refine (cbool (wequal_any _ _ _ _ _ _ _ _ _ (h0.ext (by repeat (first | exact Ext.refl _ | assumption | refine Ext.drew ?_ | refine Ext.drewN ?_ _ | refine Ext.alloc ?_ _ | refine Ext.trans ?_ (by assumption)))) (h1.ext (by repeat (first | exact Ext.refl _ | assumption | refine Ext.drew ?_ | refine Ext.drewN ?_ _ | refine Ext.alloc ?_ _ | refine Ext.trans ?_ (by assumption))))) heq.out).mono ?_
        rintro e w1 ⟨rfl, _⟩
        go_wp2_with fail
        refine (cbool (lsame_any _ _ _ _ _ _ _ _ _ (h0.ext (by repeat (first | exact Ext.refl _ | assumption | refine Ext.drew ?_ | refine Ext.drewN ?_ _ | refine Ext.alloc ?_ _ | refine Ext.trans ?_ (by assumption)))) (h1.ext (by repeat (first | exact Ext.refl _ | assumption | refine Ext.drew ?_ | refine Ext.drewN ?_ _ | refine Ext.alloc ?_ _ | refine Ext.trans ?_ (by assumption))))) heq.out).mono ?_
        rintro e wa ⟨rfl, _⟩
        have hxa : Ext w wa := (by repeat (first | exact Ext.refl _ | assumption | refine Ext.drew ?_ | refine Ext.drewN ?_ _ | refine Ext.alloc ?_ _ | refine Ext.trans ?_ (by assumption)))
        have o0 : OwnS w.heap.size 39 (wa.alloc (.cells #[] 39)) (.slice (some ⟨wa.heap.size, 0, Option.none⟩) 0 0) [] := OwnK.base (World.ownsRow_lit wa #[] 0 (Nat.le_refl _) (Nat.zero_le _) rfl) (Ext.le hxa)
        have hl0 := h0.len
        have hl1 := h1.len
        go_wp2_with (first | (at_builtin; refine wp_appN w _ x0 rfl _ _ 22 rfl 39 Try.underlying22 info_snd rfl (by decide) _ _ rfl o0 (hxa.alloc _) a0 n0 c0 rfl (h0.ext (by repeat (first | exact Ext.refl _ | assumption | refine Ext.drew ?_ | refine Ext.drewN ?_ _ | refine Ext.alloc ?_ _ | refine Ext.trans ?_ (by assumption)))) Snd.len Snd.one (by simp; omega) (by unfold maxLen; simp; omega) ?_; intro v1 w2 o1 x2' _) | (at_builtin; refine wp_appN w _ x1 rfl _ _ 22 rfl 39 Try.underlying22 info_snd rfl (by decide) _ _ rfl o1 x2' a1 n1 c1 rfl (h1.ext x2') Snd.len Snd.one (by simp; omega) (by unfold maxLen; simp; omega) ?_; intro vz w3 o2 x3' _; obtain ⟨am, nm, cm, hnm, rfl, rm⟩ := OwnK.rdn Snd.len o2; replace hnm := Lib.hid hnm))
        have hz := minE x0 x1 n1 h1.len
        clear hl1
        revert hz
        generalize hzz : cmpW x0 ([] ++ x0 ++ x1) = z
        intro hz
        replace hzz := Lib.hid hzz
        refine (cint (worder_any _ _ _ _ _ _ _ _ _ (h0.ext (by repeat (first | exact Ext.refl _ | assumption | refine Ext.drew ?_ | refine Ext.drewN ?_ _ | refine Ext.alloc ?_ _ | refine Ext.trans ?_ (by assumption)))) rm) hzz.out).mono ?_
        rintro e w1 ⟨rfl, _⟩
        go_wp2_with fail
        refine (works_any _).mono ?_
        rintro e wz ⟨rfl, _⟩
        go_wp2_with fail
        go_ret
        exact ⟨rfl, (by repeat (first | exact Ext.refl _ | assumption | refine Ext.drew ?_ | refine Ext.drewN ?_ _ | refine Ext.alloc ?_ _ | refine Ext.trans ?_ (by assumption)))⟩
      · have q4 : (cmpW x0 x2 == 0) = false := by simpa using hz
        clear hxt hyt hzt htr hx hy ht hz
        go_enter Try.func6, Try.ntmps6
        go_wp2_with fail
        refine (worder_any _ _ _ _ _ _ _ _ _ (h0.ext (by repeat (first | exact Ext.refl _ | assumption | refine Ext.drew ?_ | refine Ext.drewN ?_ _ | refine Ext.alloc ?_ _ | refine Ext.trans ?_ (by assumption)))) (h1.ext (by repeat (first | exact Ext.refl _ | assumption | refine Ext.drew ?_ | refine Ext.drewN ?_ _ | refine Ext.alloc ?_ _ | refine Ext.trans ?_ (by assumption))))).mono ?_
        rintro e w1 ⟨rfl, _⟩
        go_wp2_with fail
        refine (worder_any _ _ _ _ _ _ _ _ _ (h1.ext (by repeat (first | exact Ext.refl _ | assumption | refine Ext.drew ?_ | refine Ext.drewN ?_ _ | refine Ext.alloc ?_ _ | refine Ext.trans ?_ (by assumption)))) (h2.ext (by repeat (first | exact Ext.refl _ | assumption | refine Ext.drew ?_ | refine Ext.drewN ?_ _ | refine Ext.alloc ?_ _ | refine Ext.trans ?_ (by assumption))))).mono ?_
        rintro e w1 ⟨rfl, _⟩
        go_wp2_with fail
        refine (worder_any _ _ _ _ _ _ _ _ _ (h0.ext (by repeat (first | exact Ext.refl _ | assumption | refine Ext.drew ?_ | refine Ext.drewN ?_ _ | refine Ext.alloc ?_ _ | refine Ext.trans ?_ (by assumption)))) (h2.ext (by repeat (first | exact Ext.refl _ | assumption | refine Ext.drew ?_ | refine Ext.drewN ?_ _ | refine Ext.alloc ?_ _ | refine Ext.trans ?_ (by assumption))))).mono ?_
        rintro e w1 ⟨rfl, _⟩
        go_wp2_with fail
        refine (cint (worder_any _ _ _ _ _ _ _ _ _ (h1.ext (by repeat (first | exact Ext.refl _ | assumption | refine Ext.drew ?_ | refine Ext.drewN ?_ _ | refine Ext.alloc ?_ _ | refine Ext.trans ?_ (by assumption)))) (h0.ext (by repeat (first | exact Ext.refl _ | assumption | refine Ext.drew ?_ | refine Ext.drewN ?_ _ | refine Ext.alloc ?_ _ | refine Ext.trans ?_ (by assumption))))) hba.out).mono ?_
        rintro e w1 ⟨rfl, _⟩
        go_wp2_with fail
        refine (cint (worder_any _ _ _ _ _ _ _ _ _ (h0.ext (by repeat (first | exact Ext.refl _ | assumption | refine Ext.drew ?_ | refine Ext.drewN ?_ _ | refine Ext.alloc ?_ _ | refine Ext.trans ?_ (by assumption)))) (h0.ext (by repeat (first | exact Ext.refl _ | assumption | refine Ext.drew ?_ | refine Ext.drewN ?_ _ | refine Ext.alloc ?_ _ | refine Ext.trans ?_ (by assumption))))) (cmpW_self _)).mono ?_
        rintro e w1 ⟨rfl, _⟩
        go_wp2_with fail
        refine (cbool (lsame_any _ _ _ _ _ _ _ _ _ (h0.ext (by repeat (first | exact Ext.refl _ | assumption | refine Ext.drew ?_ | refine Ext.drewN ?_ _ | refine Ext.alloc ?_ _ | refine Ext.trans ?_ (by assumption)))) (h1.ext (by repeat (first | exact Ext.refl _ | assumption | refine Ext.drew ?_ | refine Ext.drewN ?_ _ | refine Ext.alloc ?_ _ | refine Ext.trans ?_ (by assumption))))) heq.out).mono ?_
        rintro e w1 ⟨rfl, _⟩
        go_wp2_with fail
        refine (cbool (wequal_any _ _ _ _ _ _ _ _ _ (h0.ext (by repeat (first | exact Ext.refl _ | assumption | refine Ext.drew ?_ | refine Ext.drewN ?_ _ | refine Ext.alloc ?_ _ | refine Ext.trans ?_ (by assumption)))) (h1.ext (by repeat (first | exact Ext.refl _ | assumption | refine Ext.drew ?_ | refine Ext.drewN ?_ _ | refine Ext.alloc ?_ _ | refine Ext.trans ?_ (by assumption))))) heq.out).mono ?_
        rintro e w1 ⟨rfl, _⟩
        go_wp2_with fail
        refine (cbool (lsame_any _ _ _ _ _ _ _ _ _ (h0.ext (by repeat (first | exact Ext.refl _ | assumption | refine Ext.drew ?_ | refine Ext.drewN ?_ _ | refine Ext.alloc ?_ _ | refine Ext.trans ?_ (by assumption)))) (h1.ext (by repeat (first | exact Ext.refl _ | assumption | refine Ext.drew ?_ | refine Ext.drewN ?_ _ | refine Ext.alloc ?_ _ | refine Ext.trans ?_ (by assumption))))) heq.out).mono ?_
        rintro e wa ⟨rfl, _⟩
        have hxa : Ext w wa := (by repeat (first | exact Ext.refl _ | assumption | refine Ext.drew ?_ | refine Ext.drewN ?_ _ | refine Ext.alloc ?_ _ | refine Ext.trans ?_ (by assumption)))
        have o0 : OwnS w.heap.size 39 (wa.alloc (.cells #[] 39)) (.slice (some ⟨wa.heap.size, 0, Option.none⟩) 0 0) [] := OwnK.base (World.ownsRow_lit wa #[] 0 (Nat.le_refl _) (Nat.zero_le _) rfl) (Ext.le hxa)
        have hl0 := h0.len
        have hl1 := h1.len
        go_wp2_with (first | (at_builtin; refine wp_appN w _ x0 rfl _ _ 22 rfl 39 Try.underlying22 info_snd rfl (by decide) _ _ rfl o0 (hxa.alloc _) a0 n0 c0 rfl (h0.ext (by repeat (first | exact Ext.refl _ | assumption | refine Ext.drew ?_ | refine Ext.drewN ?_ _ | refine Ext.alloc ?_ _ | refine Ext.trans ?_ (by assumption)))) Snd.len Snd.one (by simp; omega) (by unfold maxLen; simp; omega) ?_; intro v1 w2 o1 x2' _) | (at_builtin; refine wp_appN w _ x1 rfl _ _ 22 rfl 39 Try.underlying22 info_snd rfl (by decide) _ _ rfl o1 x2' a1 n1 c1 rfl (h1.ext x2') Snd.len Snd.one (by simp; omega) (by unfold maxLen; simp; omega) ?_; intro vz w3 o2 x3' _; obtain ⟨am, nm, cm, hnm, rfl, rm⟩ := OwnK.rdn Snd.len o2; replace hnm := Lib.hid hnm))
        have hz := minE x0 x1 n1 h1.len
        clear hl1
        revert hz
        generalize hzz : cmpW x0 ([] ++ x0 ++ x1) = z
        intro hz
        replace hzz := Lib.hid hzz
        refine (cint (worder_any _ _ _ _ _ _ _ _ _ (h0.ext (by repeat (first | exact Ext.refl _ | assumption | refine Ext.drew ?_ | refine Ext.drewN ?_ _ | refine Ext.alloc ?_ _ | refine Ext.trans ?_ (by assumption)))) rm) hzz.out).mono ?_
        rintro e w1 ⟨rfl, _⟩
        go_wp2_with fail
        refine (works_any _).mono ?_
        rintro e wz ⟨rfl, _⟩
        go_wp2_with fail
        go_ret
        exact ⟨rfl, (by repeat (first | exact Ext.refl _ | assumption | refine Ext.drew ?_ | refine Ext.drewN ?_ _ | refine Ext.alloc ?_ _ | refine Ext.trans ?_ (by assumption)))⟩
    · have q2 : decide (cmpW x1 x2 ≤ 0) = false := by simpa using hy
      clear hxt hyt hzt htr hx hy
      go_enter Try.func6, Try.ntmps6
      go_wp2_with fail
      refine (worder_any _ _ _ _ _ _ _ _ _ (h0.ext (by repeat (first | exact Ext.refl _ | assumption | refine Ext.drew ?_ | refine Ext.drewN ?_ _ | refine Ext.alloc ?_ _ | refine Ext.trans ?_ (by assumption)))) (h1.ext (by repeat (first | exact Ext.refl _ | assumption | refine Ext.drew ?_ | refine Ext.drewN ?_ _ | refine Ext.alloc ?_ _ | refine Ext.trans ?_ (by assumption))))).mono ?_
      rintro e w1 ⟨rfl, _⟩
      go_wp2_with fail
      refine (worder_any _ _ _ _ _ _ _ _ _ (h1.ext (by repeat (first | exact Ext.refl _ | assumption | refine Ext.drew ?_ | refine Ext.drewN ?_ _ | refine Ext.alloc ?_ _ | refine Ext.trans ?_ (by assumption)))) (h2.ext (by repeat (first | exact Ext.refl _ | assumption | refine Ext.drew ?_ | refine Ext.drewN ?_ _ | refine Ext.alloc ?_ _ | refine Ext.trans ?_ (by assumption))))).mono ?_
      rintro e w1 ⟨rfl, _⟩
      go_wp2_with fail
      refine (worder_any _ _ _ _ _ _ _ _ _ (h0.ext (by repeat (first | exact Ext.refl _ | assumption | refine Ext.drew ?_ | refine Ext.drewN ?_ _ | refine Ext.alloc ?_ _ | refine Ext.trans ?_ (by assumption)))) (h2.ext (by repeat (first | exact Ext.refl _ | assumption | refine Ext.drew ?_ | refine Ext.drewN ?_ _ | refine Ext.alloc ?_ _ | refine Ext.trans ?_ (by assumption))))).mono ?_
      rintro e w1 ⟨rfl, _⟩
      go_wp2_with fail
      refine (cint (worder_any _ _ _ _ _ _ _ _ _ (h1.ext (by repeat (first | exact Ext.refl _ | assumption | refine Ext.drew ?_ | refine Ext.drewN ?_ _ | refine Ext.alloc ?_ _ | refine Ext.trans ?_ (by assumption)))) (h0.ext (by repeat (first | exact Ext.refl _ | assumption | refine Ext.drew ?_ | refine Ext.drewN ?_ _ | refine Ext.alloc ?_ _ | refine Ext.trans ?_ (by assumption))))) hba.out).mono ?_
      rintro e w1 ⟨rfl, _⟩
      go_wp2_with fail
      refine (cint (worder_any _ _ _ _ _ _ _ _ _ (h0.ext (by repeat (first | exact Ext.refl _ | assumption | refine Ext.drew ?_ | refine Ext.drewN ?_ _ | refine Ext.alloc ?_ _ | refine Ext.trans ?_ (by assumption)))) (h0.ext (by repeat (first | exact Ext.refl _ | assumption | refine Ext.drew ?_ | refine Ext.drewN ?_ _ | refine Ext.alloc ?_ _ | refine Ext.trans ?_ (by assumption))))) (cmpW_self _)).mono ?_
      rintro e w1 ⟨rfl, _⟩
      go_wp2_with fail
      refine (cbool (lsame_any _ _ _ _ _ _ _ _ _ (h0.ext (by repeat (first | exact Ext.refl _ | assumption | refine Ext.drew ?_ | refine Ext.drewN ?_ _ | refine Ext.alloc ?_ _ | refine Ext.trans ?_ (by assumption)))) (h1.ext (by repeat (first | exact Ext.refl _ | assumption | refine Ext.drew ?_ | refine Ext.drewN ?_ _ | refine Ext.alloc ?_ _ | refine Ext.trans ?_ (by assumption))))) heq.out).mono ?_
      rintro e w1 ⟨rfl, _⟩
      go_wp2_with fail
      refine (cbool (wequal_any _ _ _ _ _ _ _ _ _ (h0.ext (by repeat (first | exact Ext.refl _ | assumption | refine Ext.drew ?_ | refine Ext.drewN ?_ _ | refine Ext.alloc ?_ _ | refine Ext.trans ?_ (by assumption)))) (h1.ext (by repeat (first | exact Ext.refl _ | assumption | refine Ext.drew ?_ | refine Ext.drewN ?_ _ | refine Ext.alloc ?_ _ | refine Ext.trans ?_ (by assumption))))) heq.out).mono ?_
      rintro e w1 ⟨rfl, _⟩
      go_wp2_with fail
      refine (cbool (lsame_any _ _ _ _ _ _ _ _ _ (h0.ext (by repeat (first | exact Ext.refl _ | assumption | refine Ext.drew ?_ | refine Ext.drewN ?_ _ | refine Ext.alloc ?_ _ | refine Ext.trans ?_ (by assumption)))) (h1.ext (by repeat (first | exact Ext.refl _ | assumption | refine Ext.drew ?_ | refine Ext.drewN ?_ _ | refine Ext.alloc ?_ _ | refine Ext.trans ?_ (by assumption))))) heq.out).mono ?_
      rintro e wa ⟨rfl, _⟩
      have hxa : Ext w wa := (by repeat (first | exact Ext.refl _ | assumption | refine Ext.drew ?_ | refine Ext.drewN ?_ _ | refine Ext.alloc ?_ _ | refine Ext.trans ?_ (by assumption)))
      have o0 : OwnS w.heap.size 39 (wa.alloc (.cells #[] 39)) (.slice (some ⟨wa.heap.size, 0, Option.none⟩) 0 0) [] := OwnK.base (World.ownsRow_lit wa #[] 0 (Nat.le_refl _) (Nat.zero_le _) rfl) (Ext.le hxa)
      have hl0 := h0.len
      have hl1 := h1.len
      go_wp2_with (first | (at_builtin; refine wp_appN w _ x0 rfl _ _ 22 rfl 39 Try.underlying22 info_snd rfl (by decide) _ _ rfl o0 (hxa.alloc _) a0 n0 c0 rfl (h0.ext (by repeat (first | exact Ext.refl _ | assumption | refine Ext.drew ?_ | refine Ext.drewN ?_ _ | refine Ext.alloc ?_ _ | refine Ext.trans ?_ (by assumption)))) Snd.len Snd.one (by simp; omega) (by unfold maxLen; simp; omega) ?_; intro v1 w2 o1 x2' _) | (at_builtin; refine wp_appN w _ x1 rfl _ _ 22 rfl 39 Try.underlying22 info_snd rfl (by decide) _ _ rfl o1 x2' a1 n1 c1 rfl (h1.ext x2') Snd.len Snd.one (by simp; omega) (by unfold maxLen; simp; omega) ?_; intro vz w3 o2 x3' _; obtain ⟨am, nm, cm, hnm, rfl, rm⟩ := OwnK.rdn Snd.len o2; replace hnm := Lib.hid hnm))
      have hz := minE x0 x1 n1 h1.len
      clear hl1
      revert hz
      generalize hzz : cmpW x0 ([] ++ x0 ++ x1) = z
      intro hz
      replace hzz := Lib.hid hzz
      refine (cint (worder_any _ _ _ _ _ _ _ _ _ (h0.ext (by repeat (first | exact Ext.refl _ | assumption | refine Ext.drew ?_ | refine Ext.drewN ?_ _ | refine Ext.alloc ?_ _ | refine Ext.trans ?_ (by assumption)))) rm) hzz.out).mono ?_
      rintro e w1 ⟨rfl, _⟩
      go_wp2_with fail
      refine (works_any _).mono ?_
      rintro e wz ⟨rfl, _⟩
      go_wp2_with fail
      go_ret
      exact ⟨rfl, (by repeat (first | exact Ext.refl _ | assumption | refine Ext.drew ?_ | refine Ext.drewN ?_ _ | refine Ext.alloc ?_ _ | refine Ext.trans ?_ (by assumption)))⟩
  · have q1 : decide (cmpW x0 x1 ≤ 0) = false := by simpa using hx
    clear hxt hyt hzt htr hx
    go_enter Try.func6, Try.ntmps6
    go_wp2_with fail
    refine (worder_any _ _ _ _ _ _ _ _ _ (h0.ext (by repeat (first | exact Ext.refl _ | assumption | refine Ext.drew ?_ | refine Ext.drewN ?_ _ | refine Ext.alloc ?_ _ | refine Ext.trans ?_ (by assumption)))) (h1.ext (by repeat (first | exact Ext.refl _ | assumption | refine Ext.drew ?_ | refine Ext.drewN ?_ _ | refine Ext.alloc ?_ _ | refine Ext.trans ?_ (by assumption))))).mono ?_
    rintro e w1 ⟨rfl, _⟩
    go_wp2_with fail
    refine (worder_any _ _ _ _ _ _ _ _ _ (h1.ext (by repeat (first | exact Ext.refl _ | assumption | refine Ext.drew ?_ | refine Ext.drewN ?_ _ | refine Ext.alloc ?_ _ | refine Ext.trans ?_ (by assumption)))) (h2.ext (by repeat (first | exact Ext.refl _ | assumption | refine Ext.drew ?_ | refine Ext.drewN ?_ _ | refine Ext.alloc ?_ _ | refine Ext.trans ?_ (by assumption))))).mono ?_
    rintro e w1 ⟨rfl, _⟩
    go_wp2_with fail
    refine (worder_any _ _ _ _ _ _ _ _ _ (h0.ext (by repeat (first | exact Ext.refl _ | assumption | refine Ext.drew ?_ | refine Ext.drewN ?_ _ | refine Ext.alloc ?_ _ | refine Ext.trans ?_ (by assumption)))) (h2.ext (by repeat (first | exact Ext.refl _ | assumption | refine Ext.drew ?_ | refine Ext.drewN ?_ _ | refine Ext.alloc ?_ _ | refine Ext.trans ?_ (by assumption))))).mono ?_
    rintro e w1 ⟨rfl, _⟩
    go_wp2_with fail
    refine (cint (worder_any _ _ _ _ _ _ _ _ _ (h1.ext (by repeat (first | exact Ext.refl _ | assumption | refine Ext.drew ?_ | refine Ext.drewN ?_ _ | refine Ext.alloc ?_ _ | refine Ext.trans ?_ (by assumption)))) (h0.ext (by repeat (first | exact Ext.refl _ | assumption | refine Ext.drew ?_ | refine Ext.drewN ?_ _ | refine Ext.alloc ?_ _ | refine Ext.trans ?_ (by assumption))))) hba.out).mono ?_
    rintro e w1 ⟨rfl, _⟩
    go_wp2_with fail
    refine (cint (worder_any _ _ _ _ _ _ _ _ _ (h0.ext (by repeat (first | exact Ext.refl _ | assumption | refine Ext.drew ?_ | refine Ext.drewN ?_ _ | refine Ext.alloc ?_ _ | refine Ext.trans ?_ (by assumption)))) (h0.ext (by repeat (first | exact Ext.refl _ | assumption | refine Ext.drew ?_ | refine Ext.drewN ?_ _ | refine Ext.alloc ?_ _ | refine Ext.trans ?_ (by assumption))))) (cmpW_self _)).mono ?_
    rintro e w1 ⟨rfl, _⟩
    go_wp2_with fail
    refine (cbool (lsame_any _ _ _ _ _ _ _ _ _ (h0.ext (by repeat (first | exact Ext.refl _ | assumption | refine Ext.drew ?_ | refine Ext.drewN ?_ _ | refine Ext.alloc ?_ _ | refine Ext.trans ?_ (by assumption)))) (h1.ext (by repeat (first | exact Ext.refl _ | assumption | refine Ext.drew ?_ | refine Ext.drewN ?_ _ | refine Ext.alloc ?_ _ | refine Ext.trans ?_ (by assumption))))) heq.out).mono ?_
    rintro e w1 ⟨rfl, _⟩
    go_wp2_with fail
    refine (cbool (wequal_any _ _ _ _ _ _ _ _ _ (h0.ext (by repeat (first | exact Ext.refl _ | assumption | refine Ext.drew ?_ | refine Ext.drewN ?_ _ | refine Ext.alloc ?_ _ | refine Ext.trans ?_ (by assumption)))) (h1.ext (by repeat (first | exact Ext.refl _ | assumption | refine Ext.drew ?_ | refine Ext.drewN ?_ _ | refine Ext.alloc ?_ _ | refine Ext.trans ?_ (by assumption))))) heq.out).mono ?_
    rintro e w1 ⟨rfl, _⟩
    go_wp2_with fail
    refine (cbool (lsame_any _ _ _ _ _ _ _ _ _ (h0.ext (by repeat (first | exact Ext.refl _ | assumption | refine Ext.drew ?_ | refine Ext.drewN ?_ _ | refine Ext.alloc ?_ _ | refine Ext.trans ?_ (by assumption)))) (h1.ext (by repeat (first | exact Ext.refl _ | assumption | refine Ext.drew ?_ | refine Ext.drewN ?_ _ | refine Ext.alloc ?_ _ | refine Ext.trans ?_ (by assumption))))) heq.out).mono ?_
    rintro e wa ⟨rfl, _⟩
    have hxa : Ext w wa := (by repeat (first | exact Ext.refl _ | assumption | refine Ext.drew ?_ | refine Ext.drewN ?_ _ | refine Ext.alloc ?_ _ | refine Ext.trans ?_ (by assumption)))
    have o0 : OwnS w.heap.size 39 (wa.alloc (.cells #[] 39)) (.slice (some ⟨wa.heap.size, 0, Option.none⟩) 0 0) [] := OwnK.base (World.ownsRow_lit wa #[] 0 (Nat.le_refl _) (Nat.zero_le _) rfl) (Ext.le hxa)
    have hl0 := h0.len
    have hl1 := h1.len
    go_wp2_with (first | (at_builtin; refine wp_appN w _ x0 rfl _ _ 22 rfl 39 Try.underlying22 info_snd rfl (by decide) _ _ rfl o0 (hxa.alloc _) a0 n0 c0 rfl (h0.ext (by repeat (first | exact Ext.refl _ | assumption | refine Ext.drew ?_ | refine Ext.drewN ?_ _ | refine Ext.alloc ?_ _ | refine Ext.trans ?_ (by assumption)))) Snd.len Snd.one (by simp; omega) (by unfold maxLen; simp; omega) ?_; intro v1 w2 o1 x2' _) | (at_builtin; refine wp_appN w _ x1 rfl _ _ 22 rfl 39 Try.underlying22 info_snd rfl (by decide) _ _ rfl o1 x2' a1 n1 c1 rfl (h1.ext x2') Snd.len Snd.one (by simp; omega) (by unfold maxLen; simp; omega) ?_; intro vz w3 o2 x3' _; obtain ⟨am, nm, cm, hnm, rfl, rm⟩ := OwnK.rdn Snd.len o2; replace hnm := Lib.hid hnm))
    have hz := minE x0 x1 n1 h1.len
    clear hl1
    revert hz
    generalize hzz : cmpW x0 ([] ++ x0 ++ x1) = z
    intro hz
    replace hzz := Lib.hid hzz
    refine (cint (worder_any _ _ _ _ _ _ _ _ _ (h0.ext (by repeat (first | exact Ext.refl _ | assumption | refine Ext.drew ?_ | refine Ext.drewN ?_ _ | refine Ext.alloc ?_ _ | refine Ext.trans ?_ (by assumption)))) rm) hzz.out).mono ?_
    rintro e w1 ⟨rfl, _⟩
    go_wp2_with fail
    refine (works_any _).mono ?_
    rintro e wz ⟨rfl, _⟩
    go_wp2_with fail
    go_ret
    exact ⟨rfl, (by repeat (first | exact Ext.refl _ | assumption | refine Ext.drew ?_ | refine Ext.drewN ?_ _ | refine Ext.alloc ?_ _ | refine Ext.trans ?_ (by assumption)))⟩
theorem wordOrders_any (a0 : Option Addr) (n0 c0 : Nat) (x0 : List Snd) (a1 : Option Addr) (n1 c1 : Nat) (x1 : List Snd) (a2 : Option Addr) (n2 c2 : Nat) (x2 : List Snd) (w : World)
    (h0 : RdS w a0 n0 c0 x0) (h1 : RdS w a1 n1 c1 x1) (h2 : RdS w a2 n2 c2 x2) :
    Calls Try.prog 6 #[.slice a0 n0 c0, .slice a1 n1 c1, .slice a2 n2 c2] w fun e w' => e = .returned (.bool true) ∧ Ext w w' := by
  by_cases l0 : n0 ≤ 100
  · have e0 : decide ((100 : Int) < n0) = false := by simp; omega
    by_cases l1 : n1 ≤ 100
    · have e1 : decide ((100 : Int) < n1) = false := by simp; omega
      by_cases l2 : n2 ≤ 100
      · exact wordOrders_small a0 n0 c0 x0 a1 n1 c1 x1 a2 n2 c2 x2 w h0 h1 h2 l0 l1 l2
      · have e2 : decide ((100 : Int) < n2) = true := by simp; omega
        go_enter Try.func6, Try.ntmps6
        go_wp2_with fail
        refine (works_any _).mono ?_
        rintro e wz ⟨rfl, _⟩
        go_wp2_with fail
        go_ret
        exact ⟨rfl, (by repeat (first | exact Ext.refl _ | assumption | refine Ext.drew ?_ | refine Ext.drewN ?_ _ | refine Ext.alloc ?_ _ | refine Ext.trans ?_ (by assumption)))⟩
    · have e1 : decide ((100 : Int) < n1) = true := by simp; omega
      go_enter Try.func6, Try.ntmps6
      go_wp2_with fail
      refine (works_any _).mono ?_
      rintro e wz ⟨rfl, _⟩
      go_wp2_with fail
      go_ret
      exact ⟨rfl, (by repeat (first | exact Ext.refl _ | assumption | refine Ext.drew ?_ | refine Ext.drewN ?_ _ | refine Ext.alloc ?_ _ | refine Ext.trans ?_ (by assumption)))⟩
  · have e0 : decide ((100 : Int) < n0) = true := by simp; omega
    go_enter Try.func6, Try.ntmps6
    go_wp2_with fail
    refine (works_any _).mono ?_
    rintro e wz ⟨rfl, _⟩
    go_wp2_with fail
    go_ret
    exact ⟨rfl, (by repeat (first | exact Ext.refl _ | assumption | refine Ext.drew ?_ | refine Ext.drewN ?_ _ | refine Ext.alloc ?_ _ | refine Ext.trans ?_ (by assumption)))⟩
end Go.Proofs.Ytphfnmmdfnfnaaa
