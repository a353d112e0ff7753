/-
  Walks of layer 2: Splice of the reference.
-/
import Derived.Test.YtphfnmmdfnfnaaaWt
namespace Go.Proofs.Ytphfnmmdfnfnaaa
open Go.RowKit
theorem checkWs_two (xs ys : List Snd) : checkWs [xs, ys] = if checkS xs = 0 then checkS ys else checkS xs := by
  simp only [checkWs]; split
  · split
    · rename_i h; exact h.symm
    · rfl
  · rfl
theorem rsplice_any (ad ad' : Option Addr) (n cap n' cap' : Nat) (xs ys : List Snd) (a b : Int) (w : World) (hr : RdS w ad n cap xs) (hr' : RdS w ad' n' cap' ys) (hn : n ≤ 20000) (hn' : n' ≤ 20000) :
    Calls Try.prog 37 #[.slice ad n cap, .int .i64 a, .int .i64 b, .slice ad' n' cap'] w (RetSE (spliceL xs a b ys) (spliceE xs a b ys) w) := by
  by_cases hc0 : checkS xs = 0
  · have hcb0 : (checkS xs == 0) = true := by simp [hc0]
    have hw : checkWs [xs, ys] = checkS ys := by rw [checkWs_two, if_pos hc0]
    clear hc0
    by_cases hc : checkS ys = 0
    · have hcb : (checkS ys != 0) = false := by simp [hc]
      rw [hc] at hw
      have hcz := hc
      clear hc
      by_cases h1 : a < 0
      · obtain ⟨e1, e2⟩ := splice_range (a := a) (b := b) hw (by omega)
        have E1 := Lib.hid e1; have E2 := Lib.hid e2; clear e1 e2 hw hcz
        go_enter Try.func37, Try.ntmps37
        go_wp2_with fail
        refine (rcheck_any _ _ _ xs _ hr).mono ?_
        rintro e w1 ⟨rfl, hx1⟩
        go_wp2_with fail
        refine (rcheck_any _ _ _ ys _ (hr'.ext hx1)).mono ?_
        rintro e w2 ⟨rfl, hx2⟩
        have hx := hx1.trans hx2
        go_wp2_with fail
        go_ret2
        exact retSE_nil E1.out hx E2.out.symm
      by_cases h2 : b < a
      · obtain ⟨e1, e2⟩ := splice_range (a := a) (b := b) hw (by omega)
        have E1 := Lib.hid e1; have E2 := Lib.hid e2; clear e1 e2 hw hcz
        go_enter Try.func37, Try.ntmps37
        go_wp2_with fail
        refine (rcheck_any _ _ _ xs _ hr).mono ?_
        rintro e w1 ⟨rfl, hx1⟩
        go_wp2_with fail
        refine (rcheck_any _ _ _ ys _ (hr'.ext hx1)).mono ?_
        rintro e w2 ⟨rfl, hx2⟩
        have hx := hx1.trans hx2
        go_wp2_with fail
        go_ret2
        exact retSE_nil E1.out hx E2.out.symm
      by_cases h3 : (n : Int) < b
      · obtain ⟨e1, e2⟩ := splice_range (a := a) (b := b) hw (by rw [hr.len]; omega)
        have E1 := Lib.hid e1; have E2 := Lib.hid e2; clear e1 e2 hw hcz
        go_enter Try.func37, Try.ntmps37
        go_wp2_with fail
        refine (rcheck_any _ _ _ xs _ hr).mono ?_
        rintro e w1 ⟨rfl, hx1⟩
        go_wp2_with fail
        refine (rcheck_any _ _ _ ys _ (hr'.ext hx1)).mono ?_
        rintro e w2 ⟨rfl, hx2⟩
        have hx := hx1.trans hx2
        go_wp2_with fail
        go_ret2
        exact retSE_nil E1.out hx E2.out.symm
      obtain ⟨i, rfl⟩ := Int.eq_ofNat_of_zero_le (show 0 ≤ a by omega)
      obtain ⟨j, rfl⟩ := Int.eq_ofNat_of_zero_le (show 0 ≤ b by omega)
      have hij : i ≤ j := by omega
      have hjn : j ≤ n := by omega
      have hs1 := run_sub_to (P := Try.prog) elem_snds size_snds ad n cap i (by have := hr.le; omega)
      have hs2 := run_sub_l (P := Try.prog) elem_snds size_snds ad n cap j (by omega)
      have ht := hr.to (k := i) (by omega)
      have hf := hr.from (k := j) hjn
      have hl1 := hr.len
      have hl2 := hr'.len
      by_cases h4 : 32 < n - (j - i) + n'
      · obtain ⟨e1, e2⟩ := splice_long hw hij (by rw [hl1]; omega) (by rw [hl1, hl2]; exact h4)
        have E1 := Lib.hid e1; have E2 := Lib.hid e2; clear e1 e2 hw h1 h2 h3 hcz
        go_enter Try.func37, Try.ntmps37
        go_wp2_with fail
        refine (rcheck_any _ _ _ xs _ hr).mono ?_
        rintro e w1 ⟨rfl, hx1⟩
        go_wp2_with fail
        refine (rcheck_any _ _ _ ys _ (hr'.ext hx1)).mono ?_
        rintro e w2 ⟨rfl, hx2⟩
        have hx := hx1.trans hx2
        go_wp2_with fail
        go_region_law (first | (refine step_appN w _ ys rfl _ _ 22 rfl 39 Try.underlying22 info_snd rfl (by decide) v3 _ rfl ho3 (by repeat (first | exact Ext.refl _ | assumption | refine Ext.drew ?_ | refine Ext.drewN ?_ _ | refine Ext.alloc ?_ _ | refine Ext.trans ?_ (by assumption))) ad' n' cap' rfl (hr'.ext (by repeat (first | exact Ext.refl _ | assumption | refine Ext.drew ?_ | refine Ext.drewN ?_ _ | refine Ext.alloc ?_ _ | refine Ext.trans ?_ (by assumption)))) Snd.len Snd.one (by simp; omega) (by unfold maxLen; simp; omega) ?_; intro v4 w4 ho4 hx4 _) | (refine step_appN w _ (xs.drop j) rfl _ _ 22 rfl 39 Try.underlying22 info_snd rfl (by decide) v4 _ rfl ho4 hx4 _ _ _ rfl (hf.ext hx4) Snd.len Snd.one (by simp; omega) (by unfold maxLen; simp; omega) ?_; intro v5 w5 ho5 hx5 _) | (go_simp; go_at_call 28; refine (copy_any _ _ _ (xs.take i) _ (ht.ext (by repeat (first | exact Ext.refl _ | assumption | refine Ext.drew ?_ | refine Ext.drewN ?_ _ | refine Ext.alloc ?_ _ | refine Ext.trans ?_ (by assumption)))) (by omega)).mono ?_; rintro e w3 ⟨v3, rfl, ho3', hx3⟩; have ho3 := OwnK.base ho3' hx.le))
        obtain ⟨a5, n5, c5, hn5, rfl, r5⟩ := OwnK.rdn Snd.len ho5
        have hbig : decide ((32 : Int) < n5) = true := by rw [hn5]; simp; omega
        replace hn5 := Lib.hid hn5
        go_wp2_with fail
        go_ret2
        exact retSE_nil E1.out hx5 E2.out.symm
      · obtain ⟨e1, e2⟩ := splice_ok hw hij (by rw [hl1]; omega) (by rw [hl1, hl2]; exact h4)
        have E1 := Lib.hid e1; have E2 := Lib.hid e2; clear e1 e2 hw h1 h2 h3 hcz
        go_enter Try.func37, Try.ntmps37
        go_wp2_with fail
        refine (rcheck_any _ _ _ xs _ hr).mono ?_
        rintro e w1 ⟨rfl, hx1⟩
        go_wp2_with fail
        refine (rcheck_any _ _ _ ys _ (hr'.ext hx1)).mono ?_
        rintro e w2 ⟨rfl, hx2⟩
        have hx := hx1.trans hx2
        go_wp2_with fail
        go_region_law (first | (refine step_appN w _ ys rfl _ _ 22 rfl 39 Try.underlying22 info_snd rfl (by decide) v3 _ rfl ho3 (by repeat (first | exact Ext.refl _ | assumption | refine Ext.drew ?_ | refine Ext.drewN ?_ _ | refine Ext.alloc ?_ _ | refine Ext.trans ?_ (by assumption))) ad' n' cap' rfl (hr'.ext (by repeat (first | exact Ext.refl _ | assumption | refine Ext.drew ?_ | refine Ext.drewN ?_ _ | refine Ext.alloc ?_ _ | refine Ext.trans ?_ (by assumption)))) Snd.len Snd.one (by simp; omega) (by unfold maxLen; simp; omega) ?_; intro v4 w4 ho4 hx4 _) | (refine step_appN w _ (xs.drop j) rfl _ _ 22 rfl 39 Try.underlying22 info_snd rfl (by decide) v4 _ rfl ho4 hx4 _ _ _ rfl (hf.ext hx4) Snd.len Snd.one (by simp; omega) (by unfold maxLen; simp; omega) ?_; intro v5 w5 ho5 hx5 _) | (go_simp; go_at_call 28; refine (copy_any _ _ _ (xs.take i) _ (ht.ext (by repeat (first | exact Ext.refl _ | assumption | refine Ext.drew ?_ | refine Ext.drewN ?_ _ | refine Ext.alloc ?_ _ | refine Ext.trans ?_ (by assumption)))) (by omega)).mono ?_; rintro e w3 ⟨v3, rfl, ho3', hx3⟩; have ho3 := OwnK.base ho3' hx.le))
        obtain ⟨a5, n5, c5, hn5, rfl, r5⟩ := OwnK.rdn Snd.len ho5
        have hbig : decide ((32 : Int) < n5) = false := by rw [hn5]; simp; omega
        replace hn5 := Lib.hid hn5
        go_wp2_with fail
        go_ret2
        exact retSE_mk ho5 (Ext.refl _) hx5 (by rw [E1.out]; simp) E2.out.symm
    · have hcb : (checkS ys != 0) = true := by simpa using hc
      obtain ⟨e1, e2⟩ := splice_bad (a := a) (b := b) (by rw [hw]; exact hc)
      rw [hw] at e2
      have E1 := Lib.hid e1; have E2 := Lib.hid e2; clear e1 e2 hw hc
      go_enter Try.func37, Try.ntmps37
      go_wp2_with fail
      refine (rcheck_any _ _ _ xs _ hr).mono ?_
      rintro e w1 ⟨rfl, hx1⟩
      go_wp2_with fail
      refine (rcheck_any _ _ _ ys _ (hr'.ext hx1)).mono ?_
      rintro e w2 ⟨rfl, hx2⟩
      have hx := hx1.trans hx2
      go_wp2_with fail
      go_ret2
      exact retSE_nil E1.out hx E2.out.symm
  · have hcb0 : (checkS xs == 0) = false := by simpa using hc0
    have hcb1 : (checkS xs != 0) = true := by simpa using hc0
    have hw : checkWs [xs, ys] = checkS xs := by rw [checkWs_two, if_neg hc0]
    obtain ⟨e1, e2⟩ := splice_bad (a := a) (b := b) (by rw [hw]; exact hc0)
    rw [hw] at e2
    have E1 := Lib.hid e1; have E2 := Lib.hid e2; clear e1 e2 hw hc0
    go_enter Try.func37, Try.ntmps37
    go_wp2_with fail
    refine (rcheck_any _ _ _ xs _ hr).mono ?_
    rintro e w1 ⟨rfl, hx1⟩
    go_wp2_with fail
    go_ret2
    exact retSE_nil E1.out hx1 E2.out.symm
end Go.Proofs.Ytphfnmmdfnfnaaa
