/-
  Walks of layer 2: Check of the reference, Cut.
-/
import Derived.Test.YtphfnmmdfnfnaaaWc
namespace Go.Proofs.Ytphfnmmdfnfnaaa
open Go.RowKit
theorem rcheck_any (a : Option Addr) (n cap : Nat) (xs : List Snd) (w : World) (hr : RdS w a n cap xs) :
    Calls Try.prog 40 #[.slice a n cap] w fun e w' => e = .returned (.int .i64 (checkS xs)) ∧ Ext w w' := by
  have hmax : n ≤ 9223372036854775807 := by have := hr.le; have := hr.most; unfold maxLen at this; omega
  by_cases h : 32 < n
  · go_enter Try.func40, Try.ntmps40
    go_wp2_with fail
    go_ret
    exact ⟨ret_int (checkS_long (by rw [hr.len]; exact h)).symm, Ext.refl _⟩
  · have h' : n ≤ 32 := by omega
    go_enter Try.func40, Try.ntmps40
    go_wp2_with fail
    go_loopw [3] (fun i wr => ∃ k : Nat, k ≤ n ∧ i = .int .i64 k ∧ Ext w wr ∧ Hid (∀ (i : Nat) (x : Snd), i < k → xs[i]? = some x → x.ok = true)) (fun i _ => n - (intOf i).toNat)
    case atStart => exact ⟨0, Nat.zero_le _, rfl, Ext.refl _, fun i x hi => absurd hi (Nat.not_lt_zero _)⟩
    case round =>
      obtain ⟨k, hk, rfl, hx, hall⟩ := hrel
      by_cases hlt : k < n
      · obtain ⟨b, off, s, rfl, hs, hb, hc0, hc1⟩ := (hr.ext hx).snd hlt
        cases hok : s.ok
        · go_wp2_with (go_at_call 58; refine (rvalid_any s _).mono ?_; rintro e w1 ⟨rfl, hx1⟩)
          go_ret
          exact ⟨ret_int (checkS_bad (by rw [hr.len]; exact h') hs hok).symm, (by repeat (first | exact Ext.refl _ | assumption | refine Ext.drew ?_ | refine Ext.drewN ?_ _ | refine Ext.alloc ?_ _ | refine Ext.trans ?_ (by assumption)))⟩
        · go_wp2_with (go_at_call 58; refine (rvalid_any s _).mono ?_; rintro e w1 ⟨rfl, hx1⟩)
          (first | exact ⟨⟨k + 1, by omega, by go_num, (by repeat (first | exact Ext.refl _ | assumption | refine Ext.drew ?_ | refine Ext.drewN ?_ _ | refine Ext.alloc ?_ _ | refine Ext.trans ?_ (by assumption))), all_succ hall hs hok⟩, (by simp [intOf]; omega)⟩ | (go_roundw; case rel => exact ⟨k + 1, by omega, by go_num, (by repeat (first | exact Ext.refl _ | assumption | refine Ext.drew ?_ | refine Ext.drewN ?_ _ | refine Ext.alloc ?_ _ | refine Ext.trans ?_ (by assumption))), all_succ hall hs hok⟩; case measure => exact (by simp [intOf]; omega)))
      · go_wp2_with fail
        go_ret
        exact ⟨ret_int (checkS_ok (by rw [hr.len]; exact h') (fun i x hi => hall i x (by have := (List.getElem?_eq_some_iff.1 hi).1; have := hr.len; omega) hi)).symm, hx⟩

/-! ### Cut -/
def cutE (xs : List Snd) (a b : Int) : Int := if checkS xs ≠ 0 then checkS xs else if 0 ≤ a ∧ a ≤ b ∧ b ≤ xs.length then 0 else 3
def cutL (xs : List Snd) (a b : Int) : List Snd := if cutE xs a b = 0 then (xs.take b.toNat).drop a.toNat else []
/-- A word and an error. -/
def RetSE (xs : List Snd) (err : Int) (w : World) (e : Ending) (w' : World) : Prop := ∃ v, e = .returned (.tuple #[v, .int .i64 err]) ∧ OwnS w.heap.size 39 w' v xs ∧ Ext w w'
theorem cut_bad {xs : List Snd} {a b : Int} (h : checkS xs ≠ 0) : cutL xs a b = [] ∧ cutE xs a b = checkS xs := by
  have he : cutE xs a b = checkS xs := by simp [cutE, h]
  exact ⟨by rw [cutL, he, if_neg h], he⟩
theorem cut_range {xs : List Snd} {a b : Int} (h : checkS xs = 0) (h2 : ¬ (0 ≤ a ∧ a ≤ b ∧ b ≤ xs.length)) : cutL xs a b = [] ∧ cutE xs a b = 3 := by
  have he : cutE xs a b = 3 := by rw [cutE, if_neg (by simpa using h), if_neg h2]
  exact ⟨by rw [cutL, he, if_neg (by decide)], he⟩
theorem cut_ok {xs : List Snd} {a b : Nat} (h : checkS xs = 0) (h1 : a ≤ b) (h2 : b ≤ xs.length) : cutL xs a b = (xs.take b).drop a ∧ cutE xs a b = 0 := by
  have he : cutE xs a b = 0 := by rw [cutE, if_neg (by simpa using h), if_pos ⟨by omega, by omega, by omega⟩]
  exact ⟨by rw [cutL, he, if_pos rfl]; simp, he⟩
theorem retSE_nil {xs : List Snd} {err : Int} {w w' : World} (hx : xs = []) (hw : Ext w w') {err' : Int} (he : err' = err) : RetSE xs err w (.returned (.tuple #[.slice none 0 0, .int .i64 err'])) w' := by
  subst hx; subst he; exact ⟨_, rfl, OwnK.nil _ _ _, hw⟩
theorem retSE_mk {xs ys : List Snd} {err err' : Int} {w w1 w' : World} {v : Value} (ho : OwnS w1.heap.size 39 w' v ys) (hx1 : Ext w w1) (hw : Ext w w') (hy : ys = xs) (he : err' = err) : RetSE xs err w (.returned (.tuple #[v, .int .i64 err'])) w' := by
  subst hy; subst he; exact ⟨_, rfl, ho.base hx1.le, hw⟩
theorem elem_snds : Try.prog.underlying 22 = some (.slice (Try.prog.elem 22)) := by kernel_rfl
theorem size_snds (w : World) : (sizeOf (Try.prog.elem 22)).run Try.prog w = .ok 2 w := by kernel_rfl
theorem cut_any (ad : Option Addr) (n cap : Nat) (xs : List Snd) (a b : Int) (w : World) (hr : RdS w ad n cap xs) (hn : n ≤ 60000) :
    Calls Try.prog 16 #[.slice ad n cap, .int .i64 a, .int .i64 b] w (RetSE (cutL xs a b) (cutE xs a b) w) := by
  by_cases hc : checkS xs = 0
  · have hcb : (checkS xs != 0) = false := by simp [hc]
    by_cases h1 : a < 0
    · obtain ⟨e1, e2⟩ := cut_range (a := a) (b := b) hc (by omega)
      have E1 := Lib.hid e1; have E2 := Lib.hid e2; clear e1 e2 hc
      go_enter Try.func16, Try.ntmps16
      go_wp2_with (go_at_call 34; refine (check_any _ _ _ xs _ hr).mono ?_; rintro e w1 ⟨rfl, hx1⟩)
      go_ret2
      exact retSE_nil E1.out hx1 E2.out.symm
    by_cases h2 : b < a
    · obtain ⟨e1, e2⟩ := cut_range (a := a) (b := b) hc (by omega)
      have E1 := Lib.hid e1; have E2 := Lib.hid e2; clear e1 e2 hc
      go_enter Try.func16, Try.ntmps16
      go_wp2_with (go_at_call 34; refine (check_any _ _ _ xs _ hr).mono ?_; rintro e w1 ⟨rfl, hx1⟩)
      go_ret2
      exact retSE_nil E1.out hx1 E2.out.symm
    by_cases h3 : (n : Int) < b
    · obtain ⟨e1, e2⟩ := cut_range (a := a) (b := b) hc (by rw [hr.len]; omega)
      have E1 := Lib.hid e1; have E2 := Lib.hid e2; clear e1 e2 hc
      go_enter Try.func16, Try.ntmps16
      go_wp2_with (go_at_call 34; refine (check_any _ _ _ xs _ hr).mono ?_; rintro e w1 ⟨rfl, hx1⟩)
      go_ret2
      exact retSE_nil E1.out hx1 E2.out.symm
    · obtain ⟨i, rfl⟩ := Int.eq_ofNat_of_zero_le (show 0 ≤ a by omega)
      obtain ⟨j, rfl⟩ := Int.eq_ofNat_of_zero_le (show 0 ≤ b by omega)
      have hij : i ≤ j := by omega
      have hjn : j ≤ n := by omega
      obtain ⟨e1, e2⟩ := cut_ok (a := i) (b := j) hc hij (by rw [hr.len]; omega)
      have E1 := Lib.hid e1; have E2 := Lib.hid e2; clear e1 e2 hc h1 h2 h3
      have hsl := run_sub_lh (P := Try.prog) elem_snds size_snds ad n cap i j hij (by have := hr.le; omega)
      have hsub := hr.sub hij hjn
      go_enter Try.func16, Try.ntmps16
      go_wp2_with (first | (go_at_call 34; refine (check_any _ _ _ xs _ hr).mono ?_; rintro e w1 ⟨rfl, hx1⟩) | (go_at_call 46; refine (clone_any _ _ _ _ _ (hsub.ext hx1) (by omega)).mono ?_; rintro e w2 ⟨v, rfl, ho, hx2⟩))
      go_ret2
      exact retSE_mk ho hx1 (by repeat (first | exact Ext.refl _ | assumption | refine Ext.drew ?_ | refine Ext.drewN ?_ _ | refine Ext.alloc ?_ _ | refine Ext.trans ?_ (by assumption))) E1.out.symm E2.out.symm
  · have hcb : (checkS xs != 0) = true := by simpa using hc
    obtain ⟨e1, e2⟩ := cut_bad (a := a) (b := b) hc
    have E1 := Lib.hid e1; have E2 := Lib.hid e2; clear e1 e2 hc
    go_enter Try.func16, Try.ntmps16
    go_wp2_with (go_at_call 34; refine (check_any _ _ _ xs _ hr).mono ?_; rintro e w1 ⟨rfl, hx1⟩)
    go_ret2
    exact retSE_nil E1.out hx1 E2.out.symm
theorem rcut_any (ad : Option Addr) (n cap : Nat) (xs : List Snd) (a b : Int) (w : World) (hr : RdS w ad n cap xs) (hn : n ≤ 60000) :
    Calls Try.prog 17 #[.slice ad n cap, .int .i64 a, .int .i64 b] w (RetSE (cutL xs a b) (cutE xs a b) w) := by
  by_cases hc : checkS xs = 0
  · have hcb : (checkS xs != 0) = false := by simp [hc]
    by_cases h1 : a < 0
    · obtain ⟨e1, e2⟩ := cut_range (a := a) (b := b) hc (by omega)
      have E1 := Lib.hid e1; have E2 := Lib.hid e2; clear e1 e2 hc
      go_enter Try.func17, Try.ntmps17
      go_wp2_with (go_at_call 40; refine (rcheck_any _ _ _ xs _ hr).mono ?_; rintro e w1 ⟨rfl, hx1⟩)
      go_ret2
      exact retSE_nil E1.out hx1 E2.out.symm
    by_cases h2 : b < a
    · obtain ⟨e1, e2⟩ := cut_range (a := a) (b := b) hc (by omega)
      have E1 := Lib.hid e1; have E2 := Lib.hid e2; clear e1 e2 hc
      go_enter Try.func17, Try.ntmps17
      go_wp2_with (go_at_call 40; refine (rcheck_any _ _ _ xs _ hr).mono ?_; rintro e w1 ⟨rfl, hx1⟩)
      go_ret2
      exact retSE_nil E1.out hx1 E2.out.symm
    by_cases h3 : (n : Int) < b
    · obtain ⟨e1, e2⟩ := cut_range (a := a) (b := b) hc (by rw [hr.len]; omega)
      have E1 := Lib.hid e1; have E2 := Lib.hid e2; clear e1 e2 hc
      go_enter Try.func17, Try.ntmps17
      go_wp2_with (go_at_call 40; refine (rcheck_any _ _ _ xs _ hr).mono ?_; rintro e w1 ⟨rfl, hx1⟩)
      go_ret2
      exact retSE_nil E1.out hx1 E2.out.symm
    · obtain ⟨i, rfl⟩ := Int.eq_ofNat_of_zero_le (show 0 ≤ a by omega)
      obtain ⟨j, rfl⟩ := Int.eq_ofNat_of_zero_le (show 0 ≤ b by omega)
      have hij : i ≤ j := by omega
      have hjn : j ≤ n := by omega
      obtain ⟨e1, e2⟩ := cut_ok (a := i) (b := j) hc hij (by rw [hr.len]; omega)
      have E1 := Lib.hid e1; have E2 := Lib.hid e2; clear e1 e2 hc h1 h2 h3
      have hsl := run_sub_lh (P := Try.prog) elem_snds size_snds ad n cap i j hij (by have := hr.le; omega)
      have hsub := hr.sub hij hjn
      go_enter Try.func17, Try.ntmps17
      go_wp2_with (first | (go_at_call 40; refine (rcheck_any _ _ _ xs _ hr).mono ?_; rintro e w1 ⟨rfl, hx1⟩) | (go_at_call 28; refine (copy_any _ _ _ _ _ (hsub.ext hx1) (by omega)).mono ?_; rintro e w2 ⟨v, rfl, ho, hx2⟩))
      go_ret2
      exact retSE_mk ho hx1 (by repeat (first | exact Ext.refl _ | assumption | refine Ext.drew ?_ | refine Ext.drewN ?_ _ | refine Ext.alloc ?_ _ | refine Ext.trans ?_ (by assumption))) E1.out.symm E2.out.symm
  · have hcb : (checkS xs != 0) = true := by simpa using hc
    obtain ⟨e1, e2⟩ := cut_bad (a := a) (b := b) hc
    have E1 := Lib.hid e1; have E2 := Lib.hid e2; clear e1 e2 hc
    go_enter Try.func17, Try.ntmps17
    go_wp2_with (go_at_call 40; refine (rcheck_any _ _ _ xs _ hr).mono ?_; rintro e w1 ⟨rfl, hx1⟩)
    go_ret2
    exact retSE_nil E1.out hx1 E2.out.symm
end Go.Proofs.Ytphfnmmdfnfnaaa
