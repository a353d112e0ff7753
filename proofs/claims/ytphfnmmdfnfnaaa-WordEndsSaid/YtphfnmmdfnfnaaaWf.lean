/-
  Walks of layer 2: the order of words; where a word is found.
-/
import Derived.Test.YtphfnmmdfnfnaaaWe
namespace Go.Proofs.Ytphfnmmdfnfnaaa
open Go.RowKit
/-- The order of words. -/
def cmpW : List Snd → List Snd → Int
  | [], [] => 0
  | [], _ :: _ => -1
  | _ :: _, [] => 1
  | s :: xs, t :: ys => if cmpS s t = 0 then cmpW xs ys else cmpS s t
section
variable {xs ys : List Snd} {k : Nat} {s t : Snd}
theorem drop_at {α : Type} {xs : List α} {k : Nat} {s : α} (h : xs[k]? = some s) : xs.drop k = s :: xs.drop (k + 1) := by
  obtain ⟨h1, h2⟩ := List.getElem?_eq_some_iff.1 h
  rw [List.drop_eq_getElem_cons h1, h2]
theorem cmpW_eq (h : cmpW xs ys = cmpW (xs.drop k) (ys.drop k)) (h1 : xs[k]? = some s) (h2 : ys[k]? = some t) (h3 : cmpS s t = 0) : cmpW xs ys = cmpW (xs.drop (k + 1)) (ys.drop (k + 1)) := by
  rw [h, drop_at h1, drop_at h2, cmpW, if_pos h3]
theorem cmpW_ne (h : cmpW xs ys = cmpW (xs.drop k) (ys.drop k)) (h1 : xs[k]? = some s) (h2 : ys[k]? = some t) (h3 : cmpS s t ≠ 0) : cmpW xs ys = cmpS s t := by
  rw [h, drop_at h1, drop_at h2, cmpW, if_neg h3]
theorem cmpW_gt (h : cmpW xs ys = cmpW (xs.drop k) (ys.drop k)) (h1 : k < xs.length) (h2 : ys.length ≤ k) : cmpW xs ys = 1 := by
  rw [h, drop_at (List.getElem?_eq_getElem h1), List.drop_of_length_le h2, cmpW]
theorem cmpW_lt (h : cmpW xs ys = cmpW (xs.drop k) (ys.drop k)) (h1 : xs.length ≤ k) (h2 : k < ys.length) : cmpW xs ys = -1 := by
  rw [h, drop_at (List.getElem?_eq_getElem h2), List.drop_of_length_le h1, cmpW]
theorem cmpW_same (h : cmpW xs ys = cmpW (xs.drop k) (ys.drop k)) (h1 : xs.length ≤ k) (h2 : ys.length ≤ k) : cmpW xs ys = 0 := by
  rw [h, List.drop_of_length_le h2, List.drop_of_length_le h1, cmpW]
end
theorem compare_any (a a' : Option Addr) (n cap n' cap' : Nat) (xs ys : List Snd) (w : World) (hr : RdS w a n cap xs) (hr' : RdS w a' n' cap' ys) :
    Calls Try.prog 48 #[.slice a n cap, .slice a' n' cap', .func (.func 49) #[] #[]] w fun e w' => e = .returned (.int .i64 (cmpW xs ys)) ∧ Ext w w' := by
  have hmax : n ≤ 9223372036854775807 := by have := hr.le; have := hr.most; unfold maxLen at this; omega
  have hmax' : n' ≤ 9223372036854775807 := by have := hr'.le; have := hr'.most; unfold maxLen at this; omega
  go_enter Try.func48, Try.ntmps48
  go_wp2_with fail
  go_loopw [13] (fun i wr => ∃ k : Nat, k ≤ n ∧ k ≤ n' ∧ i = .int .i64 k ∧ Ext w wr ∧ Hid (cmpW xs ys = cmpW (xs.drop k) (ys.drop k))) (fun i _ => n - (intOf i).toNat)
  case atStart => exact ⟨0, Nat.zero_le _, Nat.zero_le _, rfl, Ext.refl _, rfl⟩
  case round =>
    obtain ⟨k, hk, hk', rfl, hx, hall⟩ := hrel
    by_cases hlt : k < n
    · obtain ⟨b, off, s, rfl, hs, hb, hc0, hc1⟩ := (hr.ext hx).snd hlt
      by_cases hlt' : k < n'
      · obtain ⟨b', off', s', rfl, hs', hb', hc0', hc1'⟩ := (hr'.ext hx).snd hlt'
        by_cases hst : cmpS s s' = 0
        · have hd : (cmpS s s' != 0) = false := by simp [hst]
          have Hst := Lib.hid hst; clear hst
          go_wp2_with (go_at_call 49; refine (order_any s s' _).mono ?_; rintro e w1 ⟨rfl, hx1⟩)
          (first | exact ⟨⟨k + 1, by omega, by omega, by go_num, (by repeat (first | exact Ext.refl _ | assumption | refine Ext.drew ?_ | refine Ext.drewN ?_ _ | refine Ext.alloc ?_ _ | refine Ext.trans ?_ (by assumption))), cmpW_eq hall hs hs' Hst.out⟩, (by simp [intOf]; omega)⟩ | (go_roundw; case rel => exact ⟨k + 1, by omega, by omega, by go_num, (by repeat (first | exact Ext.refl _ | assumption | refine Ext.drew ?_ | refine Ext.drewN ?_ _ | refine Ext.alloc ?_ _ | refine Ext.trans ?_ (by assumption))), cmpW_eq hall hs hs' Hst.out⟩; case measure => exact (by simp [intOf]; omega)))
        · have hd : (cmpS s s' != 0) = true := by simpa using hst
          have Hst := Lib.hid hst; clear hst
          go_wp2_with (go_at_call 49; refine (order_any s s' _).mono ?_; rintro e w1 ⟨rfl, hx1⟩)
          go_ret
          exact ⟨ret_int (cmpW_ne hall hs hs' Hst.out).symm, (by repeat (first | exact Ext.refl _ | assumption | refine Ext.drew ?_ | refine Ext.drewN ?_ _ | refine Ext.alloc ?_ _ | refine Ext.trans ?_ (by assumption)))⟩
      · go_wp2_with fail
        go_ret
        exact ⟨ret_int (cmpW_gt hall (by rw [hr.len]; exact hlt) (by rw [hr'.len]; omega)).symm, (by repeat (first | exact Ext.refl _ | assumption | refine Ext.drew ?_ | refine Ext.drewN ?_ _ | refine Ext.alloc ?_ _ | refine Ext.trans ?_ (by assumption)))⟩
    · by_cases hlt' : n < n'
      · go_wp2_with fail
        go_ret
        exact ⟨ret_int (cmpW_lt hall (by rw [hr.len]; omega) (by rw [hr'.len]; omega)).symm, hx⟩
      · go_wp2_with fail
        go_ret
        exact ⟨ret_int (cmpW_same hall (by rw [hr.len]; omega) (by rw [hr'.len]; omega)).symm, hx⟩
theorem worder_any (a a' : Option Addr) (n cap n' cap' : Nat) (xs ys : List Snd) (w : World) (hr : RdS w a n cap xs) (hr' : RdS w a' n' cap' ys) :
    Calls Try.prog 22 #[.slice a n cap, .slice a' n' cap'] w fun e w' => e = .returned (.int .i64 (cmpW xs ys)) ∧ Ext w w' := by
  go_enter Try.func22, Try.ntmps22
  go_wp2_with (go_at_call 48; refine (compare_any _ _ _ _ _ _ xs ys _ hr hr').mono ?_; rintro e w1 ⟨rfl, hx1⟩)
  go_ret
  exact ⟨rfl, hx1⟩
theorem wequal_any (a a' : Option Addr) (n cap n' cap' : Nat) (xs ys : List Snd) (w : World) (hr : RdS w a n cap xs) (hr' : RdS w a' n' cap' ys) :
    Calls Try.prog 21 #[.slice a n cap, .slice a' n' cap'] w fun e w' => e = .returned (.bool (decide (xs = ys))) ∧ Ext w w' := by
  go_enter Try.func21, Try.ntmps21
  go_wp2_with (go_at_call 47; refine (seq_any _ _ _ _ _ _ xs ys _ hr hr').mono ?_; rintro e w1 ⟨rfl, hx1⟩)
  go_ret
  exact ⟨rfl, hx1⟩

/-! ### before, and the reference's Order -/
def befS (s t : Snd) : Bool := decide (cmpS s t = -1)
theorem befS_lt {s t : Snd} (h : s.p.toNat < t.p.toNat) : befS s t = true := by
  simp [befS, cmpS, orI, cmpI, Int.ofNat_lt.2 h]
theorem befS_gt {s t : Snd} (h : t.p.toNat < s.p.toNat) : befS s t = false := by
  rw [befS, cmpS, cmpI_gt (by omega)]; simp [orI]
theorem befS_eq {s t : Snd} (h : s.p.toNat = t.p.toNat) : befS s t = decide (s.m.toNat < t.m.toNat) := by
  rw [befS, cmpS, cmpI_eq (by omega), orI, if_pos rfl]; unfold cmpI
  by_cases h1 : s.m.toNat < t.m.toNat
  · simp [h1]
  · by_cases h2 : t.m.toNat < s.m.toNat <;> simp [h1, h2]
theorem before_any (s t : Snd) (w : World) :
    Calls Try.prog 50 #[.agg #[.int .u32 s.p.toNat, .int .u32 s.m.toNat], .agg #[.int .u32 t.p.toNat, .int .u32 t.m.toNat]] w fun e w' => e = .returned (.bool (befS s t)) ∧ Ext w w' := by
  by_cases h1 : s.p.toNat < t.p.toNat
  · have hb := Lib.hid (befS_lt h1)
    go_enter Try.func50, Try.ntmps50
    go_wp2_with fail
    go_ret
    exact ⟨ret_bool hb.out.symm, (Ext.alloc1 w _).alloc _⟩
  by_cases h2 : s.p.toNat = t.p.toNat
  · have hb := Lib.hid (befS_eq h2)
    have he : ((s.p.toNat : Int) == (t.p.toNat : Int)) = true := by simp [h2]
    clear h2
    go_enter Try.func50, Try.ntmps50
    go_wp2_with fail
    go_ret
    exact ⟨ret_bool hb.out.symm, (Ext.alloc1 w _).alloc _⟩
  · have hb := Lib.hid (befS_gt (s := s) (t := t) (by omega))
    have he : ((s.p.toNat : Int) == (t.p.toNat : Int)) = false := by simp; omega
    go_enter Try.func50, Try.ntmps50
    go_wp2_with fail
    go_ret
    exact ⟨ret_bool hb.out.symm, (Ext.alloc1 w _).alloc _⟩
theorem cmpI_anti (x y : Int) : cmpI y x = - cmpI x y := by unfold cmpI; split <;> split <;> (try split) <;> omega
theorem cmpI_tri (x y : Int) : cmpI x y = -1 ∨ cmpI x y = 0 ∨ cmpI x y = 1 := by unfold cmpI; split <;> (try split) <;> simp
theorem cmpS_anti (s t : Snd) : cmpS t s = - cmpS s t := by
  unfold cmpS orI; rw [cmpI_anti s.p.toNat t.p.toNat, cmpI_anti s.m.toNat t.m.toNat]; split <;> split <;> omega
theorem cmpS_tri (s t : Snd) : cmpS s t = -1 ∨ cmpS s t = 0 ∨ cmpS s t = 1 := by
  unfold cmpS orI; split
  · exact cmpI_tri _ _
  · exact cmpI_tri _ _
theorem befS_rev (s t : Snd) : befS t s = decide (cmpS s t = 1) := by
  unfold befS; rw [cmpS_anti s t, Bool.eq_iff_iff]; simp only [decide_eq_true_eq]; omega
theorem befS_rev2 {s t : Snd} {c : Int} (h : cmpS s t = c) : befS t s = (c == 1) := by
  rw [befS_rev, h, Bool.eq_iff_iff]; simp
theorem rorder_any (a a' : Option Addr) (n cap n' cap' : Nat) (xs ys : List Snd) (w : World) (hr : RdS w a n cap xs) (hr' : RdS w a' n' cap' ys) :
    Calls Try.prog 23 #[.slice a n cap, .slice a' n' cap'] w fun e w' => e = .returned (.int .i64 (cmpW xs ys)) ∧ Ext w w' := by
  have hmax : n ≤ 9223372036854775807 := by have := hr.le; have := hr.most; unfold maxLen at this; omega
  have hmax' : n' ≤ 9223372036854775807 := by have := hr'.le; have := hr'.most; unfold maxLen at this; omega
  go_enter Try.func23, Try.ntmps23
  go_wp2_with fail
  go_loopw [5] (fun i wr => ∃ k : Nat, k ≤ n ∧ k ≤ n' ∧ i = .int .i64 k ∧ Ext w wr ∧ Hid (cmpW xs ys = cmpW (xs.drop k) (ys.drop k))) (fun i _ => n - (intOf i).toNat)
  case atStart => exact ⟨0, Nat.zero_le _, Nat.zero_le _, rfl, Ext.refl _, rfl⟩
  case round =>
    obtain ⟨k, hk, hk', rfl, hx, hall⟩ := hrel
    by_cases hlt : k < n
    · by_cases hlt' : k < n'
      · obtain ⟨b, off, s, rfl, hs, hb, hc0, hc1⟩ := (hr.ext hx).snd hlt
        obtain ⟨b', off', s', rfl, hs', hb', hc0', hc1'⟩ := (hr'.ext hx).snd hlt'
        have f0 := fun x : ExtOf wr => x.cell hc0
        have f1 := fun x : ExtOf wr => x.cell hc1
        have f2 := fun x : ExtOf wr => x.cell hc0'
        have f3 := fun x : ExtOf wr => x.cell hc1'
        rcases cmpS_tri s s' with hc | hc | hc
        · have hb1 : befS s s' = true := by simp [befS, hc]
          have Hst := Lib.hid hc; clear hc
          go_wp2_with fail
          (refine wp_region_qx (by kernel_rfl) (by kernel_rfl) ?_
           repeat (go_big_quiet_step ((go_at_call 50; exact calls_ext (cbool (before_any s s' _) hb1))))
           refine wpQuiet_nil ?_
           intro wq hw'
           have hxq := ext_of_ex hw'
           clear hw')
          go_wp2_with fail
          go_ret
          exact ⟨ret_int (by rw [cmpW_ne hall hs hs' (by rw [Hst.out]; decide), Hst.out]), (by repeat (first | exact Ext.refl _ | assumption | refine Ext.drew ?_ | refine Ext.drewN ?_ _ | refine Ext.alloc ?_ _ | refine Ext.trans ?_ (by assumption)))⟩
        all_goals
          have hb1 : befS s s' = false := by simp [befS, hc]
          have hb2 := befS_rev2 hc
          have Hst := Lib.hid hc; clear hc
          go_wp2_with fail
          (refine wp_region_qx (by kernel_rfl) (by kernel_rfl) ?_
           repeat (go_big_quiet_step ((go_at_call 50; exact calls_ext (cbool (before_any s s' _) hb1))))
           refine wpQuiet_nil ?_
           intro wq hw'
           have hxq := ext_of_ex hw'
           clear hw')
          go_wp2_with fail
          clear f0 f1 f2 f3
          have f0 := fun x : ExtOf wq => x.cell (hxq.cellv hc0)
          have f1 := fun x : ExtOf wq => x.cell (hxq.cellv hc1)
          have f2 := fun x : ExtOf wq => x.cell (hxq.cellv hc0')
          have f3 := fun x : ExtOf wq => x.cell (hxq.cellv hc1')
          have hxr := hx.trans hxq
          clear hxq
          (refine wp_region_qx (by kernel_rfl) (by kernel_rfl) ?_
           repeat (go_big_quiet_step ((go_at_call 50; exact calls_ext (cbool (before_any s' s _) hb2))))
           refine wpQuiet_nil ?_
           intro wq hw'
           have hxq := ext_of_ex hw'
           clear hw')
          go_wp2_with fail
        · (first | exact ⟨⟨k + 1, by omega, by omega, by go_num, (by repeat (first | exact Ext.refl _ | assumption | refine Ext.drew ?_ | refine Ext.drewN ?_ _ | refine Ext.alloc ?_ _ | refine Ext.trans ?_ (by assumption))), cmpW_eq hall hs hs' Hst.out⟩, (by simp [intOf]; omega)⟩ | (go_roundw; case rel => exact ⟨k + 1, by omega, by omega, by go_num, (by repeat (first | exact Ext.refl _ | assumption | refine Ext.drew ?_ | refine Ext.drewN ?_ _ | refine Ext.alloc ?_ _ | refine Ext.trans ?_ (by assumption))), cmpW_eq hall hs hs' Hst.out⟩; case measure => exact (by simp [intOf]; omega)))
        · go_ret
          exact ⟨ret_int (by rw [cmpW_ne hall hs hs' (by rw [Hst.out]; decide), Hst.out]), (by repeat (first | exact Ext.refl _ | assumption | refine Ext.drew ?_ | refine Ext.drewN ?_ _ | refine Ext.alloc ?_ _ | refine Ext.trans ?_ (by assumption)))⟩
      · go_wp2_with fail
        go_ret
        exact ⟨ret_int (cmpW_gt hall (by rw [hr.len]; exact hlt) (by rw [hr'.len]; omega)).symm, (by repeat (first | exact Ext.refl _ | assumption | refine Ext.drew ?_ | refine Ext.drewN ?_ _ | refine Ext.alloc ?_ _ | refine Ext.trans ?_ (by assumption)))⟩
    · by_cases hlt' : n < n'
      · go_wp2_with fail
        go_ret
        exact ⟨ret_int (cmpW_lt hall (by rw [hr.len]; omega) (by rw [hr'.len]; omega)).symm, hx⟩
      · have hnn : n' ≤ n := by omega
        go_wp2_with fail
        all_goals go_ret
        all_goals exact ⟨ret_int (cmpW_same hall (by rw [hr.len]; omega) (by rw [hr'.len]; omega)).symm, hx⟩
end Go.Proofs.Ytphfnmmdfnfnaaa
