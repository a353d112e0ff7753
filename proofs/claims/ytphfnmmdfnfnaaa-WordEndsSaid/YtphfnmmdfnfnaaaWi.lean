/-
  Walks of layer 2: Common of the program and of the reference.
-/
import Derived.Test.YtphfnmmdfnfnaaaWh
namespace Go.Proofs.Ytphfnmmdfnfnaaa
open Go.RowKit
/-- How many sounds two words have in common at the beginning. -/
def lcp : List Snd → List Snd → Nat
  | s :: xs, t :: ys => if s = t then lcp xs ys + 1 else 0
  | _, _ => 0
/-- .. and at the end of what is left without these. -/
def lcs (xs ys : List Snd) : Nat := lcp (xs.drop (lcp xs ys)).reverse (ys.drop (lcp xs ys)).reverse
section
variable {xs ys : List Snd} {r k : Nat} {s t : Snd}
theorem lcp_eq (h : r = k + lcp (xs.drop k) (ys.drop k)) (h1 : xs[k]? = some s) (h2 : ys[k]? = some s) : r = (k + 1) + lcp (xs.drop (k + 1)) (ys.drop (k + 1)) := by
  rw [h, drop_at h1, drop_at h2, lcp, if_pos rfl]; omega
theorem lcp_ne (h : r = k + lcp (xs.drop k) (ys.drop k)) (h1 : xs[k]? = some s) (h2 : ys[k]? = some t) (hst : s ≠ t) : r = k := by
  rw [h, drop_at h1, drop_at h2, lcp, if_neg hst]; omega
theorem lcp_end (h : r = k + lcp (xs.drop k) (ys.drop k)) (h1 : ¬ k < xs.length ∨ ¬ k < ys.length) : r = k := by
  rw [h]; rcases h1 with h1 | h1
  · rw [List.drop_of_length_le (show xs.length ≤ k by omega)]; simp [lcp]
  · rw [List.drop_of_length_le (show ys.length ≤ k by omega)]
    cases xs.drop k <;> simp [lcp]
theorem lcp_le : ∀ xs ys : List Snd, lcp xs ys ≤ xs.length ∧ lcp xs ys ≤ ys.length
  | s :: xs, t :: ys => by
    have := lcp_le xs ys
    unfold lcp; split <;> simp <;> omega
  | [], _ => by simp [lcp]
  | _ :: _, [] => by simp [lcp]
/-- The place of a sound counted from the end. -/
theorem rev_at {α : Type} {xs : List α} {k j : Nat} {s : α} (hk : k + j < xs.length) (h : xs[xs.length - 1 - j]? = some s) : (xs.drop k).reverse[j]? = some s := by
  rw [List.getElem?_reverse (by simp; omega), List.getElem?_drop, ← h]; congr 1; simp; omega
end
/-- Two numbers. -/
theorem ret_two {k l : IntKind} {a b c d : Int} (h : a = c) (h' : b = d) : Ending.returned (.tuple #[.int k a, .int l b]) = .returned (.tuple #[.int k c, .int l d]) := by rw [h, h']
theorem lcs_start {xs ys : List Snd} {k : Nat} (h : lcp xs ys = k) : lcs xs ys = 0 + lcp ((xs.drop k).reverse.drop 0) ((ys.drop k).reverse.drop 0) := by
  rw [lcs, h]; simp
theorem common_any (a a' : Option Addr) (n cap n' cap' : Nat) (xs ys : List Snd) (w : World) (hr : RdS w a n cap xs) (hr' : RdS w a' n' cap' ys) (hn : n ≤ 60000) (hn' : n' ≤ 60000) :
    Calls Try.prog 19 #[.slice a n cap, .slice a' n' cap'] w fun e w' => e = .returned (.tuple #[.int .i64 (lcp xs ys), .int .i64 (lcs xs ys)]) ∧ Ext w w' := by
  have he := eql_snd
  by_cases hnn : n ≤ n'
  · go_enter Try.func19, Try.ntmps19
    go_wp2_with fail
    go_loopw [6] (fun i wr => ∃ k : Nat, k ≤ n ∧ i = .int .i64 k ∧ Ext w wr ∧ Hid (lcp xs ys = k + lcp (xs.drop k) (ys.drop k))) (fun i _ => n - (intOf i).toNat)
    case atStart => exact ⟨0, Nat.zero_le _, rfl, Ext.refl _, by simp [Hid]⟩
    case round =>
      obtain ⟨k, hk, rfl, hx, hall⟩ := hrel
      by_cases hlt : k < n
      · obtain ⟨b, off, s, rfl, hs, hb, hc0, hc1⟩ := (hr.ext hx).snd (show k < n by omega)
        obtain ⟨b', off', s', rfl, hs', hb', hc0', hc1'⟩ := (hr'.ext hx).snd (show k < n' by omega)
        by_cases hst : s = s'
        · subst hst
          go_wp2_with fail
          go_quiet (fail)
          go_wp2_with fail
          (first | exact ⟨⟨k + 1, by omega, by go_num, (by repeat (first | exact Ext.refl _ | assumption | refine Ext.drew ?_ | refine Ext.drewN ?_ _ | refine Ext.alloc ?_ _ | refine Ext.trans ?_ (by assumption))), lcp_eq hall hs hs'⟩, (by simp [intOf]; omega)⟩ | (go_roundw; case rel => exact ⟨k + 1, by omega, by go_num, (by repeat (first | exact Ext.refl _ | assumption | refine Ext.drew ?_ | refine Ext.drewN ?_ _ | refine Ext.alloc ?_ _ | refine Ext.trans ?_ (by assumption))), lcp_eq hall hs hs'⟩; case measure => exact (by simp [intOf]; omega)))
        · have hd : decide (s = s') = false := by simpa using hst
          have hkk : Hid (lcp xs ys = k) := lcp_ne hall hs hs' hst
          go_wp2_with fail
          go_quiet (fail)
          go_wp2_with fail
          clear hc0 hc1 hc0' hc1' hd hst
          go_loopw [8] (fun i wr => ∃ j : Nat, k + j ≤ n ∧ i = .int .i64 j ∧ Ext w wr ∧ Hid (lcs xs ys = j + lcp ((xs.drop k).reverse.drop j) ((ys.drop k).reverse.drop j))) (fun i _ => n - (intOf i).toNat)
          case atStart => exact ⟨0, by omega, rfl, (by repeat (first | exact Ext.refl _ | assumption | refine Ext.drew ?_ | refine Ext.drewN ?_ _ | refine Ext.alloc ?_ _ | refine Ext.trans ?_ (by assumption))), lcs_start hkk.out⟩
          case round =>
            obtain ⟨j, hj, rfl, hx2, hall2⟩ := hrel
            by_cases hlt2 : k + j < n
            · have hw1 : IntKind.i64.wrap ((k : Int) + j) = (k : Int) + j := IntWalk.i64_in _ (by omega)
              have hw2 : IntKind.i64.wrap ((n : Int) - 1) = (n : Int) - 1 := IntWalk.i64_in _ (by omega)
              have hw3 : IntKind.i64.wrap ((n : Int) - 1 - j) = (n : Int) - 1 - j := IntWalk.i64_in _ (by omega)
              have hw4 : IntKind.i64.wrap ((n' : Int) - 1) = (n' : Int) - 1 := IntWalk.i64_in _ (by omega)
              have hw5 : IntKind.i64.wrap ((n' : Int) - 1 - j) = (n' : Int) - 1 - j := IntWalk.i64_in _ (by omega)
              have hd2 : decide ((k : Int) + (j : Int) < (n : Int)) = true := by simp; omega
              obtain ⟨b, off, s, ha, hs, hb, hc0, hc1⟩ := (hr.ext hx2).snd (show n - 1 - j < n by omega)
              obtain ⟨b', off', s', ha', hs', hb', hc0', hc1'⟩ := (hr'.ext hx2).snd (show n' - 1 - j < n' by omega)
              cases ha
              cases ha'
              have hA : Hid ((xs.drop k).reverse[j]? = some s) := rev_at (by rw [hr.len]; omega) (by rw [hr.len]; exact hs)
              have hB : Hid ((ys.drop k).reverse[j]? = some s') := rev_at (by rw [hr'.len]; omega) (by rw [hr'.len]; exact hs')
              by_cases hst : s = s'
              · subst hst
                go_wp2_with fail
                go_quiet (fail)
                go_wp2_with fail
                (first | exact ⟨⟨j + 1, by omega, by go_num, (by repeat (first | exact Ext.refl _ | assumption | refine Ext.drew ?_ | refine Ext.drewN ?_ _ | refine Ext.alloc ?_ _ | refine Ext.trans ?_ (by assumption))), lcp_eq hall2 hA hB⟩, (by simp [intOf]; omega)⟩ | (go_roundw; case rel => exact ⟨j + 1, by omega, by go_num, (by repeat (first | exact Ext.refl _ | assumption | refine Ext.drew ?_ | refine Ext.drewN ?_ _ | refine Ext.alloc ?_ _ | refine Ext.trans ?_ (by assumption))), lcp_eq hall2 hA hB⟩; case measure => exact (by simp [intOf]; omega)))
              · have hd : decide (s = s') = false := by simpa using hst
                go_wp2_with fail
                go_quiet (fail)
                go_wp2_with fail
                go_ret2
                exact ⟨ret_two (by rw [hkk.out]) (by rw [lcp_ne hall2 hA hB hst]), (by repeat (first | exact Ext.refl _ | assumption | refine Ext.drew ?_ | refine Ext.drewN ?_ _ | refine Ext.alloc ?_ _ | refine Ext.trans ?_ (by assumption)))⟩
            · have hd : decide ((k : Int) + (j : Int) < (n : Int)) = false := by simp; omega
              have hw1 : IntKind.i64.wrap ((k : Int) + j) = (k : Int) + j := IntWalk.i64_in _ (by omega)
              have hend := Lib.hid (lcp_end hall2 (by simp [hr.len, hr'.len]; omega))
              go_wp2_with fail
              go_quiet (fail)
              go_wp2_with fail
              go_ret2
              exact ⟨ret_two (by rw [hkk.out]) (by rw [hend.out]), (by repeat (first | exact Ext.refl _ | assumption | refine Ext.drew ?_ | refine Ext.drewN ?_ _ | refine Ext.alloc ?_ _ | refine Ext.trans ?_ (by assumption)))⟩
      · have hd : decide (k < n) = false := by simpa using hlt
        have hkk : Hid (lcp xs ys = k) := lcp_end hall (by rw [hr.len, hr'.len]; omega)
        go_wp2_with fail
        go_quiet (fail)
        go_wp2_with fail
        clear hd
        go_loopw [8] (fun i wr => ∃ j : Nat, k + j ≤ n ∧ i = .int .i64 j ∧ Ext w wr ∧ Hid (lcs xs ys = j + lcp ((xs.drop k).reverse.drop j) ((ys.drop k).reverse.drop j))) (fun i _ => n - (intOf i).toNat)
        case atStart => exact ⟨0, by omega, rfl, (by repeat (first | exact Ext.refl _ | assumption | refine Ext.drew ?_ | refine Ext.drewN ?_ _ | refine Ext.alloc ?_ _ | refine Ext.trans ?_ (by assumption))), lcs_start hkk.out⟩
        case round =>
          obtain ⟨j, hj, rfl, hx2, hall2⟩ := hrel
          by_cases hlt2 : k + j < n
          · have hw1 : IntKind.i64.wrap ((k : Int) + j) = (k : Int) + j := IntWalk.i64_in _ (by omega)
            have hw2 : IntKind.i64.wrap ((n : Int) - 1) = (n : Int) - 1 := IntWalk.i64_in _ (by omega)
            have hw3 : IntKind.i64.wrap ((n : Int) - 1 - j) = (n : Int) - 1 - j := IntWalk.i64_in _ (by omega)
            have hw4 : IntKind.i64.wrap ((n' : Int) - 1) = (n' : Int) - 1 := IntWalk.i64_in _ (by omega)
            have hw5 : IntKind.i64.wrap ((n' : Int) - 1 - j) = (n' : Int) - 1 - j := IntWalk.i64_in _ (by omega)
            have hd2 : decide ((k : Int) + (j : Int) < (n : Int)) = true := by simp; omega
            obtain ⟨b, off, s, ha, hs, hb, hc0, hc1⟩ := (hr.ext hx2).snd (show n - 1 - j < n by omega)
            obtain ⟨b', off', s', ha', hs', hb', hc0', hc1'⟩ := (hr'.ext hx2).snd (show n' - 1 - j < n' by omega)
            cases ha
            cases ha'
            have hA : Hid ((xs.drop k).reverse[j]? = some s) := rev_at (by rw [hr.len]; omega) (by rw [hr.len]; exact hs)
            have hB : Hid ((ys.drop k).reverse[j]? = some s') := rev_at (by rw [hr'.len]; omega) (by rw [hr'.len]; exact hs')
            by_cases hst : s = s'
            · subst hst
              go_wp2_with fail
              go_quiet (fail)
              go_wp2_with fail
              (first | exact ⟨⟨j + 1, by omega, by go_num, (by repeat (first | exact Ext.refl _ | assumption | refine Ext.drew ?_ | refine Ext.drewN ?_ _ | refine Ext.alloc ?_ _ | refine Ext.trans ?_ (by assumption))), lcp_eq hall2 hA hB⟩, (by simp [intOf]; omega)⟩ | (go_roundw; case rel => exact ⟨j + 1, by omega, by go_num, (by repeat (first | exact Ext.refl _ | assumption | refine Ext.drew ?_ | refine Ext.drewN ?_ _ | refine Ext.alloc ?_ _ | refine Ext.trans ?_ (by assumption))), lcp_eq hall2 hA hB⟩; case measure => exact (by simp [intOf]; omega)))
            · have hd : decide (s = s') = false := by simpa using hst
              go_wp2_with fail
              go_quiet (fail)
              go_wp2_with fail
              go_ret2
              exact ⟨ret_two (by rw [hkk.out]) (by rw [lcp_ne hall2 hA hB hst]), (by repeat (first | exact Ext.refl _ | assumption | refine Ext.drew ?_ | refine Ext.drewN ?_ _ | refine Ext.alloc ?_ _ | refine Ext.trans ?_ (by assumption)))⟩
          · have hd : decide ((k : Int) + (j : Int) < (n : Int)) = false := by simp; omega
            have hw1 : IntKind.i64.wrap ((k : Int) + j) = (k : Int) + j := IntWalk.i64_in _ (by omega)
            have hend := Lib.hid (lcp_end hall2 (by simp [hr.len, hr'.len]; omega))
            go_wp2_with fail
            go_quiet (fail)
            go_wp2_with fail
            go_ret2
            exact ⟨ret_two (by rw [hkk.out]) (by rw [hend.out]), (by repeat (first | exact Ext.refl _ | assumption | refine Ext.drew ?_ | refine Ext.drewN ?_ _ | refine Ext.alloc ?_ _ | refine Ext.trans ?_ (by assumption)))⟩
  · go_enter Try.func19, Try.ntmps19
    go_wp2_with fail
    go_loopw [6] (fun i wr => ∃ k : Nat, k ≤ n' ∧ i = .int .i64 k ∧ Ext w wr ∧ Hid (lcp xs ys = k + lcp (xs.drop k) (ys.drop k))) (fun i _ => n' - (intOf i).toNat)
    case atStart => exact ⟨0, Nat.zero_le _, rfl, Ext.refl _, by simp [Hid]⟩
    case round =>
      obtain ⟨k, hk, rfl, hx, hall⟩ := hrel
      by_cases hlt : k < n'
      · obtain ⟨b, off, s, rfl, hs, hb, hc0, hc1⟩ := (hr.ext hx).snd (show k < n by omega)
        obtain ⟨b', off', s', rfl, hs', hb', hc0', hc1'⟩ := (hr'.ext hx).snd (show k < n' by omega)
        by_cases hst : s = s'
        · subst hst
          go_wp2_with fail
          go_quiet (fail)
          go_wp2_with fail
          (first | exact ⟨⟨k + 1, by omega, by go_num, (by repeat (first | exact Ext.refl _ | assumption | refine Ext.drew ?_ | refine Ext.drewN ?_ _ | refine Ext.alloc ?_ _ | refine Ext.trans ?_ (by assumption))), lcp_eq hall hs hs'⟩, (by simp [intOf]; omega)⟩ | (go_roundw; case rel => exact ⟨k + 1, by omega, by go_num, (by repeat (first | exact Ext.refl _ | assumption | refine Ext.drew ?_ | refine Ext.drewN ?_ _ | refine Ext.alloc ?_ _ | refine Ext.trans ?_ (by assumption))), lcp_eq hall hs hs'⟩; case measure => exact (by simp [intOf]; omega)))
        · have hd : decide (s = s') = false := by simpa using hst
          have hkk : Hid (lcp xs ys = k) := lcp_ne hall hs hs' hst
          go_wp2_with fail
          go_quiet (fail)
          go_wp2_with fail
          clear hc0 hc1 hc0' hc1' hd hst
          go_loopw [8] (fun i wr => ∃ j : Nat, k + j ≤ n' ∧ i = .int .i64 j ∧ Ext w wr ∧ Hid (lcs xs ys = j + lcp ((xs.drop k).reverse.drop j) ((ys.drop k).reverse.drop j))) (fun i _ => n' - (intOf i).toNat)
          case atStart => exact ⟨0, by omega, rfl, (by repeat (first | exact Ext.refl _ | assumption | refine Ext.drew ?_ | refine Ext.drewN ?_ _ | refine Ext.alloc ?_ _ | refine Ext.trans ?_ (by assumption))), lcs_start hkk.out⟩
          case round =>
            obtain ⟨j, hj, rfl, hx2, hall2⟩ := hrel
            by_cases hlt2 : k + j < n'
            · have hw1 : IntKind.i64.wrap ((k : Int) + j) = (k : Int) + j := IntWalk.i64_in _ (by omega)
              have hw2 : IntKind.i64.wrap ((n : Int) - 1) = (n : Int) - 1 := IntWalk.i64_in _ (by omega)
              have hw3 : IntKind.i64.wrap ((n : Int) - 1 - j) = (n : Int) - 1 - j := IntWalk.i64_in _ (by omega)
              have hw4 : IntKind.i64.wrap ((n' : Int) - 1) = (n' : Int) - 1 := IntWalk.i64_in _ (by omega)
              have hw5 : IntKind.i64.wrap ((n' : Int) - 1 - j) = (n' : Int) - 1 - j := IntWalk.i64_in _ (by omega)
              have hd2 : decide ((k : Int) + (j : Int) < (n' : Int)) = true := by simp; omega
              obtain ⟨b, off, s, ha, hs, hb, hc0, hc1⟩ := (hr.ext hx2).snd (show n - 1 - j < n by omega)
              obtain ⟨b', off', s', ha', hs', hb', hc0', hc1'⟩ := (hr'.ext hx2).snd (show n' - 1 - j < n' by omega)
              cases ha
              cases ha'
              have hA : Hid ((xs.drop k).reverse[j]? = some s) := rev_at (by rw [hr.len]; omega) (by rw [hr.len]; exact hs)
              have hB : Hid ((ys.drop k).reverse[j]? = some s') := rev_at (by rw [hr'.len]; omega) (by rw [hr'.len]; exact hs')
              by_cases hst : s = s'
              · subst hst
                go_wp2_with fail
                go_quiet (fail)
                go_wp2_with fail
                (first | exact ⟨⟨j + 1, by omega, by go_num, (by repeat (first | exact Ext.refl _ | assumption | refine Ext.drew ?_ | refine Ext.drewN ?_ _ | refine Ext.alloc ?_ _ | refine Ext.trans ?_ (by assumption))), lcp_eq hall2 hA hB⟩, (by simp [intOf]; omega)⟩ | (go_roundw; case rel => exact ⟨j + 1, by omega, by go_num, (by repeat (first | exact Ext.refl _ | assumption | refine Ext.drew ?_ | refine Ext.drewN ?_ _ | refine Ext.alloc ?_ _ | refine Ext.trans ?_ (by assumption))), lcp_eq hall2 hA hB⟩; case measure => exact (by simp [intOf]; omega)))
              · have hd : decide (s = s') = false := by simpa using hst
                go_wp2_with fail
                go_quiet (fail)
                go_wp2_with fail
                go_ret2
                exact ⟨ret_two (by rw [hkk.out]) (by rw [lcp_ne hall2 hA hB hst]), (by repeat (first | exact Ext.refl _ | assumption | refine Ext.drew ?_ | refine Ext.drewN ?_ _ | refine Ext.alloc ?_ _ | refine Ext.trans ?_ (by assumption)))⟩
            · have hd : decide ((k : Int) + (j : Int) < (n' : Int)) = false := by simp; omega
              have hw1 : IntKind.i64.wrap ((k : Int) + j) = (k : Int) + j := IntWalk.i64_in _ (by omega)
              have hend := Lib.hid (lcp_end hall2 (by simp [hr.len, hr'.len]; omega))
              go_wp2_with fail
              go_quiet (fail)
              go_wp2_with fail
              go_ret2
              exact ⟨ret_two (by rw [hkk.out]) (by rw [hend.out]), (by repeat (first | exact Ext.refl _ | assumption | refine Ext.drew ?_ | refine Ext.drewN ?_ _ | refine Ext.alloc ?_ _ | refine Ext.trans ?_ (by assumption)))⟩
      · have hd : decide (k < n') = false := by simpa using hlt
        have hkk : Hid (lcp xs ys = k) := lcp_end hall (by rw [hr.len, hr'.len]; omega)
        go_wp2_with fail
        go_quiet (fail)
        go_wp2_with fail
        clear hd
        go_loopw [8] (fun i wr => ∃ j : Nat, k + j ≤ n' ∧ i = .int .i64 j ∧ Ext w wr ∧ Hid (lcs xs ys = j + lcp ((xs.drop k).reverse.drop j) ((ys.drop k).reverse.drop j))) (fun i _ => n' - (intOf i).toNat)
        case atStart => exact ⟨0, by omega, rfl, (by repeat (first | exact Ext.refl _ | assumption | refine Ext.drew ?_ | refine Ext.drewN ?_ _ | refine Ext.alloc ?_ _ | refine Ext.trans ?_ (by assumption))), lcs_start hkk.out⟩
        case round =>
          obtain ⟨j, hj, rfl, hx2, hall2⟩ := hrel
          by_cases hlt2 : k + j < n'
          · have hw1 : IntKind.i64.wrap ((k : Int) + j) = (k : Int) + j := IntWalk.i64_in _ (by omega)
            have hw2 : IntKind.i64.wrap ((n : Int) - 1) = (n : Int) - 1 := IntWalk.i64_in _ (by omega)
            have hw3 : IntKind.i64.wrap ((n : Int) - 1 - j) = (n : Int) - 1 - j := IntWalk.i64_in _ (by omega)
            have hw4 : IntKind.i64.wrap ((n' : Int) - 1) = (n' : Int) - 1 := IntWalk.i64_in _ (by omega)
            have hw5 : IntKind.i64.wrap ((n' : Int) - 1 - j) = (n' : Int) - 1 - j := IntWalk.i64_in _ (by omega)
            have hd2 : decide ((k : Int) + (j : Int) < (n' : Int)) = true := by simp; omega
            obtain ⟨b, off, s, ha, hs, hb, hc0, hc1⟩ := (hr.ext hx2).snd (show n - 1 - j < n by omega)
            obtain ⟨b', off', s', ha', hs', hb', hc0', hc1'⟩ := (hr'.ext hx2).snd (show n' - 1 - j < n' by omega)
            cases ha
            cases ha'
            have hA : Hid ((xs.drop k).reverse[j]? = some s) := rev_at (by rw [hr.len]; omega) (by rw [hr.len]; exact hs)
            have hB : Hid ((ys.drop k).reverse[j]? = some s') := rev_at (by rw [hr'.len]; omega) (by rw [hr'.len]; exact hs')
            by_cases hst : s = s'
            · subst hst
              go_wp2_with fail
              go_quiet (fail)
              go_wp2_with fail
              (first | exact ⟨⟨j + 1, by omega, by go_num, (by repeat (first | exact Ext.refl _ | assumption | refine Ext.drew ?_ | refine Ext.drewN ?_ _ | refine Ext.alloc ?_ _ | refine Ext.trans ?_ (by assumption))), lcp_eq hall2 hA hB⟩, (by simp [intOf]; omega)⟩ | (go_roundw; case rel => exact ⟨j + 1, by omega, by go_num, (by repeat (first | exact Ext.refl _ | assumption | refine Ext.drew ?_ | refine Ext.drewN ?_ _ | refine Ext.alloc ?_ _ | refine Ext.trans ?_ (by assumption))), lcp_eq hall2 hA hB⟩; case measure => exact (by simp [intOf]; omega)))
            · have hd : decide (s = s') = false := by simpa using hst
              go_wp2_with fail
              go_quiet (fail)
              go_wp2_with fail
              go_ret2
              exact ⟨ret_two (by rw [hkk.out]) (by rw [lcp_ne hall2 hA hB hst]), (by repeat (first | exact Ext.refl _ | assumption | refine Ext.drew ?_ | refine Ext.drewN ?_ _ | refine Ext.alloc ?_ _ | refine Ext.trans ?_ (by assumption)))⟩
          · have hd : decide ((k : Int) + (j : Int) < (n' : Int)) = false := by simp; omega
            have hw1 : IntKind.i64.wrap ((k : Int) + j) = (k : Int) + j := IntWalk.i64_in _ (by omega)
            have hend := Lib.hid (lcp_end hall2 (by simp [hr.len, hr'.len]; omega))
            go_wp2_with fail
            go_quiet (fail)
            go_wp2_with fail
            go_ret2
            exact ⟨ret_two (by rw [hkk.out]) (by rw [hend.out]), (by repeat (first | exact Ext.refl _ | assumption | refine Ext.drew ?_ | refine Ext.drewN ?_ _ | refine Ext.alloc ?_ _ | refine Ext.trans ?_ (by assumption)))⟩
end Go.Proofs.Ytphfnmmdfnfnaaa
