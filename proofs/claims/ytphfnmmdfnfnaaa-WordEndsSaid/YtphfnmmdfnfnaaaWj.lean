/-
  Walks of layer 2: Common of the reference.
-/
import Derived.Test.YtphfnmmdfnfnaaaWi
namespace Go.Proofs.Ytphfnmmdfnfnaaa
open Go.RowKit
theorem rev_at2 {α : Type} {xs : List α} {k j : Nat} {s : α} (hk : k + j < xs.length) (h : (xs.drop k)[xs.length - k - 1 - j]? = some s) : (xs.drop k).reverse[j]? = some s := by
  rw [List.getElem?_reverse (by simp; omega), ← h]; congr 1; simp
theorem RdK.from {α : Type} {c : Nat} {enc : α → List Value} {w : World} {a : Option Addr} {n cap : Nat} {xs : List α} (h : RdK c enc w a n cap xs) {k : Nat} (h1 : k ≤ n) : RdK c enc w (subA c a cap k) (n - k) (cap - k) (xs.drop k) := by
  have := h.sub (l := k) (m := n) h1 (Nat.le_refl _)
  rwa [List.take_of_length_le (by rw [h.len]; exact Nat.le_refl _)] at this
theorem rcommon_any (a a' : Option Addr) (n cap n' cap' : Nat) (xs ys : List Snd) (w : World) (hr : RdS w a n cap xs) (hr' : RdS w a' n' cap' ys) (hn : n ≤ 60000) (hn' : n' ≤ 60000) :
    Calls Try.prog 20 #[.slice a n cap, .slice a' n' cap'] w fun e w' => e = .returned (.tuple #[.int .i64 (lcp xs ys), .int .i64 (lcs xs ys)]) ∧ Ext w w' := by
  have he := eql_snd
  go_enter Try.func20, Try.ntmps20
  go_wp2_with fail
  go_loopw [6] (fun i wr => ∃ k : Nat, k ≤ n ∧ k ≤ n' ∧ i = .int .i64 k ∧ Ext w wr ∧ Hid (lcp xs ys = k + lcp (xs.drop k) (ys.drop k))) (fun i _ => n - (intOf i).toNat)
  case atStart => exact ⟨0, Nat.zero_le _, Nat.zero_le _, rfl, Ext.refl _, by simp [Hid]⟩
  case round =>
    obtain ⟨k, hk, hk', rfl, hx, hall⟩ := hrel
    by_cases hlt : k < n
    · have hd1 : decide (k < n) = true := by simpa using hlt
      by_cases hlt' : k < n'
      · have hd2 : decide (k < n') = true := by simpa using hlt'
        obtain ⟨b, off, s, rfl, hs, hb, hc0, hc1⟩ := (hr.ext hx).snd hlt
        obtain ⟨b', off', s', rfl, hs', hb', hc0', hc1'⟩ := (hr'.ext hx).snd hlt'
        by_cases hst : s = s'
        · subst hst
          go_wp2_with fail
          go_quiet (fail)
          go_wp2_with fail
          (first | exact ⟨⟨k + 1, by omega, by omega, by go_num, (by repeat (first | exact Ext.refl _ | assumption | refine Ext.drew ?_ | refine Ext.drewN ?_ _ | refine Ext.alloc ?_ _ | refine Ext.trans ?_ (by assumption))), lcp_eq hall hs hs'⟩, (by simp [intOf]; omega)⟩ | (go_roundw; case rel => exact ⟨k + 1, by omega, by omega, by go_num, (by repeat (first | exact Ext.refl _ | assumption | refine Ext.drew ?_ | refine Ext.drewN ?_ _ | refine Ext.alloc ?_ _ | refine Ext.trans ?_ (by assumption))), lcp_eq hall hs hs'⟩; case measure => exact (by simp [intOf]; omega)))
        · have hd : decide (s = s') = false := by simpa using hst
          have hkk : Hid (lcp xs ys = k) := lcp_ne hall hs hs' hst
          go_wp2_with fail
          go_quiet (fail)
          go_wp2_with fail
          clear hc0 hc1 hc0' hc1' hd hst
          have hsl := run_sub_l (P := Try.prog) elem_snds size_snds (some ⟨b, off, none⟩) n cap k (by omega)
          have hsl' := run_sub_l (P := Try.prog) elem_snds size_snds (some ⟨b', off', none⟩) n' cap' k (by omega)
          have hsub := hr.from (k := k) (by omega)
          have hsub' := hr'.from (k := k) (by omega)
          revert hsl hsl' hsub hsub'
          generalize subA 2 (some ⟨b, off, none⟩) cap k = ax
          generalize subA 2 (some ⟨b', off', none⟩) cap' k = ax'
          intro hsl hsl' hsub hsub'
          go_quiet (fail)
          go_wp2_with fail
          go_loopw [9] (fun i wr => ∃ j : Nat, k + j ≤ n ∧ k + j ≤ n' ∧ i = .int .i64 j ∧ Ext w wr ∧ Hid (lcs xs ys = j + lcp ((xs.drop k).reverse.drop j) ((ys.drop k).reverse.drop j))) (fun i _ => n - (intOf i).toNat)
          case atStart => exact ⟨0, by omega, by omega, rfl, (by repeat (first | exact Ext.refl _ | assumption | refine Ext.drew ?_ | refine Ext.drewN ?_ _ | refine Ext.alloc ?_ _ | refine Ext.trans ?_ (by assumption))), lcs_start hkk.out⟩
          case round =>
            obtain ⟨j, hj, hj', rfl, hx2, hall2⟩ := hrel
            by_cases hlt2 : k + j < n
            · have hd1 : decide (j < n - k) = true := by simp; omega
              by_cases hlt3 : k + j < n'
              · have hd2 : decide (j < n' - k) = true := by simp; omega
                have hw2 : IntKind.i64.wrap (((n - k : Nat) : Int) - 1) = ((n - k : Nat) : Int) - 1 := IntWalk.i64_in _ (by omega)
                have hw3 : IntKind.i64.wrap (((n - k : Nat) : Int) - 1 - j) = ((n - k : Nat) : Int) - 1 - j := IntWalk.i64_in _ (by omega)
                have hw4 : IntKind.i64.wrap (((n' - k : Nat) : Int) - 1) = ((n' - k : Nat) : Int) - 1 := IntWalk.i64_in _ (by omega)
                have hw5 : IntKind.i64.wrap (((n' - k : Nat) : Int) - 1 - j) = ((n' - k : Nat) : Int) - 1 - j := IntWalk.i64_in _ (by omega)
                obtain ⟨b, off, s, ha, hs, hb, hc0, hc1⟩ := (hsub.ext hx2).snd (show n - k - 1 - j < n - k by omega)
                obtain ⟨b', off', s', ha', hs', hb', hc0', hc1'⟩ := (hsub'.ext hx2).snd (show n' - k - 1 - j < n' - k by omega)
                cases ha
                cases ha'
                have hA : Hid ((xs.drop k).reverse[j]? = some s) := rev_at2 (by rw [hr.len]; omega) (by rw [hr.len]; exact hs)
                have hB : Hid ((ys.drop k).reverse[j]? = some s') := rev_at2 (by rw [hr'.len]; omega) (by rw [hr'.len]; exact hs')
                by_cases hst : s = s'
                · subst hst
                  go_wp2_with fail
                  go_quiet (fail)
                  go_wp2_with fail
                  (first | exact ⟨⟨j + 1, by omega, by omega, by go_num, (by repeat (first | exact Ext.refl _ | assumption | refine Ext.drew ?_ | refine Ext.drewN ?_ _ | refine Ext.alloc ?_ _ | refine Ext.trans ?_ (by assumption))), lcp_eq hall2 hA hB⟩, (by simp [intOf]; omega)⟩ | (go_roundw; case rel => exact ⟨j + 1, by omega, by omega, by go_num, (by repeat (first | exact Ext.refl _ | assumption | refine Ext.drew ?_ | refine Ext.drewN ?_ _ | refine Ext.alloc ?_ _ | refine Ext.trans ?_ (by assumption))), lcp_eq hall2 hA hB⟩; case measure => exact (by simp [intOf]; omega)))
                · have hd : decide (s = s') = false := by simpa using hst
                  go_wp2_with fail
                  go_quiet (fail)
                  go_wp2_with fail
                  go_ret2
                  exact ⟨ret_two (by rw [hkk.out]) (by rw [lcp_ne hall2 hA hB hst]), (by repeat (first | exact Ext.refl _ | assumption | refine Ext.drew ?_ | refine Ext.drewN ?_ _ | refine Ext.alloc ?_ _ | refine Ext.trans ?_ (by assumption)))⟩
              · have hd : decide (j < n' - k) = false := by simp; omega
                have hend := Lib.hid (lcp_end hall2 (by simp [hr.len, hr'.len]; omega))
                go_wp2_with fail
                go_quiet (fail)
                go_wp2_with fail
                go_ret2
                exact ⟨ret_two (by rw [hkk.out]) (by rw [hend.out]), (by repeat (first | exact Ext.refl _ | assumption | refine Ext.drew ?_ | refine Ext.drewN ?_ _ | refine Ext.alloc ?_ _ | refine Ext.trans ?_ (by assumption)))⟩
            · have hd : decide (j < n - k) = false := by simp; omega
              have hend := Lib.hid (lcp_end hall2 (by simp [hr.len, hr'.len]; omega))
              go_wp2_with fail
              go_quiet (fail)
              go_wp2_with fail
              go_ret2
              exact ⟨ret_two (by rw [hkk.out]) (by rw [hend.out]), (by repeat (first | exact Ext.refl _ | assumption | refine Ext.drew ?_ | refine Ext.drewN ?_ _ | refine Ext.alloc ?_ _ | refine Ext.trans ?_ (by assumption)))⟩
      · have hd : decide (k < n') = false := by simpa using hlt'
        have hkk : Hid (lcp xs ys = k) := lcp_end hall (by rw [hr.len, hr'.len]; omega)
        go_wp2_with fail
        go_quiet (fail)
        go_wp2_with fail
        clear hd
        have hsl := run_sub_l (P := Try.prog) elem_snds size_snds (a) n cap k (by omega)
        have hsl' := run_sub_l (P := Try.prog) elem_snds size_snds (a') n' cap' k (by omega)
        have hsub := hr.from (k := k) (by omega)
        have hsub' := hr'.from (k := k) (by omega)
        revert hsl hsl' hsub hsub'
        generalize subA 2 (a) cap k = ax
        generalize subA 2 (a') cap' k = ax'
        intro hsl hsl' hsub hsub'
        go_quiet (fail)
        go_wp2_with fail
        go_loopw [9] (fun i wr => ∃ j : Nat, k + j ≤ n ∧ k + j ≤ n' ∧ i = .int .i64 j ∧ Ext w wr ∧ Hid (lcs xs ys = j + lcp ((xs.drop k).reverse.drop j) ((ys.drop k).reverse.drop j))) (fun i _ => n - (intOf i).toNat)
        case atStart => exact ⟨0, by omega, by omega, rfl, (by repeat (first | exact Ext.refl _ | assumption | refine Ext.drew ?_ | refine Ext.drewN ?_ _ | refine Ext.alloc ?_ _ | refine Ext.trans ?_ (by assumption))), lcs_start hkk.out⟩
        case round =>
          obtain ⟨j, hj, hj', rfl, hx2, hall2⟩ := hrel
          by_cases hlt2 : k + j < n
          · have hd1 : decide (j < n - k) = true := by simp; omega
            by_cases hlt3 : k + j < n'
            · have hd2 : decide (j < n' - k) = true := by simp; omega
              have hw2 : IntKind.i64.wrap (((n - k : Nat) : Int) - 1) = ((n - k : Nat) : Int) - 1 := IntWalk.i64_in _ (by omega)
              have hw3 : IntKind.i64.wrap (((n - k : Nat) : Int) - 1 - j) = ((n - k : Nat) : Int) - 1 - j := IntWalk.i64_in _ (by omega)
              have hw4 : IntKind.i64.wrap (((n' - k : Nat) : Int) - 1) = ((n' - k : Nat) : Int) - 1 := IntWalk.i64_in _ (by omega)
              have hw5 : IntKind.i64.wrap (((n' - k : Nat) : Int) - 1 - j) = ((n' - k : Nat) : Int) - 1 - j := IntWalk.i64_in _ (by omega)
              obtain ⟨b, off, s, ha, hs, hb, hc0, hc1⟩ := (hsub.ext hx2).snd (show n - k - 1 - j < n - k by omega)
              obtain ⟨b', off', s', ha', hs', hb', hc0', hc1'⟩ := (hsub'.ext hx2).snd (show n' - k - 1 - j < n' - k by omega)
              cases ha
              cases ha'
              have hA : Hid ((xs.drop k).reverse[j]? = some s) := rev_at2 (by rw [hr.len]; omega) (by rw [hr.len]; exact hs)
              have hB : Hid ((ys.drop k).reverse[j]? = some s') := rev_at2 (by rw [hr'.len]; omega) (by rw [hr'.len]; exact hs')
              by_cases hst : s = s'
              · subst hst
                go_wp2_with fail
                go_quiet (fail)
                go_wp2_with fail
                (first | exact ⟨⟨j + 1, by omega, by omega, by go_num, (by repeat (first | exact Ext.refl _ | assumption | refine Ext.drew ?_ | refine Ext.drewN ?_ _ | refine Ext.alloc ?_ _ | refine Ext.trans ?_ (by assumption))), lcp_eq hall2 hA hB⟩, (by simp [intOf]; omega)⟩ | (go_roundw; case rel => exact ⟨j + 1, by omega, by omega, by go_num, (by repeat (first | exact Ext.refl _ | assumption | refine Ext.drew ?_ | refine Ext.drewN ?_ _ | refine Ext.alloc ?_ _ | refine Ext.trans ?_ (by assumption))), lcp_eq hall2 hA hB⟩; case measure => exact (by simp [intOf]; omega)))
              · have hd : decide (s = s') = false := by simpa using hst
                go_wp2_with fail
                go_quiet (fail)
                go_wp2_with fail
                go_ret2
                exact ⟨ret_two (by rw [hkk.out]) (by rw [lcp_ne hall2 hA hB hst]), (by repeat (first | exact Ext.refl _ | assumption | refine Ext.drew ?_ | refine Ext.drewN ?_ _ | refine Ext.alloc ?_ _ | refine Ext.trans ?_ (by assumption)))⟩
            · have hd : decide (j < n' - k) = false := by simp; omega
              have hend := Lib.hid (lcp_end hall2 (by simp [hr.len, hr'.len]; omega))
              go_wp2_with fail
              go_quiet (fail)
              go_wp2_with fail
              go_ret2
              exact ⟨ret_two (by rw [hkk.out]) (by rw [hend.out]), (by repeat (first | exact Ext.refl _ | assumption | refine Ext.drew ?_ | refine Ext.drewN ?_ _ | refine Ext.alloc ?_ _ | refine Ext.trans ?_ (by assumption)))⟩
          · have hd : decide (j < n - k) = false := by simp; omega
            have hend := Lib.hid (lcp_end hall2 (by simp [hr.len, hr'.len]; omega))
            go_wp2_with fail
            go_quiet (fail)
            go_wp2_with fail
            go_ret2
            exact ⟨ret_two (by rw [hkk.out]) (by rw [hend.out]), (by repeat (first | exact Ext.refl _ | assumption | refine Ext.drew ?_ | refine Ext.drewN ?_ _ | refine Ext.alloc ?_ _ | refine Ext.trans ?_ (by assumption)))⟩
    · have hd : decide (k < n) = false := by simpa using hlt
      have hkk : Hid (lcp xs ys = k) := lcp_end hall (by rw [hr.len, hr'.len]; omega)
      go_wp2_with fail
      go_quiet (fail)
      go_wp2_with fail
      clear hd
      have hsl := run_sub_l (P := Try.prog) elem_snds size_snds (a) n cap k (by omega)
      have hsl' := run_sub_l (P := Try.prog) elem_snds size_snds (a') n' cap' k (by omega)
      have hsub := hr.from (k := k) (by omega)
      have hsub' := hr'.from (k := k) (by omega)
      revert hsl hsl' hsub hsub'
      generalize subA 2 (a) cap k = ax
      generalize subA 2 (a') cap' k = ax'
      intro hsl hsl' hsub hsub'
      go_quiet (fail)
      go_wp2_with fail
      go_loopw [9] (fun i wr => ∃ j : Nat, k + j ≤ n ∧ k + j ≤ n' ∧ i = .int .i64 j ∧ Ext w wr ∧ Hid (lcs xs ys = j + lcp ((xs.drop k).reverse.drop j) ((ys.drop k).reverse.drop j))) (fun i _ => n - (intOf i).toNat)
      case atStart => exact ⟨0, by omega, by omega, rfl, (by repeat (first | exact Ext.refl _ | assumption | refine Ext.drew ?_ | refine Ext.drewN ?_ _ | refine Ext.alloc ?_ _ | refine Ext.trans ?_ (by assumption))), lcs_start hkk.out⟩
      case round =>
        obtain ⟨j, hj, hj', rfl, hx2, hall2⟩ := hrel
        by_cases hlt2 : k + j < n
        · have hd1 : decide (j < n - k) = true := by simp; omega
          by_cases hlt3 : k + j < n'
          · have hd2 : decide (j < n' - k) = true := by simp; omega
            have hw2 : IntKind.i64.wrap (((n - k : Nat) : Int) - 1) = ((n - k : Nat) : Int) - 1 := IntWalk.i64_in _ (by omega)
            have hw3 : IntKind.i64.wrap (((n - k : Nat) : Int) - 1 - j) = ((n - k : Nat) : Int) - 1 - j := IntWalk.i64_in _ (by omega)
            have hw4 : IntKind.i64.wrap (((n' - k : Nat) : Int) - 1) = ((n' - k : Nat) : Int) - 1 := IntWalk.i64_in _ (by omega)
            have hw5 : IntKind.i64.wrap (((n' - k : Nat) : Int) - 1 - j) = ((n' - k : Nat) : Int) - 1 - j := IntWalk.i64_in _ (by omega)
            obtain ⟨b, off, s, ha, hs, hb, hc0, hc1⟩ := (hsub.ext hx2).snd (show n - k - 1 - j < n - k by omega)
            obtain ⟨b', off', s', ha', hs', hb', hc0', hc1'⟩ := (hsub'.ext hx2).snd (show n' - k - 1 - j < n' - k by omega)
            cases ha
            cases ha'
            have hA : Hid ((xs.drop k).reverse[j]? = some s) := rev_at2 (by rw [hr.len]; omega) (by rw [hr.len]; exact hs)
            have hB : Hid ((ys.drop k).reverse[j]? = some s') := rev_at2 (by rw [hr'.len]; omega) (by rw [hr'.len]; exact hs')
            by_cases hst : s = s'
            · subst hst
              go_wp2_with fail
              go_quiet (fail)
              go_wp2_with fail
              (first | exact ⟨⟨j + 1, by omega, by omega, by go_num, (by repeat (first | exact Ext.refl _ | assumption | refine Ext.drew ?_ | refine Ext.drewN ?_ _ | refine Ext.alloc ?_ _ | refine Ext.trans ?_ (by assumption))), lcp_eq hall2 hA hB⟩, (by simp [intOf]; omega)⟩ | (go_roundw; case rel => exact ⟨j + 1, by omega, by omega, by go_num, (by repeat (first | exact Ext.refl _ | assumption | refine Ext.drew ?_ | refine Ext.drewN ?_ _ | refine Ext.alloc ?_ _ | refine Ext.trans ?_ (by assumption))), lcp_eq hall2 hA hB⟩; case measure => exact (by simp [intOf]; omega)))
            · have hd : decide (s = s') = false := by simpa using hst
              go_wp2_with fail
              go_quiet (fail)
              go_wp2_with fail
              go_ret2
              exact ⟨ret_two (by rw [hkk.out]) (by rw [lcp_ne hall2 hA hB hst]), (by repeat (first | exact Ext.refl _ | assumption | refine Ext.drew ?_ | refine Ext.drewN ?_ _ | refine Ext.alloc ?_ _ | refine Ext.trans ?_ (by assumption)))⟩
          · have hd : decide (j < n' - k) = false := by simp; omega
            have hend := Lib.hid (lcp_end hall2 (by simp [hr.len, hr'.len]; omega))
            go_wp2_with fail
            go_quiet (fail)
            go_wp2_with fail
            go_ret2
            exact ⟨ret_two (by rw [hkk.out]) (by rw [hend.out]), (by repeat (first | exact Ext.refl _ | assumption | refine Ext.drew ?_ | refine Ext.drewN ?_ _ | refine Ext.alloc ?_ _ | refine Ext.trans ?_ (by assumption)))⟩
        · have hd : decide (j < n - k) = false := by simp; omega
          have hend := Lib.hid (lcp_end hall2 (by simp [hr.len, hr'.len]; omega))
          go_wp2_with fail
          go_quiet (fail)
          go_wp2_with fail
          go_ret2
          exact ⟨ret_two (by rw [hkk.out]) (by rw [hend.out]), (by repeat (first | exact Ext.refl _ | assumption | refine Ext.drew ?_ | refine Ext.drewN ?_ _ | refine Ext.alloc ?_ _ | refine Ext.trans ?_ (by assumption)))⟩
end Go.Proofs.Ytphfnmmdfnfnaaa
