/-
  The statement WordFinds: the walk.
-/
import Derived.Test.YtphfnmmdfnfnaaaWr
import Derived.Test.YtphfnmmdfnfnaaaWs
import Derived.RegionTactic
namespace Go.Proofs.Ytphfnmmdfnfnaaa
open Go.RowKit
theorem findW_spec (xs ys : List Snd) : (findW xs ys = -1 ∧ ∀ i, i + ys.length ≤ xs.length → (xs.drop i).take ys.length ≠ ys) ∨
    ∃ k : Nat, findW xs ys = k ∧ k + ys.length ≤ xs.length ∧ (xs.drop k).take ys.length = ys ∧ ∀ j, j < k → (xs.drop j).take ys.length ≠ ys := by
  unfold findW
  split
  · rename_i k hk
    rw [List.find?_range_eq_some] at hk
    obtain ⟨h1, h2, h3⟩ := hk
    refine .inr ⟨k, rfl, by have := List.mem_range.1 h2; omega, by simpa using h1, fun j hj => by simpa using h3 j hj⟩
  · rename_i hk
    rw [List.find?_eq_none] at hk
    refine .inl ⟨rfl, fun i hi => by simpa using hk i (List.mem_range.2 (by omega))⟩
theorem findW_part {xs : List Snd} {a b : Nat} (h1 : a ≤ b) (h2 : b ≤ xs.length) : 0 ≤ findW xs ((xs.take b).drop a) ∧ findW xs ((xs.take b).drop a) ≤ a := by
  have hl : ((xs.take b).drop a).length = b - a := by simp; omega
  have hm : (xs.drop a).take ((xs.take b).drop a).length = (xs.take b).drop a := by rw [hl, List.drop_take]
  rcases findW_spec xs ((xs.take b).drop a) with ⟨_, h⟩ | ⟨k, h, _, _, h4⟩
  · exact absurd hm (h a (by rw [hl]; omega))
  · rw [h]; refine ⟨by omega, ?_⟩
    rcases Nat.lt_or_ge a k with hk | hk
    · exact absurd hm (h4 a hk)
    · omega
theorem sub_drop_take (xs : List Snd) (a n : Nat) : ((xs.drop a).take n).Sublist xs := (List.take_sublist _ _).trans (List.drop_sublist _ _)
theorem sub_take_drop (xs : List Snd) (a b : Nat) : ((xs.take b).drop a).Sublist xs := (List.drop_sublist _ _).trans (List.take_sublist _ _)
theorem rem_nat (p n : Nat) : ∃ A : Nat, (p : Int) % ((n : Int) + 1) = (A : Int) ∧ A ≤ n := by
  refine ⟨p % (n + 1), by norm_cast, ?_⟩
  have := Nat.mod_lt p (show 0 < n + 1 by omega); omega
set_option maxHeartbeats 4000000 in
theorem wordFinds_any (a0 : Option Addr) (n0 c0 : Nat) (x0 : List Snd) (a1 : Option Addr) (n1 c1 : Nat) (x1 : List Snd) (p q : Nat) (w : World) (h0 : RdS w a0 n0 c0 x0) (h1 : RdS w a1 n1 c1 x1) (_ : p < 256) (_ : q < 256) :
    Calls Try.prog 7 #[.slice a0 n0 c0, .slice a1 n1 c1, .int .u8 p, .int .u8 q] w fun e w' => e = .returned (.bool true) ∧ Ext w w' := by
  by_cases l0 : n0 ≤ 100
  · have e0 : decide ((100 : Int) < n0) = false := by simp; omega
    by_cases l1 : n1 ≤ 100
    · have e1 : decide ((100 : Int) < n1) = false := by simp; omega
      rcases findW_spec x0 x1 with ⟨hf, hn⟩ | ⟨k, hf, hk, hm, hn⟩
      · rw [h0.len, h1.len] at hn
        replace hf := Lib.hid hf
        go_enter Try.func7, Try.ntmps7
        go_wp2_with fail
        refine (cint (find_any _ _ _ _ _ _ _ _ _ h0 h1 (by omega) (by omega)) hf.out).mono ?_
        rintro e wb ⟨rfl, hxb⟩
        go_wp2_with fail
        go_loopw [10] (fun i wr => ∃ j : Nat, j ≤ n0 + 1 ∧ i = .int .i64 j ∧ Ext w wr) (fun i _ => n0 + 1 - (intOf i).toNat)
        case atStart => exact ⟨0, Nat.zero_le _, rfl, hxb⟩
        case round =>
          obtain ⟨j, hj, rfl, hx⟩ := hrel
          by_cases hjn : j + n1 ≤ n0
          · have hsl := run_sub_km (P := Try.prog) elem_snds size_snds a0 n0 c0 j n1 (by have := h0.le; omega)
            have hsub := h0.sub_km hjn
            have hd : decide ((x0.drop j).take n1 = x1) = false := by simpa using hn j hjn
            have hjk : ((j : Int) == -1) = false := by rw [beq_eq_false_iff_ne]; omega
            go_wp2_with fail
            refine (cbool (lsame_any _ _ _ _ _ _ _ _ _ (hsub.ext (by repeat (first | exact Ext.refl _ | assumption | refine Ext.drew ?_ | refine Ext.drewN ?_ _ | refine Ext.alloc ?_ _ | refine Ext.trans ?_ (by assumption)))) (h1.ext (by repeat (first | exact Ext.refl _ | assumption | refine Ext.drew ?_ | refine Ext.drewN ?_ _ | refine Ext.alloc ?_ _ | refine Ext.trans ?_ (by assumption))))) hd).mono ?_
            rintro e w1 ⟨rfl, _⟩
            go_wp2_with fail
            (first | exact ⟨⟨j + 1, by omega, by go_num, (by repeat (first | exact Ext.refl _ | assumption | refine Ext.drew ?_ | refine Ext.drewN ?_ _ | refine Ext.alloc ?_ _ | refine Ext.trans ?_ (by assumption)))⟩, (by simp [intOf]; omega)⟩ | (go_roundw; case rel => exact ⟨j + 1, by omega, by go_num, (by repeat (first | exact Ext.refl _ | assumption | refine Ext.drew ?_ | refine Ext.drewN ?_ _ | refine Ext.alloc ?_ _ | refine Ext.trans ?_ (by assumption)))⟩; case measure => exact (by simp [intOf]; omega)))
          · go_wp2_with fail
            have hw1 : IntKind.i64.wrap ((n0 : Int) + 1) = ((n0 + 1 : Nat) : Int) := IntWalk.i64_in _ (by omega)
            go_quiet (fail)
            clear hw1
            obtain ⟨A, hA, hA'⟩ := rem_nat p n0
            obtain ⟨B, hB, hB'⟩ := rem_nat q n0
            rw [hA, hB]
            have hxq : Ext wr (wr.drewN nq) := (Ext.refl wr).drewN nq
            generalize wr.drewN nq = wq at hxq ⊢
            clear hA hB
            by_cases hAB0 : A ≤ B
            · have hlt : decide ((B : Int) < (A : Int)) = false := by simp; omega
              have hAB : A ≤ B := by omega
              have hBn : B ≤ n0 := by omega
              have hs1 := run_sub_lh (P := Try.prog) elem_snds size_snds a0 n0 c0 (A) (B) hAB (by have := h0.le; omega)
              have hsb := h0.sub hAB hBn
              have hfp := findW_part hAB (by rw [h0.len]; exact hBn)
              have z1 : decide (0 ≤ findW x0 ((x0.take (B)).drop (A))) = true := by simpa using hfp.1
              have z2 : decide (findW x0 ((x0.take (B)).drop (A)) ≤ ((A : Nat) : Int)) = true := by simpa using hfp.2
              have z3 := insideW_yes (sub_take_drop x0 (A) (B))
              clear hfp
              go_wp2_with fail
              refine (find_any _ _ _ _ _ _ _ _ _ (h0.ext (by repeat (first | exact Ext.refl _ | assumption | refine Ext.drew ?_ | refine Ext.drewN ?_ _ | refine Ext.alloc ?_ _ | refine Ext.trans ?_ (by assumption)))) (hsb.ext (by repeat (first | exact Ext.refl _ | assumption | refine Ext.drew ?_ | refine Ext.drewN ?_ _ | refine Ext.alloc ?_ _ | refine Ext.trans ?_ (by assumption)))) (by omega) (by omega)).mono ?_
              rintro e w1 ⟨rfl, _⟩
              go_wp2_with fail
              refine (cbool (inside_any _ _ _ _ _ _ _ _ _ (hsb.ext (by repeat (first | exact Ext.refl _ | assumption | refine Ext.drew ?_ | refine Ext.drewN ?_ _ | refine Ext.alloc ?_ _ | refine Ext.trans ?_ (by assumption)))) (h0.ext (by repeat (first | exact Ext.refl _ | assumption | refine Ext.drew ?_ | refine Ext.drewN ?_ _ | refine Ext.alloc ?_ _ | refine Ext.trans ?_ (by assumption)))) (by omega) (by omega)) z3).mono ?_
              rintro e w1 ⟨rfl, _⟩
              go_wp2_with fail
              skip
              refine (works_any _).mono ?_
              rintro e wz ⟨rfl, _⟩
              go_wp2_with fail
              go_ret
              exact ⟨rfl, (by repeat (first | exact Ext.refl _ | assumption | refine Ext.drew ?_ | refine Ext.drewN ?_ _ | refine Ext.alloc ?_ _ | refine Ext.trans ?_ (by assumption)))⟩
            · have hlt : decide ((B : Int) < (A : Int)) = true := by simp; omega
              have hAB : B ≤ A := by omega
              have hBn : A ≤ n0 := by omega
              have hs1 := run_sub_lh (P := Try.prog) elem_snds size_snds a0 n0 c0 (B) (A) hAB (by have := h0.le; omega)
              have hsb := h0.sub hAB hBn
              have hfp := findW_part hAB (by rw [h0.len]; exact hBn)
              have z1 : decide (0 ≤ findW x0 ((x0.take (A)).drop (B))) = true := by simpa using hfp.1
              have z2 : decide (findW x0 ((x0.take (A)).drop (B)) ≤ ((B : Nat) : Int)) = true := by simpa using hfp.2
              have z3 := insideW_yes (sub_take_drop x0 (B) (A))
              clear hfp
              go_wp2_with fail
              refine (find_any _ _ _ _ _ _ _ _ _ (h0.ext (by repeat (first | exact Ext.refl _ | assumption | refine Ext.drew ?_ | refine Ext.drewN ?_ _ | refine Ext.alloc ?_ _ | refine Ext.trans ?_ (by assumption)))) (hsb.ext (by repeat (first | exact Ext.refl _ | assumption | refine Ext.drew ?_ | refine Ext.drewN ?_ _ | refine Ext.alloc ?_ _ | refine Ext.trans ?_ (by assumption)))) (by omega) (by omega)).mono ?_
              rintro e w1 ⟨rfl, _⟩
              go_wp2_with fail
              refine (cbool (inside_any _ _ _ _ _ _ _ _ _ (hsb.ext (by repeat (first | exact Ext.refl _ | assumption | refine Ext.drew ?_ | refine Ext.drewN ?_ _ | refine Ext.alloc ?_ _ | refine Ext.trans ?_ (by assumption)))) (h0.ext (by repeat (first | exact Ext.refl _ | assumption | refine Ext.drew ?_ | refine Ext.drewN ?_ _ | refine Ext.alloc ?_ _ | refine Ext.trans ?_ (by assumption)))) (by omega) (by omega)) z3).mono ?_
              rintro e w1 ⟨rfl, _⟩
              go_wp2_with fail
              skip
              refine (works_any _).mono ?_
              rintro e wz ⟨rfl, _⟩
              go_wp2_with fail
              go_ret
              exact ⟨rfl, (by repeat (first | exact Ext.refl _ | assumption | refine Ext.drew ?_ | refine Ext.drewN ?_ _ | refine Ext.alloc ?_ _ | refine Ext.trans ?_ (by assumption)))⟩
      · have hk' : k + n1 ≤ n0 := by rw [h0.len, h1.len] at hk; exact hk
        have hk0 : decide ((n0 : Int) < (k : Int) + n1) = false := by simp; omega
        rw [h1.len] at hm hn
        replace hf := Lib.hid hf
        go_enter Try.func7, Try.ntmps7
        go_wp2_with fail
        refine (cint (find_any _ _ _ _ _ _ _ _ _ h0 h1 (by omega) (by omega)) hf.out).mono ?_
        rintro e wb ⟨rfl, hxb⟩
        go_wp2_with fail
        go_loopw [10] (fun i wr => ∃ j : Nat, j ≤ n0 + 1 ∧ i = .int .i64 j ∧ Ext w wr) (fun i _ => n0 + 1 - (intOf i).toNat)
        case atStart => exact ⟨0, Nat.zero_le _, rfl, hxb⟩
        case round =>
          obtain ⟨j, hj, rfl, hx⟩ := hrel
          by_cases hjn : j + n1 ≤ n0
          · have hsl := run_sub_km (P := Try.prog) elem_snds size_snds a0 n0 c0 j n1 (by have := h0.le; omega)
            have hsub := h0.sub_km hjn
            cases hd : decide ((x0.drop j).take n1 = x1)
            · have hjk : ((j : Int) == (k : Int)) = false := by
                have : j ≠ k := by rintro rfl; simp [hm] at hd
                simp; omega
              go_wp2_with fail
              refine (cbool (lsame_any _ _ _ _ _ _ _ _ _ (hsub.ext (by repeat (first | exact Ext.refl _ | assumption | refine Ext.drew ?_ | refine Ext.drewN ?_ _ | refine Ext.alloc ?_ _ | refine Ext.trans ?_ (by assumption)))) (h1.ext (by repeat (first | exact Ext.refl _ | assumption | refine Ext.drew ?_ | refine Ext.drewN ?_ _ | refine Ext.alloc ?_ _ | refine Ext.trans ?_ (by assumption))))) hd).mono ?_
              rintro e w1 ⟨rfl, _⟩
              go_wp2_with fail
              (first | exact ⟨⟨j + 1, by omega, by go_num, (by repeat (first | exact Ext.refl _ | assumption | refine Ext.drew ?_ | refine Ext.drewN ?_ _ | refine Ext.alloc ?_ _ | refine Ext.trans ?_ (by assumption)))⟩, (by simp [intOf]; omega)⟩ | (go_roundw; case rel => exact ⟨j + 1, by omega, by go_num, (by repeat (first | exact Ext.refl _ | assumption | refine Ext.drew ?_ | refine Ext.drewN ?_ _ | refine Ext.alloc ?_ _ | refine Ext.trans ?_ (by assumption)))⟩; case measure => exact (by simp [intOf]; omega)))
            · have hjk : ¬ j < k := fun h => by have := hn j h; simp at hd; exact this hd
              have hkd : decide ((j : Int) < (k : Int)) = false := by simp; omega
              by_cases hje : j = k
              · subst hje
                go_wp2_with fail
                refine (cbool (lsame_any _ _ _ _ _ _ _ _ _ (hsub.ext (by repeat (first | exact Ext.refl _ | assumption | refine Ext.drew ?_ | refine Ext.drewN ?_ _ | refine Ext.alloc ?_ _ | refine Ext.trans ?_ (by assumption)))) (h1.ext (by repeat (first | exact Ext.refl _ | assumption | refine Ext.drew ?_ | refine Ext.drewN ?_ _ | refine Ext.alloc ?_ _ | refine Ext.trans ?_ (by assumption))))) hd).mono ?_
                rintro e w1 ⟨rfl, _⟩
                go_wp2_with fail
                refine (cbool (lsame_any _ _ _ _ _ _ _ _ _ (hsub.ext (by repeat (first | exact Ext.refl _ | assumption | refine Ext.drew ?_ | refine Ext.drewN ?_ _ | refine Ext.alloc ?_ _ | refine Ext.trans ?_ (by assumption)))) (h1.ext (by repeat (first | exact Ext.refl _ | assumption | refine Ext.drew ?_ | refine Ext.drewN ?_ _ | refine Ext.alloc ?_ _ | refine Ext.trans ?_ (by assumption))))) hd).mono ?_
                rintro e w1 ⟨rfl, _⟩
                go_wp2_with fail
                (first | exact ⟨⟨j + 1, by omega, by go_num, (by repeat (first | exact Ext.refl _ | assumption | refine Ext.drew ?_ | refine Ext.drewN ?_ _ | refine Ext.alloc ?_ _ | refine Ext.trans ?_ (by assumption)))⟩, (by simp [intOf]; omega)⟩ | (go_roundw; case rel => exact ⟨j + 1, by omega, by go_num, (by repeat (first | exact Ext.refl _ | assumption | refine Ext.drew ?_ | refine Ext.drewN ?_ _ | refine Ext.alloc ?_ _ | refine Ext.trans ?_ (by assumption)))⟩; case measure => exact (by simp [intOf]; omega)))
              · have hjk : ((j : Int) == (k : Int)) = false := by simp; omega
                go_wp2_with fail
                refine (cbool (lsame_any _ _ _ _ _ _ _ _ _ (hsub.ext (by repeat (first | exact Ext.refl _ | assumption | refine Ext.drew ?_ | refine Ext.drewN ?_ _ | refine Ext.alloc ?_ _ | refine Ext.trans ?_ (by assumption)))) (h1.ext (by repeat (first | exact Ext.refl _ | assumption | refine Ext.drew ?_ | refine Ext.drewN ?_ _ | refine Ext.alloc ?_ _ | refine Ext.trans ?_ (by assumption))))) hd).mono ?_
                rintro e w1 ⟨rfl, _⟩
                go_wp2_with fail
                (first | exact ⟨⟨j + 1, by omega, by go_num, (by repeat (first | exact Ext.refl _ | assumption | refine Ext.drew ?_ | refine Ext.drewN ?_ _ | refine Ext.alloc ?_ _ | refine Ext.trans ?_ (by assumption)))⟩, (by simp [intOf]; omega)⟩ | (go_roundw; case rel => exact ⟨j + 1, by omega, by go_num, (by repeat (first | exact Ext.refl _ | assumption | refine Ext.drew ?_ | refine Ext.drewN ?_ _ | refine Ext.alloc ?_ _ | refine Ext.trans ?_ (by assumption)))⟩; case measure => exact (by simp [intOf]; omega)))
          · have z4 : insideW x1 x0 = true := insideW_yes (by rw [← hm]; exact sub_drop_take _ _ _)
            go_wp2_with fail
            have hw1 : IntKind.i64.wrap ((n0 : Int) + 1) = ((n0 + 1 : Nat) : Int) := IntWalk.i64_in _ (by omega)
            go_quiet (fail)
            clear hw1
            obtain ⟨A, hA, hA'⟩ := rem_nat p n0
            obtain ⟨B, hB, hB'⟩ := rem_nat q n0
            rw [hA, hB]
            have hxq : Ext wr (wr.drewN nq) := (Ext.refl wr).drewN nq
            generalize wr.drewN nq = wq at hxq ⊢
            clear hA hB
            by_cases hAB0 : A ≤ B
            · have hlt : decide ((B : Int) < (A : Int)) = false := by simp; omega
              have hAB : A ≤ B := by omega
              have hBn : B ≤ n0 := by omega
              have hs1 := run_sub_lh (P := Try.prog) elem_snds size_snds a0 n0 c0 (A) (B) hAB (by have := h0.le; omega)
              have hsb := h0.sub hAB hBn
              have hfp := findW_part hAB (by rw [h0.len]; exact hBn)
              have z1 : decide (0 ≤ findW x0 ((x0.take (B)).drop (A))) = true := by simpa using hfp.1
              have z2 : decide (findW x0 ((x0.take (B)).drop (A)) ≤ ((A : Nat) : Int)) = true := by simpa using hfp.2
              have z3 := insideW_yes (sub_take_drop x0 (A) (B))
              clear hfp
              go_wp2_with fail
              refine (find_any _ _ _ _ _ _ _ _ _ (h0.ext (by repeat (first | exact Ext.refl _ | assumption | refine Ext.drew ?_ | refine Ext.drewN ?_ _ | refine Ext.alloc ?_ _ | refine Ext.trans ?_ (by assumption)))) (hsb.ext (by repeat (first | exact Ext.refl _ | assumption | refine Ext.drew ?_ | refine Ext.drewN ?_ _ | refine Ext.alloc ?_ _ | refine Ext.trans ?_ (by assumption)))) (by omega) (by omega)).mono ?_
              rintro e w1 ⟨rfl, _⟩
              go_wp2_with fail
              refine (cbool (inside_any _ _ _ _ _ _ _ _ _ (hsb.ext (by repeat (first | exact Ext.refl _ | assumption | refine Ext.drew ?_ | refine Ext.drewN ?_ _ | refine Ext.alloc ?_ _ | refine Ext.trans ?_ (by assumption)))) (h0.ext (by repeat (first | exact Ext.refl _ | assumption | refine Ext.drew ?_ | refine Ext.drewN ?_ _ | refine Ext.alloc ?_ _ | refine Ext.trans ?_ (by assumption)))) (by omega) (by omega)) z3).mono ?_
              rintro e w1 ⟨rfl, _⟩
              go_wp2_with fail
              refine (cbool (inside_any _ _ _ _ _ _ _ _ _ (h1.ext (by repeat (first | exact Ext.refl _ | assumption | refine Ext.drew ?_ | refine Ext.drewN ?_ _ | refine Ext.alloc ?_ _ | refine Ext.trans ?_ (by assumption)))) (h0.ext (by repeat (first | exact Ext.refl _ | assumption | refine Ext.drew ?_ | refine Ext.drewN ?_ _ | refine Ext.alloc ?_ _ | refine Ext.trans ?_ (by assumption)))) (by omega) (by omega)) z4).mono ?_
              rintro e w1 ⟨rfl, _⟩
              go_wp2_with fail
              refine (works_any _).mono ?_
              rintro e wz ⟨rfl, _⟩
              go_wp2_with fail
              go_ret
              exact ⟨rfl, (by repeat (first | exact Ext.refl _ | assumption | refine Ext.drew ?_ | refine Ext.drewN ?_ _ | refine Ext.alloc ?_ _ | refine Ext.trans ?_ (by assumption)))⟩
            · have hlt : decide ((B : Int) < (A : Int)) = true := by simp; omega
              have hAB : B ≤ A := by omega
              have hBn : A ≤ n0 := by omega
              have hs1 := run_sub_lh (P := Try.prog) elem_snds size_snds a0 n0 c0 (B) (A) hAB (by have := h0.le; omega)
              have hsb := h0.sub hAB hBn
              have hfp := findW_part hAB (by rw [h0.len]; exact hBn)
              have z1 : decide (0 ≤ findW x0 ((x0.take (A)).drop (B))) = true := by simpa using hfp.1
              have z2 : decide (findW x0 ((x0.take (A)).drop (B)) ≤ ((B : Nat) : Int)) = true := by simpa using hfp.2
              have z3 := insideW_yes (sub_take_drop x0 (B) (A))
              clear hfp
              go_wp2_with fail
              refine (find_any _ _ _ _ _ _ _ _ _ (h0.ext (by repeat (first | exact Ext.refl _ | assumption | refine Ext.drew ?_ | refine Ext.drewN ?_ _ | refine Ext.alloc ?_ _ | refine Ext.trans ?_ (by assumption)))) (hsb.ext (by repeat (first | exact Ext.refl _ | assumption | refine Ext.drew ?_ | refine Ext.drewN ?_ _ | refine Ext.alloc ?_ _ | refine Ext.trans ?_ (by assumption)))) (by omega) (by omega)).mono ?_
              rintro e w1 ⟨rfl, _⟩
              go_wp2_with fail
              refine (cbool (inside_any _ _ _ _ _ _ _ _ _ (hsb.ext (by repeat (first | exact Ext.refl _ | assumption | refine Ext.drew ?_ | refine Ext.drewN ?_ _ | refine Ext.alloc ?_ _ | refine Ext.trans ?_ (by assumption)))) (h0.ext (by repeat (first | exact Ext.refl _ | assumption | refine Ext.drew ?_ | refine Ext.drewN ?_ _ | refine Ext.alloc ?_ _ | refine Ext.trans ?_ (by assumption)))) (by omega) (by omega)) z3).mono ?_
              rintro e w1 ⟨rfl, _⟩
              go_wp2_with fail
              refine (cbool (inside_any _ _ _ _ _ _ _ _ _ (h1.ext (by repeat (first | exact Ext.refl _ | assumption | refine Ext.drew ?_ | refine Ext.drewN ?_ _ | refine Ext.alloc ?_ _ | refine Ext.trans ?_ (by assumption)))) (h0.ext (by repeat (first | exact Ext.refl _ | assumption | refine Ext.drew ?_ | refine Ext.drewN ?_ _ | refine Ext.alloc ?_ _ | refine Ext.trans ?_ (by assumption)))) (by omega) (by omega)) z4).mono ?_
              rintro e w1 ⟨rfl, _⟩
              go_wp2_with fail
              refine (works_any _).mono ?_
              rintro e wz ⟨rfl, _⟩
              go_wp2_with fail
              go_ret
              exact ⟨rfl, (by repeat (first | exact Ext.refl _ | assumption | refine Ext.drew ?_ | refine Ext.drewN ?_ _ | refine Ext.alloc ?_ _ | refine Ext.trans ?_ (by assumption)))⟩
    · have e1 : decide ((100 : Int) < n1) = true := by simp; omega
      go_enter Try.func7, Try.ntmps7
      go_wp2_with fail
      refine (works_any _).mono ?_
      rintro e wz ⟨rfl, _⟩
      go_wp2_with fail
      go_ret
      exact ⟨rfl, (by repeat (first | exact Ext.refl _ | assumption | refine Ext.drew ?_ | refine Ext.drewN ?_ _ | refine Ext.alloc ?_ _ | refine Ext.trans ?_ (by assumption)))⟩
  · have e0 : decide ((100 : Int) < n0) = true := by simp; omega
    go_enter Try.func7, Try.ntmps7
    go_wp2_with fail
    refine (works_any _).mono ?_
    rintro e wz ⟨rfl, _⟩
    go_wp2_with fail
    go_ret
    exact ⟨rfl, (by repeat (first | exact Ext.refl _ | assumption | refine Ext.drew ?_ | refine Ext.drewN ?_ _ | refine Ext.alloc ?_ _ | refine Ext.trans ?_ (by assumption)))⟩
end Go.Proofs.Ytphfnmmdfnfnaaa
