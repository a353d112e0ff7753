/-
  NaturalNeeds: the plain half, and the walk.
-/
import Derived.Test.YtbnbfdbliokcaaaDoorJ9
namespace Go.Proofs.YtbnbfdbliokcaaaDoor
open Go.RowKit
theorem rowP_pre (xs : List Snd) (i : Nat) : ∀ {j m}, j ≤ m → rowP xs i j <+: rowP xs i m := fun {j m} h => by
  induction m with
  | zero => rw [Nat.le_zero.1 h]; exact List.prefix_refl _
  | succ m ih =>
    by_cases e : j = m + 1
    · rw [e]; exact List.prefix_refl _
    · rw [rowP_succ]; exact (ih (by omega)).trans (List.prefix_append _ _)
theorem pairTo_pre (xs : List Snd) : ∀ {i m}, i ≤ m → pairTo xs i <+: pairTo xs m := fun {i m} h => by
  induction m with
  | zero => rw [Nat.le_zero.1 h]; exact List.prefix_refl _
  | succ m ih =>
    by_cases e : i = m + 1
    · rw [e]; exact List.prefix_refl _
    · rw [pairTo_succ]; exact (ih (by omega)).trans (List.prefix_append _ _)
theorem part_pre (xs : List Snd) {i j : Nat} (hi : i < xs.length) (hj : j ≤ xs.length) : (pairTo xs i ++ rowP xs i j) <+: pairL xs := by
  have h1 : (pairTo xs i ++ rowP xs i j) <+: pairTo xs (i + 1) := by
    rw [pairTo_succ]
    obtain ⟨t, ht⟩ := rowP_pre xs i hj
    exact ⟨t, by rw [List.append_assoc, ht]⟩
  exact h1.trans (pairTo_pre xs hi)
/-- The next pair stands at its place. -/
theorem part_next (xs : List Snd) {i j : Nat} (hj : j < xs.length) (hij : i < j) (h : adjB xs i j = true) : (pairL xs)[(pairTo xs i ++ rowP xs i j).length]? = some (i, j) := by
  have hp := part_pre xs (i := i) (j := j + 1) (by omega) (by omega)
  rw [rowP_succ, if_pos ⟨hij, h⟩, ← List.append_assoc] at hp
  obtain ⟨t, ht⟩ := hp
  rw [← ht, List.getElem?_append_left (by simp), List.getElem?_append_right (Nat.le_refl _)]
  simp
theorem sub_bit {D : BitVec 32} {f g : Nat} (hfg : f < g) (_hg : g < 32) (h1 : D.getLsbD f = true) (h2 : D.getLsbD g = true) : (D &&& (D - 1#32)) ≠ 0#32 := by
  intro h
  have hlt := D.isLt
  have hr : 2 ^ f ≤ D.toNat % 2 ^ g := by
    have : (D.toNat % 2 ^ g).testBit f = true := by rw [Nat.testBit_mod_two_pow]; simp [hfg]; simpa [BitVec.getLsbD] using h1
    exact Nat.ge_two_pow_of_testBit this
  have hpos : 1 ≤ 2 ^ f := Nat.one_le_two_pow
  have hle : D.toNat % 2 ^ g ≤ D.toNat := Nat.mod_le _ _
  have hs : (D - 1#32).toNat = D.toNat - 1 := by
    rw [BitVec.toNat_sub]; simp; omega
  have hdiv : (D.toNat - 1) / 2 ^ g = D.toNat / 2 ^ g := by
    have h0 : 0 < 2 ^ g := Nat.two_pow_pos g
    have hdm := Nat.div_add_mod D.toNat (2 ^ g)
    have hml := Nat.mod_lt D.toNat h0
    rw [show D.toNat - 1 = D.toNat % 2 ^ g - 1 + 2 ^ g * (D.toNat / 2 ^ g) by omega, Nat.add_mul_div_left _ _ h0, Nat.div_eq_of_lt (by omega)]
    omega
  have h3 : (D - 1#32).getLsbD g = true := by
    have : D.getLsbD g = D.toNat.testBit g := rfl
    rw [this, Nat.testBit_eq_decide_div_mod_eq] at h2
    have : (D - 1#32).getLsbD g = (D - 1#32).toNat.testBit g := rfl
    rw [this, hs, Nat.testBit_eq_decide_div_mod_eq, hdiv]; exact h2
  have := congrArg (fun z : BitVec 32 => z.getLsbD g) h
  simp [h2, h3] at this
theorem one_bit : ∀ f : Fin 32, (bt f.1 &&& (bt f.1 - 1#32)) = 0#32 := by decide +kernel
theorem low_one {D : BitVec 32} (hD : D ≠ 0#32) : (D &&& (D - 1#32)) = 0#32 ↔ cntB D = 1 := by
  rw [cntB_one]
  constructor
  · intro h
    have hex : ∃ f, f < 32 ∧ D.getLsbD f = true := by
      false_or_by_contra
      rename_i hn
      apply hD
      apply BitVec.eq_of_getLsbD_eq
      intro i hi
      cases e : D.getLsbD i with
      | false => simp
      | true => exact absurd ⟨i, hi, e⟩ hn
    obtain ⟨f, hf, hfb⟩ := hex
    refine ⟨f, hf, ?_⟩
    apply BitVec.eq_of_getLsbD_eq
    intro i hi
    by_cases e : i = f
    · subst e; rw [hfb, bt_self i hi]
    · have hb : (bt f).getLsbD i = false := by
        unfold bt
        rw [BitVec.getLsbD_shiftLeft]
        simp [hi]
        omega
      rw [hb]
      cases e2 : D.getLsbD i with
      | false => rfl
      | true =>
        exfalso
        rcases Nat.lt_or_gt_of_ne e with h1 | h1
        · exact sub_bit h1 hf e2 hfb h
        · exact sub_bit h1 hi hfb e2 h
  · rintro ⟨f, hf, rfl⟩
    exact one_bit ⟨f, hf⟩
end Go.Proofs.YtbnbfdbliokcaaaDoor
