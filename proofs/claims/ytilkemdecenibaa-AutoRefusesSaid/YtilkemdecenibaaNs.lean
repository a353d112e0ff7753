/-
  The automata of windows: how least numbers their classes.
-/
import Derived.Test.YtilkemdecenibaaNr
namespace Go.Proofs.Ytilkemdecenibaa
open Go.RowKit
theorem div_step {D : Nat} (hD : 1 ≤ D) (s : Nat) : (s - 1) / D ≤ (s + 1 - 1) / D ∧ (s + 1 - 1) / D ≤ (s - 1) / D + 1 := by
  refine ⟨Nat.div_le_div_right (by omega), ?_⟩
  rw [← Nat.add_div_right _ hD]
  exact Nat.div_le_div_right (by omega)
theorem div_last {D P : Nat} (hD : 1 ≤ D) (hP : 1 ≤ P) : (D * P - 1) / D + 1 = P := by
  have e : D * P - 1 = D * (P - 1) + (D - 1) := by
    have : D * P = D * (P - 1) + D := by rw [← Nat.mul_succ]; congr 1; omega
    omega
  rw [e, Nat.mul_add_div hD, Nat.div_eq_of_lt (by omega)]; omega
theorem half_step {w b D : Nat} (hb : b ≤ 1) (P : Nat) : (2 * w + b) % (2 * D * P) / (2 * D) = w / D % P := by
  rw [Nat.mod_mul_right_div_self, ← Nat.div_div_eq_div_mul, show (2 * w + b) / 2 = w by omega]
section
variable {k : Nat} {b : Snd → Nat} {xs : List Snd}
def winC (k j : Nat) : List Nat := (List.range (2 * 2 ^ k + 1)).map fun s => (s - 1) / 2 ^ (k - j)
theorem winC_at (k j : Nat) {t : Nat} (ht : t < 2 * 2 ^ k + 1) : (winC k j).getD t 0 = (t - 1) / 2 ^ (k - j) := by
  unfold winC
  rw [List.getD_eq_getElem?_getD, List.getElem?_map, List.getElem?_range ht]; rfl
theorem winA_next {s i : Nat} (hs : s < 2 * 2 ^ k + 1) (hi : i < xs.length) : ((winA k b xs).next.getD s []).getD i 0 = winT (2 ^ k) b s xs[i] := by
  unfold winA
  simp only
  rw [List.getD_eq_getElem?_getD (l := List.map _ _), List.getElem?_map, List.getElem?_range hs]
  simp only [Option.map_some, Option.getD_some]
  rw [List.getD_eq_getElem?_getD, List.getElem?_map, List.getElem?_eq_getElem hi]; rfl
theorem winT_lt (s : Nat) (x : Snd) : winT (2 ^ k) b s x < 2 * 2 ^ k + 1 := by
  have hQ : 1 ≤ 2 ^ k := Nat.one_le_two_pow
  unfold winT
  have := Nat.mod_lt (2 * (s - 1) + b x) (show 0 < 2 * 2 ^ k by omega)
  omega
/-- The key of a state, by its class to come. -/
def winR (k j : Nat) (b : Snd → Nat) (xs : List Snd) (q : Nat) : List Nat := (if j < k then q / 2 else q) :: (List.range 8).map fun i => if i < xs.length then (if j < k then q % 2 ^ (j + 1) else (2 * q + b (xs.getD i ⟨0#32, 0#32⟩)) % (2 * 2 ^ k)) else 0
theorem win_key (hb : ∀ s ∈ xs, b s ≤ 1) {j s : Nat} (hj : j ≤ k) (hs : s < 2 * 2 ^ k + 1) : key9 xs.length (winA k b xs) (winC k j) s = winR k j b xs ((s - 1) / 2 ^ (k - (j + 1))) := by
  unfold key9 winR
  rw [winC_at k j hs]
  by_cases h : j < k
  · have hD : 2 ^ (k - j) = 2 * 2 ^ (k - (j + 1)) := by rw [show k - j = (k - (j + 1)) + 1 by omega, Nat.pow_succ]; omega
    have hP : 2 * 2 ^ k = 2 * 2 ^ (k - (j + 1)) * 2 ^ (j + 1) := by rw [Nat.mul_assoc, ← Nat.pow_add, show k - (j + 1) + (j + 1) = k by omega]
    congr 1
    · rw [if_pos h, hD, Nat.mul_comm 2, Nat.div_div_eq_div_mul]
    · refine List.map_congr_left fun i _ => ?_
      by_cases hi : i < xs.length
      · rw [if_pos hi, if_pos hi, if_pos h, winA_next hs hi, winC_at k j (winT_lt s _)]
        unfold winT
        rw [Nat.add_sub_cancel_left, hP, hD, half_step (hb _ (List.getElem_mem hi))]
      · rw [if_neg hi, if_neg hi]
  · obtain rfl : j = k := by omega
    have e : 2 ^ (j - (j + 1)) = 1 := by rw [show j - (j + 1) = 0 by omega, Nat.pow_zero]
    have e2 : 2 ^ (j - j) = 1 := by rw [Nat.sub_self, Nat.pow_zero]
    rw [e, e2, Nat.div_one]
    congr 1
    · rw [if_neg h]
    · refine List.map_congr_left fun i _ => ?_
      by_cases hi : i < xs.length
      · rw [if_pos hi, if_pos hi, if_neg h, winA_next hs hi, winC_at j j (winT_lt s _), e2, Nat.div_one]
        unfold winT
        rw [Nat.add_sub_cancel_left, List.getD_eq_getElem?_getD, List.getElem?_eq_getElem hi]; rfl
      · rw [if_neg hi, if_neg hi]
theorem winR_inj (hx0 : 0 < xs.length) {j : Nat} : ∀ p q, p < 2 ^ (j + 2) → q < 2 ^ (j + 2) → winR k j b xs p = winR k j b xs q → p = q := by
  intro p q _ _ h
  unfold winR at h
  injection h with h1 h2
  by_cases hj : j < k
  · rw [if_pos hj, if_pos hj] at h1
    have h3 := congrArg (fun l => l[0]?) h2
    simp only [List.getElem?_map, List.getElem?_range (show 0 < 8 by decide), Option.map_some, if_pos hx0, if_pos hj, Option.some.injEq] at h3
    have e : ∀ z : Nat, z % 2 ^ (j + 1) % 2 = z % 2 := fun z => by
      rw [Nat.pow_succ, Nat.mul_comm]; exact Nat.mod_mul_right_mod z 2 (2 ^ j)
    have e1 := e p
    have e2 := e q
    rw [h3] at e1
    omega
  · rw [if_neg hj, if_neg hj] at h1
    exact h1
theorem win_cls (hb : ∀ s ∈ xs, b s ≤ 1) (hx0 : 0 < xs.length) : ∀ j, j ≤ k → clsN (winA k b xs) j = (winC k j, 2 ^ (j + 1)) ∧ clsN (winA k b xs) (j + 1) = (winC k (j + 1), 2 ^ (min (j + 1) k + 1)) := by
  have hQ : 1 ≤ 2 ^ k := Nat.one_le_two_pow
  have step : ∀ j, j ≤ k → (clsN (winA k b xs) j).1 = winC k j → clsN (winA k b xs) (j + 1) = (winC k (j + 1), 2 ^ (min (j + 1) k + 1)) := fun j hj h => by
    have hD : 1 ≤ 2 ^ (k - (j + 1)) := Nat.one_le_two_pow
    have hlen : (winA k b xs).next.length = 2 * 2 ^ k + 1 := by simp [winA]
    have hkeys : keysOf (winA k b xs) (winC k j) = (List.range (2 * 2 ^ k + 1)).map fun s => winR k j b xs ((fun s => (s - 1) / 2 ^ (k - (j + 1))) s) := by
      unfold keysOf
      rw [hlen]
      refine List.map_congr_left fun s hs => ?_
      exact win_key hb hj (by simpa using hs)
    have hlast : (2 * 2 ^ k + 1 - 1 - 1) / 2 ^ (k - (j + 1)) + 1 = 2 ^ (min (j + 1) k + 1) := by
      have e : 2 * 2 ^ k + 1 - 1 - 1 = 2 ^ (k - (j + 1)) * 2 ^ (min (j + 1) k + 1) - 1 := by
        rw [← Nat.pow_add, show k - (j + 1) + (min (j + 1) k + 1) = k + 1 by omega, Nat.pow_succ]; omega
      rw [e]
      exact div_last hD Nat.one_le_two_pow
    have hT : 2 ^ (min (j + 1) k + 1) ≤ 2 ^ (j + 2) := Nat.pow_le_pow_right (by omega) (by omega)
    have hn := numKeys_cert (R := winR k j b xs) (c := fun s => (s - 1) / 2 ^ (k - (j + 1))) (T := 2 ^ (j + 2)) (winR_inj hx0) (by simp) (div_step hD) (2 * 2 ^ k + 1) (by omega) (by
      show (2 * 2 ^ k + 1 - 1 - 1) / 2 ^ (k - (j + 1)) < _
      omega)
    simp only [clsN, stepK]
    rw [h, hkeys, hn]
    simp only [List.length_map, List.length_range]
    rw [hlast]
    rfl
  intro j
  induction j with
  | zero =>
    intro hj
    have h0 : clsN (winA k b xs) 0 = (winC k 0, 2 ^ (0 + 1)) := by
      have hf : (winA k b xs).fin.getD 0 false = false := by
        unfold winA
        simp only
        rw [List.getD_eq_getElem?_getD, List.getElem?_map, List.getElem?_range (by omega)]
        simp
      simp only [clsN, cls0, cnt0, hf]
      refine Prod.ext ?_ ?_
      · simp only
        unfold winA winC
        simp only [List.map_map]
        refine List.map_congr_left fun s hs => ?_
        have hs : s < 2 * 2 ^ k + 1 := by simpa using hs
        simp only [Function.comp_def, Nat.sub_zero]
        have hd : (s - 1) / 2 ^ k < 2 := Nat.div_lt_of_lt_mul (by omega)
        rw [Nat.testBit_eq_decide_div_mod_eq, Nat.mod_eq_of_lt hd]
        generalize (s - 1) / 2 ^ k = q at *
        have e : q = 0 ∨ q = 1 := by omega
        rcases e with rfl | rfl <;> rfl
      · simp only
        rw [if_pos]
        refine List.any_eq_true.2 ⟨true, ?_, rfl⟩
        unfold winA
        simp only
        refine List.mem_map.2 ⟨2 ^ k + 1, by simp; omega, ?_⟩
        rw [Nat.add_sub_cancel, Nat.testBit_two_pow_self]
    exact ⟨h0, step 0 hj (by rw [h0])⟩
  | succ j ih =>
    intro hj
    obtain ⟨_, i2⟩ := ih (by omega)
    rw [show min (j + 1) k = j + 1 by omega] at i2
    exact ⟨i2, step (j + 1) hj (by rw [i2])⟩
theorem win_least (hb : ∀ s ∈ xs, b s ≤ 1) (hx0 : 0 < xs.length) : LeastAt (winA k b xs) k ∧ (clsN (winA k b xs) k).2 = 2 * 2 ^ k := by
  refine ⟨⟨?_, fun j hj => ?_⟩, ?_⟩
  · rw [(win_cls hb hx0 k (Nat.le_refl _)).2, (win_cls hb hx0 k (Nat.le_refl _)).1, show min (k + 1) k = k by omega]
  · rw [(win_cls hb hx0 j (by omega)).2, (win_cls hb hx0 j (by omega)).1, show min (j + 1) k = j + 1 by omega]
    intro h
    have := Nat.pow_lt_pow_right (a := 2) (by omega) (show j + 1 < j + 1 + 1 by omega)
    simp only at h
    omega
  · rw [(win_cls hb hx0 k (Nat.le_refl _)).1, Nat.pow_succ, Nat.mul_comm]
end
end Go.Proofs.Ytilkemdecenibaa
