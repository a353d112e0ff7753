/-
  The automata of "the sound with k more behind it is +": the sets are windows, the classes their beginnings.
-/
import Derived.Test.YtilkemdecenibaaNq
import Derived.Test.YtilkemdecenibaaV8
namespace Go.Proofs.Ytilkemdecenibaa
open Go.RowKit
theorem win_mod {Q w b : Nat} (hw : w < 2 * Q) (hb : b ≤ 1) : (2 * w + b) % (2 * Q) = if w < Q then 2 * w + b else 2 * w + b - 2 * Q := by
  split
  · exact Nat.mod_eq_of_lt (by omega)
  · rw [Nat.mod_eq_sub_mod (by omega)]; exact Nat.mod_eq_of_lt (by omega)
/-! ### Rows of windows -/
theorem win_row {c C m : Nat} {b : Snd → Nat} (hc : 1 ≤ c) (hC : c + 1 < C) (hm : c + 1 < m) : ∀ (l : List Snd), (∀ s ∈ l, b s ≤ 1) → rowOk (fun s => c + b s) C l m ∧ rowEnd (fun s => c + b s) l m = m
  | [], _ => ⟨trivial, rfl⟩
  | s :: l, hb => by
    have h1 := hb s List.mem_cons_self
    obtain ⟨i1, i2⟩ := win_row hc hC hm l fun s hs => hb s (List.mem_cons_of_mem _ hs)
    simp only [rowOk, rowEnd]
    rw [if_pos (by omega)]
    exact ⟨⟨by omega, by omega, by omega, i1⟩, i2⟩
theorem win_row1 {c C : Nat} {b : Snd → Nat} (hc : 1 ≤ c) (hC : c + 1 < C) : ∀ (l : List Snd), (∀ s ∈ l, b s ≤ 1) → (∃ s ∈ l, b s = 1) → rowOk (fun s => c + b s) C l (c + 1) ∧ rowEnd (fun s => c + b s) l (c + 1) = c + 2
  | [], _, h => by obtain ⟨s, hs, _⟩ := h; cases hs
  | s :: l, hb, he => by
    have h1 := hb s List.mem_cons_self
    simp only [rowOk, rowEnd]
    by_cases hs : b s = 0
    · rw [if_pos (by omega)]
      obtain ⟨i1, i2⟩ := win_row1 hc hC l (fun s hs => hb s (List.mem_cons_of_mem _ hs)) (by
        obtain ⟨x, hx, h1⟩ := he
        rcases List.mem_cons.1 hx with rfl | hx
        · omega
        · exact ⟨x, hx, h1⟩)
      exact ⟨⟨by omega, by omega, by omega, i1⟩, i2⟩
    · rw [if_neg (by omega)]
      obtain ⟨i1, i2⟩ := win_row (m := c + 1 + 1) hc hC (by omega) l fun s hs => hb s (List.mem_cons_of_mem _ hs)
      exact ⟨⟨by omega, by omega, by omega, i1⟩, i2⟩
theorem win_rowN {c C : Nat} {b : Snd → Nat} (hc : 1 ≤ c) (hC : c + 1 < C) {xs : List Snd} (hb : ∀ s ∈ xs, b s ≤ 1) (h0 : ∃ s0 l, xs = s0 :: l ∧ b s0 = 0) (h1 : ∃ s ∈ xs, b s = 1) : rowOk (fun s => c + b s) C xs c ∧ rowEnd (fun s => c + b s) xs c = c + 2 := by
  obtain ⟨s0, l, rfl, e0⟩ := h0
  simp only [rowOk, rowEnd]
  rw [if_neg (by omega)]
  obtain ⟨i1, i2⟩ := win_row1 hc hC l (fun s hs => hb s (List.mem_cons_of_mem _ hs)) (by
    obtain ⟨x, hx, h1⟩ := h1
    rcases List.mem_cons.1 hx with rfl | hx
    · omega
    · exact ⟨x, hx, h1⟩)
  exact ⟨⟨by omega, by omega, by omega, i1⟩, i2⟩
def winT (Q : Nat) (b : Snd → Nat) (i : Nat) (s : Snd) : Nat := 1 + (2 * (i - 1) + b s) % (2 * Q)
def winM (Q i : Nat) : Nat := if i = 0 then 1 else max 3 (min (2 * i - 1) (2 * Q + 1))
theorem rowOk_congr {t u : Snd → Nat} {C : Nat} : ∀ (l : List Snd) (m : Nat), (∀ s ∈ l, t s = u s) → (rowOk t C l m ↔ rowOk u C l m) ∧ rowEnd t l m = rowEnd u l m
  | [], m, _ => ⟨Iff.rfl, rfl⟩
  | s :: l, m, h => by
    have e := h s List.mem_cons_self
    have ih := rowOk_congr (t := t) (u := u) (C := C) l (if u s < m then m else m + 1) fun s hs => h s (List.mem_cons_of_mem _ hs)
    simp only [rowOk, rowEnd, e]
    exact ⟨by rw [ih.1], ih.2⟩
theorem win_rows {Q : Nat} (hQ : 1 ≤ Q) {b : Snd → Nat} {xs : List Snd} (hb : ∀ s ∈ xs, b s ≤ 1) (h0 : ∃ s0 l, xs = s0 :: l ∧ b s0 = 0) (h1 : ∃ s ∈ xs, b s = 1) {i : Nat} (hi : i < 2 * Q + 1) :
    rowOk (winT Q b i) (2 * Q + 1) xs (winM Q i) ∧ rowEnd (winT Q b i) xs (winM Q i) = winM Q (i + 1) := by
  by_cases hl : i - 1 < Q
  · have e : ∀ s ∈ xs, winT Q b i s = (1 + 2 * (i - 1)) + b s := fun s hs => by
      unfold winT; rw [win_mod (by omega) (hb s hs), if_pos hl]; omega
    obtain ⟨c1, c2⟩ := rowOk_congr (C := 2 * Q + 1) (u := fun s => (1 + 2 * (i - 1)) + b s) xs (winM Q i) e
    rw [c1, c2]
    by_cases hi1 : i = 1
    · subst hi1
      have eM : winM Q 1 = 3 := by unfold winM; rw [if_neg (by omega)]; omega
      have eM2 : winM Q (1 + 1) = 3 := by unfold winM; rw [if_neg (by omega)]; omega
      rw [eM, eM2]
      exact win_row (by omega) (by omega) (by omega) xs hb
    · have eM : winM Q i = 1 + 2 * (i - 1) := by unfold winM; split <;> omega
      have eM2 : winM Q (i + 1) = 1 + 2 * (i - 1) + 2 := by unfold winM; rw [if_neg (by omega)]; omega
      rw [eM, eM2]
      exact win_rowN (by omega) (by omega) hb h0 h1
  · have e : ∀ s ∈ xs, winT Q b i s = (1 + 2 * (i - 1) - 2 * Q) + b s := fun s hs => by
      unfold winT; rw [win_mod (by omega) (hb s hs), if_neg hl]; omega
    obtain ⟨c1, c2⟩ := rowOk_congr (C := 2 * Q + 1) (u := fun s => (1 + 2 * (i - 1) - 2 * Q) + b s) xs (winM Q i) e
    rw [c1, c2]
    have eM : winM Q i = 2 * Q + 1 := by unfold winM; rw [if_neg (by omega)]; omega
    have eM2 : winM Q (i + 1) = 2 * Q + 1 := by unfold winM; rw [if_neg (by omega)]; omega
    rw [eM, eM2]
    exact win_row (by omega) (by omega) (by omega) xs hb
/-! ### The set of a window -/
def winS (k i : Nat) : BS := if i = 0 then [true, true, true] ++ List.replicate (k + 4) false else [false, false, true, true, (i - 1).testBit 0] ++ (List.range (k + 1)).map (fun j => (i - 1).testBit j) ++ [(i - 1).testBit k]
theorem winS_inj (k : Nat) : ∀ a b, 1 ≤ a → a < 2 * 2 ^ k + 1 → 1 ≤ b → b < 2 * 2 ^ k + 1 → winS k a = winS k b → a = b := by
  intro a b ha ha2 hb hb2 h
  have hl : ∀ i, i ≠ 0 → winS k i = [false, false, true, true, (i - 1).testBit 0] ++ (List.range (k + 1)).map (fun j => (i - 1).testBit j) ++ [(i - 1).testBit k] := fun i hi => by unfold winS; rw [if_neg hi]
  rw [hl a (by omega), hl b (by omega)] at h
  have hp : 2 * 2 ^ k = 2 ^ (k + 1) := by rw [Nat.pow_succ]; omega
  have h2 := (List.append_inj h (by simp)).1
  have h3 := (List.append_inj h2 (by simp)).2
  have : a - 1 = b - 1 := by
    apply Nat.eq_of_testBit_eq
    intro j
    by_cases hj : j < k + 1
    · have := congrArg (fun l => l[j]?) h3
      simpa [List.getElem?_map, List.getElem?_range hj] using this
    · rw [Nat.testBit_lt_two_pow (Nat.lt_of_lt_of_le (show a - 1 < 2 ^ (k + 1) by omega) (Nat.pow_le_pow_right (by omega) (by omega))), Nat.testBit_lt_two_pow (Nat.lt_of_lt_of_le (show b - 1 < 2 ^ (k + 1) by omega) (Nat.pow_le_pow_right (by omega) (by omega)))]
  omega
/-! ### after depends on what is hit alone -/
theorem afterRow_congr {s t : Snd} : ∀ (r : List Lk) (o : List Bool), (∀ l ∈ r, hitB s l.2 = hitB t l.2) → afterRow s r o = afterRow t r o
  | [], o, _ => rfl
  | l :: r, o, h => by
    simp only [afterRow]
    rw [h l List.mem_cons_self]
    exact afterRow_congr r _ fun x hx => h x (List.mem_cons_of_mem _ hx)
theorem afterTo_congr {g : Net} {s t : Snd} (h : ∀ r ∈ g, ∀ l ∈ r, hitB s l.2 = hitB t l.2) (bs : BS) : ∀ k, afterTo g s bs k = afterTo g t bs k
  | 0 => rfl
  | k + 1 => by
    simp only [afterTo]
    rw [afterTo_congr h bs k]
    split
    · refine afterRow_congr _ _ fun l hl => ?_
      rw [List.getD_eq_getElem?_getD] at hl
      cases hg : g[k]? with
      | none => rw [hg] at hl; cases hl
      | some r => rw [hg] at hl; exact h r (List.mem_of_getElem? hg) l hl
    · rfl
theorem afterM_congr {g : Net} {s t : Snd} (h : ∀ r ∈ g, ∀ l ∈ r, hitB s l.2 = hitB t l.2) (bs : BS) : afterM g bs s = afterM g bs t := by unfold afterM; rw [afterTo_congr h]
/-! ### The automaton of windows -/
def winA (k : Nat) (b : Snd → Nat) (xs : List Snd) : Au := ⟨xs, (List.range (2 * 2 ^ k + 1)).map fun i => xs.map (winT (2 ^ k) b i), (List.range (2 * 2 ^ k + 1)).map fun i => (i - 1).testBit k⟩
/-- All that is looked at for one k: what is behind each set with a sound that is not +, and with one that is, and what ends. -/
def winChk (g : Net) (goal k : Nat) (s0 s1 : Snd) : Bool := (List.range (2 * 2 ^ k + 1)).all fun i => afterM g (winS k i) s0 == winS k (1 + (2 * (i - 1)) % (2 * 2 ^ k)) && (afterM g (winS k i) s1 == winS k (1 + (2 * (i - 1) + 1) % (2 * 2 ^ k)) && ((spreadM g (winS k i) (i == 0) true).getD goal false == (i - 1).testBit k))
theorem win_build {g : Net} {goal k : Nat} {s0 s1 : Snd} (hc : winChk g goal k s0 s1 = true) (hf : firstB g = winS k 0) {b : Snd → Nat} {xs : List Snd} (hb : ∀ s ∈ xs, b s ≤ 1) (hx0 : ∃ s l, xs = s :: l ∧ b s = 0) (hx1 : ∃ s ∈ xs, b s = 1)
    (hh : ∀ s ∈ xs, ∀ r ∈ g, ∀ l ∈ r, hitB s l.2 = hitB (if b s = 0 then s0 else s1) l.2) :
    BuildAt g xs goal (2 * 2 ^ k + 1) ∧ (⟨xs, (buildN g xs goal (firstB g) (2 * 2 ^ k + 1)).next, (buildN g xs goal (firstB g) (2 * 2 ^ k + 1)).fin⟩ : Au) = winA k b xs := by
  have hQ : 1 ≤ 2 ^ k := Nat.one_le_two_pow
  have hck := fun i (hi : i < 2 * 2 ^ k + 1) => List.all_eq_true.1 hc i (by simpa using hi)
  have hcert := buildN_cert (g := g) (S := winS k) (C := 2 * 2 ^ k + 1) (winS_inj k) xs goal (winT (2 ^ k) b) (winM (2 ^ k)) rfl (fun i hi => by unfold winM; split <;> omega) (fun i hi => win_rows hQ hb hx0 hx1 hi) (fun i hi s hs => by
    rw [afterM_congr (hh s hs)]
    have h1 := hck i hi
    simp only [Bool.and_eq_true, beq_iff_eq] at h1
    have hbs := hb s hs
    unfold winT
    by_cases e : b s = 0
    · rw [if_pos e, e, Nat.add_zero]; exact h1.1
    · rw [if_neg e, show b s = 1 by omega]; exact h1.2.1)
  rw [← hf] at hcert
  refine ⟨⟨?_, fun i hi => ?_⟩, ?_⟩
  · rw [hcert _ (Nat.le_refl _)]
    simp only [List.length_map, List.length_range]
    unfold winM; rw [if_neg (by omega)]; omega
  · rw [hcert i (by omega)]
    simp only [List.length_map, List.length_range]
    unfold winM; split <;> omega
  · rw [hcert _ (Nat.le_refl _)]
    unfold winA
    simp only [Au.mk.injEq, true_and]
    refine List.map_congr_left fun i hi => ?_
    have h1 := hck i (by simpa using hi)
    simp only [Bool.and_eq_true, beq_iff_eq] at h1
    exact h1.2.2
theorem winA_ok {k : Nat} {b : Snd → Nat} {xs : List Snd} (hx8 : xs.length ≤ 8) : (winA k b xs).okB = true := by
  have hQ : 1 ≤ 2 ^ k := Nat.one_le_two_pow
  unfold Au.okB winA
  simp only [Bool.and_eq_true, decide_eq_true_eq, List.all_eq_true, List.length_map, List.length_range]
  refine ⟨hx8, trivial, fun r hr i hi => ?_⟩
  obtain ⟨j, _, rfl⟩ := List.mem_map.1 hr
  have hi : i < xs.length := by simpa using hi
  rw [List.getD_eq_getElem?_getD, List.getElem?_map, List.getElem?_eq_getElem hi]
  show winT _ _ _ _ < _
  unfold winT
  have := Nat.mod_lt (2 * (j - 1) + b xs[i]) (show 0 < 2 * 2 ^ k by omega)
  omega
end Go.Proofs.Ytilkemdecenibaa
