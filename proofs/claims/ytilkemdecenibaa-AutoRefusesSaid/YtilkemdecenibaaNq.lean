/-
  Build by a certificate, plain; the automata of "the sound with k more behind it is +": their states are windows.
-/
import Derived.Test.YtilkemdecenibaaV3
namespace Go.Proofs.Ytilkemdecenibaa
open Go.RowKit
/-! ### Rows by a certificate -/
def rowOk (tg : Snd → Nat) (C : Nat) : List Snd → Nat → Prop
  | [], _ => True
  | s :: l, m => 1 ≤ tg s ∧ tg s ≤ m ∧ tg s < C ∧ rowOk tg C l (if tg s < m then m else m + 1)
def rowEnd (tg : Snd → Nat) : List Snd → Nat → Nat
  | [], m => m
  | s :: l, m => rowEnd tg l (if tg s < m then m else m + 1)
section
variable {g : Net} {S : Nat → BS} {C : Nat}
theorem idx_map (hinj : ∀ a b, 1 ≤ a → a < C → 1 ≤ b → b < C → S a = S b → a = b) {m t : Nat} (hm : m ≤ C) (h1 : 1 ≤ t) (ht : t < m) : numAt ((List.range m).map S) (S t) = some t := by
  obtain ⟨m, rfl⟩ : ∃ k, m = k + 1 := ⟨m - 1, by omega⟩
  obtain ⟨t, rfl⟩ : ∃ k, t = k + 1 := ⟨t - 1, by omega⟩
  have hd : ((List.range (m + 1)).map S).drop 1 = (List.range m).map fun i => S (i + 1) := by
    rw [List.range_succ_eq_map]; simp [Function.comp_def]
  unfold numAt
  rw [hd]
  have hmem : S (t + 1) ∈ (List.range m).map fun i => S (i + 1) := List.mem_map.2 ⟨t, by simp; omega, rfl⟩
  rw [if_pos hmem]
  congr 2
  have hlt := List.idxOf_lt_length_iff.2 hmem
  have hget := List.getElem_idxOf hlt
  rw [List.length_map, List.length_range] at hlt
  rw [List.getElem_map, List.getElem_range] at hget
  have := hinj _ _ (by omega) (by omega) (by omega) (by omega) hget
  omega
theorem idx_new (hinj : ∀ a b, 1 ≤ a → a < C → 1 ≤ b → b < C → S a = S b → a = b) {m : Nat} (h1 : 1 ≤ m) (hm : m < C) : numAt ((List.range m).map S) (S m) = none := by
  obtain ⟨m, rfl⟩ : ∃ k, m = k + 1 := ⟨m - 1, by omega⟩
  have hd : ((List.range (m + 1)).map S).drop 1 = (List.range m).map fun i => S (i + 1) := by
    rw [List.range_succ_eq_map]; simp [Function.comp_def]
  unfold numAt
  rw [hd, if_neg]
  intro h
  obtain ⟨i, hi, he⟩ := List.mem_map.1 h
  have hi : i < m := by simpa using hi
  have := hinj _ _ (by omega) (by omega) (by omega) (by omega) he
  omega
theorem rowB_cert (hinj : ∀ a b, 1 ≤ a → a < C → 1 ≤ b → b < C → S a = S b → a = b) (cur : BS) (tg : Snd → Nat) : ∀ (l : List Snd) (m : Nat), 1 ≤ m → m ≤ C → rowOk tg C l m → (∀ s ∈ l, afterM g cur s = S (tg s)) →
    rowB g cur l ((List.range m).map S) = (l.map tg, (List.range (rowEnd tg l m)).map S)
  | [], m, _, _, _, _ => rfl
  | s :: l, m, h1, hC, hok, ha => by
    obtain ⟨o1, o2, o3, o4⟩ := hok
    simp only [rowB, rowEnd, List.map_cons]
    rw [ha s List.mem_cons_self]
    by_cases hlt : tg s < m
    · rw [putSet_some (idx_map hinj hC o1 hlt), if_pos hlt]
      rw [if_pos hlt] at o4
      rw [rowB_cert hinj cur tg l m h1 hC o4 fun s hs => ha s (List.mem_cons_of_mem _ hs)]
    · have e : tg s = m := by omega
      rw [if_neg hlt] at o4 ⊢
      rw [e, putSet_none (idx_new hinj h1 (by omega)), show (List.range m).map S ++ [S m] = (List.range (m + 1)).map S by rw [List.range_succ, List.map_append]; rfl]
      rw [rowB_cert hinj cur tg l (m + 1) (by omega) (by omega) o4 fun s hs => ha s (List.mem_cons_of_mem _ hs), List.length_map, List.length_range]
theorem buildN_cert (hinj : ∀ a b, 1 ≤ a → a < C → 1 ≤ b → b < C → S a = S b → a = b) (xs : List Snd) (goal : Nat) (tg : Nat → Snd → Nat) (M : Nat → Nat) (hM0 : M 0 = 1) (hM : ∀ i, i < C → i < M i ∧ M i ≤ C) (hMs : ∀ i, i < C → rowOk (tg i) C xs (M i) ∧ rowEnd (tg i) xs (M i) = M (i + 1)) (ha : ∀ i, i < C → ∀ s ∈ xs, afterM g (S i) s = S (tg i s)) :
    ∀ i, i ≤ C → buildN g xs goal (S 0) i = ⟨(List.range (M i)).map S, (List.range i).map fun i => xs.map (tg i), (List.range i).map fun i => (spreadM g (S i) (i == 0) true).getD goal false⟩
  | 0, _ => by simp [buildN, hM0]
  | i + 1, hi => by
    have ih := buildN_cert hinj xs goal tg M hM0 hM hMs ha i (by omega)
    obtain ⟨m1, m2⟩ := hM i (by omega)
    obtain ⟨r1, r2⟩ := hMs i (by omega)
    simp only [buildN, ih]
    have hcur : ((List.range (M i)).map S).getD i [] = S i := by rw [List.getD_eq_getElem?_getD, List.getElem?_map, List.getElem?_range m1]; rfl
    rw [hcur, rowB_cert hinj (S i) (tg i) xs (M i) (by omega) m2 r1 (ha i (by omega)), r2]
    simp only [List.range_succ, List.map_append, List.map_cons, List.map_nil]
end
/-! ### Numbers of keys by a certificate -/
theorem numKeys_cert {R : Nat → List Nat} {c : Nat → Nat} {T : Nat} (hinj : ∀ a b, a < T → b < T → R a = R b → a = b) (h0 : c 0 = 0) (hs : ∀ s, c s ≤ c (s + 1) ∧ c (s + 1) ≤ c s + 1) :
    ∀ n, 0 < n → c (n - 1) < T → numKeys ((List.range n).map fun s => R (c s)) [] = ((List.range n).map c, (List.range (c (n - 1) + 1)).map R)
  | 0, h, _ => absurd h (by omega)
  | 1, _, hT => by simp [numKeys, putKey, h0]
  | n + 2, _, hT => by
    simp only [show n + 2 - 1 = n + 1 by omega] at hT ⊢
    have h1 := hs n
    have ih := numKeys_cert hinj h0 hs (n + 1) (by omega) (by simp only [Nat.add_sub_cancel]; omega)
    simp only [Nat.add_sub_cancel] at ih
    rw [List.range_succ, List.map_append, List.map_cons, List.map_nil, numKeys_snoc, ih]
    simp only
    by_cases e : c (n + 1) = c n
    · have hmem : R (c n) ∈ (List.range (c n + 1)).map R := List.mem_map.2 ⟨c n, by simp, rfl⟩
      have hidx : ((List.range (c n + 1)).map R).idxOf (R (c n)) = c n := by
        have hlt := List.idxOf_lt_length_iff.2 hmem
        have hget := List.getElem_idxOf hlt
        rw [List.length_map, List.length_range] at hlt
        rw [List.getElem_map, List.getElem_range] at hget
        exact hinj _ _ (by omega) (by omega) hget
      rw [e]
      unfold putKey
      rw [if_pos hmem, hidx, List.map_append, List.map_cons, List.map_nil, e]
    · have e2 : c (n + 1) = c n + 1 := by omega
      have hnm : R (c n + 1) ∉ (List.range (c n + 1)).map R := fun h => by
        obtain ⟨i, hi, he⟩ := List.mem_map.1 h
        have hi : i < c n + 1 := by simpa using hi
        have := hinj _ _ (by omega) (by omega) he
        omega
      unfold putKey
      rw [e2, if_neg hnm, List.map_append, List.map_cons, List.map_nil, e2, List.length_map, List.length_range, List.range_succ (n := c n + 1), List.map_append]
      rfl
end Go.Proofs.Ytilkemdecenibaa
