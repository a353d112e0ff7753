/-
  The plain half of natural.Shortest: the first set of just m features, from a feature on, that has one of each set in a list; it is found by cutting as the program does, and as the reference does.
-/
import Derived.Test.YtbnbfdbliokcaaaDoorJe
namespace Go.Proofs.YtbnbfdbliokcaaaDoor
open Go.RowKit
/-- The features of a set. -/
def cntB (s : BitVec 32) : Nat := ((List.range 32).filter fun i => s.getLsbD i).length
/-- g: how many features are left (24 - from); m: how many are taken. -/
def hit : Nat → Nat → List (BitVec 32) → Option (BitVec 32)
  | _, 0, l => if l.isEmpty then some 0#32 else none
  | 0, _ + 1, _ => none
  | g + 1, m + 1, l => match hit g m (l.filter fun x => !x.getLsbD (23 - g)) with
    | some s => some (s ||| bt (23 - g))
    | none => hit g (m + 1) l
def apartF : BitVec 32 → List (BitVec 32) → Nat
  | _, [] => 0
  | used, x :: l => if x &&& used = 0#32 then apartF (used ||| x) l + 1 else apartF used l
theorem hit_succ_none {g m : Nat} {l : List (BitVec 32)} (h : hit (g + 1) (m + 1) l = none) : hit g m (l.filter fun x => !x.getLsbD (23 - g)) = none ∧ hit g (m + 1) l = none := by
  unfold hit at h
  split at h
  · cases h
  · rename_i h1; exact ⟨h1, h⟩
theorem hit_nil_zero (g : Nat) : hit g 0 [] = some 0#32 := by unfold hit; rfl
theorem hit_cons_zero (g : Nat) {l : List (BitVec 32)} (h : l ≠ []) : hit g 0 l = none := by
  unfold hit
  cases l with
  | nil => exact absurd rfl h
  | cons x l => rfl
theorem hit_zero (m : Nat) (l : List (BitVec 32)) : hit 0 (m + 1) l = none := by unfold hit; rfl
theorem and_ne_zero {x s : BitVec 32} : x &&& s ≠ 0#32 ↔ ∃ i, i < 32 ∧ x.getLsbD i = true ∧ s.getLsbD i = true := by
  constructor
  · intro h
    apply Classical.byContradiction
    intro hn
    apply h
    refine BitVec.eq_of_getLsbD_eq fun i hi => ?_
    simp only [BitVec.getLsbD_and, BitVec.getLsbD_zero]
    cases h1 : x.getLsbD i <;> cases h2 : s.getLsbD i <;> simp
    exact hn ⟨i, hi, h1, h2⟩
  · rintro ⟨i, hi, h1, h2⟩ h
    have := congrArg (fun z : BitVec 32 => z.getLsbD i) h
    simp [h1, h2] at this
theorem bt_self (f : Nat) (hf : f < 32) : (bt f).getLsbD f = true := by rw [bt_bit f f hf hf]; simp
/-- What is found has one of each set, and features that are left only. -/
theorem hit_sound : ∀ (g m : Nat) (l : List (BitVec 32)) (s : BitVec 32), g ≤ 24 → hit g m l = some s → (∀ x ∈ l, x &&& s ≠ 0#32) ∧ (∀ i, s.getLsbD i = true → 24 - g ≤ i ∧ i < 24) := by
  intro g
  induction g with
  | zero =>
    intro m l s _ h
    cases m with
    | zero =>
      unfold hit at h
      split at h
      · rename_i he
        cases h
        have : l = [] := by simpa using he
        subst this
        exact ⟨fun x hx => (by cases hx), fun i hi => (by simp at hi)⟩
      · cases h
    | succ m => rw [hit_zero] at h; cases h
  | succ g ih =>
    intro m l s hg h
    cases m with
    | zero =>
      unfold hit at h
      split at h
      · rename_i he
        cases h
        have : l = [] := by simpa using he
        subst this
        exact ⟨fun x hx => (by cases hx), fun i hi => (by simp at hi)⟩
      · cases h
    | succ m =>
      unfold hit at h
      split at h
      · rename_i s1 h1
        cases h
        obtain ⟨a1, a2⟩ := ih m _ s1 (by omega) h1
        refine ⟨fun x hx => ?_, fun i hi => ?_⟩
        · by_cases hb : x.getLsbD (23 - g) = true
          · exact and_ne_zero.2 ⟨23 - g, by omega, hb, by rw [BitVec.getLsbD_or, bt_self _ (by omega)]; simp⟩
          · obtain ⟨i, hi, e1, e2⟩ := and_ne_zero.1 (a1 x (List.mem_filter.2 ⟨hx, by simpa using hb⟩))
            exact and_ne_zero.2 ⟨i, hi, e1, by rw [BitVec.getLsbD_or, e2]; simp⟩
        · rw [BitVec.getLsbD_or, Bool.or_eq_true] at hi
          rcases hi with hi | hi
          · have := a2 i hi; omega
          · by_cases h32 : i < 32
            · rw [bt_bit _ _ h32 (by omega)] at hi
              simp at hi; omega
            · rw [BitVec.getLsbD_of_ge _ _ (by omega)] at hi; cases hi
      · obtain ⟨a1, a2⟩ := ih (m + 1) l s (by omega) h
        exact ⟨a1, fun i hi => by have := a2 i hi; omega⟩
/-- A set without a feature that is left: nothing is found. -/
theorem hit_lost {g m : Nat} {l : List (BitVec 32)} (hg : g ≤ 24) {x : BitVec 32} (hx : x ∈ l) (h : ∀ i, 24 - g ≤ i → x.getLsbD i = false) : hit g m l = none := by
  cases e : hit g m l with
  | none => rfl
  | some s =>
    obtain ⟨a1, a2⟩ := hit_sound g m l s hg e
    obtain ⟨i, _, e1, e2⟩ := and_ne_zero.1 (a1 x hx)
    have := a2 i e2
    rw [h i this.1] at e1; cases e1
theorem shr_zero_bits {x : BitVec 32} {f : Nat} : x >>> f = 0#32 ↔ ∀ i, f ≤ i → x.getLsbD i = false := by
  constructor
  · intro h i hi
    have := congrArg (fun z : BitVec 32 => z.getLsbD (i - f)) h
    simp only [BitVec.getLsbD_ushiftRight, BitVec.getLsbD_zero] at this
    rwa [show f + (i - f) = i by omega] at this
  · intro h
    refine BitVec.eq_of_getLsbD_eq fun i hi => ?_
    rw [BitVec.getLsbD_ushiftRight, h _ (by omega)]; simp
/-! ### Counting -/
theorem cntB_or_bt (s : BitVec 32) (f : Nat) (hf : f < 32) : cntB (s ||| bt f) ≤ cntB s + 1 := by
  unfold cntB
  rw [← List.countP_eq_length_filter, ← List.countP_eq_length_filter]
  have h : ∀ n, List.countP (fun i => (s ||| bt f).getLsbD i) (List.range n) ≤ List.countP (fun i => s.getLsbD i) (List.range n) + if f < n then 1 else 0 := by
    intro n
    induction n with
    | zero => simp
    | succ n ih =>
      rw [List.range_succ, List.countP_append, List.countP_append]
      simp only [List.countP_cons, List.countP_nil]
      rw [BitVec.getLsbD_or]
      by_cases e : n = f
      · subst e
        have i1 : (if n < n then 1 else 0) = 0 := if_neg (by omega)
        have i2 : (if n < n + 1 then 1 else 0) = 1 := if_pos (by omega)
        rw [i1] at ih
        rw [i2]
        have i3 : (if (s.getLsbD n || (bt n).getLsbD n) = true then 1 else 0) ≤ 1 := by split <;> omega
        omega
      · have hb : (bt f).getLsbD n = false := by
          by_cases h32 : n < 32
          · rw [bt_bit _ _ h32 hf]; simpa using e
          · exact BitVec.getLsbD_of_ge _ _ (by omega)
        rw [hb, Bool.or_false]
        have hif : (if f < n + 1 then 1 else 0) = (if f < n then 1 else 0) := by
          by_cases e2 : f < n
          · rw [if_pos e2, if_pos (by omega)]
          · rw [if_neg e2, if_neg (by omega)]
        rw [hif]; omega
  have := h 32
  rw [if_pos hf] at this; exact this
theorem and_not_zero (s : BitVec 32) : s &&& ~~~(0#32) = s := by
  refine BitVec.eq_of_getLsbD_eq fun i hi => ?_
  rw [BitVec.getLsbD_and, BitVec.getLsbD_not, BitVec.getLsbD_zero]
  simp [hi]
theorem cntB_zero : cntB 0#32 = 0 := by decide
theorem hit_cnt : ∀ (g m : Nat) (l : List (BitVec 32)) (s : BitVec 32), g ≤ 24 → hit g m l = some s → cntB s ≤ m := by
  intro g
  induction g with
  | zero =>
    intro m l s _ h
    cases m with
    | zero =>
      unfold hit at h
      split at h
      · cases h; rw [cntB_zero]; exact Nat.le_refl _
      · cases h
    | succ m => rw [hit_zero] at h; cases h
  | succ g ih =>
    intro m l s hg h
    cases m with
    | zero =>
      unfold hit at h
      split at h
      · cases h; rw [cntB_zero]; exact Nat.le_refl _
      · cases h
    | succ m =>
      unfold hit at h
      split at h
      · rename_i s1 h1
        cases h
        have a := ih m _ s1 (by omega) h1
        have b := cntB_or_bt s1 (23 - g) (by omega)
        omega
      · exact ih (m + 1) l s (by omega) h
/-- Fewer features, if those of u are left out and one of s is in u. -/
theorem cntB_lt {s u v : BitVec 32} (huv : ∀ i, v.getLsbD i = true → u.getLsbD i = true) {b : Nat} (hb : b < 32) (h1 : s.getLsbD b = true) (h2 : u.getLsbD b = true) (h3 : v.getLsbD b = false) : cntB (s &&& ~~~u) + 1 ≤ cntB (s &&& ~~~v) := by
  unfold cntB
  rw [← List.countP_eq_length_filter, ← List.countP_eq_length_filter]
  have h : ∀ n, n ≤ 32 → List.countP (fun i => (s &&& ~~~u).getLsbD i) (List.range n) + (if b < n then 1 else 0) ≤ List.countP (fun i => (s &&& ~~~v).getLsbD i) (List.range n) := by
    intro n
    induction n with
    | zero => simp
    | succ n ih =>
      intro hn
      replace ih := ih (by omega)
      rw [List.range_succ, List.countP_append, List.countP_append]
      simp only [List.countP_cons, List.countP_nil]
      by_cases e : n = b
      · subst e
        have hz1 : (s &&& ~~~u).getLsbD n = false := by simp [h2]
        have hz2 : (s &&& ~~~v).getLsbD n = true := by
          simp only [BitVec.getLsbD_and, BitVec.getLsbD_not, h1, h3]; simp; omega
        rw [hz1, hz2, if_neg (by simp), if_pos rfl]
        have i1 : (if n < n then 1 else 0) = 0 := if_neg (by omega)
        have i2 : (if n < n + 1 then 1 else 0) = 1 := if_pos (by omega)
        omega
      · have hm : (s &&& ~~~u).getLsbD n = true → (s &&& ~~~v).getLsbD n = true := by
          simp only [BitVec.getLsbD_and, BitVec.getLsbD_not, Bool.and_eq_true]
          rintro ⟨p1, p2, p3⟩
          refine ⟨p1, p2, ?_⟩
          cases hv : v.getLsbD n
          · rfl
          · rw [huv n hv] at p3; cases p3
        have hif : (if b < n + 1 then 1 else 0) = (if b < n then 1 else 0) := by
          by_cases e2 : b < n
          · rw [if_pos e2, if_pos (by omega)]
          · rw [if_neg e2, if_neg (by omega)]
        rw [hif]
        have hle : (if (s &&& ~~~u).getLsbD n = true then 1 else 0) ≤ (if (s &&& ~~~v).getLsbD n = true then 1 else 0) := by
          cases hu : (s &&& ~~~u).getLsbD n
          · rw [if_neg (by simp)]; exact Nat.zero_le _
          · rw [hm hu]; exact Nat.le_refl _
        omega
  have := h 32 (by omega)
  rw [if_pos hb] at this; omega
theorem apartF_le (s : BitVec 32) : ∀ (l : List (BitVec 32)) (used : BitVec 32), (∀ x ∈ l, x &&& s ≠ 0#32) → apartF used l ≤ cntB (s &&& ~~~used) := by
  intro l
  induction l with
  | nil => intro used _; exact Nat.zero_le _
  | cons x l ih =>
    intro used h
    unfold apartF
    split
    · rename_i hz
      have h1 := ih (used ||| x) fun y hy => h y (List.mem_cons_of_mem _ hy)
      obtain ⟨i, hi, e1, e2⟩ := and_ne_zero.1 (h x (by simp))
      have h3 : used.getLsbD i = false := by
        cases hu : used.getLsbD i
        · rfl
        · exact absurd hz (and_ne_zero.2 ⟨i, hi, e1, hu⟩)
      have h4 := cntB_lt (s := s) (u := used ||| x) (v := used) (fun j hj => by rw [BitVec.getLsbD_or, hj]; simp) hi e2 (by rw [BitVec.getLsbD_or, e1]; simp) h3
      omega
    · exact ih used fun y hy => h y (List.mem_cons_of_mem _ hy)
theorem hit_apart {g m : Nat} {l : List (BitVec 32)} (hg : g ≤ 24) (h : m < apartF 0#32 l) : hit g m l = none := by
  cases e : hit g m l with
  | none => rfl
  | some s =>
    have a1 := (hit_sound g m l s hg e).1
    have a2 := hit_cnt g m l s hg e
    have a3 := apartF_le s l 0#32 a1
    rw [and_not_zero] at a3; omega
/-- Whatever has one of each set: as many features, or fewer, are found. -/
theorem cntB_split (T : BitVec 32) (f : Nat) (hf : f < 32) (h : T.getLsbD f = true) : cntB T = cntB (T &&& ~~~bt f) + 1 := by
  have h1 := cntB_lt (s := T) (u := bt f) (v := 0#32) (fun i hi => by simp at hi) hf h (bt_self f hf) (by simp)
  rw [and_not_zero] at h1
  have h2 := cntB_or_bt (T &&& ~~~bt f) f hf
  have h3 : (T &&& ~~~bt f) ||| bt f = T := by
    refine BitVec.eq_of_getLsbD_eq fun i hi => ?_
    rw [BitVec.getLsbD_or, BitVec.getLsbD_and, BitVec.getLsbD_not, bt_bit f i hi hf]
    by_cases e : i = f
    · subst e; simp [h]
    · simp [e, hi]
  rw [h3] at h2
  omega
theorem hit_complete : ∀ (g : Nat) (l : List (BitVec 32)) (T : BitVec 32), g ≤ 24 → (∀ x ∈ l, x &&& T ≠ 0#32) → (∀ i, T.getLsbD i = true → 24 - g ≤ i ∧ i < 24) → hit g (cntB T) l ≠ none := by
  intro g
  induction g with
  | zero =>
    intro l T _ h1 h2
    have hT : T = 0#32 := by
      refine BitVec.eq_of_getLsbD_eq fun i hi => ?_
      cases e : T.getLsbD i
      · simp
      · have := h2 i e; omega
    subst hT
    have hl : l = [] := by
      cases l with
      | nil => rfl
      | cons x l => exact absurd (by simp) (h1 x (by simp))
    subst hl
    rw [cntB_zero, hit_nil_zero]; simp
  | succ g ih =>
    intro l T hg h1 h2
    have hf : 23 - g < 32 := by omega
    cases hb : T.getLsbD (23 - g)
    · have h3 := ih l T (by omega) h1 fun i hi => by
        have := h2 i hi
        refine ⟨?_, this.2⟩
        rcases Nat.lt_or_ge i (24 - g) with h4 | h4
        · have : i = 23 - g := by omega
          subst this; rw [hb] at hi; cases hi
        · exact h4
      cases hc : cntB T with
      | zero =>
        rw [hc] at h3
        cases l with
        | nil => rw [hit_nil_zero]; simp
        | cons x l => exact absurd (hit_cons_zero g (by simp)) h3
      | succ m =>
        rw [hc] at h3
        unfold hit
        split
        · simp
        · exact h3
    · have hc := cntB_split T _ hf hb
      rw [hc]
      have h3 := ih (l.filter fun x => !x.getLsbD (23 - g)) (T &&& ~~~bt (23 - g)) (by omega) (fun x hx => by
        obtain ⟨hx1, hx2⟩ := List.mem_filter.1 hx
        obtain ⟨i, hi, e1, e2⟩ := and_ne_zero.1 (h1 x hx1)
        refine and_ne_zero.2 ⟨i, hi, e1, ?_⟩
        have hne : i ≠ 23 - g := by
          rintro rfl
          rw [e1] at hx2; cases hx2
        rw [BitVec.getLsbD_and, e2, BitVec.getLsbD_not, bt_bit _ _ hi hf]
        simp [hi, hne]) (fun i hi => by
        rw [BitVec.getLsbD_and, Bool.and_eq_true] at hi
        obtain ⟨i1, i2⟩ := hi
        have h4 := h2 i i1
        refine ⟨?_, h4.2⟩
        rcases Nat.lt_or_ge i (24 - g) with h5 | h5
        · have : i = 23 - g := by omega
          subst this
          rw [BitVec.getLsbD_not, bt_self _ hf] at i2; simp at i2
        · exact h5)
      unfold hit
      split
      · simp
      · rename_i h4; exact absurd h4 h3
/-! ### The least number -/
/-- The first number of features, from 25 - k on, at which a set is found. -/
def hitFrom (l : List (BitVec 32)) : Nat → Option (BitVec 32)
  | 0 => none
  | k + 1 => match hit 24 (24 - k) l with
    | some s => some s
    | none => hitFrom l k
def leastHit (l : List (BitVec 32)) : BitVec 32 := (hitFrom l 25).getD 0#32
theorem hitFrom_step {l : List (BitVec 32)} {m : Nat} (hm : m ≤ 24) (h : hit 24 m l = none) : hitFrom l (25 - m) = hitFrom l (25 - (m + 1)) := by
  rw [show 25 - m = (25 - (m + 1)) + 1 by omega]
  conv => lhs; unfold hitFrom
  rw [show 24 - (25 - (m + 1)) = m by omega, h]
theorem hitFrom_found {l : List (BitVec 32)} {m : Nat} (hm : m ≤ 24) {s : BitVec 32} (h : hit 24 m l = some s) : hitFrom l (25 - m) = some s := by
  rw [show 25 - m = (25 - (m + 1)) + 1 by omega]
  unfold hitFrom
  rw [show 24 - (25 - (m + 1)) = m by omega, h]
theorem hit_24 {l : List (BitVec 32)} (h : ∀ x ∈ l, ∃ i, i < 24 ∧ x.getLsbD i = true) : hit 24 24 l ≠ none := by
  have hc : cntB 16777215#32 = 24 := by decide
  have := hit_complete 24 l 16777215#32 (Nat.le_refl _) (fun x hx => by
    obtain ⟨i, hi, e⟩ := h x hx
    refine and_ne_zero.2 ⟨i, by omega, e, ?_⟩
    have : ∀ i : Fin 24, (16777215#32).getLsbD i.1 = true := by decide
    exact this ⟨i, hi⟩) (fun i hi => by
    refine ⟨by omega, ?_⟩
    rcases Nat.lt_or_ge i 24 with h1 | h1
    · exact h1
    · rcases Nat.lt_or_ge i 32 with h2 | h2
      · have : ∀ j : Fin 8, (16777215#32).getLsbD (24 + j.1) = false := by decide
        have := this ⟨i - 24, by omega⟩
        rw [show 24 + (i - 24) = i by omega] at this
        rw [this] at hi; cases hi
      · rw [BitVec.getLsbD_of_ge _ _ (by omega)] at hi; cases hi)
  rwa [hc] at this
end Go.Proofs.YtbnbfdbliokcaaaDoor
