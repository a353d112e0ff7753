/-
  The order of words is a total order. Plain Lean: no program.
-/
import Derived.Test.YtphfnmmdfnfnaaaComp
import Derived.Sort.Statements
namespace Go.Proofs.Ytphfnmmdfnfnaaa
theorem cmpS_spec (s t : Snd) : (cmpS s t = -1 ∧ (s.p.toNat < t.p.toNat ∨ s.p.toNat = t.p.toNat ∧ s.m.toNat < t.m.toNat)) ∨ (cmpS s t = 0 ∧ s.p.toNat = t.p.toNat ∧ s.m.toNat = t.m.toNat) ∨ (cmpS s t = 1 ∧ (t.p.toNat < s.p.toNat ∨ s.p.toNat = t.p.toNat ∧ t.m.toNat < s.m.toNat)) := by
  unfold cmpS
  rcases Nat.lt_trichotomy s.p.toNat t.p.toNat with h | h | h
  · rw [cmpI_lt (by omega)]; left; exact ⟨rfl, .inl h⟩
  · rw [cmpI_eq (by omega)]
    rcases Nat.lt_trichotomy s.m.toNat t.m.toNat with h' | h' | h'
    · rw [cmpI_lt (by omega)]; left; exact ⟨rfl, .inr ⟨h, h'⟩⟩
    · rw [cmpI_eq (by omega)]; right; left; exact ⟨rfl, h, h'⟩
    · rw [cmpI_gt (by omega)]; right; right; exact ⟨rfl, .inr ⟨h, h'⟩⟩
  · rw [cmpI_gt (by omega)]; right; right; exact ⟨rfl, .inl h⟩
theorem cmpS_self (s : Snd) : cmpS s s = 0 := by rcases cmpS_spec s s with h | h | h <;> omega
theorem cmpS_zero {s t : Snd} (h : cmpS s t = 0) : s = t := by
  rw [snd_eq_iff]; rcases cmpS_spec s t with h' | h' | h' <;> omega
theorem cmpW_self : ∀ xs : List Snd, cmpW xs xs = 0
  | [] => rfl
  | s :: xs => by rw [cmpW, if_pos (cmpS_self s), cmpW_self xs]
theorem cmpW_anti : ∀ xs ys : List Snd, cmpW ys xs = - cmpW xs ys
  | [], [] => rfl
  | [], _ :: _ => rfl
  | _ :: _, [] => rfl
  | s :: xs, t :: ys => by
    rw [cmpW, cmpW, cmpS_anti s t]
    by_cases h : cmpS s t = 0
    · rw [if_pos h, if_pos (by omega), cmpW_anti xs ys]
    · rw [if_neg h, if_neg (by omega)]
theorem cmpW_tri : ∀ xs ys : List Snd, cmpW xs ys = -1 ∨ cmpW xs ys = 0 ∨ cmpW xs ys = 1
  | [], [] => .inr (.inl rfl)
  | [], _ :: _ => .inl rfl
  | _ :: _, [] => .inr (.inr rfl)
  | s :: xs, t :: ys => by
    rw [cmpW]; split
    · exact cmpW_tri xs ys
    · exact cmpS_tri s t
theorem cmpW_zero : ∀ {xs ys : List Snd}, cmpW xs ys = 0 → xs = ys
  | [], [], _ => rfl
  | [], _ :: _, h => by simp [cmpW] at h
  | _ :: _, [], h => by simp [cmpW] at h
  | s :: xs, t :: ys, h => by
    rw [cmpW] at h; split at h
    · rename_i h1; rw [cmpS_zero h1, cmpW_zero h]
    · contradiction
theorem cmpS_trans {a b c : Snd} (h1 : cmpS a b ≤ 0) (h2 : cmpS b c ≤ 0) : cmpS a c ≤ 0 ∧ (cmpS a b < 0 ∨ cmpS b c < 0 → cmpS a c < 0) := by
  rcases cmpS_spec a b with h | h | h <;> rcases cmpS_spec b c with h' | h' | h' <;> rcases cmpS_spec a c with h'' | h'' | h'' <;> omega
theorem cmpW_trans : ∀ {a b c : List Snd}, cmpW a b ≤ 0 → cmpW b c ≤ 0 → cmpW a c ≤ 0 ∧ (cmpW a b < 0 ∨ cmpW b c < 0 → cmpW a c < 0)
  | [], [], [], _, _ => by simp [cmpW]
  | [], [], _ :: _, _, _ => by simp [cmpW]
  | [], _ :: _, [], _, h => by simp [cmpW] at h
  | [], _ :: _, _ :: _, _, _ => by simp [cmpW]
  | _ :: _, [], _, h, _ => by simp [cmpW] at h
  | _ :: _, _ :: _, [], _, h => by simp [cmpW] at h
  | s :: a, t :: b, u :: c, h1, h2 => by
    rw [cmpW] at h1 h2 ⊢
    rw [cmpW, cmpW]
    have h3 : cmpS s t ≤ 0 := by split at h1 <;> omega
    have h4 : cmpS t u ≤ 0 := by split at h2 <;> omega
    obtain ⟨h5, h6⟩ := cmpS_trans h3 h4
    by_cases e1 : cmpS s t = 0
    · by_cases e2 : cmpS t u = 0
      · have e3 : cmpS s u = 0 := by rw [cmpS_zero e1]; exact e2
        rw [if_pos e1] at h1; rw [if_pos e2] at h2
        rw [if_pos e1, if_pos e2, if_pos e3]
        exact cmpW_trans h1 h2
      · have e3 : cmpS s u < 0 := h6 (.inr (by omega))
        rw [if_neg (by omega : ¬ cmpS s u = 0)]; omega
    · have e3 : cmpS s u < 0 := h6 (.inl (by omega))
      rw [if_neg (by omega : ¬ cmpS s u = 0)]; omega
theorem cmpW_append (xs ys : List Snd) : cmpW xs (xs ++ ys) = if ys = [] then 0 else -1 := by
  induction xs with
  | nil => cases ys <;> simp [cmpW]
  | cons s xs ih => rw [List.cons_append, cmpW, if_pos (cmpS_self s), ih]
theorem swo_of_cmpW {α : Type} (f : α → List Snd) : Sort.SWO (fun x y => decide (cmpW (f x) (f y) < 0)) where
  irrefl x := by simp [cmpW_self]
  trans x y z h1 h2 := by
    simp only [decide_eq_true_eq] at *
    exact (cmpW_trans (by omega) (by omega)).2 (.inl h1)
  ntrans x y z h1 h2 := by
    simp only [decide_eq_false_iff_not] at *
    rw [cmpW_anti (f z) (f x)]
    rw [cmpW_anti (f y) (f x)] at h1
    rw [cmpW_anti (f z) (f y)] at h2
    have := (cmpW_trans (a := f z) (b := f y) (c := f x) (by omega) (by omega)).1
    omega
end Go.Proofs.Ytphfnmmdfnfnaaa
