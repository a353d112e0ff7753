/-
  Rows of the call's own, elements of k cells: read, written.
-/
import Derived.Test.YtjfhfbobnncpkaaDoorSo
import Derived.Lib.SliceRun
namespace Go.Proofs.YtjfhfbobnncpkaaDoor
open Go.RowKit
/-! ### Rows of the call's own, elements of k cells -/
section
variable {α : Type} {k : Nat} {enc : α → List Value} {B e g n cap : Nat} {w : World} {xs : List α}
theorem OwnK.atk (hk : ∀ x, (enc x).length = k) (h : OwnK k enc B e w (.slice (some ⟨g, 0, none⟩) n cap) xs) {i : Nat} {y : α} (hi : xs[i]? = some y) {j : Nat} {u : Value} (hu : (enc y)[j]? = some u) : w.cell? ⟨g, i * k + j, none⟩ = some u := by
  obtain ⟨h1, h2⟩ := h
  rcases h2 with ⟨h3, _⟩ | ⟨g', cap', cur, h3, _, hh, _, _, _, ht⟩
  · cases h3
  · simp only [Value.slice.injEq, Option.some.injEq, Addr.mk.injEq, and_true] at h3
    obtain ⟨rfl, _, _⟩ := h3
    have hf := flatMap_at hk xs i y hi j _ hu
    rw [← ht, List.getElem?_take] at hf
    split at hf
    · simp only [World.cell?, hh]; simpa using hf
    · cases hf
theorem OwnK.free (h : OwnK k enc B e w (.slice (some ⟨g, 0, none⟩) n cap) xs) (i : Nat) : w.frozen? ⟨g, i, none⟩ = false := by
  obtain ⟨h1, h2⟩ := h
  rcases h2 with ⟨h3, _⟩ | ⟨g', cap', cur, h3, _, hh, _, _, _, ht⟩
  · cases h3
  · simp only [Value.slice.injEq, Option.some.injEq, Addr.mk.injEq, and_true] at h3
    obtain ⟨rfl, _, _⟩ := h3
    exact frozen_of_row w g i cur e hh
theorem OwnK.ge (h : OwnK k enc B e w (.slice (some ⟨g, 0, none⟩) n cap) xs) : B ≤ g ∧ g < w.heap.size ∧ xs.length = n ∧ n ≤ cap ∧ cap ≤ maxLen := by
  have h0 := World.ownsRow.lt h g rfl
  obtain ⟨h1, h2⟩ := h
  rcases h2 with ⟨h3, _⟩ | ⟨g', cap', cur, h3, _, hh, h4, h5, _, ht⟩
  · cases h3
  · simp only [Value.slice.injEq, Option.some.injEq, Addr.mk.injEq, and_true] at h3
    obtain ⟨_, h6, h7⟩ := h3
    exact ⟨h0.1, h0.2, h6.symm, by omega, by omega⟩
theorem OwnK.takeK (hk : ∀ x, (enc x).length = k) (h : OwnK k enc B e w (.slice (some ⟨g, 0, none⟩) n cap) xs) {m : Nat} (hm : m ≤ n) : OwnK k enc B e w (.slice (some ⟨g, 0, none⟩) m cap) (xs.take m) := by
  have hl := (OwnK.ge h).2.2.1
  obtain ⟨h1, h2⟩ := h
  rcases h2 with ⟨h3, _⟩ | ⟨g', cap', cur, h3, hg, hh, h4, h5, h6, ht⟩
  · cases h3
  · simp only [Value.slice.injEq, Option.some.injEq, Addr.mk.injEq, and_true] at h3
    obtain ⟨rfl, h7, rfl⟩ := h3
    have hlt : (xs.take m).length = m := by simp; omega
    refine ⟨length_flatMap_enc hk _, .inr ⟨g, cap, cur, by rw [hlt], hg, hh, by omega, h5, h6, ?_⟩⟩
    rw [flatMap_take hk, ← ht, List.take_take, hlt]
    congr 1
    have := Nat.mul_le_mul_right k hm
    rw [h7] at this; omega
/-- Cells behind the row are written: the row stays. -/
theorem OwnK.behind (hk : ∀ x, (enc x).length = k) : ∀ (vs : List Value) (o : Nat) (w : World), OwnK k enc B e w (.slice (some ⟨g, 0, none⟩) n cap) xs → n * k ≤ o → OwnK k enc B e (w.setCells g o vs) (.slice (some ⟨g, 0, none⟩) n cap) xs
  | [], _, _, h, _ => h
  | v :: vs, o, w, h, ho => by
    have hl := (OwnK.ge h).2.2.1
    refine OwnK.behind hk vs (o + 1) _ ?_ (by omega)
    subst hl
    have h1 := (World.ownsRow.stored h o v).1
    rw [List.set_eq_of_length_le (by rw [length_flatMap_enc hk]; exact ho)] at h1
    exact h1
theorem flat_set (hk : ∀ x, (enc x).length = k) : ∀ (xs : List α) (i : Nat) (y : α), i < xs.length → (xs.set i y).flatMap enc = (xs.flatMap enc).take (i * k) ++ enc y ++ (xs.flatMap enc).drop (i * k + k)
  | [], _, _, h => absurd h (Nat.not_lt_zero _)
  | x :: xs, 0, y, _ => by
    simp only [List.set_cons_zero, List.flatMap_cons, Nat.zero_mul, List.take_zero, List.nil_append, Nat.zero_add]
    rw [List.drop_append_of_le_length (by rw [hk]; exact Nat.le_refl _), List.drop_of_length_le (by rw [hk]; exact Nat.le_refl _)]; rfl
  | x :: xs, i + 1, y, h => by
    have ih := flat_set hk xs i y (by simpa using h)
    simp only [List.set_cons_succ, List.flatMap_cons]
    rw [ih, Nat.add_mul, Nat.one_mul, List.take_append, hk, List.take_of_length_le (l := enc x) (by rw [hk]; omega), show i * k + k - k = i * k by omega, List.drop_append, hk, List.drop_of_length_le (l := enc x) (by rw [hk]; omega), show i * k + k + k - k = i * k + k by omega]
    simp
end
section
variable {B e g n cap : Nat} {w : World} {xs : List Snd}
theorem OwnS.at (h : OwnS B e w (.slice (some ⟨g, 0, none⟩) n cap) xs) {i : Nat} {y : Snd} (hi : xs[i]? = some y) : w.cell? ⟨g, i * 2, none⟩ = some (.int .u32 y.p.toNat) ∧ w.cell? ⟨g, i * 2 + 1, none⟩ = some (.int .u32 y.m.toNat) :=
  ⟨OwnK.atk Snd.len h hi (j := 0) rfl, OwnK.atk Snd.len h hi (j := 1) rfl⟩
theorem set_two {β : Type} (l : List β) (j : Nat) (a b : β) (h : j + 1 < l.length) : (l.set j a).set (j + 1) b = l.take j ++ [a, b] ++ l.drop (j + 2) := by
  apply List.ext_getElem?
  intro i
  rw [List.getElem?_set, List.getElem?_set, List.append_assoc, List.getElem?_append, List.getElem?_append]
  simp only [List.length_set, List.length_take, List.length_cons, List.length_nil, List.getElem?_take, List.getElem?_drop]
  by_cases h1 : i < j
  · rw [if_neg (by omega), if_neg (by omega), if_pos (by omega), if_pos h1]
  · by_cases h2 : i = j
    · subst h2
      rw [if_neg (by omega), if_pos rfl, if_pos (by omega), if_neg (by omega), if_pos (by omega)]
      simp [show min i l.length = i by omega]
    · by_cases h3 : i = j + 1
      · subst h3
        rw [if_pos rfl, if_pos h, if_neg (by omega), if_pos (by omega)]
        simp [show min j l.length = j by omega]
      · rw [if_neg (by omega), if_neg (by omega), if_neg (by omega), if_neg (by omega)]
        congr 1; omega
theorem OwnS.set (h : OwnS B e w (.slice (some ⟨g, 0, none⟩) n cap) xs) {i : Nat} (hi : i < n) (y : Snd) :
    OwnS B e ((w.setCell ⟨g, i * 2, none⟩ (.int .u32 y.p.toNat)).setCell ⟨g, i * 2 + 1, none⟩ (.int .u32 y.m.toNat)) (.slice (some ⟨g, 0, none⟩) n cap) (xs.set i y) := by
  have hl := (OwnK.ge h).2.2.1
  subst hl
  have h1 := (World.ownsRow.stored h (i * 2) (.int .u32 y.p.toNat)).1
  have h2 := (World.ownsRow.stored h1 (i * 2 + 1) (.int .u32 y.m.toNat)).1
  rw [set_two _ _ _ _ (by rw [length_flatMap_enc Snd.len]; omega)] at h2
  unfold OwnS OwnK
  rw [List.length_set, flat_set Snd.len xs i y hi]
  exact h2
end
end Go.Proofs.YtjfhfbobnncpkaaDoor
