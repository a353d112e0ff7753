/-
  Rows of the call's own: one cell of one element is written; what other stores and appends leave as it was.
-/
import Derived.Test.YtilkemdecenibaaQt
import Derived.Laws.OwnMore
import Derived.RangeFuncBox
namespace Go.Proofs.Ytilkemdecenibaa
open Go.RowKit
section
variable {α : Type} {k : Nat} {enc : α → List Value} {B e g n cap : Nat} {w : World} {xs : List α}
theorem own_ge (h : OwnK k enc B e w (.slice (some ⟨g, 0, none⟩) n cap) xs) : B ≤ g ∧ g < w.heap.size ∧ xs.length = n ∧ n ≤ cap ∧ cap ≤ maxLen := by
  have h0 := World.ownsRow.lt h g rfl
  obtain ⟨h1, h2⟩ := h
  rcases h2 with ⟨h3, _⟩ | ⟨g', cap', cur, h3, _, hh, h4, h5, _, ht⟩
  · cases h3
  · simp only [Value.slice.injEq, Option.some.injEq, Addr.mk.injEq, and_true] at h3
    obtain ⟨_, h6, h7⟩ := h3
    exact ⟨h0.1, h0.2, h6.symm, by omega, by omega⟩
theorem own_at (hk : ∀ x, (enc x).length = k) (h : OwnK k enc B e w (.slice (some ⟨g, 0, none⟩) n cap) xs) {i : Nat} {y : α} (hi : xs[i]? = some y) {j : Nat} {u : Value} (hu : (enc y)[j]? = some u) : w.cell? ⟨g, i * k + j, none⟩ = some u := by
  obtain ⟨h1, h2⟩ := h
  rcases h2 with ⟨h3, _⟩ | ⟨g', cap', cur, h3, _, hh, _, _, _, ht⟩
  · cases h3
  · simp only [Value.slice.injEq, Option.some.injEq, Addr.mk.injEq, and_true] at h3
    obtain ⟨rfl, _, _⟩ := h3
    have hf := flatMap_at hk xs i y hi j _ hu
    rw [← ht, List.getElem?_take] at hf
    split at hf
    · simp only [World.cell?, hh]; simpa using hf
    · cases hf
theorem own_free (h : OwnK k enc B e w (.slice (some ⟨g, 0, none⟩) n cap) xs) (i : Nat) : w.frozen? ⟨g, i, none⟩ = false := by
  obtain ⟨h1, h2⟩ := h
  rcases h2 with ⟨h3, _⟩ | ⟨g', cap', cur, h3, _, hh, _, _, _, ht⟩
  · cases h3
  · simp only [Value.slice.injEq, Option.some.injEq, Addr.mk.injEq, and_true] at h3
    obtain ⟨rfl, _, _⟩ := h3
    exact frozen_of_row w g i cur e hh
theorem flat_set1 (hk : ∀ x, (enc x).length = k) {j : Nat} {u : Value} (hj : j < k) : ∀ (xs : List α) (i : Nat) (x y : α), xs[i]? = some x → enc y = (enc x).set j u → (xs.set i y).flatMap enc = (xs.flatMap enc).set (i * k + j) u
  | [], i, x, y, h, _ => by simp at h
  | z :: xs, 0, x, y, h, hy => by
    simp at h; subst h
    simp only [List.set_cons_zero, List.flatMap_cons, Nat.zero_mul, Nat.zero_add, hy]
    rw [List.set_append_left _ _ (by rw [hk]; exact hj)]
  | z :: xs, i + 1, x, y, h, hy => by
    have ih := flat_set1 hk hj xs i x y (by simpa using h) hy
    simp only [List.set_cons_succ, List.flatMap_cons, ih]
    rw [List.set_append_right _ _ (by rw [hk, Nat.add_mul]; omega), hk, Nat.add_mul, show i * k + 1 * k + j - k = i * k + j by omega]
/-- One cell of one element is written. -/
theorem own_store (hk : ∀ x, (enc x).length = k) (h : OwnK k enc B e w (.slice (some ⟨g, 0, none⟩) n cap) xs) {i j : Nat} {x y : α} {u : Value} (hi : xs[i]? = some x) (hj : j < k) (hy : enc y = (enc x).set j u) :
    OwnK k enc B e (w.setCell ⟨g, i * k + j, none⟩ u) (.slice (some ⟨g, 0, none⟩) n cap) (xs.set i y) := by
  have hl := (own_ge h).2.2.1
  subst hl
  have h1 := (World.ownsRow.stored h (i * k + j) u).1
  unfold OwnK
  rw [List.length_set, flat_set1 hk hj xs i x y hi hy]
  exact h1
/-- The second cell of two is written too. -/
theorem own_store2 (hk : ∀ x, (enc x).length = 2) (h : OwnK 2 enc B e w (.slice (some ⟨g, 0, none⟩) n cap) xs) {i : Nat} {x y z : α} {u v : Value} (hi : xs[i]? = some x) (hy : enc y = (enc x).set 0 u) (hz : enc z = (enc y).set 1 v) :
    OwnK 2 enc B e ((w.setCell ⟨g, i * 2, none⟩ u).setCell ⟨g, i * 2 + 1, none⟩ v) (.slice (some ⟨g, 0, none⟩) n cap) (xs.set i z) := by
  have h1 := own_store hk h (j := 0) hi (by decide) hy
  have hlt := (List.getElem?_eq_some_iff.1 hi).1
  have h2 := own_store hk h1 (i := i) (j := 1) (x := y) (y := z) (u := v) (by rw [List.getElem?_set_self hlt]) (by decide) hz
  rw [List.set_set] at h2
  simpa using h2
theorem own_set1 (hk : ∀ x, (enc x).length = 1) (h : OwnK 1 enc B e w (.slice (some ⟨g, 0, none⟩) n cap) xs) {i : Nat} {y : α} {u : Value} (hi : i < n) (hy : enc y = [u]) :
    OwnK 1 enc B e (w.setCell ⟨g, i, none⟩ u) (.slice (some ⟨g, 0, none⟩) n cap) (xs.set i y) := by
  have hl := (own_ge h).2.2.1
  have hx : xs[i]? = some xs[i] := List.getElem?_eq_getElem (by omega)
  have h1 := own_store hk h (j := 0) (y := y) (u := u) hx (by decide) (by
    rw [hy]
    have := hk xs[i]
    match hz : enc xs[i], this with
    | [z], _ => rfl)
  simpa using h1
theorem own_take (hk : ∀ x, (enc x).length = k) (h : OwnK k enc B e w (.slice (some ⟨g, 0, none⟩) n cap) xs) {m : Nat} (hm : m ≤ n) : OwnK k enc B e w (.slice (some ⟨g, 0, none⟩) m cap) (xs.take m) := by
  have hl := (own_ge h).2.2.1
  obtain ⟨h1, h2⟩ := h
  rcases h2 with ⟨h3, _⟩ | ⟨g', cap', cur, h3, hg, hh, h4, h5, h6, ht⟩
  · cases h3
  · simp only [Value.slice.injEq, Option.some.injEq, Addr.mk.injEq, and_true] at h3
    obtain ⟨rfl, h7, rfl⟩ := h3
    have hlt : (xs.take m).length = m := by simp; omega
    refine ⟨length_flatMap_enc hk _, .inr ⟨g, cap, cur, by rw [hlt], hg, hh, by omega, h5, h6, ?_⟩⟩
    rw [flatMap_take hk, ← ht, List.take_take, hlt]
    congr 1
    have := Nat.mul_le_mul_right k hm
    rw [h7] at this; omega
end
section
variable {α : Type} {k : Nat} {enc : α → List Value} {B e : Nat} {w w' : World} {v : Value} {xs : List α}
theorem own_lt (h : OwnK k enc B e w v xs) {g : Nat} (hg : v.ownBlock = some g) : B ≤ g ∧ g < w.heap.size := by
  obtain ⟨h1, h2⟩ := h
  rcases h2 with ⟨rfl, _⟩ | ⟨g', cap', cur, rfl, hB, hh, _⟩
  · cases hg
  · obtain rfl : g' = g := by simpa [Value.ownBlock] using hg
    exact ⟨hB, (Array.getElem?_eq_some_iff.1 hh).1⟩
theorem own_apart {row : Option Nat} (h : OwnK k enc B e w v xs) (hg : w.grownBy w' row) (hr : ∀ g, row = some g → v.ownBlock ≠ some g) : OwnK k enc B e w' v xs := by
  obtain ⟨h1, h2⟩ := h
  refine ⟨h1, ?_⟩
  rcases h2 with h2 | ⟨g', cap', cur, hv, hB, hh, r⟩
  · exact .inl h2
  · refine .inr ⟨g', cap', cur, hv, hB, (hg.block g' (Array.getElem?_eq_some_iff.1 hh).1 fun e1 => ?_).trans hh, r⟩
    exact hr g' e1.symm (by rw [hv]; rfl)
theorem grownBy_set (W : World) (b i : Nat) (v : Value) : W.grownBy (W.setCell ⟨b, i, none⟩ v) (some b) :=
  ⟨rfl, rfl, rfl, (KeepsWalks.setCell W _ v).size, fun k _ hk => Below.heap_setCell _ _ _ k (fun e => hk (by rw [e]))⟩
theorem own_setOff (h : OwnK k enc B e w v xs) {b i : Nat} {u : Value} (hb : v.ownBlock ≠ some b) : OwnK k enc B e (w.setCell ⟨b, i, none⟩ u) v xs :=
  own_apart h (grownBy_set w b i u) (fun g hg => by cases hg; exact hb)
theorem own_type (h : OwnK k enc B e w v xs) {g : Nat} (hg : v.ownBlock = some g) : ∃ cur, w.heap[g]? = some (.cells cur e (0, 0)) := by
  obtain ⟨h1, h2⟩ := h
  rcases h2 with ⟨rfl, _⟩ | ⟨g', cap', cur, rfl, _, hh, _, _, _, ht⟩
  · cases hg
  · have : g' = g := by simpa [Value.ownBlock] using hg
    subst this; exact ⟨cur, hh⟩
theorem own_offT {e' : Nat} (h : OwnK k enc B e w v xs) {b i : Nat} {u : Value} {cur : Array Value} {fr : Nat × Nat} (hb : w.heap[b]? = some (.cells cur e' fr)) (hne : e ≠ e') : OwnK k enc B e (w.setCell ⟨b, i, none⟩ u) v xs :=
  own_setOff h fun e1 => by
    obtain ⟨c, hc⟩ := own_type h e1
    rw [hb] at hc; cases hc; exact hne rfl
end
/-- A row of another type has grown. -/
theorem own_otherT {α β : Type} {k k' : Nat} {enc : α → List Value} {enc' : β → List Value} {B B' e e' : Nat} {w w' : World} {v u : Value} {xs : List α} {ys : List β} (h : OwnK k enc B e w v xs) (ho : OwnK k' enc' B' e' w u ys) (hg : w.grownBy w' u.ownBlock) (hne : e ≠ e') : OwnK k enc B e w' v xs :=
  own_apart h hg fun g hg' e1 => by
    obtain ⟨c1, h1⟩ := own_type h e1
    obtain ⟨c2, h2⟩ := own_type ho hg'
    rw [h1] at h2; cases h2; exact hne rfl
theorem blk_otherT {β : Type} {k' : Nat} {enc' : β → List Value} {b B' e e' : Nat} {cs : Array Value} {fr : Nat × Nat} {w w' : World} {u : Value} {ys : List β} (h : w.heap[b]? = some (.cells cs e fr)) (ho : OwnK k' enc' B' e' w u ys) (hg : w.grownBy w' u.ownBlock) (hne : e ≠ e') : w'.heap[b]? = some (.cells cs e fr) := by
  refine (hg.block b (Array.getElem?_eq_some_iff.1 h).1 fun e1 => ?_).trans h
  obtain ⟨c2, h2⟩ := own_type ho e1.symm
  rw [h] at h2; cases h2; exact hne rfl
theorem blk_kept {b : Nat} {o : Obj} {w w' : World} (h : w.heap[b]? = some o) (hx : Ext w w') : w'.heap[b]? = some o := (Below.block hx.bel _ (Array.getElem?_eq_some_iff.1 h).1).trans h
theorem gb_ext {w w' : World} (h : Ext w w') (row : Option Nat) : w.grownBy w' row := ⟨h.bel.os, h.bel.tape, h.bel.output, h.le, fun k hk _ => Below.block h.bel k hk⟩
theorem gb_trans {a b c : World} {row : Option Nat} (h : a.grownBy b row) (k : b.grownBy c row) : a.grownBy c row := ⟨k.os.trans h.os, k.tape.trans h.tape, k.output.trans h.output, Nat.le_trans h.size k.size, fun x hx hr => (k.block x (Nat.lt_of_lt_of_le hx h.size) hr).trans (h.block x hx hr)⟩
/-- What turned a row that is new to the elder world has not turned the elder world. -/
theorem gb_new {a b c : World} {row : Option Nat} (h : Ext a b) (k : b.grownBy c row) (hr : ∀ g, row = some g → a.heap.size ≤ g) : Ext a c := h.grown k hr
theorem gb_forget {a b c : World} {row row' : Option Nat} (h : a.grownBy b row) (k : b.grownBy c row') (hr : ∀ g, row' = some g → a.heap.size ≤ g) : a.grownBy c row := ⟨k.os.trans h.os, k.tape.trans h.tape, k.output.trans h.output, Nat.le_trans h.size k.size, fun x hx hx' => (k.block x (Nat.lt_of_lt_of_le hx h.size) (fun e => by have := hr x e.symm; omega)).trans (h.block x hx hx')⟩
theorem gb_cell {a b : World} {row : Option Nat} (h : a.grownBy b row) {x o : Nat} {v : Value} (hc : a.cell? ⟨x, o, none⟩ = some v) (hr : row ≠ some x) : b.cell? ⟨x, o, none⟩ = some v := by
  have := h.block x (cell_lt hc) (fun e => hr e.symm)
  simp only [World.cell?] at hc ⊢
  rw [this]; exact hc
/-- Two values in a box of the call's own. -/
theorem ext_set {a w : World} (h : Ext a w) {b : Nat} (hb : a.heap.size ≤ b) (i : Nat) (u : Value) : Ext a (w.setCell ⟨b, i, none⟩ u) := h.setCell (p := ⟨b, i, none⟩) hb u
end Go.Proofs.Ytilkemdecenibaa
