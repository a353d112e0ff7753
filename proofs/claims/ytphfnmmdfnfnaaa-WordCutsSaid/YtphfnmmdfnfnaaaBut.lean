/-
  A world in which at most one block has turned.
-/
import Derived.Test.YtphfnmmdfnfnaaaBase
namespace Go.Proofs.Ytphfnmmdfnfnaaa
open Go.RowKit
/-- At most block g has turned. -/
structure But (g : Nat) (w w' : World) : Prop where
  os : w'.os = w.os
  tape : w'.tape = w.tape
  output : w'.output = w.output
  dr : w.drawn ≤ w'.drawn
  size : w.heap.size ≤ w'.heap.size
  block : ∀ k, k < w.heap.size → k ≠ g → w'.heap[k]? = w.heap[k]?
theorem But.refl (g : Nat) (w : World) : But g w w := ⟨rfl, rfl, rfl, Nat.le_refl _, Nat.le_refl _, fun _ _ _ => rfl⟩
theorem But.of_ext {w w' : World} (g : Nat) (h : Ext w w') : But g w w' := ⟨h.bel.os, h.bel.tape, h.bel.output, h.dr, h.bel.size, fun k hk _ => h.bel.block k hk⟩
theorem But.trans {g : Nat} {a b c : World} (h : But g a b) (k : But g b c) : But g a c :=
  ⟨k.os.trans h.os, k.tape.trans h.tape, k.output.trans h.output, Nat.le_trans h.dr k.dr, Nat.le_trans h.size k.size, fun j hj hn => (k.block j (Nat.lt_of_lt_of_le hj h.size) hn).trans (h.block j hj hn)⟩
theorem But.ext {g : Nat} {w0 w w' : World} (h : But g w w') (hx : Ext w0 w) (hg : w0.heap.size ≤ g) : Ext w0 w' :=
  ⟨⟨h.os.trans hx.bel.os, h.tape.trans hx.bel.tape, h.output.trans hx.bel.output, Nat.le_trans hx.bel.size h.size, fun k hk => (h.block k (Nat.lt_of_lt_of_le hk hx.le) (by omega)).trans (hx.bel.block k hk)⟩, Nat.le_trans hx.dr h.dr⟩
theorem But.setCell {g : Nat} {w w' : World} (h : But g w w') (o : Nat) (v : Value) : But g w (w'.setCell ⟨g, o, none⟩ v) := by
  exact h.trans ⟨rfl, rfl, rfl, Nat.le_refl _, by simp [World.setCell], fun k _ hn => Below.heap_setCell _ _ _ _ hn⟩
theorem But.own {α : Type} {k : Nat} {enc : α → List Value} {g B : Nat} {e : TypeId} {w w' : World} {v : Value} {xs : List α} (h : But g w w') (ho : OwnK k enc B e w v xs) (hg : g < B) : OwnK k enc B e w' v xs := by
  obtain ⟨h1, h2⟩ := ho
  refine ⟨h1, ?_⟩
  rcases h2 with h2 | ⟨g', cap, cur, hv, hg', hh, r⟩
  · exact .inl h2
  · exact .inr ⟨g', cap, cur, hv, hg', (h.block g' (Array.getElem?_eq_some_iff.1 hh).1 (by omega)).trans hh, r⟩
end Go.Proofs.Ytphfnmmdfnfnaaa
