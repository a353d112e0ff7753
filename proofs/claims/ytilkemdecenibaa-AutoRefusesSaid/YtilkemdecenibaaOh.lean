/-
  Rows of the call's own beside a row of another type that has grown.
-/
import Derived.Test.YtilkemdecenibaaBase
namespace Go.Proofs.Ytilkemdecenibaa
open Go.RowKit
section
variable {α : Type} {k : Nat} {enc : α → List Value}
theorem OwnK.blk {B : Nat} {e : TypeId} {w : World} {v : Value} {xs : List α} (h : OwnK k enc B e w v xs) {g : Nat} (hg : v.ownBlock = some g) : ∃ cur, w.heap[g]? = some (.cells cur e (0, 0)) := by
  obtain ⟨h1, h2⟩ := h
  rcases h2 with ⟨rfl, _⟩ | ⟨g', cap', cur, rfl, _, hh, _, _, _, ht⟩
  · cases hg
  · have : g' = g := by simpa [Value.ownBlock] using hg
    subst this; exact ⟨cur, hh⟩
theorem OwnK.other {B : Nat} {e e' : TypeId} {w w' : World} {v : Value} {xs : List α} {row : Option Nat} (h : OwnK k enc B e w v xs) (hg : w.grownBy w' row) (hr : ∀ g, row = some g → ∃ cur fr, w.heap[g]? = some (.cells cur e' fr)) (hne : e ≠ e') : OwnK k enc B e w' v xs := by
  have hb := fun g (hg' : v.ownBlock = some g) => OwnK.blk h hg'
  obtain ⟨h1, h2⟩ := h
  refine ⟨h1, ?_⟩
  rcases h2 with h2 | ⟨g', cap', cur, hv, hB, hh, r⟩
  · exact .inl h2
  · refine .inr ⟨g', cap', cur, hv, hB, (hg.block g' (Array.getElem?_eq_some_iff.1 hh).1 fun e1 => ?_).trans hh, r⟩
    obtain ⟨cur', fr, hc⟩ := hr g' e1.symm
    rw [hh] at hc
    cases hc
    exact hne rfl
end
end Go.Proofs.Ytilkemdecenibaa
