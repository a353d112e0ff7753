/-
  The order of correspondences: the reference's.
-/
import Derived.Test.YtjfhfbobnncpkaaDoorSo
import Derived.Test.YtjfhfbobnncpkaaDoorCk
namespace Go.Proofs.YtjfhfbobnncpkaaDoor
open Go.RowKit
section
variable {x y : List Cl} {k : Nat} {c d : Cl}
theorem drop_cons {α : Type} {l : List α} {k : Nat} {y : α} (h : l[k]? = some y) : l.drop k = y :: l.drop (k + 1) := by
  obtain ⟨h1, h2⟩ := List.getElem?_eq_some_iff.1 h
  rw [List.drop_eq_getElem_cons h1, h2]
theorem cmpCs_step (h : cmpCs x y = cmpCs (x.drop k) (y.drop k)) (hx : x[k]? = some c) (hy : y[k]? = some d) : cmpCs x y = if cmpC c d = 0 then cmpCs (x.drop (k + 1)) (y.drop (k + 1)) else cmpC c d := by
  rw [h, drop_cons hx, drop_cons hy]; rfl
theorem cmpC_kind (h : ¬ c.kind = d.kind) : cmpC c d = cmpI c.kind d.kind ∧ cmpC c d ≠ 0 := by
  have h0 : ¬ cmpI c.kind d.kind = 0 := fun e => h (cmpI_tot.zero e)
  have : cmpC c d = cmpI c.kind d.kind := by unfold cmpC; rw [if_neg h0]
  exact ⟨this, by rw [this]; exact h0⟩
theorem cmpC_same (h : c.kind = d.kind) : cmpC c d = cmpS c.s d.s := by unfold cmpC; rw [cmpI_eq h, if_pos rfl]
end
end Go.Proofs.YtjfhfbobnncpkaaDoor
