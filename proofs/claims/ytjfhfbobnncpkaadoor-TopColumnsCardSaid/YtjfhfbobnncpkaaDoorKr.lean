/-
  The reference of chapter 20: Merge, Total, width, asked.
-/
import Derived.Test.YtjfhfbobnncpkaaDoorKa2
namespace Go.Proofs.YtjfhfbobnncpkaaDoor
open Go.RowKit
theorem chkE_all {ls : List (List HCo)} (h : chkE ls = 0) : (∀ l ∈ ls, l.length ≤ 4096 ∧ ∀ y ∈ l, y.n ≤ 64) ∧ ∀ y ∈ ls.flatten, y.n = widH ls.flatten ∧ 1 ≤ y.cnt ∧ y.cnt ≤ 2147483647 ∧ y.x.all Cl.ok = true := by
  unfold chkE at h
  split at h
  · cases h
  · rename_i h1
    split at h
    · rename_i h2
      refine ⟨fun l hl => ?_, fun y hy => ?_⟩
      · have : manyB l = false := by
          rw [Bool.not_eq_true, List.any_eq_false] at h1
          simpa using h1 l hl
        simp [manyB] at this
        exact this
      · have := List.all_eq_true.1 h2 y hy
        simp only [corB, cntB, Bool.and_eq_true, decide_eq_true_eq] at this
        exact ⟨this.1, this.2.1.1, this.2.1.2, this.2.2⟩
    · cases h
/-- A sum handed back, or an error. -/
def OrSum (E : Int) (l : List (List Cl × Int)) (w : World) (e : Ending) (w' : World) : Prop :=
  (E ≠ 0 ∧ e = .returned (.tuple #[.slice none 0 0, .int .i64 E]) ∧ Ext w w') ∨ (E = 0 ∧ SumRet l w e w')
theorem chkE_nil (l : List HCo) : chkE [l, []] = chkE [l] := by
  unfold chkE
  have e1 : [l, ([] : List HCo)].any manyB = [l].any manyB := by simp [manyB]
  have e2 : [l, ([] : List HCo)].flatten = [l].flatten := by simp
  rw [e1, e2]
theorem sumC_succ {l : List HCo} {j : Nat} {y : HCo} (h : l[j]? = some y) : sumC (l.take (j + 1)) = sumC (l.take j) + y.cnt := by rw [take_succ_at h, sumC_snoc]
/-! ### A question about two languages -/
def askE (l : List HCo) (f t : Int) (x y : Cl) : Int :=
  if chkE [l] ≠ 0 then chkE [l] else if f < 0 ∨ (widH l : Int) ≤ f ∨ t < 0 ∨ (widH l : Int) ≤ t then 3 else if x.ok = false ∨ x.kind = 0 ∨ y.ok = false ∨ y.kind = 0 then 2 else 0
end Go.Proofs.YtjfhfbobnncpkaaDoor
