/-
  A block after a store; results that lie in memory.
-/
import Derived.Test.YtjfhfbobnncpkaaDoorBase
namespace Go.Proofs.YtjfhfbobnncpkaaDoor
open Go.RowKit
theorem heap_set {w : World} {B i : Nat} {cur : Array Value} {e : TypeId} {fr : Nat × Nat} (h : w.heap[B]? = some (.cells cur e fr)) (v : Value) : (w.setCell ⟨B, i, none⟩ v).heap[B]? = some (.cells (cur.setIfInBounds i v) e fr) := by
  show (w.heap.modify B _)[B]? = _
  rw [Array.getElem?_modify, if_pos rfl, h]; rfl
theorem frz3 {w : World} {B : Nat} {cur : Array Value} {e : TypeId} (h : w.heap[B]? = some (.cells cur e (0, 0))) :
    (∀ i, w.frozen? ⟨B, i, none⟩ = false) ∧ (∀ i (j : Nat) v, (w.setCell ⟨B, j, none⟩ v).frozen? ⟨B, i, none⟩ = false) ∧ (∀ i (j j' : Nat) v v', ((w.setCell ⟨B, j, none⟩ v).setCell ⟨B, j', none⟩ v').frozen? ⟨B, i, none⟩ = false) :=
  ⟨fun i => frozen_of_row w B i cur e h, fun i _ v => frozen_of_row _ B i _ e (heap_set h v), fun i _ _ v v' => frozen_of_row _ B i _ e (heap_set (heap_set h v) v')⟩
theorem res_cell {P : Program} {fn : Func} {p u : Tmp} {ty : TypeId} (h : fn.results = #[.cell p ty, .tmp u]) (tmps : Array Value) (w : World) (g : Nat) (t : TypeId) (cs : Array Value) (fr : Nat × Nat) (d : TypeDesc)
    (hp : tmps.getD p undef = .pointer (some ⟨g, 0, none⟩)) (hg : w.heap[g]? = some (.cells cs t fr))
    (hu : P.underlying ty = some d) (hd : (match d with | .struct _ | .array _ _ => true | _ => false) = true) (hi : (P.info? ty).map (·.size) = some cs.size) :
    (results fn tmps).run P w = .ok (.tuple #[.agg cs, tmps.getD u undef]) w := by
  rw [results_cell_tmp h, hp]
  simp [asAddr, Result.andThen, run_loadVar_row w g t ty cs fr d hg hu hd hi]
end Go.Proofs.YtjfhfbobnncpkaaDoor
