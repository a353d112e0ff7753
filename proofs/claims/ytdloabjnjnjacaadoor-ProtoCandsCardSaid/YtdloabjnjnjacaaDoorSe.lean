/-
  The table of a task.
-/
import Derived.Test.YtdloabjnjnjacaaDoorSd
import Derived.Test.YtdloabjnjnjacaaDoorDp
namespace Go.Proofs.YtdloabjnjnjacaaDoor
open Go.RowKit
def parF (ts : List Nd) (v : Nat) : Int := ((ts[v]?).map Nd.par).getD (-1)
/-- A leaf may be in state s. -/
def okS (L st : List Int) (u s : Nat) : Bool := (L.zip st).all fun p => !decide (p.1 = (u : Int)) || (decide (p.2 = -1) || decide (p.2 = (s : Int)))
def rowM (ms : List (List Int)) (s : Nat) : List Int := ms.getD s []
def tabS (ts : List Nd) (ms : List (List Int)) (st : List Int) : Nat → List Int := tabl ts.length ms.length (parF ts) (rowM ms) (okS (leafL ts) st) ts.length
def accS (ts : List Nd) (ms : List (List Int)) (st : List Int) (j u s : Nat) : Int := acc ts.length (parF ts) (rowM ms) (okS (leafL ts) st) (tabS ts ms st) j u s
theorem parF_at {ts : List Nd} {v : Nat} {x : Nd} (h : ts[v]? = some x) : parF ts v = x.par := by simp [parF, h]
theorem tree_par {ts : List Nd} (ht : treeB ts = true) {v : Nat} (hv : v < ts.length) : parB v (parF ts v) = true := by
  simp only [treeB, Bool.and_eq_true, List.all_eq_true] at ht
  have h := ht.2.2 v (List.mem_range.2 hv)
  have hx : ts[v]? = some ts[v] := List.getElem?_eq_getElem hv
  rw [parF_at hx]
  simp only [nodeB, hx, Bool.and_eq_true] at h
  exact h.1
theorem task_of {ts : List Nd} {ms : List (List Int)} (ht : treeB ts = true) (hm : smB ms = true) : Task ts.length ms.length (parF ts) (rowM ms) := by
  have hlen : 1 ≤ ts.length := by simp only [treeB, Bool.and_eq_true, decide_eq_true_eq] at ht; exact ht.1
  obtain ⟨m1, m2, m3⟩ := smB_of hm
  have hmem : ∀ s, s < ms.length → rowM ms s ∈ ms := fun s hs => by
    unfold rowM; rw [List.getD_eq_getElem?_getD, List.getElem?_eq_getElem hs]; exact List.getElem_mem hs
  refine ⟨hlen, fun v h1 h2 => ?_, fun v h2 => ?_, fun s hs => (m3 _ (hmem s hs)).1, fun s hs x hx => ((m3 _ (hmem s hs)).2 x hx).1⟩
  · have := tree_par ht h2
    unfold parB at this
    rw [if_neg (by omega)] at this
    simp only [Bool.and_eq_true, decide_eq_true_eq] at this; omega
  · have := tree_par ht h2
    unfold parB at this
    split at this
    · rename_i h0; simp only [decide_eq_true_eq] at this; omega
    · simp only [Bool.and_eq_true, decide_eq_true_eq] at this; omega
theorem tree_len {ts : List Nd} (ht : treeB ts = true) : 1 ≤ ts.length ∧ ts.length ≤ 63 := by simp only [treeB, Bool.and_eq_true, decide_eq_true_eq] at ht; exact ⟨ht.1, ht.2.1⟩
theorem rowM_le {ms : List (List Int)} (hm : smB ms = true) : ∀ s, s < ms.length → ∀ x ∈ rowM ms s, x ≤ 1073741824 := fun s hs x hx => by
  have h1 : rowM ms s = ms[s] := by unfold rowM; rw [List.getD_eq_getElem?_getD, List.getElem?_eq_getElem hs]; rfl
  rw [h1] at hx
  exact (((smB_of hm).2.2 _ (List.getElem_mem hs)).2 x hx).2
theorem accS_bd {ts : List Nd} {ms : List (List Int)} {st : List Int} (ht : treeB ts = true) (hm : smB ms = true) {j u s : Nat} (hj : j + 1 ≤ ts.length) (hu : u < ts.length) (hs : s < ms.length) :
    -1 ≤ accS ts ms st j u s ∧ accS ts ms st j u s ≤ 67645734912 := by
  have h1 := cost_le (ok := okS (leafL ts) st) (task_of ht hm) (M := 1073741824) (by decide) (rowM_le hm) hj hu hs
  have h2 := (tree_len ht).2
  exact ⟨acc_ge, by unfold accS tabS; omega⟩
theorem bst_under {ts : List Nd} {ms : List (List Int)} {st : List Int} (ht : treeB ts = true) (hm : smB ms = true) {v s : Nat} (hv : v < ts.length) (hs : s < ms.length) :
    (bstF (fun b => op (ent ms s b) (accS ts ms st (ts.length - 1 - v) v b)) ms.length).1 = under (rowM ms s) (tabS ts ms st v) := by
  rw [bstF_eq, (bst_least _).1]
  unfold under
  congr 1
  have hl1 : (rowM ms s).length = ms.length := (task_of ht hm).len s hs
  have hl2 : (tabS ts ms st v).length = ms.length := tabl_len hv
  refine List.ext_getElem? fun b => ?_
  by_cases hb : b < ms.length
  · rw [List.getElem?_map, List.getElem?_range hb, List.getElem?_zipWith]
    have e1 : (rowM ms s)[b]? = some (ent ms s b) := by
      obtain ⟨r, h1, h2, _⟩ := smB_ent hm hs hb
      unfold rowM; rw [List.getD_eq_getElem?_getD, h1]; exact h2
    have e2 : (tabS ts ms st v)[b]? = some (accS ts ms st (ts.length - 1 - v) v b) := acc_row hv hb
    rw [e1, e2]; rfl
  · rw [List.getElem?_eq_none (by simp; omega), List.getElem?_eq_none (by simp; omega)]
theorem accS_zero {ts : List Nd} {ms : List (List Int)} {st : List Int} {u s : Nat} : accS ts ms st 0 u s = if okS (leafL ts) st u s then 0 else -1 := rfl
theorem accS_succ {ts : List Nd} {ms : List (List Int)} {st : List Int} (ht : treeB ts = true) (hm : smB ms = true) {v u s : Nat} (hv : v < ts.length) (hs : s < ms.length) :
    accS ts ms st (ts.length - v) u s = if parF ts v = u then op (accS ts ms st (ts.length - 1 - v) u s) (bstF (fun b => op (ent ms s b) (accS ts ms st (ts.length - 1 - v) v b)) ms.length).1 else accS ts ms st (ts.length - 1 - v) u s := by
  rw [bst_under ht hm hv hs]
  have h := acc_succ (n := ts.length) (par := parF ts) (m := rowM ms) (ok := okS (leafL ts) st) (T := tabS ts ms st) (j := ts.length - 1 - v) (u := u) (s := s) (by omega)
  rw [show ts.length - 1 - v + 1 = ts.length - v by omega, show ts.length - 1 - (ts.length - 1 - v) = v by omega] at h
  exact h
theorem accS_last {ts : List Nd} {ms : List (List Int)} {st : List Int} (ht : treeB ts = true) (hm : smB ms = true) {u s : Nat} (hu : u < ts.length) (hs : s < ms.length) :
    (tabS ts ms st u).getD s (-1) = accS ts ms st (ts.length - 1) u s := by
  have h1 : (tabS ts ms st u).getD s (-1) = _ := tabl_getD hu hs
  rw [h1]
  exact (acc_stab (task_of ht hm) hu (ts.length - 1) (by omega) (by omega)).symm
end Go.Proofs.YtdloabjnjnjacaaDoor
