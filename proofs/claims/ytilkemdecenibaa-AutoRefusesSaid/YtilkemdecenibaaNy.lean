/-
  The example: the walk; works.
-/
import Derived.Test.YtilkemdecenibaaNx
import Derived.Test.YtilkemdecenibaaNe
import Derived.BigRegion
namespace Go.Proofs.Ytilkemdecenibaa
open Go.RowKit Go.Maps
def RetEx (w : World) (e : Ending) (w' : World) : Prop := ∃ s a b : Nat, e = .returned (.tuple #[.slice (some ⟨s, 0, none⟩) 3 3, patV (exP (some ⟨a, 0, none⟩) (some ⟨b, 0, none⟩))]) ∧ RdS w' (some ⟨s, 0, none⟩) 3 3 exS ∧ RdPt w' (exP (some ⟨a, 0, none⟩) (some ⟨b, 0, none⟩)) ∧ Ext w w'
theorem res_tmp_cell {P : Program} {fn : Func} {p u : Tmp} {ty : TypeId} (h : fn.results = #[.tmp u, .cell p ty]) (tmps : Array Value) (w : World) (g : Nat) (t : TypeId) (cs : Array Value) (fr : Nat × Nat) (d : TypeDesc)
    (hp : tmps.getD p undef = .pointer (some ⟨g, 0, none⟩)) (hg : w.heap[g]? = some (.cells cs t fr))
    (hu : P.underlying ty = some d) (hd : (match d with | .struct _ | .array _ _ => true | _ => false) = true) (hi : (P.info? ty).map (·.size) = some cs.size) :
    (results fn tmps).run P w = .ok (.tuple #[tmps.getD u undef, .agg cs]) w := by
  simp only [results, h]
  have hp' : tmps[p]?.getD undef = .pointer (some ⟨g, 0, none⟩) := by simpa using hp
  simp [Result.andThen, hp', asAddr, run_loadVar_row w g t ty cs fr d hg hu hd hi]
theorem rd_block {α : Type} {k : Nat} {enc : α → List Value} (hk : ∀ x, (enc x).length = k) {W : World} {b : Nat} {cs : Array Value} {e : TypeId} {fr : Nat × Nat} (hb : W.heap[b]? = some (.cells cs e fr)) {xs : List α} (hc : cs.toList = xs.flatMap enc) {n : Nat} (hn : xs.length = n) (hm : n ≤ maxLen) : RdK k enc W (some ⟨b, 0, none⟩) n n xs :=
  ⟨hn, Nat.le_refl _, hm, fun e => (by cases e), fun _ => ⟨b, 0, rfl, (Array.getElem?_eq_some_iff.1 hb).1, fun i x hi j u hu => by
    have hf := flatMap_at hk xs i x hi j u hu
    simp only [World.cell?, hb, Nat.zero_add]
    rw [← Array.getElem?_toList, hc]; exact hf⟩⟩
theorem heap_at0 (W : World) (o : Obj) {i : Nat} (h : i = W.heap.size) : (W.alloc o).heap[i]? = some o := by subst h; exact World.alloc_heap_new W o
theorem heap_atS (W : World) (o : Obj) {i : Nat} {r : Option Obj} (hi : i < W.heap.size) (h : W.heap[i]? = r) : (W.alloc o).heap[i]? = r := (Below.heap_alloc _ _ _ hi).trans h
theorem heap_drew {W : World} {i : Nat} {r : Option Obj} (h : W.heap[i]? = r) : W.drew.heap[i]? = r := h
theorem ex_end {w W : World} {s a b : Nat} (hs : W.heap[s]? = some (.cells #[.int .u32 2, .int .u32 5, .int .u32 3, .int .u32 4, .int .u32 5, .int .u32 2] 24 (0, 0)))
    (hb : W.heap[b]? = some (.cells #[.int .i64 1, .int .u32 4, .int .u32 0, .bool false, .int .i64 0, .int .i64 0, .slice none 0 0] 27 (0, 0)))
    (ha : W.heap[a]? = some (.cells #[.int .i64 1, .int .u32 2, .int .u32 0, .bool false, .int .i64 0, .int .i64 0, .slice none 0 0, .int .i64 5, .int .u32 0, .int .u32 0, .bool false, .int .i64 0, .int .i64 (-1), .slice (some ⟨b, 0, none⟩) 1 1, .int .i64 6, .int .u32 0, .int .u32 0, .bool false, .int .i64 0, .int .i64 0, .slice none 0 0] 27 (0, 0)))
    (hx : Ext w W) : RdS W (some ⟨s, 0, none⟩) 3 3 exS ∧ RdPt W (exP (some ⟨a, 0, none⟩) (some ⟨b, 0, none⟩)) ∧ Ext w W := by
  have hone : ∀ c, RdPt W (oneP c) := fun c => oneP_rd c W
  have hst : RdPt W (starP (oneP ⟨4#32, 0#32⟩) (some ⟨b, 0, none⟩)) := by
    refine RdPt.mk' (rd_block HP.len hb rfl rfl (by show 1 ≤ maxLen; unfold maxLen; omega)) ?_
    intro x hx
    obtain rfl : x = oneP ⟨4#32, 0#32⟩ := by simpa [starP, HP.l] using hx
    exact hone _
  have hen : RdPt W endP := by
    unfold endP
    simp only [RdPt, RdPts, and_true]
    exact ⟨rfl, Nat.le_refl _, Nat.zero_le _, fun _ => rfl, fun h => absurd h (Nat.lt_irrefl 0)⟩
  refine ⟨rd_block Snd.len hs rfl rfl (by unfold maxLen; omega), RdPt.mk' (rd_block HP.len ha rfl rfl (by show 3 ≤ maxLen; unfold maxLen; omega)) ?_, hx⟩
  intro x hx
  have hx : x = exQ ∨ x = starP (oneP ⟨4#32, 0#32⟩) (some ⟨b, 0, none⟩) ∨ x = endP := by simpa [exP, HP.l] using hx
  rcases hx with rfl | rfl | rfl
  · exact hone _
  · exact hst
  · exact hen
set_option maxHeartbeats 1000000 in
theorem example_any (w : World) : Calls Try.prog 41 #[] w (RetEx w) := by
  go_enter Try.func41, Try.ntmps41
  go_wp2_with fail
  go_region
  all_goals
    go_wp2_with fail
    refine bodyPost_ret (res_tmp_cell rfl _ _ w.heap.size _ _ (0, 0) _ rfl (by repeat (first | refine heap_drew ?_ | (refine heap_at0 _ _ ?_; simp only [World.size_alloc]; done) | (refine heap_atS _ _ ?_ ?_; (simp only [World.size_alloc]; omega)))) Try.underlying27 rfl (by kernel_rfl)) rfl ?_
    first
      | (refine ⟨w.heap.size + 1 + 1 + 1, w.heap.size + 1 + 1 + 1 + 1 + 1, w.heap.size + 1 + 1 + 1 + 1, rfl, ?_⟩; exact ex_end (by repeat (first | refine heap_drew ?_ | (refine heap_at0 _ _ ?_; simp only [World.size_alloc]; done) | (refine heap_atS _ _ ?_ ?_; (simp only [World.size_alloc]; omega)))) (by repeat (first | refine heap_drew ?_ | (refine heap_at0 _ _ ?_; simp only [World.size_alloc]; done) | (refine heap_atS _ _ ?_ ?_; (simp only [World.size_alloc]; omega)))) (by repeat (first | refine heap_drew ?_ | (refine heap_at0 _ _ ?_; simp only [World.size_alloc]; done) | (refine heap_atS _ _ ?_ ?_; (simp only [World.size_alloc]; omega)))) (by repeat (first | exact Ext.refl _ | assumption | refine Ext.drew ?_ | refine Ext.drewN ?_ _ | refine Ext.alloc ?_ _ | refine Ext.trans ?_ (by assumption))))
      | (refine ⟨w.heap.size + 1 + 1 + 1 + 1, w.heap.size + 1 + 1 + 1 + 1 + 1, w.heap.size + 1 + 1 + 1, rfl, ?_⟩; exact ex_end (by repeat (first | refine heap_drew ?_ | (refine heap_at0 _ _ ?_; simp only [World.size_alloc]; done) | (refine heap_atS _ _ ?_ ?_; (simp only [World.size_alloc]; omega)))) (by repeat (first | refine heap_drew ?_ | (refine heap_at0 _ _ ?_; simp only [World.size_alloc]; done) | (refine heap_atS _ _ ?_ ?_; (simp only [World.size_alloc]; omega)))) (by repeat (first | refine heap_drew ?_ | (refine heap_at0 _ _ ?_; simp only [World.size_alloc]; done) | (refine heap_atS _ _ ?_ ?_; (simp only [World.size_alloc]; omega)))) (by repeat (first | exact Ext.refl _ | assumption | refine Ext.drew ?_ | refine Ext.drewN ?_ _ | refine Ext.alloc ?_ _ | refine Ext.trans ?_ (by assumption))))
      | (refine ⟨w.heap.size + 1 + 1 + 1 + 1 + 1, w.heap.size + 1 + 1 + 1 + 1, w.heap.size + 1 + 1 + 1, rfl, ?_⟩; exact ex_end (by repeat (first | refine heap_drew ?_ | (refine heap_at0 _ _ ?_; simp only [World.size_alloc]; done) | (refine heap_atS _ _ ?_ ?_; (simp only [World.size_alloc]; omega)))) (by repeat (first | refine heap_drew ?_ | (refine heap_at0 _ _ ?_; simp only [World.size_alloc]; done) | (refine heap_atS _ _ ?_ ?_; (simp only [World.size_alloc]; omega)))) (by repeat (first | refine heap_drew ?_ | (refine heap_at0 _ _ ?_; simp only [World.size_alloc]; done) | (refine heap_atS _ _ ?_ ?_; (simp only [World.size_alloc]; omega)))) (by repeat (first | exact Ext.refl _ | assumption | refine Ext.drew ?_ | refine Ext.drewN ?_ _ | refine Ext.alloc ?_ _ | refine Ext.trans ?_ (by assumption))))
end Go.Proofs.Ytilkemdecenibaa
