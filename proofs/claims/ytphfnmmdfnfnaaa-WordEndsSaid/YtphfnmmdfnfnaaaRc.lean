/-
  Runs of the program: the loop over the iterator.
-/
import Derived.Test.YtphfnmmdfnfnaaaRb
namespace Go.Proofs.Ytphfnmmdfnfnaaa
open Go.RowKit Go.Shelf
attribute [local go_sem] Oper.semAt_some
theorem runs_in (n : Nat) (a : Option Addr) (n0 cap : Nat) (w : World) :
    CallsIn Fence.wide n Try.prog 59 #[.slice a n0 cap] w fun e w' => e = .returned (.func (.func 66) #[] #[.pointer (some ⟨w.heap.size, 0, none⟩)]) ∧ w' = w.alloc (.cells #[.slice a n0 cap] 22) := by
  refine callsIn_of_wp Try.func59 rfl trivial ?_ rfl
  simp only [Try.ntmps59, List.size_toArray, List.length_cons, List.length_nil, Nat.reduceAdd, Nat.reduceSub, Array.replicate_succ, Array.replicate_zero, List.push_toArray, List.append_toArray, List.nil_append, List.cons_append]
  gi_wp2
  go_ret
  exact ⟨rfl, rfl⟩
theorem runs_stops (n : Nat) (hn : 1 ≤ n) (w0 : World) (a : Option Addr) (n0 cap : Nat) (xs : List Snd) (hr : RdS w0 a n0 cap xs) (hn0 : n0 ≤ 60000) (W : World) (hrd : RunRd w0 (w0.heap.size + 1) a n0 cap W) (hs : w0.heap.size + 2 ≤ W.heap.size) :
    SeqStopsK Fence.wide n Try.prog 66 #[.pointer (some ⟨w0.heap.size + 1, 0, none⟩)] encRun (KB (w0.heap.size + 2) w0.heap.size) (fun ys => ys = runsL xs n0) (fun _ => True) (n0 + 1) W := fun l J Jx W1 hW hJ _ hY h0 =>
  runs1_in n l (w0.heap.size + 1) (w0.heap.size + 2) w0.heap.size w0 a n0 cap xs hr hn0 (Nat.le_refl _) (by omega) (by omega) (by omega) hn J Jx
    (fun s W2 q hs => hJ s W2 (W2.drewN q) none hs ⟨rfl, rfl, rfl, Nat.le_refl _, fun _ _ _ => rfl⟩ (fun r e => by cases e)) hY W1
    ⟨Nat.le_trans hrd.size hW.size, fun j hj => (hW.block j (by omega)).trans (hrd.block j hj), by rw [hW.cell (p := ⟨w0.heap.size + 1, 0, none⟩) (show w0.heap.size + 1 < W.heap.size by omega)]; exact hrd.box⟩ h0
set_option maxHeartbeats 4000000 in
set_option maxRecDepth 20000 in
theorem runs_any (a : Option Addr) (n0 cap : Nat) (xs : List Snd) (w : World) (hr : RdS w a n0 cap xs) (hn0 : n0 ≤ 60000) :
    Calls Try.prog 41 #[.slice a n0 cap] w fun e w' => ∃ v, e = .returned v ∧ OwnR w.heap.size 55 w' v (runsL xs n0) ∧ Below w.heap.size w w' := by
  have h1 : 1 ≤ 9 := by omega
  obtain ⟨i0, hi, hz0, hz1, hz2⟩ := info_parts info_run
  refine (callsIn_wide (n := 9)).1 ?_
  refine callsIn_of_wp_marks Try.func41 rfl trivial ?_ rfl
  simp only [Try.ntmps41, List.size_toArray, List.length_cons, List.length_nil, Nat.reduceAdd, Nat.reduceSub, Array.replicate_succ, Array.replicate_zero, List.push_toArray, List.append_toArray, List.nil_append, List.cons_append]
  gi_wp2_with (refine ⟨trivial, ?_⟩; gi_at_call 59; refine (runs_in _ _ _ _ _).mono ?_; rintro e w' ⟨rfl, rfl⟩)
  have bO := (Boxed.new w 53 (.slice none 0 0)).alloc (.cells #[.slice a n0 cap] 22)
  have bX := Boxed.new (w.alloc (.cells #[.slice none 0 0] 53)) 22 (.slice a n0 cap)
  rw [World.size_alloc] at bX
  have hB0 : Below w.heap.size w ((w.alloc (.cells #[.slice none 0 0] 53)).alloc (.cells #[.slice a n0 cap] 22)) := ((Below.refl _ w).alloc (Nat.le_refl _) _).alloc (by simp) _
  have hsz : ((w.alloc (.cells #[.slice none 0 0] 53)).alloc (.cells #[.slice a n0 cap] 22)).heap.size = w.heap.size + 2 := by simp
  obtain ⟨W0, hW0⟩ : ∃ W0, (w.alloc (.cells #[.slice none 0 0] 53)).alloc (.cells #[.slice a n0 cap] 22) = W0 := ⟨_, rfl⟩
  rw [hW0] at bO bX hB0 hsz ⊢
  clear hW0
  refine wpIn_rangeFunc_ownH rfl h1 (gf := 66) (lb := #[.pointer (some ⟨w.heap.size + 1, 0, none⟩)]) rfl trivial (enters_of Try.func66 (by kernel_rfl) rfl)
    (runs_stops 8 (by omega) w a n0 cap xs hr hn0 W0 ⟨by omega, fun j hj => hB0.block j hj, bX.cell⟩ (by omega)) KB.trans (fun W l o o' hl _ _ _ => KB.putObj W l o' (by omega)) (Below.refl _ _) (fun _ => rfl)
    (fun pre W => ((∃ v, Boxed W w.heap.size 53 v ∧ W.ownsRow w.heap.size 55 2 v pre.length (pre.flatMap runEnc) ∧ True) ∧ Boxed W (w.heap.size + 1) 22 (.slice a n0 cap)) ∧ Below w.heap.size w W)
    (fun _ _ _ => False)
    (OwnFrom.and (OwnFrom.and (Own.from (holdsRow_own w.heap.size w.heap.size 53 55 2 List.length (fun pre => pre.flatMap runEnc) (fun _ _ => True)) _) (Own.from (boxed_own _ _ _) _)) (ownFrom_below (Nat.le_refl _) (by omega)))
    (fun _ _ _ _ _ hs _ _ => hs)
    ⟨⟨⟨_, bO, World.ownsRow_nil _ _ _ _, trivial⟩, bX⟩, hB0⟩
    (fun x a' W => ∃ Bx, w.heap.size + 2 ≤ Bx ∧ W.heap[Bx]? = some (.cells #[.int .i64 x.1, .int .i64 x.2] 55 (0, 0)) ∧ a' = { tmps := #[.slice a n0 cap, undef, .slice none 0 0, .pointer (some ⟨w.heap.size, 0, none⟩), .pointer (some ⟨Bx, 0, none⟩), .slice a n0 cap, .func (.func 66) #[] #[.pointer (some ⟨w.heap.size + 1, 0, none⟩)], .agg #[.int .i64 x.1, .int .i64 x.2], undef, undef, undef, undef, undef], defers := [] })
    (fun x a' _ X Y row hs hg hr => by
      obtain ⟨Bx, h1, h2, h3⟩ := hs
      refine ⟨Bx, h1, (hg.block Bx (Array.getElem?_eq_some_iff.1 h2).1 (fun e => ?_)).trans h2, h3⟩
      obtain ⟨_, o, ho, hc⟩ := hr Bx e.symm
      rw [h2] at ho; cases ho; cases hc)
    ?assign ?body ?done ?stop
  case assign =>
    rintro l pre ⟨x1, x2⟩ W K ⟨⟨⟨v, hv, hrow, _⟩, hX⟩, hB⟩ hK
    gi_wp2
    have hlt := hX.lt
    exact hK _ _ ((KeepsOthers.alloc _ _).from _) ⟨by simp, fun k hk _ => Below.heap_alloc W _ k (by omega)⟩ ⟨⟨⟨v, hv.alloc _, hrow.alloc _, trivial⟩, hX.alloc _⟩, hB.alloc hB.size _⟩ ⟨W.heap.size, by omega, World.alloc_heap_new W _, rfl⟩
  case body =>
    rintro l pre ⟨x1, x2⟩ a' W hl ⟨r, hr'⟩ ⟨⟨⟨v, hv, hrow, _⟩, hX⟩, hB⟩ ⟨Bx, hBx, hbx, rfl⟩ hlen
    have hc := hv.cell
    have hc0 : W.cell? ⟨Bx, 0, none⟩ = some (.int .i64 x1) := by simp [World.cell?, hbx]
    have hc1 : W.cell? ⟨Bx, 1, none⟩ = some (.int .i64 x2) := by simp [World.cell?, hbx]
    gi_wp2_with (gi_at_builtin; refine wpListIn_append_own _ rfl _ _ 53 rfl w.heap.size 55 i0 (.agg #[.int .i64 0, .int .i64 0]) 2 16 Try.underlying53 hi hz0 hz1 hz2 rfl (by decide) _ _ _ rfl (hrow.alloc _) ⟨W.heap.size, 0, none⟩ 1 1 (runEnc (x1, x2)) rfl rfl (fun j u hu => cell_new_list _ (runEnc (x1, x2)) _ _ _ hu) (runEnc_one _) (by unfold maxLen; omega) (by omega) (by have := hB.size; simp; omega) ?_; intro v' w1 hown' hgrow _; obtain ⟨g', cap', rfl⟩ := ownsRow_succ hown'; obtain ⟨hv1, hv2, hr2, hk2, hb2⟩ := hv.appended (by decide) hrow hB.size (Nat.le_refl _) hown' hgrow; have hX2 := ((hX.alloc _).kept hgrow (hX.not_row (by decide) hrow)).other (B' := w.heap.size) (by omega) (.slice (some ⟨g', 0, none⟩) (pre.length + 1) cap'); have hc2 := hv1.cell; have hf2 := hv1.frozen)
    have hr3 : (w1.setCell ⟨w.heap.size, 0, none⟩ (.slice (some ⟨g', 0, none⟩) (pre.length + 1) cap')).ownsRow w.heap.size 55 2 (.slice (some ⟨g', 0, none⟩) (pre.length + 1) cap') (pre ++ [(x1, x2)]).length ((pre ++ [(x1, x2)]).flatMap runEnc) := by
      rw [List.length_append, List.flatMap_append, List.flatMap_singleton]; exact hr2
    exact ⟨hk2.from _, ⟨hk2.size, fun k hk hn => by
        by_cases e : k = w.heap.size + 1
        · subst e; exact hX2.trans hX.symm
        · exact hb2.block k (by omega)⟩, ⟨⟨_, hv2, hr3⟩, hX2⟩, hB.trans hb2⟩
  case done =>
    rintro D ys W hD rfl ⟨⟨⟨v, hv, hrow, _⟩, hX⟩, hB⟩ hK
    have hc := hv.cell
    gi_wp2
    refine ⟨by simp, .inl ⟨_, _, rfl, run_takeDeferred hK, ?_⟩⟩
    exact ⟨_, results_tmp rfl _ _ _, v, rfl, ownsRow_putObj hrow _ hK rfl, hB.trans (belowK_b (w := w) (Nat.le_refl _) W D _ _ (by omega) hK rfl rfl)⟩
  case stop =>
    rintro D c pre W _ _ h _
    exact h.elim
end Go.Proofs.Ytphfnmmdfnfnaaa
