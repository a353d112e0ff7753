/-
  Layer 1: Dist of the reference and of the program, for valid sounds and costs.
-/
import Derived.Test.YtjfhfbobnncpkaaDoorFc
namespace Go.Proofs.YtjfhfbobnncpkaaDoor
open Go.RowKit Go.Shelf
theorem get_ne {a b : Snd} (ha : a.ok = true) (hb : b.ok = true) {f : Nat} (hf : f < 24) : (getS a f != getS b f) = (diffS a b).getLsbD f := by
  have h1 := (ok_iff_feats a).1 ha f (by omega)
  have h2 := (ok_iff_feats b).1 hb f (by omega)
  have e : (diffS a b).getLsbD f = ((a.p.getLsbD f ^^ b.p.getLsbD f) || (a.m.getLsbD f ^^ b.m.getLsbD f)) := by simp [diffS]
  rw [e]
  simp only [featOk, getS] at *
  revert h1 h2
  generalize a.p.getLsbD f = x1
  generalize a.m.getLsbD f = x2
  generalize b.p.getLsbD f = x3
  generalize b.m.getLsbD f = x4
  cases x1 <;> cases x2 <;> cases x3 <;> cases x4 <;> simp
theorem costsB_of {ws : List Int} {g : Int} (h : costsB ws g = true) : ws.length ≤ 24 ∧ wOk g = true ∧ ws.all wOk = true := by
  simp only [costsB, Bool.and_eq_true, decide_eq_true_eq] at h; exact ⟨h.1.1, h.1.2, h.2⟩
abbrev cstV (a : Option Addr) (n cap : Nat) (g : Int) : Value := .agg #[.slice a n cap, .int .i64 g]
abbrev sndV (s : Snd) : Value := .agg #[.int .u32 s.p.toNat, .int .u32 s.m.toNat]
/-! ### Dist of the program -/
attribute [local go_sem] Oper.semAt_some
theorem features_in (n : Nat) (x : BitVec 32) (w : World) :
    CallsIn Fence.wide n Tryd.prog 44 #[.int .u32 x.toNat] w fun e w' => e = .returned (.func (.func 53) #[] #[.pointer (some ⟨w.heap.size, 0, none⟩)]) ∧ w' = w.alloc (.cells #[.int .u32 x.toNat] 46) := by
  refine callsIn_of_wp Tryd.func44 rfl trivial ?_ rfl
  simp only [Tryd.ntmps44, List.size_toArray, List.length_cons, List.length_nil, Nat.reduceAdd, Nat.reduceSub, Array.replicate_succ, Array.replicate_zero, List.push_toArray, List.append_toArray, List.nil_append, List.cons_append]
  gi_wp2
  go_ret
  exact ⟨rfl, rfl⟩
set_option maxHeartbeats 2000000 in
set_option maxRecDepth 20000 in
theorem dist_any (a b : Snd) (ad : Option Addr) (n cap : Nat) (ws : List Int) (g : Int) (w : World) (ha : a.ok = true) (hb : b.ok = true) (hc : costsB ws g = true) (hr : RdI w ad n cap ws) (hT : TabOk w) :
    Calls Tryd.prog 31 #[sndV a, sndV b, cstV ad n cap g] w fun e w' => e = .returned (.tuple #[.int .i64 (distS a b ws), .int .i64 0]) ∧ Ext w w' := by
  obtain ⟨hc1, hc2, hc3⟩ := costsB_of hc
  have hce : costsE ws g = 0 := by simp [costsE, hc]
  have hl := hr.len
  have hcost : ∀ W, Ext w W → Calls Tryd.prog 8 #[cstV ad n cap g] W fun e w' => e = .returned (.int .i64 0) ∧ Ext W w' := fun W hx => cint (costs_any ad n cap ws g W (hr.ext hx)) hce
  replace hce := Lib.hid hce
  replace hl := Lib.hid hl
  have hn : n ≤ 24 := by rw [← hl.out]; exact hc1
  have h1 : 1 ≤ 9 := by omega
  refine (callsIn_wide (n := 9)).1 ?_
  refine callsIn_of_wp_marks Tryd.func31 rfl trivial ?_ rfl
  simp only [Tryd.ntmps31, List.size_toArray, List.length_cons, List.length_nil, Nat.reduceAdd, Nat.reduceSub, Array.replicate_succ, Array.replicate_zero, List.push_toArray, List.append_toArray, List.nil_append, List.cons_append]
  gi_wp2
  refine ⟨trivial, ?_⟩
  gi_at_call 43
  refine (callsIn_wide.2 (cbool (fvalid_any a _) ha)).mono ?_
  rintro e w1 ⟨rfl, hx1⟩
  have hcl1 := fun b o (h : b < _) => Ext.cell hx1 (b := b) o h
  gi_wp2
  refine ⟨trivial, ?_⟩
  gi_at_call 43
  refine (callsIn_wide.2 (cbool (fvalid_any b _) hb)).mono ?_
  rintro e w1 ⟨rfl, hx2⟩
  replace hx1 := Ext.trans hx1 (Ext.trans (by repeat (first | exact Ext.refl _ | refine Ext.drew ?_ | refine Ext.drewN ?_ _ | refine Ext.alloc ?_ _)) hx2)
  replace hcl1 := fun b o (h : b < _) => Ext.cell hx1 (b := b) o h
  clear hx2
  gi_wp2
  refine ⟨trivial, ?_⟩
  gi_at_call 8
  refine (callsIn_wide.2 (hcost _ (by repeat (first | exact Ext.refl _ | assumption | refine Ext.drew ?_ | refine Ext.drewN ?_ _ | refine Ext.alloc ?_ _ | refine Ext.trans ?_ (by assumption))))).mono ?_
  rintro e w3 ⟨rfl, hx3⟩
  replace hx3 := Ext.trans hx1 (Ext.trans (by repeat (first | exact Ext.refl _ | refine Ext.drew ?_ | refine Ext.drewN ?_ _ | refine Ext.alloc ?_ _)) hx3)
  have hcl3 := fun b o (h : b < _) => Ext.cell hx3 (b := b) o h
  clear hx1 hcl1
  have hz := hx3.le
  simp only [World.size_alloc] at hz
  have hz0 : w.heap.size < w3.heap.size := by omega
  have hz1 : w.heap.size + 1 < w3.heap.size := by omega
  have hz2 : w.heap.size + 1 + 1 < w3.heap.size := by omega
  gi_wp2
  refine ⟨trivial, ?_⟩
  gi_at_call 45
  refine (callsIn_wide.2 (diff_any a b _ ha hb)).mono ?_
  rintro e w4 ⟨rfl, hx4⟩
  have bS : Boxed w4 w3.heap.size 2 (.int .i64 0) := (Below.block hx4.bel _ (by simp)).trans (World.alloc_heap_new w3 _)
  have hz4 : w3.heap.size < w4.heap.size := bS.lt
  have hx34 : Ext w3 w4 := (Ext.alloc1 _ _).trans hx4
  gi_wp2
  refine ⟨trivial, ?_⟩
  gi_at_call 44
  refine (features_in _ _ _).mono ?_
  rintro e w5 ⟨rfl, hw5⟩
  have bX : Boxed w5 w4.heap.size 46 (.int .u32 (diffS a b).toNat) := by rw [hw5]; exact World.alloc_heap_new w4 _
  have hx45 : Ext w4 w5 := by rw [hw5]; exact Ext.alloc1 _ _
  have hz5 : w5.heap.size = w4.heap.size + 1 := by rw [hw5]; simp
  replace bS : Boxed w5 w3.heap.size 2 (.int .i64 0) := (Below.block hx45.bel _ hz4).trans bS
  clear hw5
  replace hz5 := Lib.hid hz5
  gi_wp2
  refine wpIn_range_own rfl h1 (gf := 53) (lb := #[.pointer (some ⟨w4.heap.size, 0, none⟩)]) rfl trivial (enters_of Tryd.func53 (by kernel_rfl) rfl)
    (encs := encF) (fun _ => rfl) (fun r => r = w4.heap.size) (fun r hr => by have := hz5.out; omega) (bitsL (diffS a b))
    (fun pre W => Boxed W w3.heap.size 2 (.int .i64 (distF ws pre)) ∧ Ext w3 W)
    (fun s X Y row hs hg hr => ⟨hs.1.kept hg (fun e => by have := hz5.out; rcases hr _ e.symm with h | h <;> omega), hs.2.grown hg fun k e => by have := hz5.out; rcases hr _ e with h | h <;> omega⟩)
    ⟨bS, hx34.trans hx45⟩
    (fun l J W hB h0 hJ hI hY => feats1_in 8 l w4.heap.size (by omega) (diffS a b) J hJ (fun s X hs => hT.ext ((show Ext w w3 from (by repeat (first | exact Ext.refl _ | assumption | refine Ext.drew ?_ | refine Ext.drewN ?_ _ | refine Ext.alloc ?_ _ | refine Ext.trans ?_ (by assumption)))).trans (hI s X hs).2)) hY W ((hB.block _ (by have := hz5.out; omega)).trans bX) h0)
    (fun f t => (t.setIfInBounds 28 (.int .i64 f)).setIfInBounds 10 (.int .i64 f)) ?assign ?body ?done
  case assign =>
    intro l x W K hK
    gi_wp2
    exact hK
  case body =>
    rintro l pre x W ⟨hb1, hxW⟩ hlen
    have hmx : Tryd.prog.follows .mixedOrders = true := by kernel_rfl
    have hxx := hx3.trans hxW
    have hclW := fun b o (h : b < _) => Ext.cell hxx (b := b) o h
    have hlen32 : pre.length < 32 := Nat.lt_of_lt_of_le hlen (by unfold bitsL; exact Nat.le_trans (List.length_filter_le _ _) (by simp))
    have hbd := distF_bd hc3 pre
    have hsn := distF_snoc ws pre x
    have hc1 := hb1.cell
    have hf1 := hb1.frozen
    have hne3 : w.heap.size ≠ w3.heap.size := by omega
    by_cases hlt : x < n
    · obtain ⟨b0, off, s, ha0, hs, hb0, hc0⟩ := ((hr.ext (show Ext w w3 from (by repeat (first | exact Ext.refl _ | assumption | refine Ext.drew ?_ | refine Ext.drewN ?_ _ | refine Ext.alloc ?_ _ | refine Ext.trans ?_ (by assumption))))).ext hxW).i64 hlt
      have hgs : ws.getD x 0 = s := by rw [List.getD_eq_getElem?_getD, hs.out]; rfl
      have bs := wOk_at hc3 x
      rw [hgs] at bs hsn
      clear hgs
      subst ha0
      replace hsn := Lib.hid hsn
      have hwr : IntKind.i64.wrap (distF ws pre + s) = distF ws (pre ++ [x]) := by rw [hsn.out]; exact IntWalk.i64_in _ (by omega)
      have hb2 : Boxed ((W.setCell ⟨w3.heap.size, 0, none⟩ (.int .i64 (IntKind.i64.wrap (distF ws pre + s)))).drew) w3.heap.size 2 (.int .i64 (distF ws (pre ++ [x]))) := by rw [← hwr]; exact hb1.set _
      have hk2 : KeepsFrom w5.heap.size W ((W.setCell ⟨w3.heap.size, 0, none⟩ (.int .i64 (IntKind.i64.wrap (distF ws pre + s)))).drew) :=
        ⟨(grownBy_setCell' W w3.heap.size _).size, (KeepsFrom.of_grownBy (grownBy_setCell' W w3.heap.size (.int .i64 (IntKind.i64.wrap (distF ws pre + s)))) (fun j e => by cases e; have := hz5.out; omega)).same⟩
      have hs2 : Same (fun r => r = w4.heap.size) W ((W.setCell ⟨w3.heap.size, 0, none⟩ (.int .i64 (IntKind.i64.wrap (distF ws pre + s)))).drew) := fun r hr => by
        by_cases hrl : r < W.heap.size
        · exact (grownBy_setCell' W w3.heap.size (.int .i64 (IntKind.i64.wrap (distF ws pre + s)))).block r hrl (fun e => by cases e; omega)
        · have h1 := Array.getElem?_eq_none (xs := W.heap) (i := r) (by omega)
          rw [h1]; exact Array.getElem?_eq_none (by show (World.setCell W _ _).heap.size ≤ r; simp; omega)
      have fin := Lib.hid (And.intro hk2 (And.intro hs2 (And.intro hb2 (hxW.setCell (p := ⟨w3.heap.size, 0, none⟩) (Nat.le_refl _) (.int .i64 (IntKind.i64.wrap (distF ws pre + s)))).drew)))
      clear hwr hk2 hs2 hb2
      gi_wp2
      gi_region_with_o (fail)
      all_goals gi_wp2
      all_goals exact fin.out
    · have hgs : ws.getD x 0 = 0 := by rw [List.getD_eq_getElem?_getD, List.getElem?_eq_none (by rw [hl.out]; omega)]; rfl
      rw [hgs, Int.add_zero] at hsn
      clear hgs
      replace hsn := Lib.hid hsn
      gi_wp2
      exact ⟨KeepsFrom.refl _ _, Same.refl _ _, by rw [hsn.out]; exact hb1, hxW⟩
  case done =>
    rintro D W hD ⟨hb1, hxW⟩ hK
    have hcs := hb1.cell
    gi_wp2
    refine ⟨by simp, .inl ⟨_, _, rfl, run_takeDeferred hK, ?_⟩⟩
    refine ⟨_, results_tmp2 rfl _ _ _, ?_, ⟨(show Ext w W from (show Ext w w3 from (by repeat (first | exact Ext.refl _ | assumption | refine Ext.drew ?_ | refine Ext.drewN ?_ _ | refine Ext.alloc ?_ _ | refine Ext.trans ?_ (by assumption)))).trans hxW).bel.trans (belowK_b (w := w) (Nat.le_refl _) W D _ _ (by have := hz5.out; omega) hK rfl rfl)⟩⟩
    have := distF_bits (diffS a b) ws hc1
    simp only [distS, ← this]
    rfl
end Go.Proofs.YtjfhfbobnncpkaaDoor
