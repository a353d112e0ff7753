/-
  The examples of the chapter: works.
-/
import Derived.Test.YtdloabjnjnjacaaDoorSl
namespace Go.Proofs.YtdloabjnjnjacaaDoor
open Go.RowKit Go.Shelf
abbrev threeA : Array Value := #[.int .i64 (-1), .string ⟨#[114]⟩, .int .i64 0, .string ⟨#[120]⟩, .int .i64 0, .string ⟨#[121]⟩, .int .i64 0, .string ⟨#[122]⟩]
abbrev clA (l : List Cl) : Array Value := (l.flatMap Cl.enc).toArray
def tau3 : List Nat := [21, 22, 23, 24, 25, 26, 27, 28, 20, 29, 30, 31, 3, 3, 4, 5]
def rel3 (b : Nat) (vc vk : Value) : List Pr := [LitP 4 threeA 95, EqV (clV cP), EqV (clV cP), EqV (clV cB), LitP 3 (clA [cP, cP, cB]) 40, EqV vk, EqV vc, EqV (.tuple #[clV cP, .int .i64 2, .int .i64 0]), EqV (.tuple #[clV cP, .int .i64 2, .int .i64 0]),
  EqV (clV cP), EqV (.int .i64 2), EqV (.int .i64 0), CellAt b, CellIs cP, EqV (.int .i64 2), EqV (.int .i64 0)]
theorem rel3_st (b : Nat) (vc vk : Value) : ∀ p ∈ rel3 b vc vk, Stab p := by
  intro p hp
  simp only [rel3, List.mem_cons, List.not_mem_nil, or_false] at hp
  rcases hp with rfl | rfl | rfl | rfl | rfl | rfl | rfl | rfl | rfl | rfl | rfl | rfl | rfl | rfl | rfl | rfl <;> first | exact stab_eq _ | exact stab_lit _ _ _ | exact stab_cellAt _ | exact stab_cellIs _
theorem rel3_stC (b : Nat) (vc vk : Value) (j : Nat) (hj : j ≠ 13) : StabC (relL (rel3 b vc vk) j) := by
  unfold relL rel3
  match j with
  | 0 => exact stabC_lit (by decide)
  | 1 => exact stabC_eq _
  | 2 => exact stabC_eq _
  | 3 => exact stabC_eq _
  | 4 => exact stabC_lit (by decide)
  | 5 => exact stabC_eq _
  | 6 => exact stabC_eq _
  | 7 => exact stabC_eq _
  | 8 => exact stabC_eq _
  | 9 => exact stabC_eq _
  | 10 => exact stabC_eq _
  | 11 => exact stabC_eq _
  | 12 => exact stabC_cellAt _
  | 13 => exact absurd rfl hj
  | 14 => exact stabC_eq _
  | 15 => exact stabC_eq _
  | k + 16 => exact fun _ _ _ _ _ _ _ => trivial
theorem treeL_names : ∀ x ∈ treeL, x.name.size ≤ maxLen := by intro x hx; simp [treeL] at hx; rcases hx with rfl | rfl | rfl | rfl <;> (unfold maxLen; decide)
theorem ex1 : cellX treeL [cP.s, cB.s, cA.s] [2, 2, 2] 5 [cP, cP, cB] = (cP, 2) ∧ tieE treeL [cP.s, cB.s, cA.s] [2, 2, 2] 5 [cP, cP, cB] = 0 := by decide +kernel
theorem ex2 : tieL treeL [cP.s, cB.s, cA.s] [2, 2, 2] 5 [cP, zerC, gapC] = [cP, gapC] ∧ tieE treeL [cP.s, cB.s, cA.s] [2, 2, 2] 5 [cP, zerC, gapC] = 0 := by decide +kernel
theorem ex3 : wordL treeL [cP.s, cB.s, cA.s] [2, 2, 2] 5 [[cP, cP, cB], [cA, cA, cA], [gapC, gapC, cP]] = [cP.s, cA.s] ∧ wordC treeL [cP.s, cB.s, cA.s] [2, 2, 2] 5 [[cP, cP, cB], [cA, cA, cA], [gapC, gapC, cP]] = 7 ∧ wordE treeL [cP.s, cB.s, cA.s] [2, 2, 2] 5 [[cP, cP, cB], [cA, cA, cA], [gapC, gapC, cP]] = 0 := by decide +kernel
/-- A slice that reads as sounds. -/
def RdP (xs : List Snd) : Pr := fun v w => ∃ a cap, v = .slice a xs.length cap ∧ RdS w a xs.length cap xs
theorem stab_rdp (xs : List Snd) : Stab (RdP xs) := fun _ _ _ ⟨a, cap, hv, hr⟩ hx => ⟨a, cap, hv, hr.ext hx⟩
def TupP (xs : List Snd) : Pr := fun v w => ∃ u, v = .tuple #[u, .int .i64 7, .int .i64 0] ∧ RdP xs u w
theorem stab_tupp (xs : List Snd) : Stab (TupP xs) := fun _ _ _ ⟨u, hv, hr⟩ hx => ⟨u, hv, stab_rdp xs _ _ _ hr hx⟩
def ColsP (l0 l1 l2 : List Cl) : Pr := fun v w => ∃ g v0 v1 v2, v = .slice (some ⟨g, 0, none⟩) 3 3 ∧ w.heap[g]? = some (.cells #[v0, v1, v2] 35 (0, 0)) ∧ LitS w v0 3 (clA l0) 40 ∧ LitS w v1 3 (clA l1) 40 ∧ LitS w v2 3 (clA l2) 40
theorem stab_cols (l0 l1 l2 : List Cl) : Stab (ColsP l0 l1 l2) := fun _ _ _ ⟨g, v0, v1, v2, hv, hg, h0, h1, h2⟩ hx => ⟨g, v0, v1, v2, hv, (Below.block hx.bel g (Array.getElem?_eq_some_iff.1 hg).1).trans hg, h0.ext hx, h1.ext hx, h2.ext hx⟩
theorem cols_rd {l0 l1 l2 : List Cl} {v : Value} {w : World} (h : ColsP l0 l1 l2 v w) (h0 : l0.length = 3) (h1 : l1.length = 3) (h2 : l2.length = 3) : ∃ a, v = .slice a 3 3 ∧ RdCs w a 3 3 [l0, l1, l2] := by
  obtain ⟨g, v0, v1, v2, rfl, hg, q0, q1, q2⟩ := h
  refine ⟨_, rfl, rfl, Nat.le_refl _, by unfold maxLen; omega, (fun h => by cases h), fun _ => ⟨g, 0, rfl, (Array.getElem?_eq_some_iff.1 hg).1, fun i x hi => ?_⟩⟩
  obtain ⟨a0, e0, r0⟩ := LitS.rd Cl.len q0 l0 (by simp) h0 (by omega)
  obtain ⟨a1, e1, r1⟩ := LitS.rd Cl.len q1 l1 (by simp) h1 (by omega)
  obtain ⟨a2, e2, r2⟩ := LitS.rd Cl.len q2 l2 (by simp) h2 (by omega)
  match i, hi with
  | 0, hi => simp at hi; subst hi; exact ⟨v0, by simp [World.cell?, hg], a0, 3, 3, e0, r0⟩
  | 1, hi => simp at hi; subst hi; exact ⟨v1, by simp [World.cell?, hg], a1, 3, 3, e1, r1⟩
  | 2, hi => simp at hi; subst hi; exact ⟨v2, by simp [World.cell?, hg], a2, 3, 3, e2, r2⟩
  | k + 3, hi => simp at hi
def tau5 : List Nat := [44, 45, 46, 47, 48, 49, 50, 51, 52, 53, 54, 55, 56, 57, 58, 59, 60, 43, 61, 62, 63, 8, 9, 10]
def rel5 (vc vk : Value) : List Pr := [LitP 4 threeA 95, EqV (clV cP), EqV (clV cP), EqV (clV cB), LitP 3 (clA [cP, cP, cB]) 40, EqV (clV cA), EqV (clV cA), EqV (clV cA), LitP 3 (clA [cA, cA, cA]) 40,
  EqV (clV gapC), EqV (clV gapC), EqV (clV cP), LitP 3 (clA [gapC, gapC, cP]) 40, ColsP [cP, cP, cB] [cA, cA, cA] [gapC, gapC, cP], EqV vk, EqV vc, TupP [cP.s, cA.s], TupP [cP.s, cA.s], RdP [cP.s, cA.s], EqV (.int .i64 7), EqV (.int .i64 0), RdP [cP.s, cA.s], EqV (.int .i64 7), EqV (.int .i64 0)]
theorem rel5_st (vc vk : Value) : ∀ p ∈ rel5 vc vk, Stab p := by
  intro p hp
  simp only [rel5, List.mem_cons, List.not_mem_nil, or_false] at hp
  rcases hp with rfl | rfl | rfl | rfl | rfl | rfl | rfl | rfl | rfl | rfl | rfl | rfl | rfl | rfl | rfl | rfl | rfl | rfl | rfl | rfl | rfl | rfl | rfl | rfl <;> first | exact stab_eq _ | exact stab_lit _ _ _ | exact stab_cols _ _ _ | exact stab_tupp _ | exact stab_rdp _
theorem fld_cl (k p m : Value) (W : World) : (Instr.field 40 (.agg #[k, p, m]) 1).run Tryd.prog W = .ok (.agg #[p, m]) W := by kernel_rfl
set_option maxHeartbeats 4000000 in
set_option maxRecDepth 20000 in
theorem works_any (w : World) (hT : TabOk w) : Calls Tryd.prog 14 #[] w fun e w' => e = .returned (.bool true) ∧ Ext w w' := by
  have hfl := fld_cl
  go_enter Tryd.func14, Tryd.ntmps14
  go_wp2_with fail
  refine (lp_any _).mono ?_
  rintro e w1 ⟨rfl, hx1⟩
  go_wp2_with fail
  refine (lb_any _).mono ?_
  rintro e w2 ⟨rfl, hx2⟩
  go_wp2_with fail
  refine (la_any _).mono ?_
  rintro e w3 ⟨rfl, hx3⟩
  go_wp2_with fail
  have hblk : ((w.alloc (.cells #[.int .i64 2, .int .i64 2, .int .i64 2] 2)).alloc (.cells #[.slice (some ⟨w.heap.size, 0, none⟩) 3 3, .int .i64 5] 25)).heap[w.heap.size + 1]? = some (.cells #[.slice (some ⟨w.heap.size, 0, none⟩) 3 3, .int .i64 5] 25 (0, 0)) := by
    have := World.alloc_heap_new (w.alloc (.cells #[.int .i64 2, .int .i64 2, .int .i64 2] 2)) (.cells #[.slice (some ⟨w.heap.size, 0, none⟩) 3 3, .int .i64 5] 25); rwa [World.size_alloc] at this
  have hxA : Ext ((w.alloc (.cells #[.int .i64 2, .int .i64 2, .int .i64 2] 2)).alloc (.cells #[.slice (some ⟨w.heap.size, 0, none⟩) 3 3, .int .i64 5] 25)) (w3.alloc (.cells #[.int .u32 cP.s.p.toNat, .int .u32 cP.s.m.toNat, .int .u32 cB.s.p.toNat, .int .u32 cB.s.m.toNat, .int .u32 cA.s.p.toNat, .int .u32 cA.s.m.toNat] 38)) := ((hx1.trans hx2).trans hx3).alloc _
  have hc0 : (w3.alloc (.cells #[.int .u32 cP.s.p.toNat, .int .u32 cP.s.m.toNat, .int .u32 cB.s.p.toNat, .int .u32 cB.s.m.toNat, .int .u32 cA.s.p.toNat, .int .u32 cA.s.m.toNat] 38)).cell? ⟨w.heap.size + 1, 0, none⟩ = some (.slice (some ⟨w.heap.size, 0, none⟩) 3 3) := hxA.cellv (by simp only [World.cell?]; rw [hblk]; rfl)
  have hc1 : (w3.alloc (.cells #[.int .u32 cP.s.p.toNat, .int .u32 cP.s.m.toNat, .int .u32 cB.s.p.toNat, .int .u32 cB.s.m.toNat, .int .u32 cA.s.p.toNat, .int .u32 cA.s.m.toNat] 38)).cell? ⟨w.heap.size + 1, 1, none⟩ = some (.int .i64 5) := hxA.cellv (by simp only [World.cell?]; rw [hblk]; rfl)
  have hk : RdS (w3.alloc (.cells #[.int .u32 cP.s.p.toNat, .int .u32 cP.s.m.toNat, .int .u32 cB.s.p.toNat, .int .u32 cB.s.m.toNat, .int .u32 cA.s.p.toNat, .int .u32 cA.s.m.toNat] 38)) (some ⟨w3.heap.size, 0, none⟩) 3 3 [cP.s, cB.s, cA.s] := OwnK.rdc Snd.len (lit_own Snd.len w3 38 [cP.s, cB.s, cA.s] _ rfl rfl (by omega))
  have hwt : RdI (w3.alloc (.cells #[.int .u32 cP.s.p.toNat, .int .u32 cP.s.m.toNat, .int .u32 cB.s.p.toNat, .int .u32 cB.s.m.toNat, .int .u32 cA.s.p.toNat, .int .u32 cA.s.m.toNat] 38)) (some ⟨w.heap.size, 0, none⟩) 3 3 [2, 2, 2] := (OwnK.rdc I64.len (lit_own I64.len w 2 [2, 2, 2] _ rfl (n := 3) rfl (by omega))).ext ((Ext.alloc1 _ _).trans hxA)
  have hx0 : Ext w (w3.alloc (.cells #[.int .u32 cP.s.p.toNat, .int .u32 cP.s.m.toNat, .int .u32 cB.s.p.toNat, .int .u32 cB.s.m.toNat, .int .u32 cA.s.p.toNat, .int .u32 cA.s.m.toNat] 38)) := (by repeat (first | exact Ext.refl _ | assumption | refine Ext.drew ?_ | refine Ext.drewN ?_ _ | refine Ext.alloc ?_ _ | refine Ext.trans ?_ (by assumption)))
  clear hblk hxA
  generalize (w3.alloc (.cells #[.int .u32 cP.s.p.toNat, .int .u32 cP.s.m.toNat, .int .u32 cB.s.p.toNat, .int .u32 cB.s.m.toNat, .int .u32 cA.s.p.toNat, .int .u32 cA.s.m.toNat] 38)) = wa at *
  generalize w3.heap.size = kB at *
  have hTa := hT.ext hx0
  have hN : (115 : Nat) = 115 := rfl
  refine wp_spec tau3 (rel3 wa.heap.size (.agg #[.slice (some ⟨w.heap.size, 0, none⟩) 3 3, .int .i64 5]) (.slice (some ⟨kB, 0, none⟩) 3 3)) (by kernel_rfl) (by kernel_rfl) (by kernel_rfl) ?does ?fin
  case does =>
    have hmono := fun j => stab_rel (rel3_st wa.heap.size (.agg #[.slice (some ⟨w.heap.size, 0, none⟩) 3 3, .int .i64 5]) (.slice (some ⟨kB, 0, none⟩) 3 3)) j
    have hGm := fun (x y : World) (h : Ext wa x) (hx : Ext x y) => h.trans hx
    refine ⟨?_, ?_, ?_, ?_, ?_, ?_, ?_, ?_, ?_, ?_, ?_, ?_, ?_, ?_, ?_, ?_, trivial⟩
    · exact does_call (f := 36) (N := 115) rfl rfl rfl rfl (by decide) hmono hGm (fun a w hold hdep hG => ⟨#[], by go_simp, three_any _⟩)
    · exact does_call (f := 33) (N := 115) rfl rfl rfl rfl (by decide) hmono hGm (fun a w hold hdep hG => ⟨#[], by go_simp, (lp_any _).mono fun e w' ⟨h, hx⟩ => ⟨⟨_, h, rfl⟩, hx⟩⟩)
    · exact does_call (f := 33) (N := 115) rfl rfl rfl rfl (by decide) hmono hGm (fun a w hold hdep hG => ⟨#[], by go_simp, (lp_any _).mono fun e w' ⟨h, hx⟩ => ⟨⟨_, h, rfl⟩, hx⟩⟩)
    · exact does_call (f := 34) (N := 115) rfl rfl rfl rfl (by decide) hmono hGm (fun a w hold hdep hG => ⟨#[], by go_simp, (lb_any _).mono fun e w' ⟨h, hx⟩ => ⟨⟨_, h, rfl⟩, hx⟩⟩)
    · refine does_new (N := 115) rfl rfl rfl rfl (by decide) hmono hGm (fun a w hold hdep hG => ?_)
      have h1 := gd (show a.tmps.getD 22 undef = clV cP from hdep 1 (by kernel_rfl))
      have h2 := gd (show a.tmps.getD 23 undef = clV cP from hdep 2 (by kernel_rfl))
      have h3 := gd (show a.tmps.getD 24 undef = clV cB from hdep 3 (by kernel_rfl))
      refine ⟨.slice (some ⟨w.heap.size, 0, none⟩) 3 3, w.alloc (.cells (clA [cP, cP, cB]) 40), ?_, ⟨w.heap.size, rfl, World.alloc_heap_new w _⟩, Ext.alloc1 _ _⟩
      clear hdep hold
      go_simp
      first | done | rfl
    · refine does_val (N := 115) rfl rfl rfl rfl (by decide) (fun a w hold hdep hG => ⟨_, rfl, ?_⟩)
      exact hold 2 (out_of (by kernel_rfl))
    · refine does_val (N := 115) rfl rfl rfl rfl (by decide) (fun a wx hold hdep hG => ⟨_, ?_, rfl⟩)
      have h1 := gd (show a.tmps.getD 1 undef = .pointer (some ⟨w.heap.size + 1, 0, none⟩) from hold 1 (out_of (by kernel_rfl)))
      have g0 := hG.cellv hc0
      have g1 := hG.cellv hc1
      clear hdep hold
      go_simp
    · refine does_call (f := 18) (N := 115) rfl rfl rfl rfl (by decide) hmono hGm (fun a wx hold hdep hG => ?_)
      have h0 : LitS wx (a.tmps.getD 21 undef) 4 threeA 95 := hdep 0 (by kernel_rfl)
      have h4 : LitS wx (a.tmps.getD 25 undef) 3 (clA [cP, cP, cB]) 40 := hdep 4 (by kernel_rfl)
      have h5 := gd (show a.tmps.getD 26 undef = .slice (some ⟨kB, 0, none⟩) 3 3 from hdep 5 (by kernel_rfl))
      have h6 := gd (show a.tmps.getD 27 undef = .agg #[.slice (some ⟨w.heap.size, 0, none⟩) 3 3, .int .i64 5] from hdep 6 (by kernel_rfl))
      obtain ⟨a1, e1, r1⟩ := LitS.rd Nd.len h0 treeL rfl rfl (by omega)
      obtain ⟨a2, e2, r2⟩ := LitS.rd Cl.len h4 [cP, cP, cB] rfl rfl (by omega)
      have h0' := gd e1
      have h4' := gd e2
      clear hdep hold e1 e2 h0 h4
      refine ⟨#[.slice a1 4 4, .slice a2 3 3, .slice (some ⟨kB, 0, none⟩) 3 3, cstV (some ⟨w.heap.size, 0, none⟩) 3 3 5], by go_simp, ?_⟩
      refine (pcellX_any a1 4 4 treeL a2 3 3 [cP, cP, cB] _ 3 3 [cP.s, cB.s, cA.s] _ 3 3 [2, 2, 2] 5 wx ⟨r1, treeL_names⟩ r2 (hk.ext hG) (hwt.ext hG) (hTa.ext hG)).mono ?_
      rintro e w' ⟨he, hx⟩
      rw [ex1.1, ex1.2] at he
      exact ⟨⟨_, he, rfl⟩, hx⟩
    · refine does_val (N := 115) rfl rfl rfl rfl (by decide) (fun a w hold hdep hG => ⟨_, rfl, ?_⟩)
      exact hdep 7 (by kernel_rfl)
    · refine does_val (N := 115) rfl rfl rfl rfl (by decide) (fun a w hold hdep hG => ⟨clV cP, ?_, rfl⟩)
      have h8 := gd (show a.tmps.getD 20 undef = .tuple #[clV cP, .int .i64 2, .int .i64 0] from hdep 8 (by kernel_rfl))
      clear hdep hold
      go_simp
    · refine does_val (N := 115) rfl rfl rfl rfl (by decide) (fun a w hold hdep hG => ⟨.int .i64 2, ?_, rfl⟩)
      have h8 := gd (show a.tmps.getD 20 undef = .tuple #[clV cP, .int .i64 2, .int .i64 0] from hdep 8 (by kernel_rfl))
      clear hdep hold
      go_simp
    · refine does_val (N := 115) rfl rfl rfl rfl (by decide) (fun a w hold hdep hG => ⟨.int .i64 0, ?_, rfl⟩)
      have h8 := gd (show a.tmps.getD 20 undef = .tuple #[clV cP, .int .i64 2, .int .i64 0] from hdep 8 (by kernel_rfl))
      clear hdep hold
      go_simp
    · refine does_new (N := 115) rfl rfl rfl rfl (by decide) hmono hGm (fun a w hold hdep hG => ⟨.pointer (some ⟨w.heap.size, 0, none⟩), w.alloc (.cells #[.int .i64 0, .int .u32 0, .int .u32 0] 40), ?_, ⟨w.heap.size, zerC, rfl, hG.le, World.alloc_heap_new w _⟩, Ext.alloc1 _ _⟩)
      clear hdep hold
      go_simp
    · intro a wx hsz hold hdep hG
      have h9 := gd (show a.tmps.getD 29 undef = clV cP from hdep 9 (by kernel_rfl))
      obtain ⟨B, c0, hv, hBb, hB⟩ := (show CellAt wa.heap.size (a.tmps.getD 3 undef) wx from hdep 12 (by kernel_rfl))
      have h12 := gd hv
      obtain ⟨f0, f1, f2⟩ := frz3 hB
      obtain ⟨q0, q1, q2⟩ := cells3 hB
      have lB := (Array.getElem?_eq_some_iff.1 hB).1
      have hG' : Ext wa (((wx.setCell ⟨B, 0, none⟩ (.int .i64 cP.kind)).setCell ⟨B, 1, none⟩ (.int .u32 cP.s.p.toNat)).setCell ⟨B, 2, none⟩ (.int .u32 cP.s.m.toNat)) := ((hG.setCell (p := ⟨B, 0, none⟩) hBb _).setCell (p := ⟨B, 1, none⟩) hBb _).setCell (p := ⟨B, 2, none⟩) hBb _
      refine ⟨rfl, ?_⟩
      have fin : ∃ v, a.put none undef = a.put none v ∧ Ext wa (((wx.setCell ⟨B, 0, none⟩ (.int .i64 cP.kind)).setCell ⟨B, 1, none⟩ (.int .u32 cP.s.p.toNat)).setCell ⟨B, 2, none⟩ (.int .u32 cP.s.m.toNat)) ∧ relL (rel3 wa.heap.size (.agg #[.slice (some ⟨w.heap.size, 0, none⟩) 3 3, .int .i64 5]) (.slice (some ⟨kB, 0, none⟩) 3 3)) 13 ((a.put none undef).tmps.getD 3 undef) (((wx.setCell ⟨B, 0, none⟩ (.int .i64 cP.kind)).setCell ⟨B, 1, none⟩ (.int .u32 cP.s.p.toNat)).setCell ⟨B, 2, none⟩ (.int .u32 cP.s.m.toNat)) ∧
          ∀ j u, j ≠ 13 → relL (rel3 wa.heap.size (.agg #[.slice (some ⟨w.heap.size, 0, none⟩) 3 3, .int .i64 5]) (.slice (some ⟨kB, 0, none⟩) 3 3)) j u wx → relL (rel3 wa.heap.size (.agg #[.slice (some ⟨w.heap.size, 0, none⟩) 3 3, .int .i64 5]) (.slice (some ⟨kB, 0, none⟩) 3 3)) j u (((wx.setCell ⟨B, 0, none⟩ (.int .i64 cP.kind)).setCell ⟨B, 1, none⟩ (.int .u32 cP.s.p.toNat)).setCell ⟨B, 2, none⟩ (.int .u32 cP.s.m.toNat)) :=
        ⟨undef, rfl, hG', ⟨B, hv, cellB_set hB cP⟩, fun j u hj h => rel3_stC _ _ _ j hj u wx B c0 cP hB h⟩
      clear hold hdep hmono hGm
      refine Oper.wp_mono (K := fun a' w' => a' = a.put none undef ∧ w' = (((wx.setCell ⟨B, 0, none⟩ (.int .i64 cP.kind)).setCell ⟨B, 1, none⟩ (.int .u32 cP.s.p.toNat)).setCell ⟨B, 2, none⟩ (.int .u32 cP.s.m.toNat))) ?_ ?_
      · rintro a' w' ⟨rfl, rfl⟩
        exact fin
      · clear fin hsz hv
        go_simp
    · refine does_val (N := 115) rfl rfl rfl rfl (by decide) (fun a w hold hdep hG => ⟨_, rfl, ?_⟩)
      exact hdep 10 (by kernel_rfl)
    · refine does_val (N := 115) rfl rfl rfl rfl (by decide) (fun a w hold hdep hG => ⟨_, rfl, ?_⟩)
      exact hdep 11 (by kernel_rfl)
  case fin =>
    intro f wz hrel hval hxz
    have v0 := hval 0 _ 21 rfl rfl
    have v1 : f 1 = clV cP := hval 1 _ 22 rfl rfl
    have v2 : f 2 = clV cP := hval 2 _ 23 rfl rfl
    have v3 : f 3 = clV cB := hval 3 _ 24 rfl rfl
    have v4 := hval 4 _ 25 rfl rfl
    have v5 : f 5 = _ := hval 5 _ 26 rfl rfl
    have v6 : f 6 = _ := hval 6 _ 27 rfl rfl
    have v7 : f 7 = _ := hval 7 _ 28 rfl rfl
    have v8 : f 8 = _ := hval 8 _ 20 rfl rfl
    have v9 : f 9 = _ := hval 9 _ 29 rfl rfl
    have v10 : f 10 = _ := hval 10 _ 30 rfl rfl
    have v11 : f 11 = _ := hval 11 _ 31 rfl rfl
    have v14 : f 14 = _ := hval 14 _ 4 rfl rfl
    have v15 : f 15 = _ := hval 15 _ 5 rfl rfl
    obtain ⟨B, hB, hBc⟩ : CellIs cP (f 12) wz := hrel 13 12 (by decide) rfl
    clear hrel hval
    generalize f 0 = u0 at *
    generalize f 4 = u4 at *
    simp only [putAll, v1, v2, v3, v5, v6, v7, v8, v9, v10, v11, v14, v15, hB]
    clear v1 v2 v3 v5 v6 v7 v8 v9 v10 v11 v14 v15 hB
    go_simp
    generalize f 0 = u0
    generalize f 4 = u4
    clear f v0 v4
    have hxaz := hxz
    have hz0 := hxz.cellv hc0
    have hz1 := hxz.cellv hc1
    have hkz := hk.ext hxz
    have hwz := hwt.ext hxz
    have hTz := hTa.ext hxz
    have hltz : w.heap.size + 1 < wz.heap.size := cell_lt hz0
    go_wp2_with fail
    go_region_held3 (fun w' => Ext wz w' ∧ w'.cell? ⟨w.heap.size + 1, 0, none⟩ = some (.slice (some ⟨w.heap.size, 0, none⟩) 3 3) ∧ w'.cell? ⟨w.heap.size + 1, 1, none⟩ = some (.int .i64 5))
      ((go_split_ands; refine (fun (h : Ext wz _) => And.intro h (And.intro (h.cellv hz0) (h.cellv hz1))) ?_; first | exact (Ext.refl _).drew | exact hEq | exact hEq.alloc _))
      (first
        | (go_at_call 36; refine (three_any _).mono ?_; rintro e wt ⟨⟨vt, rfl, hL0⟩, hxt⟩; obtain ⟨a1, e1, r1⟩ := LitS.rd Nd.len hL0 treeL rfl rfl (by omega); subst e1; have hEq : Ext wz wt := Ext.trans ((Ext.refl _).drew) hxt; clear hL0 hxt)
        | (go_at_call 33; refine (lp_any _).mono ?_; rintro e wt2 ⟨rfl, hxt⟩; replace r1 := r1.ext hxt; replace hEq := hEq.trans hxt; clear hxt)
        | (go_at_call 26; refine (lgap_any _).mono ?_; rintro e wt3 ⟨rfl, hxt⟩; replace r1 := r1.ext hxt; replace hEq := hEq.trans hxt; clear hxt)
        | (go_at_call 20; refine (pties_any a1 4 4 treeL _ 3 3 [cP, zerC, gapC] _ 3 3 [cP.s, cB.s, cA.s] _ 3 3 [2, 2, 2] 5 _ ⟨r1.ext (Ext.alloc1 _ _), treeL_names⟩ (OwnK.rdc Cl.len (lit_own Cl.len _ 40 [cP, zerC, gapC] _ rfl rfl (by omega))) (hkz.ext (hEq.alloc _)) (hwz.ext (hEq.alloc _)) (hTz.ext (hEq.alloc _))).mono ?_; rintro e wt4 ⟨v6, rfl, hown6, hxt⟩; rw [ex2.1] at hown6; obtain ⟨a6, n6, c6, hn6, rfl, hr6⟩ := OwnK.rdn Cl.len hown6; rw [ex2.2]; replace hn6 := Lib.hid hn6; replace hEq := (hEq.alloc _).trans hxt; clear hxt hown6))
    have hxb := hxaz.trans hEq
    have hc0b := hEq.cellv hz0
    have hc1b := hEq.cellv hz1
    have hkb := hkz.ext hEq
    have hwb := hwz.ext hEq
    have hTb := hTz.ext hEq
    have hxB : Ext w wt4 := hx0.trans hxb
    have hBb : CellB wt4 B cP := (Below.block hEq.bel B (Array.getElem?_eq_some_iff.1 hBc).1).trans hBc
    have hltb : w.heap.size + 1 < wt4.heap.size := cell_lt hc0b
    clear hEq hz0 hz1 hkz hwz hTz hltz hxz hxaz hxb hc0 hc1 hk hwt hTa r1 hBc hx0
    go_wp2_with fail
    refine wp_spec tau5 (rel5 (.agg #[.slice (some ⟨w.heap.size, 0, none⟩) 3 3, .int .i64 5]) (.slice (some ⟨kB, 0, none⟩) 3 3)) (by kernel_rfl) (by kernel_rfl) (by kernel_rfl) ?does5 ?fin5
    case does5 =>
      have hmono := fun j => stab_rel (rel5_st (.agg #[.slice (some ⟨w.heap.size, 0, none⟩) 3 3, .int .i64 5]) (.slice (some ⟨kB, 0, none⟩) 3 3)) j
      have hGm := fun (x y : World) (h : Ext wt4 x) (hx : Ext x y) => h.trans hx
      clear hBb hr6
      refine ⟨?_, ?_, ?_, ?_, ?_, ?_, ?_, ?_, ?_, ?_, ?_, ?_, ?_, ?_, ?_, ?_, ?_, ?_, ?_, ?_, ?_, ?_, ?_, ?_, trivial⟩
      · exact does_call (f := 36) (N := 115) rfl rfl rfl rfl (by decide) hmono hGm (fun a w hold hdep hG => ⟨#[], by go_simp, three_any _⟩)
      · exact does_call (f := 33) (N := 115) rfl rfl rfl rfl (by decide) hmono hGm (fun a wx hold hdep hG => ⟨#[], by go_simp, (lp_any _).mono fun e w' ⟨h, hx⟩ => ⟨⟨_, h, rfl⟩, hx⟩⟩)
      · exact does_call (f := 33) (N := 115) rfl rfl rfl rfl (by decide) hmono hGm (fun a wx hold hdep hG => ⟨#[], by go_simp, (lp_any _).mono fun e w' ⟨h, hx⟩ => ⟨⟨_, h, rfl⟩, hx⟩⟩)
      · exact does_call (f := 34) (N := 115) rfl rfl rfl rfl (by decide) hmono hGm (fun a wx hold hdep hG => ⟨#[], by go_simp, (lb_any _).mono fun e w' ⟨h, hx⟩ => ⟨⟨_, h, rfl⟩, hx⟩⟩)
      · refine does_new (N := 115) rfl rfl rfl rfl (by decide) hmono hGm (fun a wx hold hdep hG => ?_)
        have h1 := gd (show a.tmps.getD 45 undef = clV cP from hdep 1 (by kernel_rfl))
        have h2 := gd (show a.tmps.getD 46 undef = clV cP from hdep 2 (by kernel_rfl))
        have h3 := gd (show a.tmps.getD 47 undef = clV cB from hdep 3 (by kernel_rfl))
        refine ⟨.slice (some ⟨wx.heap.size, 0, none⟩) 3 3, wx.alloc (.cells (clA [cP, cP, cB]) 40), ?_, ⟨wx.heap.size, rfl, World.alloc_heap_new wx _⟩, Ext.alloc1 _ _⟩
        clear hdep hold
        go_simp
        first | done | rfl
      · exact does_call (f := 35) (N := 115) rfl rfl rfl rfl (by decide) hmono hGm (fun a wx hold hdep hG => ⟨#[], by go_simp, (la_any _).mono fun e w' ⟨h, hx⟩ => ⟨⟨_, h, rfl⟩, hx⟩⟩)
      · exact does_call (f := 35) (N := 115) rfl rfl rfl rfl (by decide) hmono hGm (fun a wx hold hdep hG => ⟨#[], by go_simp, (la_any _).mono fun e w' ⟨h, hx⟩ => ⟨⟨_, h, rfl⟩, hx⟩⟩)
      · exact does_call (f := 35) (N := 115) rfl rfl rfl rfl (by decide) hmono hGm (fun a wx hold hdep hG => ⟨#[], by go_simp, (la_any _).mono fun e w' ⟨h, hx⟩ => ⟨⟨_, h, rfl⟩, hx⟩⟩)
      · refine does_new (N := 115) rfl rfl rfl rfl (by decide) hmono hGm (fun a wx hold hdep hG => ?_)
        have h1 := gd (show a.tmps.getD 49 undef = clV cA from hdep 5 (by kernel_rfl))
        have h2 := gd (show a.tmps.getD 50 undef = clV cA from hdep 6 (by kernel_rfl))
        have h3 := gd (show a.tmps.getD 51 undef = clV cA from hdep 7 (by kernel_rfl))
        refine ⟨.slice (some ⟨wx.heap.size, 0, none⟩) 3 3, wx.alloc (.cells (clA [cA, cA, cA]) 40), ?_, ⟨wx.heap.size, rfl, World.alloc_heap_new wx _⟩, Ext.alloc1 _ _⟩
        clear hdep hold
        go_simp
        first | done | rfl
      · exact does_call (f := 26) (N := 115) rfl rfl rfl rfl (by decide) hmono hGm (fun a wx hold hdep hG => ⟨#[], by go_simp, (lgap_any _).mono fun e w' ⟨h, hx⟩ => ⟨⟨_, h, rfl⟩, hx⟩⟩)
      · exact does_call (f := 26) (N := 115) rfl rfl rfl rfl (by decide) hmono hGm (fun a wx hold hdep hG => ⟨#[], by go_simp, (lgap_any _).mono fun e w' ⟨h, hx⟩ => ⟨⟨_, h, rfl⟩, hx⟩⟩)
      · exact does_call (f := 33) (N := 115) rfl rfl rfl rfl (by decide) hmono hGm (fun a wx hold hdep hG => ⟨#[], by go_simp, (lp_any _).mono fun e w' ⟨h, hx⟩ => ⟨⟨_, h, rfl⟩, hx⟩⟩)
      · refine does_new (N := 115) rfl rfl rfl rfl (by decide) hmono hGm (fun a wx hold hdep hG => ?_)
        have h1 := gd (show a.tmps.getD 53 undef = clV gapC from hdep 9 (by kernel_rfl))
        have h2 := gd (show a.tmps.getD 54 undef = clV gapC from hdep 10 (by kernel_rfl))
        have h3 := gd (show a.tmps.getD 55 undef = clV cP from hdep 11 (by kernel_rfl))
        refine ⟨.slice (some ⟨wx.heap.size, 0, none⟩) 3 3, wx.alloc (.cells (clA [gapC, gapC, cP]) 40), ?_, ⟨wx.heap.size, rfl, World.alloc_heap_new wx _⟩, Ext.alloc1 _ _⟩
        clear hdep hold
        go_simp
        first | done | rfl
      · refine does_new (N := 115) rfl rfl rfl rfl (by decide) hmono hGm (fun a wx hold hdep hG => ?_)
        have h1 : LitS wx (a.tmps.getD 48 undef) 3 (clA [cP, cP, cB]) 40 := hdep 4 (by kernel_rfl)
        have h2 : LitS wx (a.tmps.getD 52 undef) 3 (clA [cA, cA, cA]) 40 := hdep 8 (by kernel_rfl)
        have h3 : LitS wx (a.tmps.getD 56 undef) 3 (clA [gapC, gapC, cP]) 40 := hdep 12 (by kernel_rfl)
        obtain ⟨g1, e1, q1⟩ := h1
        obtain ⟨g2, e2, q2⟩ := h2
        obtain ⟨g3, e3, q3⟩ := h3
        have l1 := (Array.getElem?_eq_some_iff.1 q1).1
        have l2 := (Array.getElem?_eq_some_iff.1 q2).1
        have l3 := (Array.getElem?_eq_some_iff.1 q3).1
        have hxn := Ext.alloc1 wx (.cells #[.slice (some ⟨g1, 0, none⟩) 3 3, .slice (some ⟨g2, 0, none⟩) 3 3, .slice (some ⟨g3, 0, none⟩) 3 3] 35)
        refine ⟨.slice (some ⟨wx.heap.size, 0, none⟩) 3 3, wx.alloc (.cells #[.slice (some ⟨g1, 0, none⟩) 3 3, .slice (some ⟨g2, 0, none⟩) 3 3, .slice (some ⟨g3, 0, none⟩) 3 3] 35), ?_, ⟨wx.heap.size, _, _, _, rfl, World.alloc_heap_new wx _, ⟨g1, rfl, (Below.block hxn.bel _ l1).trans q1⟩, ⟨g2, rfl, (Below.block hxn.bel _ l2).trans q2⟩, ⟨g3, rfl, (Below.block hxn.bel _ l3).trans q3⟩⟩, hxn⟩
        have h1 := gd e1
        have h2 := gd e2
        have h3 := gd e3
        clear hdep hold e1 e2 e3 q1 q2 q3
        go_simp
        first | done | rfl
      · refine does_val (N := 115) rfl rfl rfl rfl (by decide) (fun a wx hold hdep hG => ⟨_, rfl, ?_⟩)
        exact hold 2 (out_of (by kernel_rfl))
      · refine does_val (N := 115) rfl rfl rfl rfl (by decide) (fun a wx hold hdep hG => ⟨_, ?_, rfl⟩)
        have h1 := gd (show a.tmps.getD 1 undef = .pointer (some ⟨w.heap.size + 1, 0, none⟩) from hold 1 (out_of (by kernel_rfl)))
        have g0 := hG.cellv hc0b
        have g1 := hG.cellv hc1b
        clear hdep hold
        go_simp
      · refine does_call (f := 23) (N := 115) rfl rfl rfl rfl (by decide) hmono hGm (fun a wx hold hdep hG => ?_)
        have h0 : LitS wx (a.tmps.getD 44 undef) 4 threeA 95 := hdep 0 (by kernel_rfl)
        have h4 : ColsP [cP, cP, cB] [cA, cA, cA] [gapC, gapC, cP] (a.tmps.getD 57 undef) wx := hdep 13 (by kernel_rfl)
        have h5 := gd (show a.tmps.getD 58 undef = .slice (some ⟨kB, 0, none⟩) 3 3 from hdep 14 (by kernel_rfl))
        have h6 := gd (show a.tmps.getD 59 undef = .agg #[.slice (some ⟨w.heap.size, 0, none⟩) 3 3, .int .i64 5] from hdep 15 (by kernel_rfl))
        obtain ⟨a1, e1, r1⟩ := LitS.rd Nd.len h0 treeL rfl rfl (by omega)
        obtain ⟨a2, e2, r2⟩ := cols_rd h4 rfl rfl rfl
        have h0' := gd e1
        have h4' := gd e2
        clear hdep hold e1 e2 h0 h4
        refine ⟨#[.slice a1 4 4, .slice a2 3 3, .slice (some ⟨kB, 0, none⟩) 3 3, cstV (some ⟨w.heap.size, 0, none⟩) 3 3 5], by go_simp, ?_⟩
        refine (pword_any a1 4 4 treeL a2 3 3 _ _ 3 3 [cP.s, cB.s, cA.s] _ 3 3 [2, 2, 2] 5 wx ⟨r1, treeL_names⟩ r2 (hkb.ext hG) (hwb.ext hG) (hTb.ext hG)).mono ?_
        rintro e w' ⟨v, he, hown, hx⟩
        rw [ex3.2.1, ex3.2.2] at he
        rw [ex3.1] at hown
        obtain ⟨av, cv, rfl, hrv⟩ := OwnK.rd Snd.len hown
        exact ⟨⟨_, he, _, rfl, av, cv, rfl, hrv⟩, hx⟩
      · refine does_val (N := 115) rfl rfl rfl rfl (by decide) (fun a wx hold hdep hG => ⟨_, rfl, ?_⟩)
        exact hdep 16 (by kernel_rfl)
      · refine does_val (N := 115) rfl rfl rfl rfl (by decide) (fun a wx hold hdep hG => ?_)
        obtain ⟨u, hu, hru⟩ : TupP [cP.s, cA.s] (a.tmps.getD 43 undef) wx := hdep 17 (by kernel_rfl)
        have h8 := gd hu
        refine ⟨u, ?_, hru⟩
        clear hdep hold hu hru
        go_simp
      · refine does_val (N := 115) rfl rfl rfl rfl (by decide) (fun a wx hold hdep hG => ⟨.int .i64 7, ?_, rfl⟩)
        obtain ⟨u, hu, hru⟩ : TupP [cP.s, cA.s] (a.tmps.getD 43 undef) wx := hdep 17 (by kernel_rfl)
        have h8 := gd hu
        clear hdep hold hu hru
        go_simp
      · refine does_val (N := 115) rfl rfl rfl rfl (by decide) (fun a wx hold hdep hG => ⟨.int .i64 0, ?_, rfl⟩)
        obtain ⟨u, hu, hru⟩ : TupP [cP.s, cA.s] (a.tmps.getD 43 undef) wx := hdep 17 (by kernel_rfl)
        have h8 := gd hu
        clear hdep hold hu hru
        go_simp
      · refine does_val (N := 115) rfl rfl rfl rfl (by decide) (fun a wx hold hdep hG => ⟨_, rfl, ?_⟩)
        exact hdep 18 (by kernel_rfl)
      · refine does_val (N := 115) rfl rfl rfl rfl (by decide) (fun a wx hold hdep hG => ⟨_, rfl, ?_⟩)
        exact hdep 19 (by kernel_rfl)
      · refine does_val (N := 115) rfl rfl rfl rfl (by decide) (fun a wx hold hdep hG => ⟨_, rfl, ?_⟩)
        exact hdep 20 (by kernel_rfl)
    case fin5 =>
      intro f wy hrel hval hxy
      have v1 : f 1 = clV cP := hval 1 _ 45 rfl rfl
      have v2 : f 2 = clV cP := hval 2 _ 46 rfl rfl
      have v3 : f 3 = clV cB := hval 3 _ 47 rfl rfl
      have v5 : f 5 = clV cA := hval 5 _ 49 rfl rfl
      have v6 : f 6 = clV cA := hval 6 _ 50 rfl rfl
      have v7 : f 7 = clV cA := hval 7 _ 51 rfl rfl
      have v9 : f 9 = clV gapC := hval 9 _ 53 rfl rfl
      have v10 : f 10 = clV gapC := hval 10 _ 54 rfl rfl
      have v11 : f 11 = clV cP := hval 11 _ 55 rfl rfl
      have v14 : f 14 = _ := hval 14 _ 58 rfl rfl
      have v15 : f 15 = _ := hval 15 _ 59 rfl rfl
      have v19 : f 19 = _ := hval 19 _ 62 rfl rfl
      have v20 : f 20 = _ := hval 20 _ 63 rfl rfl
      have v22 : f 22 = _ := hval 22 _ 9 rfl rfl
      have v23 : f 23 = _ := hval 23 _ 10 rfl rfl
      obtain ⟨a8, c8, v21, hr8⟩ : RdP [cP.s, cA.s] (f 21) wy := hval 21 _ 8 rfl rfl
      clear hrel hval
      simp only [putAll, v1, v2, v3, v5, v6, v7, v9, v10, v11, v14, v15, v19, v20, v22, v23, v21]
      clear v1 v2 v3 v5 v6 v7 v9 v10 v11 v14 v15 v19 v20 v22 v23 v21
      go_simp
      generalize f 0 = u10
      generalize f 4 = u14
      generalize f 8 = u18
      generalize f 12 = u112
      generalize f 13 = u113
      generalize f 16 = u116
      generalize f 17 = u117
      generalize f 18 = u118
      clear f
      have hBy : CellB wy B cP := (Below.block hxy.bel B (Array.getElem?_eq_some_iff.1 hBb).1).trans hBb
      obtain ⟨b0, b1, b2⟩ := cells3 hBy
      have lB := (Array.getElem?_eq_some_iff.1 hBy).1
      have hr6y := hr6.ext hxy
      have hxY : Ext w wy := hxB.trans hxy
      obtain ⟨bs, os, s0, ha8, hs0, hbs, t0, t1⟩ := hr8.snd (i := 0) (by decide)
      obtain ⟨bs', os', s1, ha8', hs1, hbs', t2, t3⟩ := hr8.snd (i := 1) (by decide)
      subst ha8
      cases ha8'
      have es0 : s0 = cP.s := (Option.some.inj hs0.out).symm
      have es1 : s1 = cA.s := (Option.some.inj hs1.out).symm
      rw [es0] at t0 t1
      rw [es1] at t2 t3
      simp only [Nat.zero_mul, Nat.add_zero, Nat.one_mul] at t0 t1 t2 t3
      have hec : ∀ W : World, (binOp .eql 40 (clV cP) (clV cP)).run Tryd.prog W = .ok (.bool true) W := fun W => by rw [eql_cl, decide_eq_true rfl]
      have hes : ∀ W : World, (binOp .eql 38 (sndV cP.s) (sndV cP.s)).run Tryd.prog W = .ok (.bool true) W := fun W => by rw [eql_snd, decide_eq_true rfl]
      have hes2 : ∀ W : World, (binOp .eql 38 (sndV cA.s) (sndV cA.s)).run Tryd.prog W = .ok (.bool true) W := fun W => by rw [eql_snd, decide_eq_true rfl]
      have hle := fun (W : World) b m cap2 (ys : List Cl) (hx : Ext wy W) (hs : RdC W b m cap2 ys) => lequal_any a6 n6 c6 [cP, gapC] b m cap2 ys W (hr6y.ext hx) hs
      have hfl2 := hfl
      clear hBb hr6 hr8 hxy hxB hc0b hc1b hkb hwb hTb hltb s0 s1 hs0 hs1 es0 es1 hBy hr6y hbs'
      go_wp2_with fail
      have hEq : Ext wy wy.drew := (Ext.refl _).drew
      go_region_held3 (fun w' => Ext wy w' ∧ w'.cell? ⟨B, 0, none⟩ = some (.int .i64 cP.kind) ∧ w'.cell? ⟨B, 1, none⟩ = some (.int .u32 cP.s.p.toNat) ∧ w'.cell? ⟨B, 2, none⟩ = some (.int .u32 cP.s.m.toNat) ∧ w'.cell? ⟨bs, os, none⟩ = some (.int .u32 cP.s.p.toNat) ∧ w'.cell? ⟨bs, os + 1, none⟩ = some (.int .u32 cP.s.m.toNat) ∧ w'.cell? ⟨bs, os + 2, none⟩ = some (.int .u32 cA.s.p.toNat) ∧ w'.cell? ⟨bs, os + 2 + 1, none⟩ = some (.int .u32 cA.s.m.toNat))
        ((go_split_ands; refine (fun (h : Ext wy _) => And.intro h (And.intro (h.cellv b0) (And.intro (h.cellv b1) (And.intro (h.cellv b2) (And.intro (h.cellv t0) (And.intro (h.cellv t1) (And.intro (h.cellv t2) (h.cellv t3)))))))) ?_; first | exact (Ext.refl _).drew | exact hEq | exact hEq.alloc _))
        (first
          | (go_at_call 33; refine (lp_any _).mono ?_; rintro e wt ⟨rfl, hxt⟩; replace hEq := hEq.trans hxt; clear hxt)
          | (go_at_call 35; refine (la_any _).mono ?_; rintro e wt ⟨rfl, hxt⟩; replace hEq := hEq.trans hxt; clear hxt)
          | (go_at_call 26; refine (lgap_any _).mono ?_; rintro e wt ⟨rfl, hxt⟩; replace hEq := hEq.trans hxt; clear hxt)
          | (go_at_call 22; refine (hle _ _ 2 2 [cP, gapC] (hEq.alloc _) (OwnK.rdc Cl.len (lit_own Cl.len _ 40 [cP, gapC] _ rfl rfl (by omega)))).mono ?_; rintro e wt ⟨rfl, hxt⟩; rw [decide_eq_true rfl]; replace hEq := (hEq.alloc _).trans hxt; clear hxt))
      all_goals go_wp2_with fail
      all_goals go_ret
      all_goals exact ⟨rfl, hxY.trans hEq⟩
end Go.Proofs.YtdloabjnjnjacaaDoor
