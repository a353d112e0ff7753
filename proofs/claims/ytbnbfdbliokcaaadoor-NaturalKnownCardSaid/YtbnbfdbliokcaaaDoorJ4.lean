/-
  The examples of the laws of chapter 05: plain, and the small sounds.
-/
import Derived.Test.YtbnbfdbliokcaaaDoorJ3
namespace Go.Proofs.YtbnbfdbliokcaaaDoor
open Go.RowKit
def sP : Snd := ⟨2#32, 5#32⟩
def sB : Snd := ⟨3#32, 4#32⟩
def sA : Snd := ⟨5#32, 2#32⟩
abbrev exL : List Snd := [sP, sB, sA]
theorem ex_clE : closE exL [sP, sB] = 0 := by decide +kernel
theorem ex_clC : clC exL [sP, sB] = ⟨2#32, 4#32⟩ := by decide +kernel
theorem ex_clL : clL exL [sP, sB] = [0, 1] := by decide +kernel
theorem ex_isE : closE exL [sA, sP] = 0 := by decide +kernel
theorem ex_isB : isB exL [sA, sP] = false := by decide +kernel
theorem ex_shE : closE exL [sB] = 0 := by decide +kernel
theorem ex_shB : isB exL [sB] = true := by decide +kernel
theorem ex_shC : shC exL [sB] = ⟨3#32, 0#32⟩ := by decide +kernel
theorem ex_ck : chkI 12 exL = 0 := by decide +kernel
theorem ex_ck2 : chkI 256 exL = 0 := by decide +kernel
theorem ex_cn : cntV exL = 6 := by decide +kernel
theorem ex_nd : (needB exL).toNat = 1 := by decide +kernel
theorem ex_gaps : SrtG exL [⟨4#32, 3#32⟩] := by
  have h : accTo exL (gap1 exL) exL.length = [⟨4#32, 3#32⟩, ⟨4#32, 3#32⟩] ∨ accTo exL (gap1 exL) exL.length = [⟨4#32, 3#32⟩] := by decide +kernel
  refine ⟨List.pairwise_cons.2 ⟨fun y hy => (by cases hy), List.Pairwise.nil⟩, fun g => ?_⟩
  rw [← gap_acc]
  rcases h with h | h <;> rw [h] <;> simp
theorem lp_any (w : World) : Calls Tryd.prog 43 #[] w fun e w' => e = .returned (sndV sP) ∧ Ext w w' := by
  go_enter Tryd.func43, Tryd.ntmps43
  go_wp2_with fail
  exact bodyPost_ret (results_cell_row rfl _ _ w.heap.size _ _ (0, 0) _ rfl (World.alloc_heap_new w _) Tryd.underlying27 rfl (by kernel_rfl)) rfl ⟨rfl, (by repeat (first | exact Ext.refl _ | assumption | refine Ext.drew ?_ | refine Ext.drewN ?_ _ | refine Ext.alloc ?_ _ | refine Ext.trans ?_ (by assumption)))⟩
theorem lb_any (w : World) : Calls Tryd.prog 44 #[] w fun e w' => e = .returned (sndV sB) ∧ Ext w w' := by
  go_enter Tryd.func44, Tryd.ntmps44
  go_wp2_with fail
  exact bodyPost_ret (results_cell_row rfl _ _ w.heap.size _ _ (0, 0) _ rfl (World.alloc_heap_new w _) Tryd.underlying27 rfl (by kernel_rfl)) rfl ⟨rfl, (by repeat (first | exact Ext.refl _ | assumption | refine Ext.drew ?_ | refine Ext.drewN ?_ _ | refine Ext.alloc ?_ _ | refine Ext.trans ?_ (by assumption)))⟩
theorem la_any (w : World) : Calls Tryd.prog 45 #[] w fun e w' => e = .returned (sndV sA) ∧ Ext w w' := by
  go_enter Tryd.func45, Tryd.ntmps45
  go_wp2_with fail
  exact bodyPost_ret (results_cell_row rfl _ _ w.heap.size _ _ (0, 0) _ rfl (World.alloc_heap_new w _) Tryd.underlying27 rfl (by kernel_rfl)) rfl ⟨rfl, (by repeat (first | exact Ext.refl _ | assumption | refine Ext.drew ?_ | refine Ext.drewN ?_ _ | refine Ext.alloc ?_ _ | refine Ext.trans ?_ (by assumption)))⟩
end Go.Proofs.YtbnbfdbliokcaaaDoor
