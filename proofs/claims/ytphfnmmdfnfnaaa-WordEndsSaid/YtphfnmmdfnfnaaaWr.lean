/-
  works: the examples of the chapter.
-/
import Derived.Test.YtphfnmmdfnfnaaaWq
namespace Go.Proofs.Ytphfnmmdfnfnaaa
open Go.RowKit
def sPata : List Snd := spellL [112, 97, 116, 97]
def sL : List (List Snd) := [spellL [112, 97], spellL [112, 97, 116], spellL [97]]
theorem ex_cut : cutE (spellL [112, 97, 116, 97]) 1 3 = 0 := by decide
theorem ex_cutL : decide (cutL (spellL [112, 97, 116, 97]) 1 3 = spellL [97, 116]) = true := by decide
theorem ex_spl : spliceE (spellL [112, 97, 116, 97]) 1 3 (spellL [116]) = 0 := by decide
theorem ex_splL : decide (spliceL (spellL [112, 97, 116, 97]) 1 3 (spellL [116]) = spellL [112, 116, 97]) = true := by decide
theorem ex_lcp : lcp (spellL [112, 97, 116, 97, 112]) (spellL [112, 97, 97, 112]) = 2 := by decide
theorem ex_lcs : lcs (spellL [112, 97, 116, 97, 112]) (spellL [112, 97, 97, 112]) = 2 := by decide
theorem ex_chk : checkWs [spellL [112, 97, 116], spellL [97], spellL [112, 97], spellL [97]] = 0 := by decide
theorem ex_sort : SortedOf [spellL [112, 97, 116], spellL [97], spellL [112, 97], spellL [97]] sL := by
  refine ⟨by decide, fun x => ?_⟩
  unfold sL
  simp only [List.mem_cons, List.not_mem_nil, or_false]
  constructor
  · rintro (h | h | h) <;> simp [h]
  · rintro (h | h | h | h) <;> simp [h]
theorem ex_ord : cmpW (spellL [112, 97, 116]) (spellL [112, 97]) = 1 := by decide
theorem ex_find : findW (spellL [112, 97, 112, 97]) (spellL [97, 112]) = 1 := by decide
theorem ex_in : insideW (spellL [112, 112]) (spellL [112, 97, 112, 97]) = true := by decide

set_option maxHeartbeats 4000000 in
theorem works_any (w : World) : Calls Try.prog 15 #[] w fun e w' => e = .returned (.bool true) ∧ Ext w w' := by
  go_enter Try.func15, Try.ntmps15
  go_wp2_with fail
  refine (spell_rd _ _ (by decide)).mono ?_
  rintro e w1 ⟨a1, _, rfl, r1, x1⟩
  go_wp2_with fail
  refine (RetSE.rd (cut_any _ _ _ _ _ _ _ r1 (by decide)) ex_cut).mono ?_
  rintro e w2 ⟨a2, _, rfl, r2, x2⟩
  go_wp2_with fail
  refine (spell_rd _ _ (by decide)).mono ?_
  rintro e w1 ⟨a3, _, rfl, r3, x3⟩
  go_wp2_with fail
  refine (spell_rd _ _ (by decide)).mono ?_
  rintro e w1 ⟨a4, _, rfl, r4, x4⟩
  go_wp2_with fail
  refine (RetSE.rd (splice_any _ _ _ _ _ _ _ _ _ _ _ (r3.ext x4) r4 (by decide) (by decide)) ex_spl).mono ?_
  rintro e w2 ⟨a5, _, rfl, r5, x5⟩
  go_wp2_with fail
  refine (spell_rd _ _ (by decide)).mono ?_
  rintro e w1 ⟨a6, _, rfl, r6, x6⟩
  go_wp2_with fail
  refine (spell_rd _ _ (by decide)).mono ?_
  rintro e w1 ⟨a7, _, rfl, r7, x7⟩
  go_wp2_with fail
  refine (common_any _ _ _ _ _ _ _ _ _ (r6.ext x7) r7 (by decide) (by decide)).mono ?_
  rintro e w2 ⟨rfl, x8⟩
  rw [ex_lcp, ex_lcs]
  go_wp2_with fail
  refine (spell_rd _ _ (by decide)).mono ?_
  rintro e w1 ⟨a9, _, rfl, r9, x9⟩
  go_wp2_with fail
  refine (spell_rd _ _ (by decide)).mono ?_
  rintro e w1 ⟨b10, _, rfl, r10, x10⟩
  go_wp2_with fail
  refine (spell_rd _ _ (by decide)).mono ?_
  rintro e w1 ⟨b11, _, rfl, r11, x11⟩
  go_wp2_with fail
  refine (spell_rd _ _ (by decide)).mono ?_
  rintro e w1 ⟨b12, _, rfl, r12, x12⟩
  go_wp2_with fail
  refine (wsort_ok _ _ _ _ sL _ (RdWs.made4 _ ⟨_, _, _, rfl, r9.ext (by repeat (first | exact Ext.refl _ | assumption | refine Ext.drew ?_ | refine Ext.drewN ?_ _ | refine Ext.alloc ?_ _ | refine Ext.trans ?_ (by assumption)))⟩ ⟨_, _, _, rfl, r10.ext (by repeat (first | exact Ext.refl _ | assumption | refine Ext.drew ?_ | refine Ext.drewN ?_ _ | refine Ext.alloc ?_ _ | refine Ext.trans ?_ (by assumption)))⟩ ⟨_, _, _, rfl, r11.ext (by repeat (first | exact Ext.refl _ | assumption | refine Ext.drew ?_ | refine Ext.drewN ?_ _ | refine Ext.alloc ?_ _ | refine Ext.trans ?_ (by assumption)))⟩ ⟨_, _, _, rfl, r12⟩) (by decide) ex_chk ex_sort).mono ?_
  rintro e w3 ⟨a13, _, rfl, r13, x13⟩
  go_wp2_with fail
  refine (spell_rd _ _ (by decide)).mono ?_
  rintro e w1 ⟨a14, _, rfl, r14, x14⟩
  go_wp2_with fail
  refine (cbool (req_any _ _ _ _ _ _ _ _ _ (r2.ext (by repeat (first | exact Ext.refl _ | assumption | refine Ext.drew ?_ | refine Ext.drewN ?_ _ | refine Ext.alloc ?_ _ | refine Ext.trans ?_ (by assumption)))) r14) ex_cutL).mono ?_
  rintro e w4 ⟨rfl, x15⟩
  go_wp2_with fail
  refine (spell_rd _ _ (by decide)).mono ?_
  rintro e w1 ⟨a16, _, rfl, r16, x16⟩
  go_wp2_with fail
  refine (cbool (req_any _ _ _ _ _ _ _ _ _ (r5.ext (by repeat (first | exact Ext.refl _ | assumption | refine Ext.drew ?_ | refine Ext.drewN ?_ _ | refine Ext.alloc ?_ _ | refine Ext.trans ?_ (by assumption)))) r16) ex_splL).mono ?_
  rintro e w4 ⟨rfl, x17⟩
  go_wp2_with fail
  refine (spell_rd _ _ (by decide)).mono ?_
  rintro e w1 ⟨a18, _, rfl, r18, x18⟩
  go_wp2_with fail
  refine (spell_rd _ _ (by decide)).mono ?_
  rintro e w1 ⟨a19, _, rfl, r19, x19⟩
  go_wp2_with fail
  refine (spell_rd _ _ (by decide)).mono ?_
  rintro e w1 ⟨a20, _, rfl, r20, x20⟩
  go_wp2_with fail
  refine (cbool (wsame_any _ _ _ _ _ _ _ _ _ (r13.ext (by repeat (first | exact Ext.refl _ | assumption | refine Ext.drew ?_ | refine Ext.drewN ?_ _ | refine Ext.alloc ?_ _ | refine Ext.trans ?_ (by assumption)))) (RdWs.made3 _ ⟨_, _, _, rfl, r18.ext (by repeat (first | exact Ext.refl _ | assumption | refine Ext.drew ?_ | refine Ext.drewN ?_ _ | refine Ext.alloc ?_ _ | refine Ext.trans ?_ (by assumption)))⟩ ⟨_, _, _, rfl, r19.ext (by repeat (first | exact Ext.refl _ | assumption | refine Ext.drew ?_ | refine Ext.drewN ?_ _ | refine Ext.alloc ?_ _ | refine Ext.trans ?_ (by assumption)))⟩ ⟨_, _, _, rfl, r20⟩)) (decide_eq_true rfl)).mono ?_
  rintro e w5 ⟨rfl, x21⟩
  go_wp2_with fail
  refine (spell_rd _ _ (by decide)).mono ?_
  rintro e w1 ⟨a22, _, rfl, r22, x22⟩
  go_wp2_with fail
  refine (spell_rd _ _ (by decide)).mono ?_
  rintro e w1 ⟨a23, _, rfl, r23, x23⟩
  go_wp2_with fail
  refine (cint (worder_any _ _ _ _ _ _ _ _ _ (r22.ext x23) r23) ex_ord).mono ?_
  rintro e w6 ⟨rfl, x24⟩
  go_wp2_with fail
  refine (spell_rd _ _ (by decide)).mono ?_
  rintro e w1 ⟨a25, _, rfl, r25, x25⟩
  go_wp2_with fail
  refine (spell_rd _ _ (by decide)).mono ?_
  rintro e w1 ⟨a26, _, rfl, r26, x26⟩
  go_wp2_with fail
  refine (cint (find_any _ _ _ _ _ _ _ _ _ (r25.ext x26) r26 (by decide) (by decide)) ex_find).mono ?_
  rintro e w7 ⟨rfl, x27⟩
  go_wp2_with fail
  refine (spell_rd _ _ (by decide)).mono ?_
  rintro e w1 ⟨a28, _, rfl, r28, x28⟩
  go_wp2_with fail
  refine (spell_rd _ _ (by decide)).mono ?_
  rintro e w1 ⟨a29, _, rfl, r29, x29⟩
  go_wp2_with fail
  refine (cbool (inside_any _ _ _ _ _ _ _ _ _ (r28.ext x29) r29 (by decide) (by decide)) ex_in).mono ?_
  rintro e w8 ⟨rfl, x30⟩
  go_wp2_with fail
  go_ret
  exact ⟨rfl, (by repeat (first | exact Ext.refl _ | assumption | refine Ext.drew ?_ | refine Ext.drewN ?_ _ | refine Ext.alloc ?_ _ | refine Ext.trans ?_ (by assumption)))⟩
end Go.Proofs.Ytphfnmmdfnfnaaa
