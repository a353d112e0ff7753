/-
  The statement WordEnds: the walk.
-/
import Derived.Test.YtphfnmmdfnfnaaaRd
import Derived.Test.YtphfnmmdfnfnaaaWu
import Derived.Test.YtphfnmmdfnfnaaaMk
import Derived.Test.YtphfnmmdfnfnaaaLback
import Derived.Test.YtphfnmmdfnfnaaaLsrd
namespace Go.Proofs.Ytphfnmmdfnfnaaa
open Go.RowKit
def eLong : List Snd := List.replicate 32 ⟨0, 0⟩
def eOver : List Snd := List.replicate 33 ⟨0, 0⟩
def eBad : List Snd := [⟨16777216, 0⟩]
def eBoth : List Snd := [⟨3, 2⟩]
def eLast : List Snd := [⟨8388608, 0⟩]
theorem e1 : checkS eLong = 0 := by decide
theorem e2 : checkS eOver = 11 := by decide
theorem e3 : checkS eBad = 14 := by decide
theorem e4 : checkS eBoth = 14 := by decide
theorem e5 : checkS eLast = 0 := by decide
theorem e6 : checkS ([] : List Snd) = 0 := by decide
theorem e7 : checkS (eOver ++ eBad) = 11 := by decide
theorem e8 : cutL (spellL [112, 97, 116, 97]) 2 5 = [] ∧ cutE (spellL [112, 97, 116, 97]) 2 5 = 3 := by decide
theorem e9 : cutL (spellL [112, 97, 116, 97]) 3 2 = [] ∧ cutE (spellL [112, 97, 116, 97]) 3 2 = 3 := by decide
theorem e10 : cutL eBad (-1) 9 = [] ∧ cutE eBad (-1) 9 = 14 := by decide
theorem e11 : spliceL eLong 32 32 (spellL [112]) = [] ∧ spliceE eLong 32 32 (spellL [112]) = 11 := by decide
theorem e12 : spliceL eLong 33 32 eOver = [] ∧ spliceE eLong 33 32 eOver = 11 := by decide
theorem e13 : spliceL eOver 0 0 eBad = [] ∧ spliceE eOver 0 0 eBad = 11 := by decide
theorem e14 : (spliceL eLong 31 32 (spellL [112])).length = 32 ∧ spliceE eLong 31 32 (spellL [112]) = 0 := by decide
theorem e15 : spliceL (spellL [112, 97]) 2 2 (spellL [112, 97]) = spellL [112, 97, 112, 97] ∧ spliceE (spellL [112, 97]) 2 2 (spellL [112, 97]) = 0 := by decide
theorem e16 : checkWs (List.replicate 256 ([] : List Snd)) = 0 := checkWs_iff.2 fun x hx => by rw [(List.mem_replicate.1 hx).2]; exact e6
theorem e17 : checkWs [[], eBad, eOver] = 14 := by decide
theorem e18 : runsL (spellL [112, 112, 97, 116, 116]) 5 = [(0, 2), (2, 3), (3, 5)] := by decide
theorem e19 : findW (spellL [112, 97, 112, 97]) [] = 0 := by decide
theorem e20 : findW (spellL [112, 97, 112, 97]) (spellL [116]) = -1 := by decide
theorem e21 : findW [] [] = 0 := by decide
theorem e22 : insideW (spellL [116, 112]) (spellL [112, 97, 116, 97]) = false := by decide
theorem e23 : cmpW (spellL [112, 97]) (spellL [112, 116]) = -1 := by decide
theorem e24 : countW ⟨0, 0⟩ eBad = 0 := by decide
theorem e25 : countW ⟨16777216, 0⟩ (spellL [112, 97, 116, 97]) = 0 := by decide
theorem e26 : countW ⟨2, 0⟩ (spellL [112, 97, 116, 97]) = 2 := by decide
theorem e27 : countW ⟨0, 0⟩ (spellL [112, 97, 116, 97]) = 4 := by decide
theorem nilWords (w : World) (n : Nat) (hn : n ≤ 60000) : RdWs (w.alloc (.cells (madeCells #[.slice none 0 0] (n * 1)) 22)) (some ⟨w.heap.size, 0, none⟩) n n (List.replicate n []) := by
  have h := OwnK.rdc WH.len (made_own (k := 1) (enc := WH.enc) WH.len (by decide) w 22 #[.slice none 0 0] ⟨none, 0, 0, []⟩ rfl n hn)
  have := RdWs.ofH h (fun y hy => by rw [(List.mem_replicate.1 hy).2]; exact RdK.nilS _)
  rwa [List.map_replicate] at this
set_option maxRecDepth 20000 in
set_option maxHeartbeats 20000000 in
theorem wordEnds_any (w : World) : Calls Try.prog 14 #[] w fun e w' => e = .returned (.bool true) ∧ Below w.heap.size w w' := by
  have hmk32 : ∀ w, (Instr.makeSlice 22 (.int .i64 32) (.int .i64 32)).run Try.prog w = .ok (.slice (some ⟨w.heap.size, 0, none⟩) 32 32) (w.alloc (.cells (madeCells #[.int .u32 0, .int .u32 0] 64) 39)) := fun w => run_mk (k := 2) (z := .agg #[.int .u32 0, .int .u32 0]) 22 Try.underlying22 info_snd 32 (by decide) (by decide) w
  have hmk33 : ∀ w, (Instr.makeSlice 22 (.int .i64 33) (.int .i64 33)).run Try.prog w = .ok (.slice (some ⟨w.heap.size, 0, none⟩) 33 33) (w.alloc (.cells (madeCells #[.int .u32 0, .int .u32 0] 66) 39)) := fun w => run_mk (k := 2) (z := .agg #[.int .u32 0, .int .u32 0]) 22 Try.underlying22 info_snd 33 (by decide) (by decide) w
  go_enter Try.func14, Try.ntmps14
  go_wp2_with fail
  clear hmk32 hmk33
  have oL : OwnS w.heap.size 39 (w.alloc (.cells (madeCells #[.int .u32 0, .int .u32 0] 64) 39)) (.slice (some ⟨w.heap.size, 0, none⟩) 32 32) eLong := made_own (k := 2) (enc := Snd.enc) Snd.len (by decide) w 39 #[.int .u32 0, .int .u32 0] ⟨0, 0⟩ rfl 32 (by decide)
  have z1 := Ext.alloc1 w (.cells (madeCells #[.int .u32 0, .int .u32 0] 64) 39)
  have s1 : (w.alloc (.cells (madeCells #[.int .u32 0, .int .u32 0] 64) 39)).heap.size = _ := World.size_alloc _ _
  generalize w.alloc (.cells (madeCells #[.int .u32 0, .int .u32 0] 64) 39) = W1 at *
  have oO : OwnS W1.heap.size 39 (W1.alloc (.cells (madeCells #[.int .u32 0, .int .u32 0] 66) 39)) (.slice (some ⟨W1.heap.size, 0, none⟩) 33 33) eOver := made_own (k := 2) (enc := Snd.enc) Snd.len (by decide) W1 39 #[.int .u32 0, .int .u32 0] ⟨0, 0⟩ rfl 33 (by decide)
  have z2 := Ext.alloc1 W1 (.cells (madeCells #[.int .u32 0, .int .u32 0] 66) 39)
  have s2 : (W1.alloc (.cells (madeCells #[.int .u32 0, .int .u32 0] 66) 39)).heap.size = _ := World.size_alloc _ _
  generalize W1.alloc (.cells (madeCells #[.int .u32 0, .int .u32 0] 66) 39) = W2 at *
  rw [s1] at s2
  have oB : OwnS W2.heap.size 39 (W2.alloc (.cells #[.int .u32 16777216, .int .u32 0] 39)) (.slice (some ⟨W2.heap.size, 0, none⟩) 1 1) eBad := lit_own Snd.len W2 39 eBad _ rfl rfl (by decide)
  have z3 := Ext.alloc1 W2 (.cells #[.int .u32 16777216, .int .u32 0] 39)
  have s3 : (W2.alloc (.cells #[.int .u32 16777216, .int .u32 0] 39)).heap.size = _ := World.size_alloc _ _
  generalize W2.alloc (.cells #[.int .u32 16777216, .int .u32 0] 39) = W3 at *
  rw [s2] at s3
  have oT : OwnS W3.heap.size 39 (W3.alloc (.cells #[.int .u32 3, .int .u32 2] 39)) (.slice (some ⟨W3.heap.size, 0, none⟩) 1 1) eBoth := lit_own Snd.len W3 39 eBoth _ rfl rfl (by decide)
  have z4 := Ext.alloc1 W3 (.cells #[.int .u32 3, .int .u32 2] 39)
  have s4 : (W3.alloc (.cells #[.int .u32 3, .int .u32 2] 39)).heap.size = _ := World.size_alloc _ _
  generalize W3.alloc (.cells #[.int .u32 3, .int .u32 2] 39) = W4 at *
  rw [s3] at s4
  have oS : OwnS W4.heap.size 39 (W4.alloc (.cells #[.int .u32 8388608, .int .u32 0] 39)) (.slice (some ⟨W4.heap.size, 0, none⟩) 1 1) eLast := lit_own Snd.len W4 39 eLast _ rfl rfl (by decide)
  have z5 := Ext.alloc1 W4 (.cells #[.int .u32 8388608, .int .u32 0] 39)
  have s5 : (W4.alloc (.cells #[.int .u32 8388608, .int .u32 0] 39)).heap.size = _ := World.size_alloc _ _
  generalize W4.alloc (.cells #[.int .u32 8388608, .int .u32 0] 39) = W5 at *
  rw [s4] at s5
  rw [s1] at oO
  rw [s2] at oB
  rw [s3] at oT
  rw [s4] at oS
  have rL := (OwnK.rdc Snd.len oL).ext (z2.trans (z3.trans (z4.trans z5)))
  have rO := (OwnK.rdc Snd.len oO).ext (z3.trans (z4.trans z5))
  have rB := (OwnK.rdc Snd.len oB).ext (z4.trans z5)
  have rT := (OwnK.rdc Snd.len oT).ext z5
  have rS := OwnK.rdc Snd.len oS
  have xW : Ext w W5 := z1.trans (z2.trans (z3.trans (z4.trans z5)))
  clear oL oO oB oT oS z1 z2 z3 z4 z5 s1 s2 s3 s4 s5
  have hmk256 : ∀ w, (Instr.makeSlice 32 (.int .i64 256) (.int .i64 256)).run Try.prog w = .ok (.slice (some ⟨w.heap.size, 0, none⟩) 256 256) (w.alloc (.cells (madeCells #[.slice none 0 0] 256) 22)) := fun w => run_mk (k := 1) (z := .slice none 0 0) 32 Try.underlying32 info_word 256 (by decide) (by decide) w
  have hmk257 : ∀ w, (Instr.makeSlice 32 (.int .i64 257) (.int .i64 257)).run Try.prog w = .ok (.slice (some ⟨w.heap.size, 0, none⟩) 257 257) (w.alloc (.cells (madeCells #[.slice none 0 0] 257) 22)) := fun w => run_mk (k := 1) (z := .slice none 0 0) 32 Try.underlying32 info_word 257 (by decide) (by decide) w
  refine (cint (check_any _ _ _ eLong _ rL) e1).mono ?_
  rintro e w1 ⟨rfl, _⟩
  go_wp2_with fail
  refine (cint (check_any _ _ _ eOver _ (rO.ext (by repeat (first | exact Ext.refl _ | assumption | refine Ext.drew ?_ | refine Ext.drewN ?_ _ | refine Ext.alloc ?_ _ | refine Ext.trans ?_ (by assumption))))) e2).mono ?_
  rintro e w1 ⟨rfl, _⟩
  go_wp2_with fail
  refine (cint (check_any _ _ _ eBad _ (rB.ext (by repeat (first | exact Ext.refl _ | assumption | refine Ext.drew ?_ | refine Ext.drewN ?_ _ | refine Ext.alloc ?_ _ | refine Ext.trans ?_ (by assumption))))) e3).mono ?_
  rintro e w1 ⟨rfl, _⟩
  go_wp2_with fail
  refine (cint (check_any _ _ _ eBoth _ (rT.ext (by repeat (first | exact Ext.refl _ | assumption | refine Ext.drew ?_ | refine Ext.drewN ?_ _ | refine Ext.alloc ?_ _ | refine Ext.trans ?_ (by assumption))))) e4).mono ?_
  rintro e w1 ⟨rfl, _⟩
  go_wp2_with fail
  refine (cint (check_any _ _ _ eLast _ (rS.ext (by repeat (first | exact Ext.refl _ | assumption | refine Ext.drew ?_ | refine Ext.drewN ?_ _ | refine Ext.alloc ?_ _ | refine Ext.trans ?_ (by assumption))))) e5).mono ?_
  rintro e w1 ⟨rfl, _⟩
  go_wp2_with fail
  refine (cint (check_any _ _ _ [] _ (RdK.nilS _)) e6).mono ?_
  rintro e wn ⟨rfl, xn⟩
  go_wp2_with (at_builtin; refine wp_appF wn rfl _ _ 22 rfl 39 Try.underlying22 info_snd rfl (by decide) Snd.len _ 33 eOver rfl (rO.ext (by repeat (first | exact Ext.refl _ | assumption | refine Ext.drew ?_ | refine Ext.drewN ?_ _ | refine Ext.alloc ?_ _ | refine Ext.trans ?_ (by assumption)))) _ 1 1 eBad rfl (rB.ext (by repeat (first | exact Ext.refl _ | assumption | refine Ext.drew ?_ | refine Ext.drewN ?_ _ | refine Ext.alloc ?_ _ | refine Ext.trans ?_ (by assumption)))) (by decide) (by decide) (by decide) ?_; intro v7 w7 o7 x7; obtain ⟨a7, n7, c7, hn7, rfl, r7⟩ := OwnK.rdn Snd.len o7; replace hn7 := Lib.hid hn7)
  refine (cint (check_any _ _ _ (eOver ++ eBad) _ r7) e7).mono ?_
  rintro e w8 ⟨rfl, x8⟩
  clear o7 r7 hn7
  go_wp2_with fail
  refine (spell_rd _ _ (by decide)).mono ?_
  rintro e w1 ⟨a1, _, rfl, r1, x1⟩
  go_wp2_with fail
  refine (RetSE.to (cut_any _ _ _ _ _ _ _ r1 (by decide)) e8 rfl).mono ?_
  rintro e w2 ⟨a2, c2, rfl, _, x2⟩
  go_wp2_with fail
  refine (spell_rd _ _ (by decide)).mono ?_
  rintro e w1 ⟨a3, _, rfl, r3, x3⟩
  go_wp2_with fail
  refine (RetSE.to (cut_any _ _ _ _ _ _ _ r3 (by decide)) e9 rfl).mono ?_
  rintro e w4 ⟨a4, c4, rfl, _, x4⟩
  go_wp2_with fail
  refine (RetSE.to (cut_any _ _ _ eBad _ _ _ (rB.ext (by repeat (first | exact Ext.refl _ | assumption | refine Ext.drew ?_ | refine Ext.drewN ?_ _ | refine Ext.alloc ?_ _ | refine Ext.trans ?_ (by assumption)))) (by decide)) e10 rfl).mono ?_
  rintro e w5 ⟨a5, c5, rfl, _, x5⟩
  go_wp2_with fail
  refine (spell_rd _ _ (by decide)).mono ?_
  rintro e w1 ⟨a6, _, rfl, r6, x6⟩
  go_wp2_with fail
  refine (RetSE.to (splice_any _ _ _ _ _ _ eLong _ _ _ _ (rL.ext (by repeat (first | exact Ext.refl _ | assumption | refine Ext.drew ?_ | refine Ext.drewN ?_ _ | refine Ext.alloc ?_ _ | refine Ext.trans ?_ (by assumption)))) r6 (by decide) (by decide)) e11 rfl).mono ?_
  rintro e w7 ⟨a7, c7, rfl, _, x7'⟩
  go_wp2_with fail
  refine (RetSE.to (splice_any _ _ _ _ _ _ eLong eOver _ _ _ (rL.ext (by repeat (first | exact Ext.refl _ | assumption | refine Ext.drew ?_ | refine Ext.drewN ?_ _ | refine Ext.alloc ?_ _ | refine Ext.trans ?_ (by assumption)))) (rO.ext (by repeat (first | exact Ext.refl _ | assumption | refine Ext.drew ?_ | refine Ext.drewN ?_ _ | refine Ext.alloc ?_ _ | refine Ext.trans ?_ (by assumption)))) (by decide) (by decide)) e12 rfl).mono ?_
  rintro e w8 ⟨a8, c8, rfl, _, x8'⟩
  go_wp2_with fail
  refine (RetSE.to (splice_any _ _ _ _ _ _ eOver eBad _ _ _ (rO.ext (by repeat (first | exact Ext.refl _ | assumption | refine Ext.drew ?_ | refine Ext.drewN ?_ _ | refine Ext.alloc ?_ _ | refine Ext.trans ?_ (by assumption)))) (rB.ext (by repeat (first | exact Ext.refl _ | assumption | refine Ext.drew ?_ | refine Ext.drewN ?_ _ | refine Ext.alloc ?_ _ | refine Ext.trans ?_ (by assumption)))) (by decide) (by decide)) e13 rfl).mono ?_
  rintro e w9 ⟨a9, c9, rfl, _, x9⟩
  go_wp2_with fail
  refine (spell_rd _ _ (by decide)).mono ?_
  rintro e w1 ⟨b1, _, rfl, q1, y1⟩
  go_wp2_with fail
  refine (RetSE.to (splice_any _ _ _ _ _ _ eLong _ _ _ _ (rL.ext (by repeat (first | exact Ext.refl _ | assumption | refine Ext.drew ?_ | refine Ext.drewN ?_ _ | refine Ext.alloc ?_ _ | refine Ext.trans ?_ (by assumption)))) q1 (by decide) (by decide)) ⟨rfl, e14.2⟩ e14.1).mono ?_
  rintro e w10 ⟨b2, d2, rfl, _, y2⟩
  go_wp2_with fail
  refine (spell_rd _ _ (by decide)).mono ?_
  rintro e w1 ⟨b3, _, rfl, q3, y3⟩
  go_wp2_with fail
  refine (spell_rd _ _ (by decide)).mono ?_
  rintro e w1 ⟨b4, _, rfl, q4, y4⟩
  go_wp2_with fail
  refine (RetSE.to (splice_any _ _ _ _ _ _ _ _ _ _ _ (q3.ext y4) q4 (by decide) (by decide)) e15 rfl).mono ?_
  rintro e w11 ⟨b5, d5, rfl, q5, y5⟩
  go_wp2_with fail
  refine (spell_rd _ _ (by decide)).mono ?_
  rintro e w1 ⟨b6, _, rfl, q6, y6⟩
  go_wp2_with fail
  refine (cbool (lsame_any _ _ _ _ _ _ _ _ _ (q5.ext y6) q6) (decide_eq_true rfl)).mono ?_
  rintro e w12 ⟨rfl, y7⟩
  go_wp2_with fail
  refine (wsort_ex _ _ _ _ _ (nilWords w12 256 (by decide)) (by decide) e16).mono ?_
  rintro e w13 ⟨a13, m13, c13, L13, _, _, rfl, _, x13⟩
  have x13' : Ext w12 w13 := (Ext.alloc1 _ _).trans x13
  clear x13
  go_wp2_with fail
  refine (wsort_any _ _ _ _ _ (nilWords w13 257 (by decide))).mono ?_
  rintro e w14 ⟨x14, hh⟩
  rcases hh with ⟨_, rfl⟩ | ⟨hb, _, _⟩ | ⟨hb, _, _⟩
  rotate_left
  · omega
  · omega
  have x14' : Ext w13 w14 := (Ext.alloc1 _ _).trans x14
  clear x14
  go_wp2_with fail
  refine (wsort_any _ _ _ [[], eBad, eOver] _ (RdWs.made3 _ ⟨_, _, _, rfl, RdK.nilS _⟩ ⟨_, _, _, rfl, rB.ext (by repeat (first | exact Ext.refl _ | assumption | refine Ext.drew ?_ | refine Ext.drewN ?_ _ | refine Ext.alloc ?_ _ | refine Ext.trans ?_ (by assumption)))⟩ ⟨_, _, _, rfl, rO.ext (by repeat (first | exact Ext.refl _ | assumption | refine Ext.drew ?_ | refine Ext.drewN ?_ _ | refine Ext.alloc ?_ _ | refine Ext.trans ?_ (by assumption)))⟩)).mono ?_
  rintro e w15 ⟨x15, hh⟩
  rw [e17] at hh
  rcases hh with ⟨hb, _⟩ | ⟨_, _, rfl⟩ | ⟨_, hb, _⟩
  · omega
  rotate_left
  · omega
  have x15' : Ext w14 w15 := (Ext.alloc1 _ _).trans x15
  clear x15
  go_wp2_with fail
  refine (spell_rd _ _ (by decide)).mono ?_
  rintro e w16 ⟨a16, c16, rfl, r16, x16⟩
  go_wp2_with fail
  refine (runs_any _ _ _ _ _ r16 (by decide)).mono ?_
  rintro e w17 ⟨v17, rfl, o17, b17⟩
  have o17' : OwnR w16.heap.size 55 w17 v17 [(0, 2), (2, 3), (3, 5)] := by rw [← e18]; exact o17
  obtain ⟨a17, n17, c17, hn17, rfl, r17⟩ := OwnK.rdn runEnc_len o17'
  have hn17' : n17 = 3 := hn17
  subst hn17'
  have hx16 : Ext W5 w16 := by
    clear xW
    exact (by repeat (first | exact Ext.refl _ | assumption | refine Ext.drew ?_ | refine Ext.drewN ?_ _ | refine Ext.alloc ?_ _ | refine Ext.trans ?_ (by assumption)))
  have rB17 := (rB.ext hx16).bel (b17.mono (Nat.le_refl _))
  have bel17 := ext_bel (xW.trans hx16) b17
  clear o17 o17' hn17 hmk256 hmk257
  obtain ⟨g17, f17, s0, hs0, q0, hl0, hc00, hc01⟩ := r17.run (show 0 < 3 by decide)
  obtain ⟨g18, f18, s1, hs1, q1', hl1, hc10, hc11⟩ := r17.run (show 1 < 3 by decide)
  obtain ⟨g19, f19, s2, hs2, q2, hl2, hc20, hc21⟩ := r17.run (show 2 < 3 by decide)
  have k0 : s0 = (0, 2) := (Option.some.inj q0.out).symm
  have k1 : s1 = (2, 3) := (Option.some.inj q1'.out).symm
  have k2 : s2 = (3, 5) := (Option.some.inj q2.out).symm
  subst k0; subst k1; subst k2; subst hs0
  cases hs1
  cases hs2
  clear q0 q1' q2 r17
  have hd00 : w17.cell? ⟨g17, f17, none⟩ = some (.int .i64 0) := hc00
  have hd01 : w17.cell? ⟨g17, f17 + 1, none⟩ = some (.int .i64 2) := hc01
  have hd10 : w17.cell? ⟨g17, f17 + 2, none⟩ = some (.int .i64 2) := hc10
  have hd11 : w17.cell? ⟨g17, f17 + 2 + 1, none⟩ = some (.int .i64 3) := hc11
  have hd20 : w17.cell? ⟨g17, f17 + 4, none⟩ = some (.int .i64 3) := hc20
  have hd21 : w17.cell? ⟨g17, f17 + 4 + 1, none⟩ = some (.int .i64 5) := hc21
  clear hc00 hc01 hc10 hc11 hc20 hc21
  have he := neq_run
  go_wp2_with fail
  clear hd00 hd01 hd10 hd11 hd20 hd21 he rL rO rT rS xW rB b17 hx16 hl0 hl1 hl2
  obtain ⟨t1, t2, t3, t4, t5, t6, t7⟩ : Hid (1 = 1) ∧ Hid (1 = 1) ∧ Hid (1 = 1) ∧ Hid (1 = 1) ∧ Hid (1 = 1) ∧ Hid (1 = 1) ∧ Hid (1 = 1) := ⟨rfl, rfl, rfl, rfl, rfl, rfl, rfl⟩
  have hb0 : w17.cell? ⟨w.heap.size + 1 + 1, 0, none⟩ = some (.int .u32 16777216) := (rB17.pos (by decide)).elim fun b h => h.elim fun o h => by obtain ⟨h1, _, h3⟩ := h; cases h1; exact h3 0 _ rfl 0 _ rfl
  have hb1 : w17.cell? ⟨w.heap.size + 1 + 1, 1, none⟩ = some (.int .u32 0) := (rB17.pos (by decide)).elim fun b h => h.elim fun o h => by obtain ⟨h1, _, h3⟩ := h; cases h1; exact h3 0 _ rfl 1 _ rfl
  go_region_law (first | (go_simp; go_at_call 45; refine (spell_rd _ _ (by decide)).mono ?_; rintro e w1 ⟨a1, _, rfl, r1, x1⟩; replace hb0 := x1.cellv hb0; replace hb1 := x1.cellv hb1) | (go_simp; go_at_call 24; have hz := t1; clear hz t1; refine (cint (find_any _ _ _ _ _ _ _ _ _ (RdK.ext (by assumption) (by repeat (first | exact Ext.refl _ | assumption | refine Ext.drew ?_ | refine Ext.drewN ?_ _ | refine Ext.alloc ?_ _ | refine Ext.trans ?_ (by assumption)))) (RdK.nilS _) (by decide) (by decide)) e19).mono ?_; rintro e w1 ⟨rfl, x1⟩; replace hb0 := x1.cellv hb0; replace hb1 := x1.cellv hb1) | (go_simp; go_at_call 24; have hz := t2; clear hz t2; refine (cint (find_any _ _ _ _ _ _ _ _ _ (RdK.ext (by assumption) (by repeat (first | exact Ext.refl _ | assumption | refine Ext.drew ?_ | refine Ext.drewN ?_ _ | refine Ext.alloc ?_ _ | refine Ext.trans ?_ (by assumption)))) (RdK.ext (by assumption) (by repeat (first | exact Ext.refl _ | assumption | refine Ext.drew ?_ | refine Ext.drewN ?_ _ | refine Ext.alloc ?_ _ | refine Ext.trans ?_ (by assumption)))) (by decide) (by decide)) e20).mono ?_; rintro e w1 ⟨rfl, x1⟩; replace hb0 := x1.cellv hb0; replace hb1 := x1.cellv hb1) | (go_simp; go_at_call 24; have hz := t3; clear hz t3; refine (cint (find_any _ _ _ _ _ _ _ _ _ (RdK.nilS _) (RdK.nilS _) (by decide) (by decide)) e21).mono ?_; rintro e w1 ⟨rfl, x1⟩; replace hb0 := x1.cellv hb0; replace hb1 := x1.cellv hb1) | (go_simp; go_at_call 26; refine (cbool (inside_any _ _ _ _ _ _ _ _ _ (RdK.ext (by assumption) (by repeat (first | exact Ext.refl _ | assumption | refine Ext.drew ?_ | refine Ext.drewN ?_ _ | refine Ext.alloc ?_ _ | refine Ext.trans ?_ (by assumption)))) (RdK.ext (by assumption) (by repeat (first | exact Ext.refl _ | assumption | refine Ext.drew ?_ | refine Ext.drewN ?_ _ | refine Ext.alloc ?_ _ | refine Ext.trans ?_ (by assumption)))) (by decide) (by decide)) e22).mono ?_; rintro e w1 ⟨rfl, x1⟩; replace hb0 := x1.cellv hb0; replace hb1 := x1.cellv hb1) | (go_simp; go_at_call 22; refine (cint (worder_any _ _ _ _ _ _ _ _ _ (RdK.ext (by assumption) (by repeat (first | exact Ext.refl _ | assumption | refine Ext.drew ?_ | refine Ext.drewN ?_ _ | refine Ext.alloc ?_ _ | refine Ext.trans ?_ (by assumption)))) (RdK.ext (by assumption) (by repeat (first | exact Ext.refl _ | assumption | refine Ext.drew ?_ | refine Ext.drewN ?_ _ | refine Ext.alloc ?_ _ | refine Ext.trans ?_ (by assumption))))) e23).mono ?_; rintro e w1 ⟨rfl, x1⟩; replace hb0 := x1.cellv hb0; replace hb1 := x1.cellv hb1) | (go_simp; go_at_call 43; have hz := t4; clear hz t4; refine (cint (count_any _ _ _ _ ⟨0, 0⟩ _ (RdK.ext (by assumption) (by repeat (first | exact Ext.refl _ | assumption | refine Ext.drew ?_ | refine Ext.drewN ?_ _ | refine Ext.alloc ?_ _ | refine Ext.trans ?_ (by assumption))))) (congrArg Nat.cast e24)).mono ?_; rintro e w1 ⟨rfl, x1⟩; replace hb0 := x1.cellv hb0; replace hb1 := x1.cellv hb1) | (go_simp; go_at_call 43; have hz := t5; clear hz t5; refine (cint (count_any _ _ _ _ ⟨16777216, 0⟩ _ (RdK.ext (by assumption) (by repeat (first | exact Ext.refl _ | assumption | refine Ext.drew ?_ | refine Ext.drewN ?_ _ | refine Ext.alloc ?_ _ | refine Ext.trans ?_ (by assumption))))) (congrArg Nat.cast e25)).mono ?_; rintro e w1 ⟨rfl, x1⟩; replace hb0 := x1.cellv hb0; replace hb1 := x1.cellv hb1) | (go_simp; go_at_call 43; have hz := t6; clear hz t6; refine (cint (count_any _ _ _ _ ⟨2, 0⟩ _ (RdK.ext (by assumption) (by repeat (first | exact Ext.refl _ | assumption | refine Ext.drew ?_ | refine Ext.drewN ?_ _ | refine Ext.alloc ?_ _ | refine Ext.trans ?_ (by assumption))))) (congrArg Nat.cast e26)).mono ?_; rintro e w1 ⟨rfl, x1⟩; replace hb0 := x1.cellv hb0; replace hb1 := x1.cellv hb1) | (go_simp; go_at_call 43; have hz := t7; clear hz t7; refine (cint (count_any _ _ _ _ ⟨0, 0⟩ _ (RdK.ext (by assumption) (by repeat (first | exact Ext.refl _ | assumption | refine Ext.drew ?_ | refine Ext.drewN ?_ _ | refine Ext.alloc ?_ _ | refine Ext.trans ?_ (by assumption))))) (congrArg Nat.cast e27)).mono ?_; rintro e w1 ⟨rfl, x1⟩; replace hb0 := x1.cellv hb0; replace hb1 := x1.cellv hb1) | (go_simp; go_at_call 15; refine (works_any _).mono ?_; rintro e w1 ⟨rfl, x1⟩; replace hb0 := x1.cellv hb0; replace hb1 := x1.cellv hb1))
  all_goals
    go_wp2_with fail
    go_ret
    exact ⟨rfl, bel_ext bel17 (by repeat (first | exact Ext.refl _ | assumption | refine Ext.drew ?_ | refine Ext.drewN ?_ _ | refine Ext.alloc ?_ _ | refine Ext.trans ?_ (by assumption)))⟩
end Go.Proofs.Ytphfnmmdfnfnaaa
