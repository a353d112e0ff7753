/-
  words: what the iterator hands to its yield.
-/
import Derived.Test.YtilkemdecenibaaNi
import Derived.Test.YtilkemdecenibaaNk
import Derived.Laws.EntriesVeiled
namespace Go.Proofs.Ytilkemdecenibaa
open Go.RowKit Go.Maps Go.Shelf Go.Sort Go.Lib
set_option maxHeartbeats 1000000 in
theorem cmpW_any (A : Au) (nS : Nat) (hnS : A.snd.length = nS) (w : World) (Bp ba : Nat) (hb : w.cell? ⟨Bp, 0, none⟩ = some (.pointer (some ⟨ba, 0, none⟩))) (hA : AuAt w ba A) (i k : Nat) (hi : i < nS) (hk : k < nS) :
    Calls Try.prog 97 #[.int .i64 (i : Int), .int .i64 (k : Int), .pointer (some ⟨Bp, 0, none⟩)] w fun e w' => e = .returned (.int .i64 (cmpS (A.snd.getD i ⟨0#32, 0#32⟩) (A.snd.getD k ⟨0#32, 0#32⟩))) ∧ ExtD w w' := by
  obtain ⟨sa, sc, na, nc, fa, fc, hbox, hS, hX, hF⟩ := hA
  rw [hnS] at hbox hS
  have q0 : w.cell? ⟨ba, 0, none⟩ = some (.slice sa nS sc) := by simp [World.cell?, hbox]
  obtain ⟨sb, so, x, rfl, hx, _, x0, x1⟩ := hS.snd hi
  obtain ⟨_, _, y, e, hy, _, y0, y1⟩ := hS.snd hk
  cases e
  have gx : A.snd.getD i ⟨0#32, 0#32⟩ = x := by rw [List.getD_eq_getElem?_getD, hx.out]; rfl
  have gy : A.snd.getD k ⟨0#32, 0#32⟩ = y := by rw [List.getD_eq_getElem?_getD, hy.out]; rfl
  rw [gx, gy]
  have f0 := fun X : ExtDOf w => X.cell hb
  have f1 := fun X : ExtDOf w => X.cell q0
  have f2 := fun X : ExtDOf w => X.cell x0
  have f3 := fun X : ExtDOf w => X.cell x1
  have f4 := fun X : ExtDOf w => X.cell y0
  have f5 := fun X : ExtDOf w => X.cell y1
  clear hbox hS hX hF gx gy hx hy
  replace hnS := Lib.hid hnS
  go_enter Try.func97, Try.ntmps97
  go_wp2_with fail
  refine wp_region_qxtD 14 (by kernel_rfl) (by kernel_rfl) ?_
  simp only [List.take_succ_cons, List.take_zero, List.drop_succ_cons, List.drop_zero]
  repeat (go_big_quiet_step (fail))
  refine wpQuiet_nil ?_
  intro wq hw'
  have hxq := extD_of_ex hw'
  clear hw'
  go_wp2_with (go_at_call 98; refine (order_anyD x y _).mono ?_; rintro e w1 ⟨rfl, hx1⟩)
  go_ret
  exact ⟨rfl, hxq.trans hx1⟩
/-! ### The walk -/
theorem Off.trans {g : Nat} {a b c : World} (h : Off g a b) (k : Off g b c) : Off g a c := ⟨Nat.le_trans h.le k.le, fun r hr hne => (k.block r (Nat.lt_of_lt_of_le hr h.le) hne).trans (h.block r hr hne)⟩
theorem Off.set {g : Nat} {a b : World} (h : Off g a b) (i : Nat) (u : Value) : Off g a (b.setCell ⟨g, i, none⟩ u) := ⟨Nat.le_trans h.le (KeepsWalks.setCell b _ u).size, fun r hr hne => (heap_setCell_other b ⟨g, i, none⟩ r u (fun e => hne e)).trans (h.block r hr hne)⟩
theorem Off.box {g : Nat} {w w' : World} (h : Off g w w') {b : Nat} {t : TypeId} {v : Value} (hb : Boxed w b t v) (hne : b ≠ g) : Boxed w' b t v := (h.block b (Boxed.lt hb) hne).trans hb
theorem CtI.off {B Bo m g : Nat} {w w' : World} {hd : List SH} {rs : List (List Nat)} (h : CtI B w Bo m hd rs) (hx : Off g w w') (h1 : Bo ≠ g) (h2 : ∀ y ∈ hd, y.v.ownBlock ≠ some g) : CtI B w' Bo m hd rs :=
  ⟨h.own.off hx (fun e => by cases e; exact h1 rfl), h.len, fun i y x hi hx' => (h.rows i y x hi hx').off hx (h2 y (List.mem_of_getElem? hi)), h.apart⟩
def wordsTo (A : Au) (ord : List Nat) (n : Nat) : List (List Snd) := (List.range n).flatMap fun n => if (cntRow A n).getD 0 0 = 0 then [] else wordsFrom A ord n 0 []
theorem wordsTo_succ (A : Au) (ord : List Nat) (n : Nat) : wordsTo A ord (n + 1) = wordsTo A ord n ++ (if (cntRow A n).getD 0 0 = 0 then [] else wordsFrom A ord n 0 []) := by
  unfold wordsTo
  rw [List.range_succ, List.flatMap_append]; simp
theorem wordsTo_pre (A : Au) (ord : List Nat) {n : Nat} (hn : n ≤ 33) : wordsTo A ord n <+: wordsAll A ord := by
  have h : ∀ d, wordsTo A ord n <+: wordsTo A ord (n + d) := fun d => by
    induction d with
    | zero => exact List.prefix_refl _
    | succ d ih => rw [← Nat.add_assoc, wordsTo_succ]; exact ih.trans (List.prefix_append _ _)
  have := h (33 - n)
  rwa [show n + (33 - n) = 33 by omega] at this
theorem ord_mem {xs : List Snd} {ord : List Nat} (h : OrdIs xs ord) : ∀ k ∈ ord, k < xs.length := fun k hk => by simpa using (h.1.mem_iff).1 hk
set_option maxHeartbeats 1000000 in
set_option maxRecDepth 20000 in
theorem words1_any (T : World → Nat → Prop) (A : Au) (hAok : A.okB = true) (N : Nat) (hN : A.next.length = N) (hN0 : 0 < N) (hN5 : N ≤ 5000) (nS : Nat) (hnS : A.snd.length = nS) (hnS0 : 0 < nS) (ord : List Nat) (hord : OrdIs A.snd ord)
    (J Jx : List (List Snd) → World → Prop) (l m B : Nat) (W : World) (hBW : B ≤ W.heap.size) (hTl : ∀ X r, T X r → r < X.heap.size) (Bp ba : Nat)
    (hJA : ∀ s X, J s X → X.cell? ⟨Bp, 0, none⟩ = some (.pointer (some ⟨ba, 0, none⟩)) ∧ AuAt X ba A ∧ B ≤ X.heap.size) (hJg : AbideT T B J) (h0 : J [] W)
    (hY : ∀ pre x v X, J pre X → v.size = 1 → NxW (wordsAll A ord) pre x v X → YieldAt Fence.wide m Try.prog l v X fun e Y => (e = .returned (.bool true) ∧ J (pre ++ [x]) Y ∧ KeepT T X Y) ∨ (e = .returned (.bool false) ∧ Jx (pre ++ [x]) Y)) :
    Calls Try.prog 95 #[.func (.yield l) #[] #[], .pointer (some ⟨Bp, 0, none⟩)] W fun e Y => (∃ v, e = .returned v) ∧ (J (wordsAll A ord) Y ∨ ∃ p, Jx p Y) := by
  obtain ⟨cBp, hA, _⟩ := hJA _ _ h0
  have hcounts := fun W' (hx : Ext W W') => counts_any A hAok N hN hN0 hN5 W' ba (hA.ext hx) 32 (by omega)
  have hs8 : nS ≤ 8 := by rw [← hnS]; exact (Au.ok_at hAok).1
  have hmk : ∀ W : World, (Instr.makeSlice 102 (.int .i64 (nS : Int)) (.int .i64 (nS : Int))).run Try.prog W = .ok (.slice (some ⟨W.heap.size, 0, none⟩) nS nS) (W.alloc (.cells (madeCells #[.int .i64 0] (nS * 1)) 3)) := fun W => run_mk (P := Try.prog) 102 Try.underlying102 info_int2 nS (by omega) (by decide) W
  obtain ⟨sa, sc, na, nc, fa, fc, hbox, hS, hX, hF⟩ := id hA
  rw [hnS] at hbox
  have q0 : W.cell? ⟨ba, 0, none⟩ = some (.slice sa nS sc) := by simp [World.cell?, hbox]
  clear hbox hS hX hF
  have hBpl := cell_lt cBp
  have hbal := cell_lt q0
  have hA' := Lib.hid hA
  have hJA' := Lib.hid hJA
  have hJg' := Lib.hid hJg
  have hY' := Lib.hid hY
  have hTl' := Lib.hid hTl
  have h0' := Lib.hid h0
  replace hN := Lib.hid hN
  replace hnS := Lib.hid hnS
  replace hAok := Lib.hid hAok
  clear hA hJA hJg hY hTl h0
  go_enter Try.func95, Try.ntmps95
  go_wp2_with fail
  have hx1 : Ext W (W.alloc (.cells #[.func (.yield l) #[] #[]] 31)) := Ext.alloc1 _ _
  have cBy : (W.alloc (.cells #[.func (.yield l) #[] #[]] 31)).cell? ⟨W.heap.size, 0, none⟩ = some (.func (.yield l) #[] #[]) := by go_simp
  have hct := hcounts _ hx1
  clear hcounts
  refine hct.mono ?_
  clear hct
  rintro e w2 ⟨Gc, hd, rfl, hC, hx2⟩
  replace cBy := hx2.cellv cBy
  have hxw2 := hx1.trans hx2
  have bBy : Boxed w2 W.heap.size 31 (.func (.yield l) #[] #[]) := Boxed.more (Boxed.new W _ _) hx2
  obtain ⟨By, hBy⟩ : ∃ b, b = W.heap.size := ⟨_, rfl⟩
  rw [← hBy] at cBy bBy ⊢
  have hByW : W.heap.size ≤ By := by omega
  have hGcW : W.heap.size ≤ Gc ∧ Gc < w2.heap.size := by have := own_ge hC.own; rw [World.size_alloc] at this; exact ⟨by omega, this.2.1⟩
  replace hBy := Lib.hid hBy
  have k0 := hxw2.cellv q0
  have k1 := hxw2.cellv cBp
  have hb0 := cell_lt k0
  have hb1 := cell_lt k1
  have hByl := cell_lt cBy
  have bBy' := Lib.hid bBy
  clear hx1 hx2 bBy
  go_wp2_with fail
  have hx3 : Ext w2 (((w2.alloc (.cells #[.slice (some ⟨Gc, 0, none⟩) 33 33] 104)).alloc (.cells (madeCells #[.int .i64 0] nS) 3)).alloc (.cells #[.slice (some ⟨w2.heap.size + 1, 0, none⟩) nS nS] 102)) := (by repeat (first | exact Ext.refl _ | assumption | refine Ext.drew ?_ | refine Ext.drewN ?_ _ | refine Ext.alloc ?_ _ | refine Ext.trans ?_ (by assumption)))
  have bBc : Boxed (((w2.alloc (.cells #[.slice (some ⟨Gc, 0, none⟩) 33 33] 104)).alloc (.cells (madeCells #[.int .i64 0] nS) 3)).alloc (.cells #[.slice (some ⟨w2.heap.size + 1, 0, none⟩) nS nS] 102)) w2.heap.size 104 (.slice (some ⟨Gc, 0, none⟩) 33 33) := ((Boxed.new w2 _ _).alloc _).alloc _
  have bBd := Boxed.new ((w2.alloc (.cells #[.slice (some ⟨Gc, 0, none⟩) 33 33] 104)).alloc (.cells (madeCells #[.int .i64 0] nS) 3)) 102 (.slice (some ⟨w2.heap.size + 1, 0, none⟩) nS nS)
  have ho0 := made_own NN.len (by decide) (w2.alloc (.cells #[.slice (some ⟨Gc, 0, none⟩) 33 33] 104)) 3 #[.int .i64 0] 0 rfl nS (by omega)
  rw [Nat.mul_one] at ho0
  rw [World.size_alloc] at ho0
  rw [World.size_alloc, World.size_alloc] at bBd
  have ho1 := (ho0.base (show W.heap.size ≤ w2.heap.size + 1 by have := hxw2.le; omega)).kept (Ext.alloc1 _ (.cells #[.slice (some ⟨w2.heap.size + 1, 0, none⟩) nS nS] 102))
  have hC3 := hC.kept hx3
  have bBy3 := Boxed.more bBy'.out hx3
  have hxw3 := hxw2.trans hx3
  have hsz3 : (((w2.alloc (.cells #[.slice (some ⟨Gc, 0, none⟩) 33 33] 104)).alloc (.cells (madeCells #[.int .i64 0] nS) 3)).alloc (.cells #[.slice (some ⟨w2.heap.size + 1, 0, none⟩) nS nS] 102)).heap.size = w2.heap.size + 3 := by simp only [World.size_alloc]
  generalize (((w2.alloc (.cells #[.slice (some ⟨Gc, 0, none⟩) 33 33] 104)).alloc (.cells (madeCells #[.int .i64 0] nS) 3)).alloc (.cells #[.slice (some ⟨w2.heap.size + 1, 0, none⟩) nS nS] 102)) = w3 at *
  obtain ⟨Bc, hBc⟩ : ∃ b, b = w2.heap.size := ⟨_, rfl⟩
  obtain ⟨Gd, hGd⟩ : ∃ b, b = w2.heap.size + 1 := ⟨_, rfl⟩
  obtain ⟨Bd, hBd⟩ : ∃ b, b = w2.heap.size + 1 + 1 := ⟨_, rfl⟩
  rw [← hGd] at ho1
  rw [← hBd, ← hGd] at bBd
  rw [← hBc] at bBc
  rw [← hBd, ← hGd, ← hBc]
  have hneq : Hid (By ≠ Gd ∧ Bc ≠ Gd ∧ Bd ≠ Gd ∧ Gc ≠ Gd ∧ W.heap.size ≤ Bc ∧ W.heap.size ≤ Bd ∧ W.heap.size ≤ Gd ∧ ∀ y ∈ hd, y.v.ownBlock ≠ some Gd) := Lib.hid ⟨by omega, by omega, by omega, by omega, by have := hxw2.le; omega, by have := hxw2.le; omega, by have := hxw2.le; omega, fun y hy e => by
    obtain ⟨i, hi⟩ := List.getElem?_of_mem hy
    obtain ⟨x, hx⟩ : ∃ x, (cntsTo A 33 33)[i]? = some x := ⟨_, List.getElem?_eq_getElem (by rw [hC.len, ← hC.hlen]; exact (List.getElem?_eq_some_iff.1 hi).1)⟩
    have := (own_lt (hC.rows i y x hi hx) e).2; omega⟩
  have bBd3 := Lib.hid bBd
  have bBc3 := Lib.hid bBc
  replace bBy3 := Lib.hid bBy3
  replace hC3 := Lib.hid hC3
  replace hBc := Lib.hid hBc
  replace hGd := Lib.hid hGd
  replace hBd := Lib.hid hBd
  replace hsz3 := Lib.hid hsz3
  clear hx3 ho0 bBd bBc hC k0 k1 hb0 hb1 hByl bBy' cBy
  rw [show List.replicate nS 0 = List.range 0 ++ List.replicate (nS - 0) 0 by simp] at ho1
  go_loopw [20] (fun iv wr => ∃ k : Nat, k ≤ nS ∧ iv = .int .i64 k ∧ OwnK 1 NN.enc W.heap.size 3 wr (.slice (some ⟨Gd, 0, none⟩) nS nS) (List.range k ++ List.replicate (nS - k) 0) ∧ Off Gd w3 wr ∧ Ext W wr) (fun iv _ => nS - (intOf iv).toNat)
  case atStart => exact ⟨0, Nat.zero_le _, rfl, ho1, Off.refl _ _, hxw3⟩
  case round =>
    clear ho1 hxw3
    obtain ⟨k, hk, rfl, ho, hof, hx⟩ := hrel
    have cBd := Boxed.cell (hof.box bBd3.out hneq.out.2.2.1)
    by_cases hlt : k < nS
    · have hfr := own_free ho k
      obtain ⟨y0, hy0⟩ : ∃ y, (List.range k ++ List.replicate (nS - k) 0)[k]? = some y := ⟨_, List.getElem?_eq_getElem (by have := (own_ge ho).2.2.1; omega)⟩
      have hcs := own_at NN.len ho hy0 (j := 0) rfl
      rw [Nat.mul_one, Nat.add_zero] at hcs
      have hst := own_set1 NN.len ho hlt (y := k) (u := .int .i64 (k : Int)) rfl
      rw [pad_app (List.range k) nS k (by simp) hlt, ← List.range_succ] at hst
      have hof2 := hof.set k (.int .i64 (k : Int))
      have hx2 := ext_set hx hneq.out.2.2.2.2.2.2.1 k (.int .i64 (k : Int))
      replace hy0 := Lib.hid hy0
      go_wp2_with fail
      (first | exact ⟨⟨k + 1, hlt, by go_num, hst, hof2, hx2⟩, (by simp [intOf]; omega)⟩ | (go_roundw; case rel => exact ⟨k + 1, hlt, by go_num, hst, hof2, hx2⟩; case measure => exact (by simp [intOf]; omega)))
    · obtain rfl : nS = k := by omega
      rw [Nat.sub_self, List.replicate_zero, List.append_nil] at ho
      have hsrt := sortI_any nS hnS0 hs8 A.snd hnS.out 97 #[.pointer (some ⟨Bp, 0, none⟩)] (enters_of Try.func97 (by kernel_rfl) rfl) (w := W) (w0 := wr) (g := Gd) (cap := nS) (L := List.range nS) (fun x hx => by simpa using hx) (fun W' x y hW' _ => cmpW_any A nS hnS.out W' Bp ba (hW'.cellv cBp) (hA'.out.ext hW') x.1 y.1 x.2 y.2) hx ho
      go_wp2_with fail
      refine hsrt.mono ?_
      clear hsrt
      rintro e w4 ⟨rfl, hx4, hof4, ts, hp, hso, ho4⟩
      have hto : ts = ord := ord_uniq hord (ts := ts) (by rw [hnS.out]; exact hp) (hso.imp fun h => Int.not_lt.2 h)
      rw [hto] at ho4
      clear hto
      replace hof4 := hof.trans hof4
      have bBd4 := hof4.box bBd3.out hneq.out.2.2.1
      have bBc4 := hof4.box bBc3.out hneq.out.2.1
      have bBy4 := hof4.box bBy3.out hneq.out.1
      have hC4 := hC3.out.off hof4 hneq.out.2.2.2.1 hneq.out.2.2.2.2.2.2.2
      have cBc4 := Boxed.cell bBc4
      have hBcl := cell_lt cBc4
      replace bBd4 := Lib.hid bBd4
      replace bBc4 := Lib.hid bBc4
      replace bBy4 := Lib.hid bBy4
      replace hC4 := Lib.hid hC4
      clear hof hx ho cBd hp hso hof4 hk hlt
      have hx5 : Ext w4 ((w4.alloc (.cells #[.slice none 0 0] 28)).alloc (.cells #[.func (.func 99) #[] #[.pointer (some ⟨By, 0, none⟩), .pointer (some ⟨w4.heap.size, 0, none⟩), .pointer (some ⟨Bd, 0, none⟩), .pointer (some ⟨Bp, 0, none⟩), .pointer (some ⟨Bc, 0, none⟩), .pointer (some ⟨w4.heap.size + 1, 0, none⟩)]] 153)) := (by repeat (first | exact Ext.refl _ | assumption | refine Ext.drew ?_ | refine Ext.drewN ?_ _ | refine Ext.alloc ?_ _ | refine Ext.trans ?_ (by assumption)))
      have bBw := (Boxed.new w4 28 (.slice none 0 0)).alloc (.cells #[.func (.func 99) #[] #[.pointer (some ⟨By, 0, none⟩), .pointer (some ⟨w4.heap.size, 0, none⟩), .pointer (some ⟨Bd, 0, none⟩), .pointer (some ⟨Bp, 0, none⟩), .pointer (some ⟨Bc, 0, none⟩), .pointer (some ⟨w4.heap.size + 1, 0, none⟩)]] 153)
      have bBf := Boxed.new (w4.alloc (.cells #[.slice none 0 0] 28)) 153 (.func (.func 99) #[] #[.pointer (some ⟨By, 0, none⟩), .pointer (some ⟨w4.heap.size, 0, none⟩), .pointer (some ⟨Bd, 0, none⟩), .pointer (some ⟨Bp, 0, none⟩), .pointer (some ⟨Bc, 0, none⟩), .pointer (some ⟨w4.heap.size + 1, 0, none⟩)])
      rw [World.size_alloc] at bBf
      replace hx5 := Lib.hid hx5
      replace bBw := Lib.hid bBw
      replace bBf := Lib.hid bBf
      have hneq5 : Hid (By < w4.heap.size ∧ Bc < w4.heap.size ∧ Bd < w4.heap.size ∧ Gd < w4.heap.size) := Lib.hid ⟨Boxed.lt bBy4.out, Boxed.lt bBc4.out, Boxed.lt bBd4.out, (own_ge ho4).2.1⟩
      have ho4' := Lib.hid ho4
      have hx4' := Lib.hid hx4
      clear ho4 hx4
      go_wp2_with fail
      generalize hW1 : ((w4.alloc (.cells #[.slice none 0 0] 28)).alloc (.cells #[.func (.func 99) #[] #[.pointer (some ⟨By, 0, none⟩), .pointer (some ⟨w4.heap.size, 0, none⟩), .pointer (some ⟨Bd, 0, none⟩), .pointer (some ⟨Bp, 0, none⟩), .pointer (some ⟨Bc, 0, none⟩), .pointer (some ⟨w4.heap.size + 1, 0, none⟩)]] 153)) = W1 at *
      obtain ⟨Bw, hBw⟩ : ∃ b, b = w4.heap.size := ⟨_, rfl⟩
      obtain ⟨Bf, hBf⟩ : ∃ b, b = w4.heap.size + 1 := ⟨_, rfl⟩
      rw [← hBf, ← hBw] at bBf
      rw [← hBw] at bBw
      rw [← hBf, ← hBw]
      replace hW1 := Lib.hid hW1
      have hxW := hx4'.out.trans hx5.out
      have bBy5 := Boxed.more bBy4.out hx5.out
      have bBc5 := Boxed.more bBc4.out hx5.out
      have bBd5 := Boxed.more bBd4.out hx5.out
      have hC5 := hC4.out.kept hx5.out
      have ho5 := ho4'.out.kept hx5.out
      have hw4 := hx4'.out.le
      obtain ⟨S, hSd⟩ : ∃ S : Nat → Prop, S = fun r => r = By ∨ r = Bd ∨ r = Gd ∨ r = Bc ∨ r = Gc ∨ r = Bf ∨ ∃ y ∈ hd, y.v.ownBlock = some r := ⟨_, rfl⟩
      have hrowS : ∀ y ∈ hd, ∃ x, OwnK 1 UE.enc (W.heap.size + 1) 61 W1 y.v x := fun y hy => by
        obtain ⟨i, hi⟩ := List.getElem?_of_mem hy
        obtain ⟨x, hx⟩ : ∃ x, (cntsTo A 33 33)[i]? = some x := ⟨_, List.getElem?_eq_getElem (by rw [hC5.len, ← hC5.hlen]; exact (List.getElem?_eq_some_iff.1 hi).1)⟩
        have := hC5.rows i y x hi hx
        rw [World.size_alloc] at this
        exact ⟨x, this⟩
      have hSc : ∀ r, S r → ∃ cs e fr, W1.heap[r]? = some (.cells cs e fr) := fun r hr => by
        rw [hSd] at hr
        rcases hr with rfl | rfl | rfl | rfl | rfl | rfl | ⟨y, hy, h⟩
        · exact ⟨_, _, _, bBy5⟩
        · exact ⟨_, _, _, bBd5⟩
        · obtain ⟨c, h⟩ := own_type ho5 (g := r) rfl; exact ⟨_, _, _, h⟩
        · exact ⟨_, _, _, bBc5⟩
        · obtain ⟨c, h⟩ := own_type hC5.own (g := r) rfl; exact ⟨_, _, _, h⟩
        · exact ⟨_, _, _, bBf.out⟩
        · obtain ⟨x, hx⟩ := hrowS y hy
          obtain ⟨c, h⟩ := own_type hx h; exact ⟨_, _, _, h⟩
      have hSge : ∀ r, S r → W.heap.size ≤ r := fun r hr => by
        rw [hSd] at hr
        rcases hr with rfl | rfl | rfl | rfl | rfl | rfl | ⟨y, hy, h⟩
        · exact hByW
        · exact hneq.out.2.2.2.2.2.1
        · exact hneq.out.2.2.2.2.2.2.1
        · exact hneq.out.2.2.2.2.1
        · exact hGcW.1
        · omega
        · obtain ⟨x, hx⟩ := hrowS y hy
          have := (own_lt hx h).1; omega
      obtain ⟨hJ1, hT1⟩ := hJg'.out _ _ _ none h0'.out (gb_ext hxW none) (fun r e => by cases e)
      have hTW : ∀ r, T W1 r → r < W.heap.size := fun r h => hTl'.out _ _ ((hT1 r).1 h)
      have hSw : ¬ S Bw := fun h => by
        rw [hSd] at h
        have h5 := hneq5.out
        rcases h with h | h | h | h | h | h | ⟨y, hy, h⟩
        · omega
        · omega
        · omega
        · omega
        · have := hGcW.2; have := Nat.lt_of_lt_of_le hGcW.2 (show w2.heap.size ≤ w4.heap.size by have := hBc.out; omega); omega
        · omega
        · obtain ⟨i, hi⟩ := List.getElem?_of_mem hy
          obtain ⟨x, hx⟩ : ∃ x, (cntsTo A 33 33)[i]? = some x := ⟨_, List.getElem?_eq_getElem (by rw [hC4.out.len, ← hC4.out.hlen]; exact (List.getElem?_eq_some_iff.1 hi).1)⟩
          have := (own_lt (hC4.out.rows i y x hi hx) h).2; omega
      have hst : Stt T S W1 W1 := fun r hr => ⟨rfl, fun h => by have := hTW r h; have := hSge r hr; omega⟩
      have hwb : WB T S W1 B Bw W1 [] := ⟨Nat.le_refl _, _, bBw.out, OwnK.nil _ _ _, fun h => by have := hTW _ h; omega, fun g hg => by cases hg⟩
      have hfrom := from_any T (wordsAll A ord) A hAok.out N hN.out nS hnS.out ord (fun k hk => hnS.out ▸ ord_mem hord k hk) J Jx l m B W1 S ba hSc hTl'.out By Bw Bd Bp Bc Bf Gd Gc hd
        (by rw [hSd]; exact .inl rfl) (Boxed.cell bBy5) (by rw [hSd]; exact .inr (.inl rfl)) (Boxed.cell bBd5) (by rw [hSd]; exact .inr (.inr (.inl rfl))) (OwnK.rdc NN.len ho5)
        (by rw [hSd]; exact .inr (.inr (.inr (.inl rfl)))) (Boxed.cell bBc5) (by rw [hSd]; exact .inr (.inr (.inr (.inr (.inl rfl))))) _ hC5 (fun i h g hi hg => by rw [hSd]; exact .inr (.inr (.inr (.inr (.inr (.inr ⟨h, List.mem_of_getElem? hi, hg⟩))))))
        (by rw [hSd]; exact .inr (.inr (.inr (.inr (.inr (.inl rfl)))))) (Boxed.cell bBf.out) hSw (by omega) hJA'.out hJg'.out hY'.out
      have sGc : S Gc := by rw [hSd]; exact .inr (.inr (.inr (.inr (.inl rfl))))
      have sBf : S Bf := by rw [hSd]; exact .inr (.inr (.inr (.inr (.inr (.inl rfl)))))
      have sR : ∀ (i : Nat) (h : SH) (g : Nat), hd[i]? = some h → h.v.ownBlock = some g → S g := fun i h g hi hg => by rw [hSd]; exact .inr (.inr (.inr (.inr (.inr (.inr ⟨h, List.mem_of_getElem? hi, hg⟩)))))
      have cBf5 := Boxed.cell bBf.out
      have hfl := (Au.ok_at hAok.out).2.1
      have hCl := cntRow_len A hfl
      rw [hN.out] at hCl
      have hC5' := Lib.hid hC5
      have hfrom' := Lib.hid hfrom
      have sR' := Lib.hid sR
      replace hCl := Lib.hid hCl
      replace hfl := Lib.hid hfl
      replace hBw := Lib.hid hBw
      replace hBf := Lib.hid hBf
      clear bBy5 bBc5 bBd5 hC5 ho5 hrowS hSc hSge hJg' h0' hT1 hTW hxW hfrom sR bBw bBf hx5 hx4' ho4' hC4 bBy4 bBc4 bBd4 hneq5 hw4 cBc4 hBcl hSw hA' hY' hTl'
      go_loopw [34] (fun iv wr => ∃ n : Nat, n ≤ 33 ∧ iv = .int .i64 n ∧ J (wordsTo A ord n) wr ∧ Stt T S W1 wr ∧ WB T S W1 B Bw wr []) (fun iv _ => 33 - (intOf iv).toNat)
      case atStart => exact ⟨0, Nat.zero_le _, rfl, hJ1, hst, hwb⟩
      case round =>
        clear hJ1 hst hwb
        obtain ⟨n, hn, rfl, hJ, hs, hw⟩ := hrel
        by_cases hlt : n < 33
        · obtain ⟨yC, hyC⟩ : ∃ y, hd[n]? = some y := ⟨_, List.getElem?_eq_getElem (by rw [hC5'.out.hlen]; omega)⟩
          have hrC := hC5'.out.rows n yC _ hyC (cntsTo_at A hlt)
          have cGc := hC5'.out.at hyC
          have hrCd := hC5'.out.row hyC (cntsTo_at A hlt)
          have hyn : yC.n = N := by rw [← hrCd.len]; exact hCl.out n
          obtain ⟨ya, yn, yc⟩ := yC
          change yn = N at hyn
          subst hyn
          change RdK 1 UE.enc W1 ya yn yc (cntRow A n) at hrCd
          obtain ⟨gR, rfl⟩ := own_some (a := ya) hrC (fun e => by have h1 := hCl.out n; rw [e] at h1; simp at h1; omega)
          have sgR := sR'.out n _ gR hyC rfl
          change W1.cell? _ = some (.slice (some ⟨gR, 0, none⟩) yn yc) at cGc
          have cGc' := hs.cell sGc cGc
          have cBf' := hs.cell sBf cBf5
          obtain ⟨_, _, cv, e, hcv, _, hcc⟩ := (hs.rdk hrCd sgR).get hN0
          cases e
          have ccv := hcc 0 _ rfl
          simp only [Nat.mul_one, Nat.add_zero] at ccv
          have hgc : (cntRow A n).getD 0 0 = cv := by rw [List.getD_eq_getElem?_getD, hcv.out]; rfl
          have hsuc := wordsTo_succ A ord n
          rw [hgc] at hsuc
          have hn33 : (n : Int) < 33 := by omega
          clear hcc hrC hrCd hyC
          replace hgc := Lib.hid hgc
          replace hcv := Lib.hid hcv.out
          by_cases hc0 : cv = 0
          · rw [if_pos hc0, List.append_nil] at hsuc
            rw [hc0] at ccv
            change wr.cell? _ = some (.int .u64 0) at ccv
            replace hc0 := Lib.hid hc0
            replace hsuc := Lib.hid hsuc
            go_wp2_with fail
            (first | exact ⟨⟨n + 1, hlt, by go_num, by rw [hsuc.out]; exact hJ, hs, hw⟩, (by simp [intOf]; omega)⟩ | (go_roundw; case rel => exact ⟨n + 1, hlt, by go_num, by rw [hsuc.out]; exact hJ, hs, hw⟩; case measure => exact (by simp [intOf]; omega)))
          · rw [if_neg hc0] at hsuc
            have hcv0 : 0 < cv := by omega
            have hcp2 : decide (0 < cv) = true := decide_eq_true hcv0
            have hcall := callsIn_wide.1 (hfrom'.out n (by omega) 0 0 [] (wordsTo A ord n) wr hN0 (by simp; omega) hJ hs hw (by rw [← hsuc]; exact wordsTo_pre A ord (by omega)))
            rw [← hsuc] at hcall
            replace hsuc := Lib.hid hsuc
            replace hc0 := Lib.hid hc0
            clear hJ hs hw
            go_wp2_with fail
            refine hcall.mono ?_
            clear hcall
            rintro e W7 (⟨rfl, hJ7, hs7, hw7⟩ | ⟨p, rfl, hJx7⟩)
            · go_wp2_with fail
              (first | exact ⟨⟨n + 1, hlt, by go_num, hJ7, hs7, hw7⟩, (by simp [intOf]; omega)⟩ | (go_roundw; case rel => exact ⟨n + 1, hlt, by go_num, hJ7, hs7, hw7⟩; case measure => exact (by simp [intOf]; omega)))
            · go_wp2_with fail
              refine bodyPost_ret (results_none rfl _ _ _) rfl ?_
              exact ⟨⟨_, rfl⟩, .inr ⟨p, hJx7⟩⟩
        · obtain rfl : n = 33 := by omega
          go_wp2_with fail
          go_end0
          exact ⟨⟨_, rfl⟩, .inl hJ⟩
end Go.Proofs.Ytilkemdecenibaa
