/-
  corr.facing.
-/
import Derived.Test.YtkdancoffmhjhaaKt
import Derived.Test.YtkdancoffmhjhaaKm
import Derived.Test.YtkdancoffmhjhaaBr
namespace Go.Proofs.Ytkdancoffmhjhaa
open Go.RowKit Go.Shelf
/-! ### A region whose head is still and whose tail is forced, inside the widest fence -/
section
variable {P : Program} {ops : Array Oper} {md : Region.Mode} {nf : Nat} {Q : Exit → Act → World → Prop}
theorem wpOpIn_of_qOp {C : World → Prop} {w : World} {i : Nat} {a : Act} {K : Act → Prop} {K' : Act → World → Prop} (hC : C w) (h : ∀ a w', C w' → K a → K' a w') (hh : qOp P ops C i K a) : wpOpIn Fence.wide nf P ops Q i K' a w := by
  unfold wpOpIn
  unfold qOp at hh
  split
  · rename_i ho
    simp only [ho] at hh
    exact h _ _ hC hh
  · rename_i o ho
    simp only [ho] at hh
    split
    · rename_i hw
      simp only [hw, if_true] at hh
      obtain ⟨v, h1, h2⟩ := hh
      have h3 := h1 w hC
      refine ⟨fun _ _ => trivial, ?_⟩
      rw [show Fence.wide.round = none from rfl, Oper.semAt_none]
      unfold Oper.quietAt at h3
      generalize (execOp a.eval o).run P w = r at *
      cases r with
      | ok n w' =>
        cases n <;> simp only [Oper.quietUpon] at h3 <;> simp only [Oper.uponIn]
        case value u =>
          obtain ⟨e1, e2⟩ := h3
          rw [e1, e2]
          exact h _ _ hC h2
        case skip =>
          obtain ⟨e1, e2⟩ := h3
          rw [e1, ← e2]
          exact h _ _ hC h2
        case enter f args =>
          obtain ⟨e1, hc⟩ := h3
          rw [e1]
          refine ⟨(fun he => by cases he), CallsIn.mono (callsIn_wide.2 hc) fun e w'' ⟨he, hw''⟩ => ?_⟩
          subst he
          exact h _ _ hw'' h2
      | halt x w' => simp only [Oper.quietUpon] at h3
    · rename_i hw
      simp only [hw] at hh
      exact ⟨fun _ _ => trivial, h _ _ hC hh⟩
theorem anyIn_of_headAny {C : World → Prop} {n g : Nat} {L : Array Bool → Act → Prop} (hL : ∀ listed a w, C w → L listed a → wpAnyIn Fence.wide nf P md ops Q g listed a w) :
    ∀ (f : Nat) (listed : Array Bool) (a : Act) (w : World), C w → headAny P md ops C n L f listed a → wpAnyIn Fence.wide nf P md ops Q (f + g) listed a w
  | 0, listed, a, w, hw, h => by rw [Nat.zero_add]; exact hL _ _ _ hw h
  | f + 1, listed, a, w, hw, h => by
    rw [show f + 1 + g = (f + g) + 1 by omega]
    exact ⟨fun h0 => absurd h0 h.1, fun i hi => wpOpIn_of_qOp hw (fun a' w' hw' h' => anyIn_of_headAny hL f _ a' w' hw' h') (h.2 i hi).2⟩
theorem wpAnyIn_of_seq : ∀ (l : List Oper) (k : Nat) (listed : Array Bool) (a : Act) (w : World), (∀ j, l[j]? = ops[k + j]?) →
    Region.seqB md ops l.length k listed = true → wpListIn Fence.wide nf P ops Q l a w → wpAnyIn Fence.wide nf P md ops Q l.length listed a w
  | [], _, _, _, _, _, hB, h => ⟨by simpa [Region.seqB] using hB, h⟩
  | o :: l, k, listed, a, w, hl, hB, h => by
    have h0 : ops[k]? = some o := by simpa using (hl 0).symm
    simp only [List.length_cons, Region.seqB, Bool.and_eq_true, decide_eq_true_eq] at hB
    refine ⟨fun h1 => (by rw [hB.1] at h1; cases h1), fun i hi => ?_⟩
    rw [hB.1] at hi
    have hik : i = k := by simpa using hi
    subst hik
    have hw : wpOpIn Fence.wide nf P ops Q i (wpListIn Fence.wide nf P ops Q l) a w := by unfold wpOpIn; simp only [h0]; exact h
    exact wpOpIn_mono (fun a' w' h' => wpAnyIn_of_seq l (i + 1) _ a' w' (fun j => by have := hl (j + 1); simpa [Nat.add_assoc, Nat.add_comm 1 j] using this) hB.2 h') hw
theorem wpIn_region_qw {id : Nat} {a : Act} {w : World} {l : List Oper} (n : Nat) (hm : P.follows .mixedOrders = true) (hB : Region.lexTailB .any l.toArray n = true)
    (h : wpQuiet P l.toArray (fun w' => ∃ x : ExtOf w, w' = x.w) (fun a' => ∀ w', (∃ x : ExtOf w, w' = x.w) → wpListIn Fence.wide nf P l.toArray Q (l.drop n) a' w') (l.take n) a) : (Code.region id l.toArray true).wpIn Fence.wide nf P Q a w := by
  simp only [Region.lexTailB, Bool.and_eq_true, decide_eq_true_eq] at hB
  obtain ⟨⟨⟨⟨hsel, hn⟩, hs⟩, hc⟩, hlex⟩ := hB
  have hn' : n < l.length := by simpa using hn
  have htl : (l.take n).length = n := by simp; omega
  have hdl : (l.drop n).length = l.toArray.size - n := by simp
  have inv0 : HeadInv .any l.toArray n (Array.replicate l.toArray.size false) :=
    ⟨by simp, fun j oj _ hl => (by rw [getD_replicate_false] at hl; cases hl), fun t _ ht => getD_in (by simpa using ht) (getD_replicate_false _ _)⟩
  have H := headAny_lex (C := fun w' => ∃ x : ExtOf w, w' = x.w) (md := .any) (g := l.toArray.size - n) hsel hs hc hn (l.take n) 0 _ a (fun j hj => by
    have hj' : j < n := by rw [htl] at hj; exact hj
    simp [hj']) (by simpa using htl) inv0 (by rw [htl]; exact hlex) h
  refine wpIn_region_any hm ?_
  have := anyIn_of_headAny (nf := nf) (Q := Q) (g := l.toArray.size - n) (fun listed a' w' hw' hL => by
    have := wpAnyIn_of_seq (md := .any) (nf := nf) (Q := Q) (l.drop n) n listed a' w' (fun j => by simp [List.getElem?_drop]) (by rw [hdl]; exact hL.1) (hL.2 w' hw')
    rwa [hdl] at this) _ _ _ w.drew ⟨⟨w.drew, (Ext.refl w).drew⟩, rfl⟩ H
  rw [htl, show n + (l.toArray.size - n) = l.toArray.size by omega] at this
  exact this
end
theorem elem_cls : Try.prog.underlying 29 = some (.slice (Try.prog.elem 29)) := by kernel_rfl
theorem size_cls (w : World) : (sizeOf (Try.prog.elem 29)).run Try.prog w = .ok 3 w := by kernel_rfl
/-- What a correspondence shows of a language. -/
def faceH (t : Nat) (y : HCo) : HCo := ⟨subA 3 y.a y.cap t, 1, y.cap - t, y.cnt, [y.x.getD t nulC]⟩
def facL (f t : Nat) (x : Cl) (l : List HCo) : List HCo := (l.filter (selB f t x)).map (faceH t)
theorem facL_succ {f t : Nat} {x : Cl} {l : List HCo} {j : Nat} {y : HCo} (h : l[j]? = some y) : facL f t x (l.take (j + 1)) = facL f t x (l.take j) ++ if selB f t x y = true then [faceH t y] else [] := by
  unfold facL
  rw [take_succ_at h, List.filter_append, List.map_append]
  by_cases hp : selB f t x y = true
  · rw [if_pos hp, List.filter_cons, if_pos hp]; rfl
  · rw [if_neg hp, List.filter_cons, if_neg hp]; rfl
theorem facL_pre {f t : Nat} {x : Cl} {l : List HCo} {j : Nat} {y : HCo} (h : l[j]? = some y) (hp : selB f t x y = true) : (facL f t x (l.take j) ++ [faceH t y]) <+: facL f t x l := by
  have h1 := facL_succ (f := f) (t := t) (x := x) h
  rw [if_pos hp] at h1
  rw [← h1]
  refine ⟨facL f t x (l.drop (j + 1)), ?_⟩
  unfold facL
  rw [← List.map_append, ← List.filter_append, List.take_append_drop]
/-- What stands while the facing cells are handed out. -/
structure FacW (B : Nat) (a : Option Addr) (m cap : Nat) (hs : List HCo) (fn tn : Nat) (x : Cl) (w : World) : Prop where
  bl : w.cell? ⟨B, 0, none⟩ = some (.slice a m cap)
  bf : w.cell? ⟨B + 1, 0, none⟩ = some (.int .i64 fn)
  bt : w.cell? ⟨B + 2, 0, none⟩ = some (.int .i64 tn)
  x0 : w.cell? ⟨B + 3, 0, none⟩ = some (.int .i64 x.kind)
  x1 : w.cell? ⟨B + 3, 1, none⟩ = some (.int .u32 x.s.p.toNat)
  x2 : w.cell? ⟨B + 3, 2, none⟩ = some (.int .u32 x.s.m.toNat)
  rd : RdH w a m cap hs
theorem FacW.ext {B : Nat} {a : Option Addr} {m cap : Nat} {hs : List HCo} {fn tn : Nat} {x : Cl} {w w' : World} (h : FacW B a m cap hs fn tn x w) (hx : Ext w w') : FacW B a m cap hs fn tn x w' :=
  ⟨hx.cellv h.bl, hx.cellv h.bf, hx.cellv h.bt, hx.cellv h.x0, hx.cellv h.x1, hx.cellv h.x2, h.rd.ext hx⟩
theorem Ext.grow {w w' : World} (h : Ext w w') : w.grownBy w' none := ⟨h.bel.os, h.bel.tape, h.bel.output, h.bel.size, fun k hk _ => Below.block h.bel k hk⟩
set_option maxHeartbeats 1000000 in
set_option maxRecDepth 20000 in
theorem facing1_in (n l B : Nat) (hn : 1 ≤ n) (a : Option Addr) (m cap : Nat) (hs : List HCo) (fn tn : Nat) (x : Cl) (J Jx : List HCo → World → Prop) (hJ : ∀ s X Y, J s X → X.grownBy Y none → J s Y)
    (hwid : ∀ y ∈ hs, fn < y.n ∧ tn < y.n)
    (hrd : ∀ s X, J s X → FacW B a m cap hs fn tn x X)
    (hY : ∀ pre y X, J pre X → (pre ++ [y]) <+: facL fn tn x hs → YieldAt Fence.wide (n - 1) Try.prog l (encH y) X fun e Y => (e = .returned (.bool true) ∧ J (pre ++ [y]) Y) ∨ (e = .returned (.bool false) ∧ Jx (pre ++ [y]) Y))
    (W : World) (h0 : J [] W) :
    CallsIn Fence.wide n Try.prog 81 #[.func (.yield l) #[] #[], .pointer (some ⟨B, 0, none⟩), .pointer (some ⟨B + 1, 0, none⟩), .pointer (some ⟨B + 3, 0, none⟩), .pointer (some ⟨B + 2, 0, none⟩)] W fun e W' => (∃ v, e = .returned v) ∧ (J (facL fn tn x hs) W' ∨ ∃ pre, Jx pre W') := by
  have hro : Fence.wide.round = none := rfl
  obtain ⟨hbox, _, _, _, _, _, hr0⟩ := hrd _ _ h0
  have hl := hr0.rd.len
  have hmax : m ≤ 9223372036854775807 := by have := hr0.rd.le; have := hr0.rd.most; unfold maxLen at this; omega
  clear hr0
  replace hl := Lib.hid hl
  have hecl := eql_cl
  refine callsIn_of_wp Try.func81 rfl trivial ?_ hro
  simp only [Try.ntmps81, List.size_toArray, List.length_cons, List.length_nil, Nat.reduceAdd, Nat.reduceSub, Array.replicate_succ, Array.replicate_zero, List.push_toArray, List.append_toArray, List.nil_append, List.cons_append]
  gi_wp2
  gi_loopw [10] (fun i wr => ∃ k : Nat, k ≤ m ∧ i = .int .i64 k ∧ J (facL fn tn x (hs.take k)) wr) (fun i _ => m - (intOf i).toNat)
  case atStart => exact ⟨0, Nat.zero_le _, rfl, h0⟩
  clear hbox
  case round =>
    obtain ⟨k, hk, rfl, hJ1⟩ := hrel
    obtain ⟨s0, s1, s2, s3, s4, s5, s6⟩ := hrd _ _ hJ1
    have g1 := cell_lt s1
    have g2 := cell_lt s2
    have g3 := cell_lt s3
    simp only at g1 g2 g3
    by_cases hlt : k < m
    · obtain ⟨b, off, ⟨ya, yn, yc, ycnt, yx⟩, rfl, hy, hb, hc0, hc1, hcy⟩ := s6.at hlt
      obtain ⟨hf3, ht3⟩ := hwid _ (List.mem_of_getElem? hy.out)
      have hsu := facL_succ (f := fn) (t := tn) (x := x) hy.out
      have hpr := facL_pre (f := fn) (t := tn) (x := x) hy.out
      simp only at hc0 hc1 hcy hf3 ht3
      have hle := hcy.le
      have hmost := hcy.most
      unfold maxLen at hmost
      obtain ⟨bc, oc, cf, rfl, hcf, hbc, p0, p1, p2⟩ := hcy.cl hf3
      obtain ⟨_, _, ct, he2, hct, _, q0, q1, q2⟩ := hcy.cl ht3
      cases he2
      have hsl := fun w => run_sub_lh (P := Try.prog) elem_cls size_cls (some ⟨bc, oc, none⟩) yn yc tn (tn + 1) (by omega) (by omega) w
      rw [show tn + 1 - tn = 1 by omega, show ((tn + 1 : Nat) : Int) = (tn : Int) + 1 by omega] at hsl
      have hwr : IntKind.i64.wrap ((tn : Int) + 1) = (tn : Int) + 1 := IntWalk.i64_in _ (by omega)
      have hwr2 : -9223372036854775808 ≤ (tn : Int) + 1 ∧ (tn : Int) + 1 ≤ 9223372036854775807 := by omega
      have hgf : yx.getD fn nulC = cf := by rw [List.getD_eq_getElem?_getD, hcf.out]; rfl
      have hgt : yx.getD tn nulC = ct := by rw [List.getD_eq_getElem?_getD, hct.out]; rfl
      have hv : selB fn tn x ⟨some ⟨bc, oc, none⟩, yn, yc, ycnt, yx⟩ = (decide (cf = x) && decide (¬ ct.kind = 0)) := by unfold selB; simp only; rw [hgf, hgt]
      have hfi : (fn : Int) < (yn : Int) := by omega
      have hti : (tn : Int) < (yn : Int) := by omega
      obtain ⟨wz, hwz⟩ : ∃ wz, wz = wr.alloc (.cells #[.slice (some ⟨bc, oc, none⟩) yn yc, .int .i64 ycnt] 49) := ⟨_, rfl⟩
      have hxz : Ext wr wz := by rw [hwz]; exact Ext.alloc1 _ _
      have c0 : wz.cell? ⟨wr.heap.size, 0, none⟩ = some (.slice (some ⟨bc, oc, none⟩) yn yc) := by rw [hwz]; go_simp
      have c1 : wz.cell? ⟨wr.heap.size, 1, none⟩ = some (.int .i64 ycnt) := by rw [hwz]; go_simp
      have r0 := fun z : ExtOf wz => z.cell c0
      have r1 := fun z : ExtOf wz => z.cell c1
      have r2 := fun z : ExtOf wz => z.cell (hxz.cellv p0)
      have r3 := fun z : ExtOf wz => z.cell (hxz.cellv p1)
      have r4 := fun z : ExtOf wz => z.cell (hxz.cellv p2)
      have r5 := fun z : ExtOf wz => z.cell (hxz.cellv q0)
      have r6 := fun z : ExtOf wz => z.cell (hxz.cellv s1)
      have r7 := fun z : ExtOf wz => z.cell (hxz.cellv s2)
      have r8 := fun z : ExtOf wz => z.cell (hxz.cellv s3)
      have r9 := fun z : ExtOf wz => z.cell (hxz.cellv s4)
      have ra := fun z : ExtOf wz => z.cell (hxz.cellv s5)
      have rb := fun z : ExtOf wz => z.cell (hxz.cellv s0)
      subst hwz
      rw [hv] at hsu hpr
      clear hgf hgt hv
      replace hle := Lib.hid hle
      by_cases e1 : cf = x
      · have d1 : decide (cf = x) = true := by simpa using e1
        by_cases e2 : ct.kind = 0
        · have d2 : (ct.kind != 0) = false := by simpa using e2
          rw [if_neg (by simp [e2]), List.append_nil] at hsu
          replace hsu := Lib.hid hsu
          replace hpr := Lib.hid hpr
          replace e1 := Lib.hid e1
          replace e2 := Lib.hid e2
          gi_wp2
          refine wpIn_region_qw 27 (by kernel_rfl) (by kernel_rfl) ?_
          simp only [List.take_succ_cons, List.take_zero, List.drop_succ_cons, List.drop_zero]
          repeat (go_big_quiet_step (fail))
          refine wpQuiet_nil ?_
          intro wq hw'
          have hxq := ext_of_ex hw'
          clear hw' r0 r1 r2 r3 r4 r5 r6 r7 r8 r9 ra rb
          have hJq : J (facL fn tn x (hs.take k)) wq := hJ _ _ _ hJ1 (((Ext.refl _).alloc _).trans hxq).grow
          refine wpListIn_skip rfl rfl ?_
          refine wpListIn_skip rfl rfl ?_
          gi_wp2
          (first | exact ⟨⟨k + 1, by omega, by go_num, hsu.out.symm ▸ hJq⟩, (by simp [intOf]; omega)⟩ | (go_roundw; case rel => exact ⟨k + 1, by omega, by go_num, hsu.out.symm ▸ hJq⟩; case measure => exact (by simp [intOf]; omega)))
        · have d2 : (ct.kind != 0) = true := by simpa using e2
          rw [if_pos (by simp [e1, e2])] at hsu
          have hp1 := hpr (by simp [e1, e2])
          replace hsu := Lib.hid hsu
          replace hpr := Lib.hid hpr
          replace hp1 := Lib.hid hp1
          replace e1 := Lib.hid e1
          replace e2 := Lib.hid e2
          gi_wp2
          refine wpIn_region_qw 27 (by kernel_rfl) (by kernel_rfl) ?_
          simp only [List.take_succ_cons, List.take_zero, List.drop_succ_cons, List.drop_zero]
          repeat (go_big_quiet_step (fail))
          refine wpQuiet_nil ?_
          intro wq hw'
          have hxq := ext_of_ex hw'
          clear hw' r0 r1 r2 r3 r4 r5 r6 r7 r8 r9 ra rb
          have hJq : J (facL fn tn x (hs.take k)) wq := hJ _ _ _ hJ1 (((Ext.refl _).alloc _).trans hxq).grow
          obtain ⟨fy, tmps, assign, body, hyl, hR⟩ := hY _ (faceH tn ⟨some ⟨bc, oc, none⟩, yn, yc, ycnt, yx⟩) wq hJq hp1.out
          gi_wp2
          rw [show Sem.run Try.prog (Instr.yield l #[.agg #[.slice (subA 3 (some ⟨bc, oc, none⟩) yc tn) 1 (yc - tn), .int .i64 ycnt]]) wq = _ from hyl]
          gi_wp2
          refine hR.mono ?_
          rintro e W3 (⟨rfl, hJ4⟩ | ⟨rfl, hJx4⟩)
          · rw [← hsu.out] at hJ4
            gi_wp2
            (first | exact ⟨⟨k + 1, by omega, by go_num, hJ4⟩, (by simp [intOf]; omega)⟩ | (go_roundw; case rel => exact ⟨k + 1, by omega, by go_num, hJ4⟩; case measure => exact (by simp [intOf]; omega)))
          · gi_wp2
            refine bodyPost_ret (results_none rfl _ _ _) rfl ?_
            exact ⟨⟨_, rfl⟩, .inr ⟨_, hJx4⟩⟩
      · have d1 : decide (cf = x) = false := by simpa using e1
        rw [if_neg (by simp [e1]), List.append_nil] at hsu
        replace hsu := Lib.hid hsu
        replace hpr := Lib.hid hpr
        replace e1 := Lib.hid e1
        gi_wp2
        refine wpIn_region_qw 27 (by kernel_rfl) (by kernel_rfl) ?_
        simp only [List.take_succ_cons, List.take_zero, List.drop_succ_cons, List.drop_zero]
        repeat (go_big_quiet_step (fail))
        refine wpQuiet_nil ?_
        intro wq hw'
        have hxq := ext_of_ex hw'
        clear hw' r0 r1 r2 r3 r4 r5 r6 r7 r8 r9 ra rb
        have hJq : J (facL fn tn x (hs.take k)) wq := hJ _ _ _ hJ1 (((Ext.refl _).alloc _).trans hxq).grow
        refine wpListIn_skip rfl rfl ?_
        refine wpListIn_skip rfl rfl ?_
        gi_wp2
        (first | exact ⟨⟨k + 1, by omega, by go_num, hsu.out.symm ▸ hJq⟩, (by simp [intOf]; omega)⟩ | (go_roundw; case rel => exact ⟨k + 1, by omega, by go_num, hsu.out.symm ▸ hJq⟩; case measure => exact (by simp [intOf]; omega)))
    · have hkm : k = m := by omega
      have hfin : facL fn tn x (hs.take k) = facL fn tn x hs := by rw [List.take_of_length_le (by rw [hl.out]; omega)]
      rw [hfin] at hJ1
      gi_wp2
      go_end0
      exact ⟨⟨_, rfl⟩, .inl hJ1⟩
end Go.Proofs.Ytkdancoffmhjhaa
namespace Go.Proofs.Ytkdancoffmhjhaa
open Go.RowKit Go.Shelf
attribute [local go_sem] Oper.semAt_some
theorem facing_in (n : Nat) (a : Option Addr) (m cap : Nat) (hs : List HCo) (fn tn : Nat) (x : Cl) (w : World) (hr : RdH w a m cap hs) :
    CallsIn Fence.wide n Try.prog 52 #[.slice a m cap, .int .i64 fn, .int .i64 tn, clV x] w fun e w' => e = .returned (.func (.func 81) #[] #[.pointer (some ⟨w.heap.size, 0, none⟩), .pointer (some ⟨w.heap.size + 1, 0, none⟩), .pointer (some ⟨w.heap.size + 3, 0, none⟩), .pointer (some ⟨w.heap.size + 2, 0, none⟩)]) ∧ FacW w.heap.size a m cap hs fn tn x w' ∧ Ext w w' ∧ w'.heap.size = w.heap.size + 4 := by
  refine callsIn_of_wp Try.func52 rfl trivial ?_ rfl
  simp only [Try.ntmps52, List.size_toArray, List.length_cons, List.length_nil, Nat.reduceAdd, Nat.reduceSub, Array.replicate_succ, Array.replicate_zero, List.push_toArray, List.append_toArray, List.nil_append, List.cons_append]
  gi_wp2
  have hx : Ext w ((((w.alloc (.cells #[.slice a m cap] 24)).alloc (.cells #[.int .i64 fn] 3)).alloc (.cells #[.int .i64 tn] 3)).alloc (.cells #[.int .i64 x.kind, .int .u32 x.s.p.toNat, .int .u32 x.s.m.toNat] 39)) := (by repeat (first | exact Ext.refl _ | refine Ext.drew ?_ | refine Ext.drewN ?_ _ | refine Ext.alloc ?_ _))
  go_ret
  refine ⟨rfl, ⟨?_, ?_, ?_, ?_, ?_, ?_, hr.ext hx⟩, hx, by simp⟩
  all_goals go_simp
theorem iter_facing {w : World} {B : Nat} {a : Option Addr} {m cap : Nat} {hs : List HCo} {fn tn : Nat} {x : Cl} (h : FacW B a m cap hs fn tn x w) (hwid : ∀ y ∈ hs, fn < y.n ∧ tn < y.n) :
    IterH 81 #[.pointer (some ⟨B, 0, none⟩), .pointer (some ⟨B + 1, 0, none⟩), .pointer (some ⟨B + 3, 0, none⟩), .pointer (some ⟨B + 2, 0, none⟩)] (facL fn tn x hs) w := by
  intro l J Jx W hJ hX hY h0
  have := facing1_in 8 l B (by omega) a m cap hs fn tn x J Jx hJ hwid (fun s X hs => h.ext (hX s X hs)) hY W h0
  simpa using this
end Go.Proofs.Ytkdancoffmhjhaa
