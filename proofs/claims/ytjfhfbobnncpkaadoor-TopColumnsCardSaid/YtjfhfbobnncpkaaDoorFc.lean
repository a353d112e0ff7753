/-
  Layer 1: the lowest feature of a set (math/bits.TrailingZeros32 by its table); the features of a set one by one; Diff, Get.
-/
import Derived.Test.YtjfhfbobnncpkaaDoorFa
import Derived.Test.YtjfhfbobnncpkaaDoorRg
import Derived.Lib.TrailingZeros
namespace Go.Proofs.YtjfhfbobnncpkaaDoor
open Go.RowKit Go.Shelf
/-- The table of math/bits as its initialiser lays it. -/
def TabOk (w : World) : Prop := ∀ j, j < 32 → w.cell? ⟨1, j, none⟩ = some (.int .u8 (Lib.deBruijn32tab.getD j 0 : Nat))
theorem TabOk.ext {w w' : World} (h : TabOk w) (hx : Ext w w') : TabOk w' := fun j hj => by rw [hx.cell j (cell_lt (h j hj))]; exact h j hj
theorem tz_key (x : BitVec 32) {a : Nat} (hx0 : x.toNat ≠ 0) (hlow : x.toNat &&& (4294967296 - x.toNat) = a) :
    bits .and .u32 (x.toNat : Int) (-(x.toNat : Int) % 4294967296) * 125613361 % 4294967296 / 134217728 = ((a * 125613361 % 4294967296 / 134217728 : Nat) : Int) := by
  have hx := x.isLt
  have e1 : -(x.toNat : Int) % 4294967296 = ((-x).toNat : Int) := by rw [BitVec.toNat_neg]; omega
  have e2 : (x &&& -x).toNat = a := by
    rw [BitVec.toNat_and, BitVec.toNat_neg, ← hlow]; congr 1; omega
  rw [e1, bits_and_u32, e2]
  omega
set_option maxHeartbeats 1000000 in
theorem tz_core (x k idx : Nat) (w : World) (hx0 : ((x : Int) == 0) = false) (key : bits BinOp.and IntKind.u32 (x : Int) (-(x : Int) % 4294967296) * 125613361 % 4294967296 / 134217728 = (idx : Int))
    (hi : idx < 32) (_hk : k < 32) (hcell : w.cell? ⟨1, idx, none⟩ = some (.int .u8 k)) : Calls Tryd.prog 54 #[.int .u32 x] w fun e w' => e = .returned (.int .i64 k) ∧ w' = w := by
  go_enter Tryd.func54, Tryd.ntmps54
  go_wp2_with (simp only [key])
  go_ret
  exact ⟨rfl, rfl⟩
theorem tz_any (x : BitVec 32) (hx0 : x.toNat ≠ 0) (w : World) (hT : TabOk w) :
    Calls Tryd.prog 54 #[.int .u32 x.toNat] w fun e w' => e = .returned (.int .i64 (Lib.ctz 32 x.toNat : Nat)) ∧ w' = w := by
  obtain ⟨hlow, hk⟩ := Lib.lowest_bit 32 x.toNat hx0 x.isLt
  obtain ⟨hi, htab⟩ := Lib.deBruijn32_at _ hk
  have hcell := hT _ hi
  rw [htab] at hcell
  have hlow' : x.toNat &&& (4294967296 - x.toNat) = 2 ^ Lib.ctz 32 x.toNat := by simpa using hlow
  exact tz_core x.toNat _ _ w (by simp; omega) (tz_key x hx0 hlow') hi hk hcell
/-! ### The features of a set -/
def bitsL (x : BitVec 32) : List Nat := (List.range 32).filter fun k => x.getLsbD k
def lowOff (x : BitVec 32) : BitVec 32 := x &&& (x - 1#32)
theorem bitsL_zero : bitsL 0#32 = [] := by decide
theorem low_bits (x : BitVec 32) (h0 : x.toNat ≠ 0) : let c := Lib.ctz 32 x.toNat
    c < 32 ∧ (∀ j, j < c → x.toNat.testBit j = false) ∧ x.toNat.testBit c = true ∧ (∀ j, (lowOff x).toNat.testBit j = (x.toNat.testBit j && decide (j ≠ c))) ∧ (lowOff x).toNat < x.toNat := by
  obtain ⟨m, hm, hk⟩ := Lib.ctzFrom_spec 32 x.toNat (by omega) x.isLt
  have e : Lib.ctz 32 x.toNat = Lib.ctzFrom 32 x.toNat := by simp [Lib.ctz, h0]
  rw [← e] at hm hk
  intro c
  have hc : c = Lib.ctz 32 x.toNat := rfl
  rw [← hc] at hm hk
  have hp : 2 ^ c < 2 ^ (c + 1) := Nat.pow_lt_pow_right (by omega) (by omega)
  have hpos : 0 < 2 ^ c := Nat.pos_of_ne_zero (by simp)
  have e1 : x.toNat = 2 ^ (c + 1) * m + 2 ^ c := by rw [hm, Nat.pow_succ, Nat.mul_add, Nat.mul_one, Nat.mul_assoc]
  have e2 : (x - 1#32).toNat = 2 ^ (c + 1) * m + (2 ^ c - 1) := by
    have h1 : (x - 1#32).toNat = x.toNat - 1 := by
      have := x.isLt
      rw [BitVec.toNat_sub]; simp; omega
    rw [h1, e1]; omega
  have b1 : ∀ j, x.toNat.testBit j = if j < c + 1 then decide (c = j) else m.testBit (j - (c + 1)) := fun j => by
    rw [e1, Nat.testBit_two_pow_mul_add _ hp, Nat.testBit_two_pow]
  have b2 : ∀ j, (x - 1#32).toNat.testBit j = if j < c + 1 then decide (j < c) else m.testBit (j - (c + 1)) := fun j => by
    rw [e2, Nat.testBit_two_pow_mul_add _ (by omega), Nat.testBit_two_pow_sub_one]
  refine ⟨hk, fun j hj => ?_, ?_, fun j => ?_, ?_⟩
  · rw [b1, if_pos (by omega)]; simp; omega
  · rw [b1, if_pos (by omega)]; simp
  · unfold lowOff
    rw [BitVec.toNat_and, Nat.testBit_and, b1, b2]
    by_cases hj : j < c + 1
    · rw [if_pos hj, if_pos hj]
      by_cases hjc : c = j
      · subst hjc; simp
      · simp [hjc]
    · rw [if_neg hj, if_neg hj]
      have : j ≠ c := by omega
      simp [this]
  · unfold lowOff
    rw [BitVec.toNat_and]
    have := Nat.and_le_right (n := x.toNat) (m := (x - 1#32).toNat)
    omega
theorem bitsL_step (x : BitVec 32) (h0 : x.toNat ≠ 0) : bitsL x = Lib.ctz 32 x.toNat :: bitsL (lowOff x) := by
  obtain ⟨hk, h1, h2, h3, _⟩ := low_bits x h0
  generalize Lib.ctz 32 x.toNat = c at *
  have split : List.range 32 = List.range c ++ c :: List.range' (c + 1) (31 - c) := by
    rw [List.range_eq_range', List.range_eq_range']
    have := List.range'_append_1 (s := 0) (m := c) (n := 32 - c)
    rw [show c + (32 - c) = 32 by omega] at this
    rw [← this, Nat.zero_add, show 32 - c = (31 - c) + 1 by omega, List.range'_succ]
  unfold bitsL
  rw [split, List.filter_append, List.filter_append, List.filter_cons, List.filter_cons]
  have a1 : (List.range c).filter (fun k => x.getLsbD k) = [] := by
    rw [List.filter_eq_nil_iff]; intro j hj; simp only [BitVec.getLsbD]; rw [h1 j (List.mem_range.1 hj)]; simp
  have a2 : (List.range c).filter (fun k => (lowOff x).getLsbD k) = [] := by
    rw [List.filter_eq_nil_iff]; intro j hj; simp only [BitVec.getLsbD]; rw [h3, h1 j (List.mem_range.1 hj)]; simp
  have a3 : x.getLsbD c = true := h2
  have a4 : (lowOff x).getLsbD c = false := by simp only [BitVec.getLsbD]; rw [h3]; simp
  rw [a1, a2, a3, a4]
  simp only [List.nil_append, if_true]
  congr 1
  refine List.filter_congr fun j hj => ?_
  have := List.mem_range'_1.1 hj
  simp only [BitVec.getLsbD]
  rw [h3]
  have : j ≠ c := by omega
  simp [this]
/-! ### Diff, Get -/
def diffS (a b : Snd) : BitVec 32 := (a.p ^^^ b.p) ||| (a.m ^^^ b.m)
theorem diff_any (a b : Snd) (w : World) (ha : a.ok = true) (hb : b.ok = true) :
    Calls Tryd.prog 45 #[.agg #[.int .u32 a.p.toNat, .int .u32 a.m.toNat], .agg #[.int .u32 b.p.toNat, .int .u32 b.m.toNat]] w fun e w' => e = .returned (.int .u32 (diffS a b).toNat) ∧ Ext w w' := by
  go_enter Tryd.func45, Tryd.ntmps45
  go_wp2_with fail
  refine (cbool (fvalid_any a _) ha).mono ?_
  rintro e w1 ⟨rfl, hx1⟩
  have hcl1 := fun b o (h : b < _) => Ext.cell hx1 (b := b) o h
  go_wp2_with fail
  refine (cbool (fvalid_any b _) hb).mono ?_
  rintro e w1 ⟨rfl, hx2⟩
  replace hx1 := Ext.trans hx1 (Ext.trans (by repeat (first | exact Ext.refl _ | refine Ext.drew ?_ | refine Ext.drewN ?_ _ | refine Ext.alloc ?_ _)) hx2)
  replace hcl1 := fun b o (h : b < _) => Ext.cell hx1 (b := b) o h
  clear hx2
  go_wp2_with fail
  go_ret
  exact ⟨ret_int (by have := bits_or_u32 (a.p ^^^ b.p) (a.m ^^^ b.m); simpa [diffS] using this), (by repeat (first | exact Ext.refl _ | assumption | refine Ext.drew ?_ | refine Ext.drewN ?_ _ | refine Ext.alloc ?_ _ | refine Ext.trans ?_ (by assumption)))⟩
/-- The value of a feature. -/
def getS (s : Snd) (f : Nat) : Int := if s.p.getLsbD f then 1 else if s.m.getLsbD f then -1 else 0
/-! ### The iterator over the features of a set -/
attribute [local go_sem] Oper.semAt_some
abbrev encF (f : Nat) : Array Value := #[.int .i64 f]
set_option maxHeartbeats 1000000 in
theorem feats1_in (n l Bx : Nat) (hn : 1 ≤ n) (x : BitVec 32) (J : List Nat → World → Prop) (hJ : ∀ s X Y row, J s X → X.grownBy Y row → (∀ r, row = some r → r = Bx) → J s Y) (hT : ∀ s X, J s X → TabOk X)
    (hY : ∀ pre f X, J pre X → pre.length < (bitsL x).length → YieldAt Fence.wide (n - 1) Tryd.prog l (encF f) X fun e Y => e = .returned (.bool true) ∧ J (pre ++ [f]) Y ∧ Same (fun r => r = Bx) X Y)
    (W : World) (hbox : Boxed W Bx 46 (.int .u32 x.toNat)) (h0 : J [] W) :
    CallsIn Fence.wide n Tryd.prog 53 #[.func (.yield l) #[] #[], .pointer (some ⟨Bx, 0, none⟩)] W fun e W' => (∃ v, e = .returned v) ∧ J (bitsL x) W' := by
  have hro : Fence.wide.round = none := rfl
  refine callsIn_of_wp Tryd.func53 rfl trivial ?_ hro
  simp only [Tryd.ntmps53, List.size_toArray, List.length_cons, List.length_nil, Nat.reduceAdd, Nat.reduceSub, Array.replicate_succ, Array.replicate_zero, List.push_toArray, List.append_toArray, List.nil_append, List.cons_append]
  gi_wp2
  gi_loopw [3] (fun _ wr => ∃ (pre : List Nat) (y : BitVec 32), J pre wr ∧ Boxed wr Bx 46 (.int .u32 y.toNat) ∧ Hid (bitsL x = pre ++ bitsL y)) (fun _ wr => match wr.cell? ⟨Bx, 0, none⟩ with | some (.int _ k) => k.toNat | _ => 0)
  case atStart => exact ⟨[], x, h0, hbox, rfl⟩
  case round =>
    obtain ⟨pre, y, hJ1, hb1, hbits⟩ := hrel
    have hc := hb1.cell
    by_cases hy0 : y.toNat = 0
    · have hz : ((y.toNat : Int) != 0) = false := by simp [hy0]
      have hy : y = 0#32 := BitVec.eq_of_toNat_eq hy0
      replace hy0 := Lib.hid hy0
      replace hy := Lib.hid hy
      gi_wp2
      refine ⟨trivial, ?_⟩
      gi_wp2
      refine ⟨fun _ h => (by cases h), ?_⟩
      gi_wp2
      go_end0
      refine ⟨⟨_, rfl⟩, ?_⟩
      rw [hbits.out, hy.out, bitsL_zero, List.append_nil]; exact hJ1
    · have hz : ((y.toNat : Int) != 0) = true := by simp; omega
      have hT1 := hT _ _ hJ1
      have hst := bitsL_step y hy0
      have hlow := (low_bits y hy0).2.2.2.2
      have hlen : pre.length < (bitsL x).length := by rw [hbits.out, hst]; simp
      obtain ⟨fn, tmps, assign, body, hyl, hR⟩ := hY pre (Lib.ctz 32 y.toNat) wr hJ1 hlen
      replace hst := Lib.hid hst
      replace hlow := Lib.hid hlow
      gi_wp2
      refine ⟨trivial, ?_⟩
      gi_at_call 54
      refine (callsIn_wide.2 (tz_any y hy0 _ hT1)).mono ?_
      rintro e w' ⟨rfl, rfl⟩
      gi_wp2
      refine hR.mono ?_
      rintro e W3 ⟨rfl, hJ3, hs3⟩
      have hb3 : Boxed W3 Bx 46 (.int .u32 y.toNat) := (hs3 Bx rfl).trans hb1
      have hc3 := hb3.cell
      have hf3 := hb3.frozen
      have hlw : bits .and .u32 (y.toNat : Int) ((y.toNat : Int) - 1) = ((lowOff y).toNat : Int) := by
        have e1 : ((y.toNat : Int) - 1) = ((y - 1#32).toNat : Int) := by rw [BitVec.toNat_sub]; simp; omega
        rw [e1, bits_and_u32]; rfl
      have hbs : Boxed (W3.setCell ⟨Bx, 0, none⟩ (.int .u32 ((lowOff y).toNat : Int))) Bx 46 (.int .u32 (lowOff y).toNat) := hb3.set _
      have hJs : J (pre ++ [Lib.ctz 32 y.toNat]) (W3.setCell ⟨Bx, 0, none⟩ (.int .u32 ((lowOff y).toNat : Int))) := hJ _ _ _ (some Bx) hJ3 (grownBy_setCell' W3 Bx _) (fun r e => by cases e; rfl)
      gi_wp2
      have hrel0 : bitsL x = (pre ++ [Lib.ctz 32 y.toNat]) ++ bitsL (lowOff y) := by have := hbits.out; rw [hst.out] at this; rw [this]; simp
      have hrel := Lib.hid hrel0
      refine ⟨⟨_, _, hJs, hbs, hrel⟩, ?_⟩
      rw [hbs.cell, hc]
      have := hlow.out
      simp; omega
/-! ### Dist -/
/-- The weights of the features in which two sounds differ, up to feature k. -/
def distTo (d : BitVec 32) (ws : List Int) (k : Nat) : Int := ((List.range k).map fun f => if d.getLsbD f then ws.getD f 0 else 0).sum
def distS (a b : Snd) (ws : List Int) : Int := distTo (diffS a b) ws ws.length
/-- .. by a list of features. -/
def distF (ws : List Int) (fs : List Nat) : Int := (fs.map fun f => ws.getD f 0).sum
theorem distF_snoc (ws : List Int) (fs : List Nat) (f : Nat) : distF ws (fs ++ [f]) = distF ws fs + ws.getD f 0 := by simp [distF]
theorem sum_filter (g : Nat → Int) (p : Nat → Bool) : ∀ l : List Nat, ((l.filter p).map g).sum = (l.map fun f => if p f then g f else 0).sum
  | [] => rfl
  | a :: l => by
    rw [List.filter_cons]
    cases h : p a <;> simp [h, sum_filter g p l]
theorem distF_bits (d : BitVec 32) (ws : List Int) (h : ws.length ≤ 24) : distF ws (bitsL d) = distTo d ws ws.length := by
  unfold distF bitsL distTo
  rw [sum_filter]
  obtain ⟨c, hc⟩ : ∃ c, 32 = ws.length + c := ⟨32 - ws.length, by omega⟩
  have hr : List.range 32 = List.range ws.length ++ List.range' ws.length c := by
    rw [List.range_eq_range', List.range_eq_range', hc]
    have := List.range'_append_1 (s := 0) (m := ws.length) (n := c)
    rw [Nat.zero_add] at this
    exact this.symm
  rw [hr, List.map_append, List.sum_append]
  have hz : ∀ l : List Nat, (∀ x ∈ l, ws.length ≤ x) → (l.map fun f => if d.getLsbD f then ws.getD f 0 else 0).sum = 0 := by
    intro l
    induction l with
    | nil => intro _; rfl
    | cons x l ih =>
      intro hx
      have h1 := hx x (by simp)
      have h2 : ws.getD x 0 = 0 := by rw [List.getD_eq_getElem?_getD, List.getElem?_eq_none h1]; rfl
      rw [List.map_cons, List.sum_cons, ih fun y hy => hx y (by simp [hy]), h2]; simp
  rw [hz _ fun x hx => (List.mem_range'_1.1 hx).1]
  omega
theorem distTo_succ (d : BitVec 32) (ws : List Int) (k : Nat) : distTo d ws (k + 1) = distTo d ws k + if d.getLsbD k then ws.getD k 0 else 0 := by
  unfold distTo
  rw [List.range_succ]; simp
theorem wOk_at {ws : List Int} (h : ws.all wOk = true) (f : Nat) : 0 ≤ ws.getD f 0 ∧ ws.getD f 0 ≤ 1073741824 := by
  rw [List.getD_eq_getElem?_getD]
  cases hf : ws[f]? with
  | none => simp
  | some x =>
    have := List.all_eq_true.1 h x (List.mem_of_getElem? hf)
    simpa [wOk] using this
theorem distF_bd {ws : List Int} (h : ws.all wOk = true) : ∀ fs : List Nat, 0 ≤ distF ws fs ∧ distF ws fs ≤ 1073741824 * fs.length
  | [] => by simp [distF]
  | f :: fs => by
    have h1 := distF_bd h fs
    have h2 := wOk_at h f
    unfold distF at *
    simp only [List.map_cons, List.sum_cons, List.length_cons]
    omega
theorem distTo_bd {ws : List Int} (h : ws.all wOk = true) (d : BitVec 32) : ∀ k : Nat, 0 ≤ distTo d ws k ∧ distTo d ws k ≤ 1073741824 * k
  | 0 => by simp [distTo]
  | k + 1 => by
    have h1 := distTo_bd h d k
    have h2 := wOk_at h k
    rw [distTo_succ]
    split <;> omega
end Go.Proofs.YtjfhfbobnncpkaaDoor
