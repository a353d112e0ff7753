/-
  Pairs that differ in one feature: math/bits.OnesCount32, alone.
-/
import Derived.Test.YtbnbfdbliokcaaaDoorJn
import Derived.Lib.BitFns
namespace Go.Proofs.YtbnbfdbliokcaaaDoor
open Go.RowKit
theorem pop8_bits : ∀ n : Fin 256, Lib.pop8 (n.val : Int) = ((List.range 8).countP fun i => n.val.testBit i : Nat) := by decide +kernel
theorem byte_cnt (x : BitVec 32) (j : Nat) (n : Nat) (hn : n = x.toNat / 2 ^ (8 * j) % 256) : Lib.pop8 (n : Int) = ((List.range 8).countP fun i => x.getLsbD (8 * j + i) : Nat) := by
  have hlt : n < 256 := by rw [hn]; exact Nat.mod_lt _ (by decide)
  have := pop8_bits ⟨n, hlt⟩
  simp only at this
  rw [this]
  congr 1
  refine List.countP_congr fun i hi => ?_
  have hi8 : i < 8 := List.mem_range.1 hi
  have e : n.testBit i = x.toNat.testBit (8 * j + i) := by
    rw [hn, show (256 : Nat) = 2 ^ 8 by decide, Nat.testBit_mod_two_pow, ← Nat.shiftRight_eq_div_pow, Nat.testBit_shiftRight]
    simp [hi8]
  rw [e]; rfl
theorem cntB_bytes (x : BitVec 32) (a b c d : Nat) (ha : a = x.toNat / 16777216) (hb : b = x.toNat / 65536 % 256) (hc : c = x.toNat / 256 % 256) (hd : d = x.toNat % 256) :
    Lib.pop8 a + Lib.pop8 b + Lib.pop8 c + Lib.pop8 d = (cntB x : Int) := by
  have hx := x.isLt
  rw [byte_cnt x 3 a (by rw [ha]; omega), byte_cnt x 2 b (by rw [hb]), byte_cnt x 1 c (by rw [hc]), byte_cnt x 0 d (by rw [hd]; omega)]
  unfold cntB
  rw [← List.countP_eq_length_filter]
  have e : List.range 32 = (List.range 8).map (8 * 0 + ·) ++ (List.range 8).map (8 * 1 + ·) ++ (List.range 8).map (8 * 2 + ·) ++ (List.range 8).map (8 * 3 + ·) := by decide
  rw [e]
  simp only [List.countP_append, List.countP_map]
  simp only [Function.comp_def]
  push_cast
  omega
theorem pop8_range (n : Nat) (h : n < 256) : 0 ≤ Lib.pop8 (n : Int) ∧ Lib.pop8 (n : Int) ≤ 8 := by
  have h1 := Lib.pop8_eq ⟨n, h⟩
  have h2 := Lib.onesCount_le8 ⟨n, h⟩
  simp only at h1 h2
  omega
theorem and255 (y : BitVec 32) (k : Nat) : bits .and .u32 ((y.toNat : Int) / 2 ^ k) 255 = ((y.toNat / 2 ^ k % 256 : Nat) : Int) := by
  have e1 : (y.toNat : Int) / 2 ^ k = ((y >>> k).toNat : Int) := by rw [BitVec.toNat_ushiftRight, Nat.shiftRight_eq_div_pow]; norm_cast
  have e2 : (255 : Int) = ((255#32).toNat : Int) := rfl
  rw [e1, e2, bits_and_u32]
  congr 1
  rw [BitVec.toNat_and, BitVec.toNat_ushiftRight, Nat.shiftRight_eq_div_pow]
  exact Nat.and_two_pow_sub_one_eq_mod _ 8
set_option maxHeartbeats 1000000 in
theorem ones_any (x : BitVec 32) (w : World) :
    Calls Tryd.prog 59 #[.int .u32 x.toNat] w fun e w' => e = .returned (.int .i64 (cntB x : Nat)) ∧ Ext w w' := by
  have hlt := x.isLt
  obtain ⟨nA, hA⟩ : ∃ nA : Nat, nA = x.toNat / 16777216 := ⟨_, rfl⟩
  obtain ⟨nB, hB⟩ : ∃ nB : Nat, nB = x.toNat / 65536 % 256 := ⟨_, rfl⟩
  obtain ⟨nC, hC⟩ : ∃ nC : Nat, nC = x.toNat / 256 % 256 := ⟨_, rfl⟩
  obtain ⟨nD, hD⟩ : ∃ nD : Nat, nD = x.toNat % 256 := ⟨_, rfl⟩
  have hsum := cntB_bytes x nA nB nC nD hA hB hC hD
  have bA := pop8_range nA (by omega)
  have bB := pop8_range nB (by omega)
  have bC := pop8_range nC (by omega)
  have bD := pop8_range nD (by omega)
  have eA : (x.toNat : Int) / 16777216 = (nA : Int) := by omega
  have eB : bits .and .u32 ((x.toNat : Int) / 65536) 255 = (nB : Int) := by rw [hB]; exact and255 x 16
  have eC : bits .and .u32 ((x.toNat : Int) / 256) 255 = (nC : Int) := by rw [hC]; exact and255 x 8
  have eD : bits .and .u32 (x.toNat : Int) 255 = (nD : Int) := by
    have := and255 x 0
    rw [Nat.pow_zero, Nat.div_one, Int.pow_zero, Int.ediv_one] at this
    rw [hD]; exact this
  have lA : (nA : Int) ≤ 255 := by omega
  have lB : (nB : Int) ≤ 255 := by omega
  have lC : (nC : Int) ≤ 255 := by omega
  have lD : (nD : Int) ≤ 255 := by omega
  replace hA := Lib.hid hA
  replace hB := Lib.hid hB
  replace hC := Lib.hid hC
  replace hD := Lib.hid hD
  replace hsum := Lib.hid hsum
  have s1 : IntKind.u8.wrap (Lib.pop8 nA + Lib.pop8 nB) = Lib.pop8 nA + Lib.pop8 nB := by rw [IntKind.wrap_u8']; omega
  have s2 : IntKind.u8.wrap (Lib.pop8 nA + Lib.pop8 nB + Lib.pop8 nC) = Lib.pop8 nA + Lib.pop8 nB + Lib.pop8 nC := by rw [IntKind.wrap_u8']; omega
  have s3 : IntKind.u8.wrap (Lib.pop8 nA + Lib.pop8 nB + Lib.pop8 nC + Lib.pop8 nD) = Lib.pop8 nA + Lib.pop8 nB + Lib.pop8 nC + Lib.pop8 nD := by rw [IntKind.wrap_u8']; omega
  go_enter Tryd.func59, Tryd.ntmps59
  go_wp2_with fail
  refine wp_region_qx (by kernel_rfl) (by kernel_rfl) ?_
  repeat (go_big_quiet_step (fail))
  refine wpQuiet_nil ?_
  intro wq hw'
  have hxq := ext_of_ex hw'
  clear hw'
  go_wp2_with fail
  go_ret
  exact ⟨ret_int (by rw [← hsum.out]), hxq⟩
/-! ### One bit -/
theorem cntB_eq_zero {D : BitVec 32} (h : cntB D = 0) : D = 0#32 := by
  refine BitVec.eq_of_getLsbD_eq fun i hi => ?_
  rw [BitVec.getLsbD_zero]
  cases hb : D.getLsbD i
  · rfl
  · have := cntB_split D i hi hb
    omega
theorem cntB_bt (f : Nat) (hf : f < 32) : cntB (bt f) = 1 := by
  have h := cntB_split (bt f) f hf (bt_self f hf)
  have h0 : bt f &&& ~~~bt f = 0#32 := by simp
  rw [h0, cntB_zero] at h; exact h
theorem cntB_one {D : BitVec 32} : cntB D = 1 ↔ ∃ f, f < 32 ∧ D = bt f := by
  constructor
  · intro h
    have hne : D ≠ 0#32 := fun e => by rw [e, cntB_zero] at h; cases h
    have : D &&& D ≠ 0#32 := by simpa using hne
    obtain ⟨f, hf, h1, _⟩ := and_ne_zero.1 this
    have h2 := cntB_split D f hf h1
    have h3 := cntB_eq_zero (D := D &&& ~~~bt f) (by omega)
    refine ⟨f, hf, BitVec.eq_of_getLsbD_eq fun i hi => ?_⟩
    rw [bt_bit f i hi hf]
    have h4 := congrArg (fun z : BitVec 32 => z.getLsbD i) h3
    simp only [BitVec.getLsbD_and, BitVec.getLsbD_not, BitVec.getLsbD_zero, bt_bit f i hi hf, hi, decide_true, Bool.true_and] at h4
    by_cases e : i = f
    · subst e; simp [h1]
    · simpa [e] using h4
  · rintro ⟨f, hf, rfl⟩; exact cntB_bt f hf
theorem diffS_bit {a b : Snd} (ha : a.ok = true) (hb : b.ok = true) {i : Nat} (h : (diffS a b).getLsbD i = true) : i < 24 := by
  have h32 : i < 32 := by
    rcases Nat.lt_or_ge i 32 with h1 | h1
    · exact h1
    · rw [BitVec.getLsbD_of_ge _ _ h1] at h; cases h
  have o1 := (ok_bits ha h32).2
  have o2 := (ok_bits hb h32).2
  simp only [diffS, BitVec.getLsbD_or, BitVec.getLsbD_xor] at h
  cases h1 : a.p.getLsbD i
  · cases h2 : a.m.getLsbD i
    · cases h3 : b.p.getLsbD i
      · cases h4 : b.m.getLsbD i
        · rw [h1, h2, h3, h4] at h; simp at h
        · exact o2 (.inr h4)
      · exact o2 (.inl h3)
    · exact o1 (.inr h2)
  · exact o1 (.inl h1)
theorem diffS_zero {a b : Snd} : diffS a b = 0#32 ↔ a = b := by
  constructor
  · intro h
    have : ∀ i, i < 32 → a.p.getLsbD i = b.p.getLsbD i ∧ a.m.getLsbD i = b.m.getLsbD i := fun i hi => by
      have := congrArg (fun z : BitVec 32 => z.getLsbD i) h
      simp only [diffS, BitVec.getLsbD_or, BitVec.getLsbD_xor, BitVec.getLsbD_zero, Bool.or_eq_false_iff] at this
      exact ⟨by simpa using this.1, by simpa using this.2⟩
    cases a; cases b
    simp only [Snd.mk.injEq]
    exact ⟨BitVec.eq_of_getLsbD_eq fun i hi => (this i hi).1, BitVec.eq_of_getLsbD_eq fun i hi => (this i hi).2⟩
  · rintro rfl; simp [diffS]
/-! ### Diff of the reference -/
def diffTo (a b : Snd) : Nat → BitVec 32
  | 0 => 0#32
  | k + 1 => if getS a k = getS b k then diffTo a b k else diffTo a b k ||| bt k
theorem diffTo_succ (a b : Snd) (k : Nat) : diffTo a b (k + 1) = if getS a k = getS b k then diffTo a b k else diffTo a b k ||| bt k := rfl
theorem diffTo_bits {a b : Snd} (ha : a.ok = true) (hb : b.ok = true) {i : Nat} (hi : i < 32) : ∀ k, k ≤ 24 → (diffTo a b k).getLsbD i = (decide (i < k) && (diffS a b).getLsbD i)
  | 0, _ => by simp [diffTo]
  | k + 1, hk => by
    have ih := diffTo_bits ha hb hi k (by omega)
    have hne := get_ne ha hb (show k < 24 by omega)
    rw [diffTo_succ]
    by_cases e : i = k
    · subst e
      split
      · rename_i h
        rw [ih, ← hne, h]; simp
      · rename_i h
        rw [BitVec.getLsbD_or, bt_self i hi, ← hne]; simp [h]
    · have hd : decide (i < k + 1) = decide (i < k) := by rw [decide_eq_decide]; omega
      rw [hd, ← ih]
      split
      · rfl
      · rw [BitVec.getLsbD_or, bt_bit _ _ hi (by omega)]; simp [e]
theorem diffTo_all {a b : Snd} (ha : a.ok = true) (hb : b.ok = true) : diffTo a b 24 = diffS a b :=
  BitVec.eq_of_getLsbD_eq fun i hi => by
    rw [diffTo_bits ha hb hi 24 (by omega)]
    cases h : (diffS a b).getLsbD i
    · simp
    · simp [diffS_bit ha hb h]
theorem two_box (w : World) (a b : Snd) : SndB ((w.alloc (.cells #[.int .u32 a.p.toNat, .int .u32 a.m.toNat] 27)).alloc (.cells #[.int .u32 b.p.toNat, .int .u32 b.m.toNat] 27)) w.heap.size a ∧ SndB ((w.alloc (.cells #[.int .u32 a.p.toNat, .int .u32 a.m.toNat] 27)).alloc (.cells #[.int .u32 b.p.toNat, .int .u32 b.m.toNat] 27)) (w.heap.size + 1) b ∧ Ext w ((w.alloc (.cells #[.int .u32 a.p.toNat, .int .u32 a.m.toNat] 27)).alloc (.cells #[.int .u32 b.p.toNat, .int .u32 b.m.toNat] 27)) := by
  refine ⟨(SndB.new w a).ext (Ext.alloc1 _ _), ?_, (by repeat (first | exact Ext.refl _ | refine Ext.drew ?_ | refine Ext.drewN ?_ _ | refine Ext.alloc ?_ _))⟩
  have := SndB.new (w.alloc (.cells #[.int .u32 a.p.toNat, .int .u32 a.m.toNat] 27)) b
  rwa [World.size_alloc] at this
set_option maxHeartbeats 1000000 in
theorem rdiff_any (a b : Snd) (w : World) (ha : a.ok = true) (hb : b.ok = true) :
    Calls Tryd.prog 76 #[sndV a, sndV b] w fun e w' => e = .returned (.int .u32 (diffS a b).toNat) ∧ Ext w w' := by
  have hfull := diffTo_all ha hb
  obtain ⟨q0, q1, hxB⟩ := two_box w a b
  replace hfull := Lib.hid hfull
  go_enter Tryd.func76, Tryd.ntmps76
  go_wp2_with fail
  generalize ((w.alloc (.cells #[.int .u32 a.p.toNat, .int .u32 a.m.toNat] 27)).alloc (.cells #[.int .u32 b.p.toNat, .int .u32 b.m.toNat] 27)) = wB at *
  obtain ⟨c0, c1⟩ := q0.cells
  refine (cbool (rvalid1_any a _) ha).mono ?_
  rintro e w1 ⟨rfl, hx1⟩
  have q0 := q0.ext hx1
  have q1 := q1.ext hx1
  have hx := hxB.trans hx1
  clear c0 c1 hx1
  obtain ⟨c2, c3⟩ := q1.cells
  go_wp2_with fail
  refine (cbool (rvalid1_any b _) hb).mono ?_
  rintro e w2 ⟨rfl, hx1⟩
  have q0 := q0.ext hx1
  have q1 := q1.ext hx1
  have hx := hx.trans hx1
  clear c2 c3 hx1 hxB
  go_wp2_with fail
  go_loopw [5, 6] (fun sv i wr => ∃ k : Nat, k ≤ 24 ∧ i = .int .i64 k ∧ sv = .int .u32 (diffTo a b k).toNat ∧ Ext w2 wr) (fun _ i _ => 24 - (intOf i).toNat)
  case atStart => exact ⟨0, Nat.zero_le _, rfl, rfl, Ext.refl _⟩
  case round =>
    obtain ⟨k, hk, rfl, rfl, hxr⟩ := hrel
    by_cases hlt : k < 24
    · have hki : (k : Int) < 24 := by omega
      have q0 := q0.ext hxr
      have q1 := q1.ext hxr
      obtain ⟨c0, c1⟩ := q0.cells
      obtain ⟨c2, c3⟩ := q1.cells
      have r0 := fun z : ExtOf wr => z.cell c0
      have r1 := fun z : ExtOf wr => z.cell c1
      have r2 := fun z : ExtOf wr => z.cell c2
      have r3 := fun z : ExtOf wr => z.cell c3
      have hga := fun W => getV_any a k ha hlt W
      have hgb := fun W => getV_any b k hb hlt W
      have hsu := diffTo_succ a b k
      have hbt := bt_nat hlt
      by_cases he : getS a k = getS b k
      · rw [if_pos he] at hsu
        rw [← he] at hgb
        clear he
        generalize getS a k = A at *
        have hdA : (A != A) = false := by simp
        replace hsu := Lib.hid hsu
        generalize diffTo a b k = S at *
        go_wp2_with fail
        (refine wp_region_qx (by kernel_rfl) (by kernel_rfl) ?_
         repeat (go_big_quiet_step ((first | (go_at_call_of 64 a; exact calls_ext (hga _)) | (go_at_call_of 64 b; exact calls_ext (hgb _)))))
         refine wpQuiet_nil ?_
         intro wq hw'
         have hxq := ext_of_ex hw'
         clear hw')
        clear r0 r1 r2 r3 hga hgb
        go_wp2_with fail
        (first | exact ⟨⟨k + 1, by omega, by go_num, by rw [hsu.out], hxr.trans hxq⟩, (by simp [intOf]; omega)⟩ | (go_roundw; case rel => exact ⟨k + 1, by omega, by go_num, by rw [hsu.out], hxr.trans hxq⟩; case measure => exact (by simp [intOf]; omega)))
      · rw [if_neg he] at hsu
        have hd : (getS a k != getS b k) = true := by simpa using he
        replace he := Lib.hid he
        generalize getS a k = A at *
        generalize getS b k = B at *
        replace hsu := Lib.hid hsu
        generalize diffTo a b k = S at *
        generalize bt k = T at *
        go_wp2_with fail
        (refine wp_region_qx (by kernel_rfl) (by kernel_rfl) ?_
         repeat (go_big_quiet_step ((first | (go_at_call_of 64 a; exact calls_ext (hga _)) | (go_at_call_of 64 b; exact calls_ext (hgb _)))))
         refine wpQuiet_nil ?_
         intro wq hw'
         have hxq := ext_of_ex hw'
         clear hw')
        clear r0 r1 r2 r3 hga hgb
        go_wp2_with fail
        (first | exact ⟨⟨k + 1, by omega, by go_num, by rw [hsu.out]; simp, hxr.trans hxq⟩, (by simp [intOf]; omega)⟩ | (go_roundw; case rel => exact ⟨k + 1, by omega, by go_num, by rw [hsu.out]; simp, hxr.trans hxq⟩; case measure => exact (by simp [intOf]; omega)))
    · have hk24 : k = 24 := by omega
      subst hk24
      go_wp2_with fail
      go_ret
      exact ⟨ret_int (by rw [hfull.out]), hx.trans hxr⟩
end Go.Proofs.YtbnbfdbliokcaaaDoor
