/-
  Layer 1: Valid of the program and of the reference.
-/
import Derived.Test.YtjfhfbobnncpkaaDoorK
namespace Go.Proofs.YtjfhfbobnncpkaaDoor
open Go.RowKit
theorem fvalid_any (s : Snd) (w : World) :
    Calls Tryd.prog 43 #[.agg #[.int .u32 s.p.toNat, .int .u32 s.m.toNat]] w fun e w' => e = .returned (.bool s.ok) ∧ Ext w w' := by
  go_enter Tryd.func43, Tryd.ntmps43
  go_wp2
  · rename_i h
    go_ret
    exact ⟨ret_bool (by simp only [Snd.ok, h]; simp <;> omega), Ext.alloc1 _ _⟩
  · rename_i h
    go_ret
    exact ⟨ret_bool (by simp [Snd.ok, h]), Ext.alloc1 _ _⟩
end Go.Proofs.YtjfhfbobnncpkaaDoor
namespace Go.Proofs.YtjfhfbobnncpkaaDoor
open Go.RowKit
theorem shr_bit (x : BitVec 32) (k : Nat) : bits .and .u32 ((x.toNat : Int) / 2 ^ k) 1 = ((x.getLsbD k).toNat : Int) := by
  have e1 : (x.toNat : Int) / 2 ^ k = ((x >>> k).toNat : Int) := by rw [BitVec.toNat_ushiftRight, Nat.shiftRight_eq_div_pow]; norm_cast
  have e2 : (1 : Int) = ((1#32).toNat : Int) := rfl
  rw [e1, e2, bits_and_u32]
  congr 1
  rw [BitVec.toNat_and, BitVec.toNat_ushiftRight]
  show (x.toNat >>> k) &&& 1 = _
  rw [Nat.and_one_is_mod, BitVec.getLsbD, Nat.testBit]
  rw [Nat.and_comm, Nat.and_one_is_mod]
  have := Nat.mod_two_eq_zero_or_one (x.toNat >>> k)
  rcases this with h | h <;> rw [h] <;> rfl
theorem shr_one {x : BitVec 32} {k : Nat} (h : x.getLsbD k = true) : bits .and .u32 ((x.toNat : Int) / 2 ^ k) 1 = 1 := by rw [shr_bit, h]; rfl
theorem shr_nil {x : BitVec 32} {k : Nat} (h : x.getLsbD k = false) : bits .and .u32 ((x.toNat : Int) / 2 ^ k) 1 = 0 := by rw [shr_bit, h]; rfl
/-- A sound's feature k is all right. -/
def featOk (s : Snd) (k : Nat) : Bool := !(s.p.getLsbD k && s.m.getLsbD k) && (!(s.p.getLsbD k || s.m.getLsbD k) || decide (k < 24))
theorem lt_pow_of_bits {x n : Nat} (h : ∀ k, n ≤ k → x.testBit k = false) : x < 2 ^ n := Nat.lt_pow_two_of_testBit _ h
theorem ok_iff_feats (s : Snd) : s.ok = true ↔ ∀ k, k < 32 → featOk s k = true := by
  have e : s.ok = true ↔ s.p.toNat &&& s.m.toNat = 0 ∧ (s.p.toNat ||| s.m.toNat) < 2 ^ 24 := by simp [Snd.ok]
  rw [e]
  constructor
  · rintro ⟨h1, h2⟩ k hk
    have g1 : (s.p.toNat &&& s.m.toNat).testBit k = false := by rw [h1]; exact Nat.zero_testBit k
    rw [Nat.testBit_and] at g1
    have g2 : 24 ≤ k → (s.p.toNat ||| s.m.toNat).testBit k = false := fun h => Nat.testBit_lt_two_pow (Nat.lt_of_lt_of_le h2 (Nat.pow_le_pow_right (by omega) h))
    rw [Nat.testBit_or] at g2
    simp only [featOk, BitVec.getLsbD]
    rw [g1]
    by_cases hk2 : k < 24
    · simp [hk2]
    · simp [g2 (by omega)]
  · intro h
    have hi : ∀ (x : BitVec 32) k, 32 ≤ k → x.toNat.testBit k = false := fun x k hk => Nat.testBit_lt_two_pow (Nat.lt_of_lt_of_le x.isLt (Nat.pow_le_pow_right (by omega) hk))
    constructor
    · apply Nat.eq_of_testBit_eq
      intro k
      rw [Nat.testBit_and, Nat.zero_testBit]
      by_cases hk : k < 32
      · have := h k hk
        simp only [featOk, BitVec.getLsbD, Bool.and_eq_true, Bool.not_eq_true'] at this
        exact this.1
      · rw [hi _ k (by omega)]; rfl
    · refine lt_pow_of_bits fun k hk => ?_
      rw [Nat.testBit_or]
      by_cases hk2 : k < 32
      · have := h k hk2
        have hd : decide (k < 24) = false := by simp; omega
        simp only [featOk, BitVec.getLsbD, Bool.and_eq_true, hd, Bool.or_false, Bool.not_eq_true'] at this
        exact this.2
      · rw [hi _ k (by omega), hi _ k (by omega)]; rfl
theorem ok_false_of {s : Snd} {k : Nat} (hk : k < 32) (h : featOk s k = false) : s.ok = false := by
  cases e : s.ok
  · rfl
  · rw [(ok_iff_feats s).1 e k hk] at h; cases h
end Go.Proofs.YtjfhfbobnncpkaaDoor
