/-
  Layer 1: Valid of the program and of the reference.
-/
import Derived.Test.YtilkemdecenibaaMap
namespace Go.Proofs.Ytilkemdecenibaa
open Go.RowKit
theorem fvalid_any (s : Snd) (w : World) :
    Calls Try.prog 104 #[.agg #[.int .u32 s.p.toNat, .int .u32 s.m.toNat]] w fun e w' => e = .returned (.bool s.ok) ∧ Ext w w' := by
  go_enter Try.func104, Try.ntmps104
  go_wp2
  · rename_i h
    go_ret
    exact ⟨ret_bool (by simp only [Snd.ok, h]; simp <;> omega), Ext.alloc1 _ _⟩
  · rename_i h
    go_ret
    exact ⟨ret_bool (by simp [Snd.ok, h]), Ext.alloc1 _ _⟩
end Go.Proofs.Ytilkemdecenibaa
namespace Go.Proofs.Ytilkemdecenibaa
open Go.RowKit
theorem shr_bit (x : BitVec 32) (k : Nat) : bits .and .u32 ((x.toNat : Int) / 2 ^ k) 1 = ((x.getLsbD k).toNat : Int) := by
  have e1 : (x.toNat : Int) / 2 ^ k = ((x >>> k).toNat : Int) := by rw [BitVec.toNat_ushiftRight, Nat.shiftRight_eq_div_pow]; norm_cast
  have e2 : (1 : Int) = ((1#32).toNat : Int) := rfl
  rw [e1, e2, bits_and_u32]
  congr 1
  rw [BitVec.toNat_and, BitVec.toNat_ushiftRight]
  show (x.toNat >>> k) &&& 1 = _
  rw [Nat.and_one_is_mod, BitVec.getLsbD, Nat.testBit]
  rw [Nat.and_comm, Nat.and_one_is_mod]
  have := Nat.mod_two_eq_zero_or_one (x.toNat >>> k)
  rcases this with h | h <;> rw [h] <;> rfl
theorem shr_one {x : BitVec 32} {k : Nat} (h : x.getLsbD k = true) : bits .and .u32 ((x.toNat : Int) / 2 ^ k) 1 = 1 := by rw [shr_bit, h]; rfl
theorem shr_nil {x : BitVec 32} {k : Nat} (h : x.getLsbD k = false) : bits .and .u32 ((x.toNat : Int) / 2 ^ k) 1 = 0 := by rw [shr_bit, h]; rfl
/-- A sound's feature k is all right. -/
def featOk (s : Snd) (k : Nat) : Bool := !(s.p.getLsbD k && s.m.getLsbD k) && (!(s.p.getLsbD k || s.m.getLsbD k) || decide (k < 24))
theorem lt_pow_of_bits {x n : Nat} (h : ∀ k, n ≤ k → x.testBit k = false) : x < 2 ^ n := Nat.lt_pow_two_of_testBit _ h
theorem ok_iff_feats (s : Snd) : s.ok = true ↔ ∀ k, k < 32 → featOk s k = true := by
  have e : s.ok = true ↔ s.p.toNat &&& s.m.toNat = 0 ∧ (s.p.toNat ||| s.m.toNat) < 2 ^ 24 := by simp [Snd.ok]
  rw [e]
  constructor
  · rintro ⟨h1, h2⟩ k hk
    have g1 : (s.p.toNat &&& s.m.toNat).testBit k = false := by rw [h1]; exact Nat.zero_testBit k
    rw [Nat.testBit_and] at g1
    have g2 : 24 ≤ k → (s.p.toNat ||| s.m.toNat).testBit k = false := fun h => Nat.testBit_lt_two_pow (Nat.lt_of_lt_of_le h2 (Nat.pow_le_pow_right (by omega) h))
    rw [Nat.testBit_or] at g2
    simp only [featOk, BitVec.getLsbD]
    rw [g1]
    by_cases hk2 : k < 24
    · simp [hk2]
    · simp [g2 (by omega)]
  · intro h
    have hi : ∀ (x : BitVec 32) k, 32 ≤ k → x.toNat.testBit k = false := fun x k hk => Nat.testBit_lt_two_pow (Nat.lt_of_lt_of_le x.isLt (Nat.pow_le_pow_right (by omega) hk))
    constructor
    · apply Nat.eq_of_testBit_eq
      intro k
      rw [Nat.testBit_and, Nat.zero_testBit]
      by_cases hk : k < 32
      · have := h k hk
        simp only [featOk, BitVec.getLsbD, Bool.and_eq_true, Bool.not_eq_true'] at this
        exact this.1
      · rw [hi _ k (by omega)]; rfl
    · refine lt_pow_of_bits fun k hk => ?_
      rw [Nat.testBit_or]
      by_cases hk2 : k < 32
      · have := h k hk2
        have hd : decide (k < 24) = false := by simp; omega
        simp only [featOk, BitVec.getLsbD, Bool.and_eq_true, hd, Bool.or_false, Bool.not_eq_true'] at this
        exact this.2
      · rw [hi _ k (by omega), hi _ k (by omega)]; rfl
theorem ok_false_of {s : Snd} {k : Nat} (hk : k < 32) (h : featOk s k = false) : s.ok = false := by
  cases e : s.ok
  · rfl
  · rw [(ok_iff_feats s).1 e k hk] at h; cases h
theorem rvalid1_any (s : Snd) (w : World) :
    Calls Try.prog 86 #[.agg #[.int .u32 s.p.toNat, .int .u32 s.m.toNat]] w fun e w' => e = .returned (.bool s.ok) ∧ Ext w w' := by
  go_enter Try.func86, Try.ntmps86
  go_wp2_with fail
  go_loopw [3] (fun i wr => ∃ k : Nat, k ≤ 32 ∧ i = .int .i64 k ∧ Ext (w.alloc (.cells #[.int .u32 s.p.toNat, .int .u32 s.m.toNat] 24)) wr ∧ Hid (∀ j, j < k → featOk s j = true)) (fun i _ => 32 - (intOf i).toNat)
  case atStart => exact ⟨0, Nat.zero_le _, rfl, Ext.refl _, fun j h => absurd h (Nat.not_lt_zero _)⟩
  case round =>
    obtain ⟨k, hk, rfl, hx, hall⟩ := hrel
    have hb0 := hx.cellv (cell_new_list w [.int .u32 s.p.toNat, .int .u32 s.m.toNat] 24 0 _ rfl)
    have hb1 := hx.cellv (cell_new_list w [.int .u32 s.p.toNat, .int .u32 s.m.toNat] 24 1 _ rfl)
    have hx0 : Ext w wr := (Ext.alloc1 _ _).trans hx
    by_cases hlt : k < 32
    · have next : featOk s k = true → Hid (∀ j, j < k + 1 → featOk s j = true) := fun h j hj => by
        by_cases e : j = k
        · subst e; exact h
        · exact hall.out j (by omega)
      cases hp : s.p.getLsbD k
      · cases hm : s.m.getLsbD k
        · have f0 : featOk s k = true := by simp [featOk, hp, hm]
          replace hp := shr_nil hp
          replace hm := shr_nil hm
          replace next := next f0
          clear f0
          go_wp2_with fail
          (first | exact ⟨⟨k + 1, by omega, by go_num, hx, next⟩, (by simp [intOf]; omega)⟩ | (go_roundw; case rel => exact ⟨k + 1, by omega, by go_num, hx, next⟩; case measure => exact (by simp [intOf]; omega)))
        · by_cases h24 : k < 24
          · have f0 : featOk s k = true := by simp [featOk, hp, h24]
            replace hp := shr_nil hp
            replace hm := shr_one hm
            replace next := next f0
            clear f0
            go_wp2_with fail
            (first | exact ⟨⟨k + 1, by omega, by go_num, hx, next⟩, (by simp [intOf]; omega)⟩ | (go_roundw; case rel => exact ⟨k + 1, by omega, by go_num, hx, next⟩; case measure => exact (by simp [intOf]; omega)))
          · have f0 := Lib.hid (ok_false_of hlt (show featOk s k = false by simp [featOk, hp, hm]; omega))
            replace hp := shr_nil hp
            replace hm := shr_one hm
            clear next
            go_wp2_with fail
            go_ret
            exact ⟨ret_bool f0.out.symm, hx0⟩
      · cases hm : s.m.getLsbD k
        · by_cases h24 : k < 24
          · have f0 : featOk s k = true := by simp [featOk, hm, h24]
            replace hp := shr_one hp
            replace hm := shr_nil hm
            replace next := next f0
            clear f0
            go_wp2_with fail
            (first | exact ⟨⟨k + 1, by omega, by go_num, hx, next⟩, (by simp [intOf]; omega)⟩ | (go_roundw; case rel => exact ⟨k + 1, by omega, by go_num, hx, next⟩; case measure => exact (by simp [intOf]; omega)))
          · have f0 := Lib.hid (ok_false_of hlt (show featOk s k = false by simp [featOk, hp, hm]; omega))
            replace hp := shr_one hp
            replace hm := shr_nil hm
            clear next
            go_wp2_with fail
            go_ret
            exact ⟨ret_bool f0.out.symm, hx0⟩
        · have f0 := Lib.hid (ok_false_of hlt (show featOk s k = false by simp [featOk, hp, hm]))
          replace hp := shr_one hp
          replace hm := shr_one hm
          clear next
          go_wp2_with fail
          go_ret
          exact ⟨ret_bool f0.out.symm, hx0⟩
    · go_wp2_with fail
      go_ret
      exact ⟨ret_bool ((ok_iff_feats s).2 fun j hj => hall.out j (by omega)).symm, hx0⟩
end Go.Proofs.Ytilkemdecenibaa
