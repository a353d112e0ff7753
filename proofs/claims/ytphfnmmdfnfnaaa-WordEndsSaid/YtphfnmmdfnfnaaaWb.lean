/-
  Walks of layer 2: lists of sounds compared.
-/
import Derived.Test.YtphfnmmdfnfnaaaWa
import Derived.Laws.StructEq
namespace Go.Proofs.Ytphfnmmdfnfnaaa
open Go.RowKit
theorem snd_eq_iff (s t : Snd) : s = t ↔ s.p.toNat = t.p.toNat ∧ s.m.toNat = t.m.toNat := by
  refine ⟨fun h => by rw [h]; exact ⟨rfl, rfl⟩, fun ⟨h1, h2⟩ => ?_⟩
  cases s; cases t; simp only [Snd.mk.injEq]; exact ⟨BitVec.eq_of_toNat_eq h1, BitVec.eq_of_toNat_eq h2⟩
theorem eql_snd (s t : Snd) (w : World) : (binOp .eql 39 (.agg #[.int .u32 s.p.toNat, .int .u32 s.m.toNat]) (.agg #[.int .u32 t.p.toNat, .int .u32 t.m.toNat])).run Try.prog w = .ok (.bool (decide (s = t))) w := by
  have hS : Try.prog.underlying 39 = some (.struct (Try.prog.fieldsOf 39)) := by kernel_rfl
  have hp : Try.prog.stoodInHeld 39 = false := by kernel_rfl
  rw [run_eql_struct, show (10000 : Nat) = 9999 + 1 from rfl, run_equalIn_agg w 9999 39 _ _ hS hp]
  simp only [Program.fieldsOf, Try.underlying39]
  go_simp
  by_cases h1 : s.p.toNat = t.p.toNat <;> by_cases h2 : s.m.toNat = t.m.toNat <;> simp [h1, h2, snd_eq_iff] <;> omega
theorem neq_snd (s t : Snd) (w : World) : (binOp .neq 39 (.agg #[.int .u32 s.p.toNat, .int .u32 s.m.toNat]) (.agg #[.int .u32 t.p.toNat, .int .u32 t.m.toNat])).run Try.prog w = .ok (.bool (!decide (s = t))) w := by
  have hS : Try.prog.underlying 39 = some (.struct (Try.prog.fieldsOf 39)) := by kernel_rfl
  have hp : Try.prog.stoodInHeld 39 = false := by kernel_rfl
  rw [run_neq_struct, show (10000 : Nat) = 9999 + 1 from rfl, run_equalIn_agg w 9999 39 _ _ hS hp]
  simp only [Program.fieldsOf, Try.underlying39]
  go_simp
  by_cases h1 : s.p.toNat = t.p.toNat <;> by_cases h2 : s.m.toNat = t.m.toNat <;> simp [h1, h2, snd_eq_iff] <;> omega
/-! ### Two lists compared, element by element -/
section
variable {α : Type} {xs ys : List α} {n k : Nat}
theorem eq_succ (h : xs.take k = ys.take k) {s : α} (h1 : xs[k]? = some s) (h2 : ys[k]? = some s) : xs.take (k + 1) = ys.take (k + 1) := by
  rw [List.take_add_one, List.take_add_one, h, h1, h2]
theorem eq_end (hx : xs.length = n) (hy : ys.length = n) (hk : ¬ k < n) (h : xs.take k = ys.take k) : xs = ys := by
  rwa [List.take_of_length_le (by omega), List.take_of_length_le (by omega)] at h
theorem ne_at {s t : α} (h1 : xs[k]? = some s) (h2 : ys[k]? = some t) (h : s ≠ t) : xs ≠ ys := by
  rintro rfl; rw [h1] at h2; exact h (Option.some.inj h2)
theorem ne_len {m : Nat} (hx : xs.length = n) (hy : ys.length = m) (h : n ≠ m) : xs ≠ ys := by rintro rfl; exact h (hx.symm.trans hy)
end
theorem req_any (a a' : Option Addr) (n cap n' cap' : Nat) (xs ys : List Snd) (w : World) (hr : RdS w a n cap xs) (hr' : RdS w a' n' cap' ys) :
    Calls Try.prog 18 #[.slice a n cap, .slice a' n' cap'] w fun e w' => e = .returned (.bool (decide (xs = ys))) ∧ Ext w w' := by
  have hmax : n ≤ 9223372036854775807 := by have := hr.le; have := hr.most; unfold maxLen at this; omega
  have hmax' : n' ≤ 9223372036854775807 := by have := hr'.le; have := hr'.most; unfold maxLen at this; omega
  by_cases h : n = n'
  · subst h
    have hb0 : ((n : Int) != (n : Int)) = false := by simp
    have hne := neq_snd
    go_enter Try.func18, Try.ntmps18
    go_wp2_with fail
    go_loopw [5] (fun i wr => ∃ k : Nat, k ≤ n ∧ i = .int .i64 k ∧ Ext w wr ∧ Hid (xs.take k = ys.take k)) (fun i _ => n - (intOf i).toNat)
    case atStart => exact ⟨0, Nat.zero_le _, rfl, Ext.refl _, rfl⟩
    case round =>
      obtain ⟨k, hk, rfl, hx, hall⟩ := hrel
      by_cases hlt : k < n
      · obtain ⟨b, off, s, rfl, hs, hb, hc0, hc1⟩ := (hr.ext hx).snd hlt
        obtain ⟨b', off', s', rfl, hs', hb', hc0', hc1'⟩ := (hr'.ext hx).snd hlt
        by_cases hst : s = s'
        · subst hst
          go_wp2_with fail
          go_quiet (fail)
          go_wp2_with fail
          (first | exact ⟨⟨k + 1, by omega, by go_num, (by repeat (first | exact Ext.refl _ | assumption | refine Ext.drew ?_ | refine Ext.drewN ?_ _ | refine Ext.alloc ?_ _ | refine Ext.trans ?_ (by assumption))), eq_succ hall hs hs'⟩, (by simp [intOf]; omega)⟩ | (go_roundw; case rel => exact ⟨k + 1, by omega, by go_num, (by repeat (first | exact Ext.refl _ | assumption | refine Ext.drew ?_ | refine Ext.drewN ?_ _ | refine Ext.alloc ?_ _ | refine Ext.trans ?_ (by assumption))), eq_succ hall hs hs'⟩; case measure => exact (by simp [intOf]; omega)))
        · have hd : decide (s = s') = false := by simpa using hst
          go_wp2_with fail
          go_quiet (fail)
          go_wp2_with fail
          go_ret
          exact ⟨ret_bool (by simpa using ne_at hs hs' hst), (by repeat (first | exact Ext.refl _ | assumption | refine Ext.drew ?_ | refine Ext.drewN ?_ _ | refine Ext.alloc ?_ _ | refine Ext.trans ?_ (by assumption)))⟩
      · go_wp2_with fail
        go_ret
        exact ⟨ret_bool (by simpa using eq_end hr.len hr'.len hlt hall), hx⟩
  · have hb0 : ((n : Int) != (n' : Int)) = true := by simp; omega
    go_enter Try.func18, Try.ntmps18
    go_wp2_with fail
    go_ret
    exact ⟨ret_bool (by simpa using ne_len hr.len hr'.len h), Ext.refl _⟩
theorem lsame_any (a a' : Option Addr) (n cap n' cap' : Nat) (xs ys : List Snd) (w : World) (hr : RdS w a n cap xs) (hr' : RdS w a' n' cap' ys) :
    Calls Try.prog 32 #[.slice a n cap, .slice a' n' cap'] w fun e w' => e = .returned (.bool (decide (xs = ys))) ∧ Ext w w' := by
  have hmax : n ≤ 9223372036854775807 := by have := hr.le; have := hr.most; unfold maxLen at this; omega
  have hmax' : n' ≤ 9223372036854775807 := by have := hr'.le; have := hr'.most; unfold maxLen at this; omega
  by_cases h : n = n'
  · subst h
    have hb0 : ((n : Int) != (n : Int)) = false := by simp
    have hne := neq_snd
    go_enter Try.func32, Try.ntmps32
    go_wp2_with fail
    go_loopw [5] (fun i wr => ∃ k : Nat, k ≤ n ∧ i = .int .i64 k ∧ Ext w wr ∧ Hid (xs.take k = ys.take k)) (fun i _ => n - (intOf i).toNat)
    case atStart => exact ⟨0, Nat.zero_le _, rfl, Ext.refl _, rfl⟩
    case round =>
      obtain ⟨k, hk, rfl, hx, hall⟩ := hrel
      by_cases hlt : k < n
      · obtain ⟨b, off, s, rfl, hs, hb, hc0, hc1⟩ := (hr.ext hx).snd hlt
        obtain ⟨b', off', s', rfl, hs', hb', hc0', hc1'⟩ := (hr'.ext hx).snd hlt
        by_cases hst : s = s'
        · subst hst
          go_wp2_with fail
          go_quiet (fail)
          go_wp2_with fail
          (first | exact ⟨⟨k + 1, by omega, by go_num, (by repeat (first | exact Ext.refl _ | assumption | refine Ext.drew ?_ | refine Ext.drewN ?_ _ | refine Ext.alloc ?_ _ | refine Ext.trans ?_ (by assumption))), eq_succ hall hs hs'⟩, (by simp [intOf]; omega)⟩ | (go_roundw; case rel => exact ⟨k + 1, by omega, by go_num, (by repeat (first | exact Ext.refl _ | assumption | refine Ext.drew ?_ | refine Ext.drewN ?_ _ | refine Ext.alloc ?_ _ | refine Ext.trans ?_ (by assumption))), eq_succ hall hs hs'⟩; case measure => exact (by simp [intOf]; omega)))
        · have hd : decide (s = s') = false := by simpa using hst
          go_wp2_with fail
          go_quiet (fail)
          go_wp2_with fail
          go_ret
          exact ⟨ret_bool (by simpa using ne_at hs hs' hst), (by repeat (first | exact Ext.refl _ | assumption | refine Ext.drew ?_ | refine Ext.drewN ?_ _ | refine Ext.alloc ?_ _ | refine Ext.trans ?_ (by assumption)))⟩
      · go_wp2_with fail
        go_ret
        exact ⟨ret_bool (by simpa using eq_end hr.len hr'.len hlt hall), hx⟩
  · have hb0 : ((n : Int) != (n' : Int)) = true := by simp; omega
    go_enter Try.func32, Try.ntmps32
    go_wp2_with fail
    go_ret
    exact ⟨ret_bool (by simpa using ne_len hr.len hr'.len h), Ext.refl _⟩
theorem seq_any (a a' : Option Addr) (n cap n' cap' : Nat) (xs ys : List Snd) (w : World) (hr : RdS w a n cap xs) (hr' : RdS w a' n' cap' ys) :
    Calls Try.prog 47 #[.slice a n cap, .slice a' n' cap'] w fun e w' => e = .returned (.bool (decide (xs = ys))) ∧ Ext w w' := by
  have hmax : n ≤ 9223372036854775807 := by have := hr.le; have := hr.most; unfold maxLen at this; omega
  have hmax' : n' ≤ 9223372036854775807 := by have := hr'.le; have := hr'.most; unfold maxLen at this; omega
  by_cases h : n = n'
  · subst h
    have hb0 : ((n : Int) != (n : Int)) = false := by simp
    have hne := neq_snd
    go_enter Try.func47, Try.ntmps47
    go_wp2_with fail
    go_loopw [13] (fun i wr => ∃ k : Nat, k ≤ n ∧ i = .int .i64 k ∧ Ext w wr ∧ Hid (xs.take k = ys.take k)) (fun i _ => n - (intOf i).toNat)
    case atStart => exact ⟨0, Nat.zero_le _, rfl, Ext.refl _, rfl⟩
    case round =>
      obtain ⟨k, hk, rfl, hx, hall⟩ := hrel
      by_cases hlt : k < n
      · obtain ⟨b, off, s, rfl, hs, hb, hc0, hc1⟩ := (hr.ext hx).snd hlt
        obtain ⟨b', off', s', rfl, hs', hb', hc0', hc1'⟩ := (hr'.ext hx).snd hlt
        by_cases hst : s = s'
        · subst hst
          go_wp2_with fail
          go_quiet (fail)
          go_wp2_with fail
          (first | exact ⟨⟨k + 1, by omega, by go_num, (by repeat (first | exact Ext.refl _ | assumption | refine Ext.drew ?_ | refine Ext.drewN ?_ _ | refine Ext.alloc ?_ _ | refine Ext.trans ?_ (by assumption))), eq_succ hall hs hs'⟩, (by simp [intOf]; omega)⟩ | (go_roundw; case rel => exact ⟨k + 1, by omega, by go_num, (by repeat (first | exact Ext.refl _ | assumption | refine Ext.drew ?_ | refine Ext.drewN ?_ _ | refine Ext.alloc ?_ _ | refine Ext.trans ?_ (by assumption))), eq_succ hall hs hs'⟩; case measure => exact (by simp [intOf]; omega)))
        · have hd : decide (s = s') = false := by simpa using hst
          go_wp2_with fail
          go_quiet (fail)
          go_wp2_with fail
          go_ret
          exact ⟨ret_bool (by simpa using ne_at hs hs' hst), (by repeat (first | exact Ext.refl _ | assumption | refine Ext.drew ?_ | refine Ext.drewN ?_ _ | refine Ext.alloc ?_ _ | refine Ext.trans ?_ (by assumption)))⟩
      · go_wp2_with fail
        go_ret
        exact ⟨ret_bool (by simpa using eq_end hr.len hr'.len hlt hall), hx⟩
  · have hb0 : ((n : Int) != (n' : Int)) = true := by simp; omega
    go_enter Try.func47, Try.ntmps47
    go_wp2_with fail
    go_ret
    exact ⟨ret_bool (by simpa using ne_len hr.len hr'.len h), Ext.refl _⟩
end Go.Proofs.Ytphfnmmdfnfnaaa
