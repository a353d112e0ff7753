/-
  Walks of the leaves of layer 2: valid, Check, Copy, Equal .. of the program and of the reference.
-/
import Derived.Test.YtphfnmmdfnfnaaaProg
import Derived.Test.YtphfnmmdfnfnaaaBase
namespace Go.Proofs.Ytphfnmmdfnfnaaa
open Go.RowKit
/-- A sound is valid: no feature has both values, and all its features are below 24. -/
def Snd.ok (s : Snd) : Bool := (s.p.toNat &&& s.m.toNat == 0) && decide ((s.p.toNat ||| s.m.toNat) < 16777216)

theorem ret_bool {a b : Bool} (h : a = b) : Ending.returned (.bool a) = .returned (.bool b) := by rw [h]
theorem div24 (x : Nat) : ((x : Int) / 16777216 == 0) = decide (x < 16777216) := by
  rw [Bool.eq_iff_iff]; simp only [beq_iff_eq, decide_eq_true_eq]; omega

theorem valid_any (s : Snd) (w : World) :
    Calls Try.prog 55 #[.agg #[.int .u32 s.p.toNat, .int .u32 s.m.toNat]] w fun e w' => e = .returned (.bool s.ok) ∧ Ext w w' := by
  go_enter Try.func55, Try.ntmps55
  go_wp2
  · rename_i h
    go_ret
    exact ⟨ret_bool (by simp only [Snd.ok, h, div24]; simp), Ext.alloc1 _ _⟩
  · rename_i h
    go_ret
    exact ⟨ret_bool (by simp [Snd.ok, h]), Ext.alloc1 _ _⟩
theorem or_lt24 (a b : Nat) : (a ||| b < 16777216) ↔ a < 16777216 ∧ b < 16777216 := by
  refine ⟨fun h => ⟨Nat.lt_of_le_of_lt Nat.left_le_or h, Nat.lt_of_le_of_lt Nat.right_le_or h⟩, fun h => ?_⟩
  exact Nat.or_lt_two_pow (n := 24) h.1 h.2
theorem dec24 (x : Nat) : decide ((x : Int) < 16777216) = decide (x < 16777216) := by
  rw [Bool.eq_iff_iff]; simp only [decide_eq_true_eq]; omega
theorem rvalid_any (s : Snd) (w : World) :
    Calls Try.prog 58 #[.agg #[.int .u32 s.p.toNat, .int .u32 s.m.toNat]] w fun e w' => e = .returned (.bool s.ok) ∧ Ext w w' := by
  by_cases h0 : s.p.toNat &&& s.m.toNat = 0
  · cases hp : decide ((s.p.toNat : Int) < 16777216)
    · have hok : s.ok = false := by
        have := dec24 s.p.toNat; rw [hp] at this; simp only [Snd.ok, h0, or_lt24]; simp at this; simp; omega
      have Hok := Lib.hid hok; clear hok
      go_enter Try.func58, Try.ntmps58
      go_wp2
      go_ret
      exact ⟨ret_bool Hok.out.symm, Ext.alloc1 _ _⟩
    · cases hm : decide ((s.m.toNat : Int) < 16777216)
      all_goals
        go_enter Try.func58, Try.ntmps58
        go_wp2
        go_ret
        refine ⟨ret_bool ?_, Ext.alloc1 _ _⟩
        have h1 := dec24 s.p.toNat
        have h2 := dec24 s.m.toNat
        rw [hp] at h1; rw [hm] at h2
        simp only [Snd.ok, h0, or_lt24]; simp at h1 h2; simp; omega
  · have hok : s.ok = false := by simp [Snd.ok, h0]
    have Hok := Lib.hid hok; clear hok
    go_enter Try.func58, Try.ntmps58
    go_wp2
    go_ret
    exact ⟨ret_bool Hok.out.symm, Ext.alloc1 _ _⟩
/-! ### Check -/
/-- Check as a function on lists of sounds. -/
def checkS (xs : List Snd) : Int := if 32 < xs.length then 11 else if xs.all Snd.ok then 0 else 14
theorem checkS_long {xs : List Snd} (h : 32 < xs.length) : checkS xs = 11 := by simp [checkS, h]
theorem checkS_ok {xs : List Snd} (h : xs.length ≤ 32) (ha : ∀ (i : Nat) (x : Snd), xs[i]? = some x → x.ok = true) : checkS xs = 0 := by
  rw [checkS, if_neg (by omega), if_pos]; rw [List.all_eq_true]; intro x hx
  obtain ⟨i, hi⟩ := List.getElem?_of_mem hx; exact ha i x hi
theorem checkS_bad {xs : List Snd} {i : Nat} {x : Snd} (h : xs.length ≤ 32) (hi : xs[i]? = some x) (hx : x.ok = false) : checkS xs = 14 := by
  rw [checkS, if_neg (by omega), if_neg]; intro ha; rw [List.all_eq_true] at ha
  rw [ha x (List.mem_of_getElem? hi)] at hx; cases hx
theorem all_succ {α : Type} {xs : List α} {p : α → Bool} {k : Nat} {s : α} (h : ∀ (i : Nat) (x : α), i < k → xs[i]? = some x → p x = true) (hs : xs[k]? = some s) (hp : p s = true) : ∀ (i : Nat) (x : α), i < k + 1 → xs[i]? = some x → p x = true := by
  intro i x hi hx
  by_cases e : i = k
  · subst e; rw [hs] at hx; cases hx; exact hp
  · exact h i x (by omega) hx
theorem ret_int {k : IntKind} {a b : Int} (h : a = b) : Ending.returned (.int k a) = .returned (.int k b) := by rw [h]

theorem check_any (a : Option Addr) (n cap : Nat) (xs : List Snd) (w : World) (hr : RdS w a n cap xs) :
    Calls Try.prog 34 #[.slice a n cap] w fun e w' => e = .returned (.int .i64 (checkS xs)) ∧ Ext w w' := by
  have hmax : n ≤ 9223372036854775807 := by have := hr.le; have := hr.most; unfold maxLen at this; omega
  by_cases h : 32 < n
  · go_enter Try.func34, Try.ntmps34
    go_wp2_with fail
    go_ret
    exact ⟨ret_int (checkS_long (by rw [hr.len]; exact h)).symm, Ext.refl _⟩
  · have h' : n ≤ 32 := by omega
    go_enter Try.func34, Try.ntmps34
    go_wp2_with fail
    go_loopw [10] (fun i wr => ∃ k : Nat, k ≤ n ∧ i = .int .i64 k ∧ Ext w wr ∧ Hid (∀ (i : Nat) (x : Snd), i < k → xs[i]? = some x → x.ok = true)) (fun i _ => n - (intOf i).toNat)
    case atStart => exact ⟨0, Nat.zero_le _, rfl, Ext.refl _, fun i x hi => absurd hi (Nat.not_lt_zero _)⟩
    case round =>
      obtain ⟨k, hk, rfl, hx, hall⟩ := hrel
      by_cases hlt : k < n
      · obtain ⟨b, off, s, rfl, hs, hb, hc0, hc1⟩ := (hr.ext hx).snd hlt
        cases hok : s.ok
        · go_wp2_with (go_at_call 55; refine (valid_any s _).mono ?_; rintro e w1 ⟨rfl, hx1⟩)
          go_ret
          exact ⟨ret_int (checkS_bad (by rw [hr.len]; exact h') hs hok).symm, (by repeat (first | exact Ext.refl _ | assumption | refine Ext.drew ?_ | refine Ext.drewN ?_ _ | refine Ext.alloc ?_ _ | refine Ext.trans ?_ (by assumption)))⟩
        · go_wp2_with (go_at_call 55; refine (valid_any s _).mono ?_; rintro e w1 ⟨rfl, hx1⟩)
          (first | exact ⟨⟨k + 1, by omega, by go_num, (by repeat (first | exact Ext.refl _ | assumption | refine Ext.drew ?_ | refine Ext.drewN ?_ _ | refine Ext.alloc ?_ _ | refine Ext.trans ?_ (by assumption))), all_succ hall hs hok⟩, (by simp [intOf]; omega)⟩ | (go_roundw; case rel => exact ⟨k + 1, by omega, by go_num, (by repeat (first | exact Ext.refl _ | assumption | refine Ext.drew ?_ | refine Ext.drewN ?_ _ | refine Ext.alloc ?_ _ | refine Ext.trans ?_ (by assumption))), all_succ hall hs hok⟩; case measure => exact (by simp [intOf]; omega)))
      · go_wp2_with fail
        go_ret
        exact ⟨ret_int (checkS_ok (by rw [hr.len]; exact h') (fun i x hi => hall i x (by have := (List.getElem?_eq_some_iff.1 hi).1; have := hr.len; omega) hi)).symm, hx⟩
end Go.Proofs.Ytphfnmmdfnfnaaa
