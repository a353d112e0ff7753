/-
  pats.Check at any pattern.
-/
import Derived.Test.YtadncjpknckaaaaGreatDoorA10
namespace Go.Proofs.YtadncjpknckaaaaGreatDoor
open Go.RowKit Go.Shelf
def RetA (h : HP) (w : World) (e : Ending) (w' : World) : Prop := ∃ r : Int, e = .returned (.int .i64 r) ∧ (r = 0 ↔ h.okB = true) ∧ Ext w w'
theorem z0_not {s : Snd} (h : ¬ s = z0S) : ((s.p == 0#32) && (s.m == 0#32)) = false := by
  rw [Bool.eq_false_iff]
  intro e
  rw [Bool.and_eq_true, beq_iff_eq, beq_iff_eq] at e
  obtain ⟨p, m⟩ := s
  obtain ⟨rfl, rfl⟩ := e
  exact h rfl
set_option maxHeartbeats 4000000 in
set_option maxRecDepth 20000 in
theorem allowed_full (h : HP) (w : World) (hn : h.l.length = h.n) : Calls Tryz.prog 72 #[patV h] w (RetA h w) := by
  obtain ⟨kd, is, ng, mn, mx, a, n, cap, l⟩ := h
  change l.length = n at hn
  by_cases k1 : kd = 1
  · subst k1
    have hkb : ∀ b, (HP.okB (.mk 1 is ng mn mx a n cap l) = b) = ((is.ok && decide (mn = 0) && decide (mx = 0) && l.isEmpty) = b) := fun b => rfl
    show Calls Tryz.prog 72 #[.agg #[.int .i64 1, .int .u32 is.p.toNat, .int .u32 is.m.toNat, .bool ng, .int .i64 mn, .int .i64 mx, .slice a n cap]] w _
    rcases Decidable.em (mn = 0) with h1 | h1
    rotate_left
    · have m1 : (mn == 0) = false := by simpa using h1
      have hb : HP.okB (.mk 1 is ng mn mx a n cap l) = false := by simp [HP.okB, h1]
      replace hb := Lib.hid hb
      go_enter Tryz.func72, Tryz.ntmps72
      go_wp2_with fail
      go_ret
      exact ⟨_, rfl, by rw [hb.out]; simp, (by repeat (first | exact Ext.refl _ | assumption | refine Ext.drew ?_ | refine Ext.drewN ?_ _ | refine Ext.alloc ?_ _ | refine Ext.trans ?_ (by assumption)))⟩
    subst h1
    rcases Decidable.em (mx = 0) with h2 | h2
    rotate_left
    · have m2 : (mx == 0) = false := by simpa using h2
      have hb : HP.okB (.mk 1 is ng 0 mx a n cap l) = false := by simp [HP.okB, h2]
      replace hb := Lib.hid hb
      go_enter Tryz.func72, Tryz.ntmps72
      go_wp2_with fail
      go_ret
      exact ⟨_, rfl, by rw [hb.out]; simp, (by repeat (first | exact Ext.refl _ | assumption | refine Ext.drew ?_ | refine Ext.drewN ?_ _ | refine Ext.alloc ?_ _ | refine Ext.trans ?_ (by assumption)))⟩
    subst h2
    rcases Nat.eq_zero_or_pos n with h3 | h3
    rotate_left
    · have m3 : (0 : Int) < (n : Int) := by omega
      have h4 : l ≠ [] := fun e => by subst e; simp at hn; omega
      replace hn := Lib.hid hn
      have hb : HP.okB (.mk 1 is ng 0 0 a n cap l) = false := by simp [HP.okB, h4]
      replace hb := Lib.hid hb
      go_enter Tryz.func72, Tryz.ntmps72
      go_wp2_with fail
      go_ret
      exact ⟨_, rfl, by rw [hb.out]; simp, (by repeat (first | exact Ext.refl _ | assumption | refine Ext.drew ?_ | refine Ext.drewN ?_ _ | refine Ext.alloc ?_ _ | refine Ext.trans ?_ (by assumption)))⟩
    subst h3
    have h4 : l = [] := List.eq_nil_of_length_eq_zero hn
    subst h4
    clear hn
    have hb : HP.okB (.mk 1 is ng 0 0 a 0 cap []) = is.ok := by simp [HP.okB]
    replace hb := Lib.hid hb
    cases h1 : is.ok
    · go_enter Tryz.func72, Tryz.ntmps72
      go_wp2_with fail
      refine (cbool (patvalid_any is _) h1).mono ?_
      rintro e w1 ⟨rfl, hx1⟩
      go_wp2_with fail
      go_ret
      exact ⟨_, rfl, by rw [hb.out, h1]; simp, (by repeat (first | exact Ext.refl _ | assumption | refine Ext.drew ?_ | refine Ext.drewN ?_ _ | refine Ext.alloc ?_ _ | refine Ext.trans ?_ (by assumption)))⟩
    · go_enter Tryz.func72, Tryz.ntmps72
      go_wp2_with fail
      refine (cbool (patvalid_any is _) h1).mono ?_
      rintro e w1 ⟨rfl, hx1⟩
      go_wp2_with fail
      go_ret
      exact ⟨_, rfl, by rw [hb.out, h1]; simp, (by repeat (first | exact Ext.refl _ | assumption | refine Ext.drew ?_ | refine Ext.drewN ?_ _ | refine Ext.alloc ?_ _ | refine Ext.trans ?_ (by assumption)))⟩
  show Calls Tryz.prog 72 #[.agg #[.int .i64 kd, .int .u32 is.p.toNat, .int .u32 is.m.toNat, .bool ng, .int .i64 mn, .int .i64 mx, .slice a n cap]] w _
  rcases Decidable.em (kd = 0) with h0 | h0
  · subst h0; clear k1
    rcases Decidable.em (is = z0S) with h7 | h7
    rotate_left
    · have hne : ∀ w, (binOp .neq 52 (.agg #[.int .u32 is.p.toNat, .int .u32 is.m.toNat]) (.agg #[.int .u32 0, .int .u32 0])).run Tryz.prog w = .ok (.bool true) w := fun w => by
        have := neq_snd is z0S w
        rw [decide_eq_false h7] at this
        exact this
      have h8 := z0_not h7
      replace h7 := Lib.hid h7
      replace hn := Lib.hid hn
      have hb : HP.okB (.mk 0 is ng mn mx a n cap l) = false := by simp [HP.okB, h8]
      replace hb := Lib.hid hb
      go_enter Tryz.func72, Tryz.ntmps72
      go_wp2_with fail
      go_ret
      exact ⟨_, rfl, by rw [hb.out]; simp, (by repeat (first | exact Ext.refl _ | assumption | refine Ext.drew ?_ | refine Ext.drewN ?_ _ | refine Ext.alloc ?_ _ | refine Ext.trans ?_ (by assumption)))⟩
    subst h7
    cases ng
    rotate_left
    · replace hn := Lib.hid hn
      have hb : HP.okB (.mk 0 ⟨0#32, 0#32⟩ true mn mx a n cap l) = false := by simp [HP.okB]
      replace hb := Lib.hid hb
      change Calls Tryz.prog 72 #[.agg #[.int .i64 0, .int .u32 0, .int .u32 0, .bool true, .int .i64 mn, .int .i64 mx, .slice a n cap]] w (RetA (HP.mk 0 ⟨0#32, 0#32⟩ true mn mx a n cap l) w)
      go_enter Tryz.func72, Tryz.ntmps72
      go_wp2_with fail
      go_ret
      exact ⟨_, rfl, by rw [hb.out]; simp, (by repeat (first | exact Ext.refl _ | assumption | refine Ext.drew ?_ | refine Ext.drewN ?_ _ | refine Ext.alloc ?_ _ | refine Ext.trans ?_ (by assumption)))⟩
    rcases Decidable.em (mn = 0) with h1 | h1
    rotate_left
    · have m1 : (mn == 0) = false := by simpa using h1
      replace hn := Lib.hid hn
      change Calls Tryz.prog 72 #[.agg #[.int .i64 _, .int .u32 0, .int .u32 0, .bool false, .int .i64 _, .int .i64 _, .slice a _ cap]] w (RetA (HP.mk _ ⟨0#32, 0#32⟩ false _ _ a _ cap l) w)
      have hb : HP.okB (.mk 0 ⟨0#32, 0#32⟩ false mn mx a n cap l) = false := by simp [HP.okB, h1]
      replace hb := Lib.hid hb
      go_enter Tryz.func72, Tryz.ntmps72
      go_wp2_with fail
      go_ret
      exact ⟨_, rfl, by rw [hb.out]; simp, (by repeat (first | exact Ext.refl _ | assumption | refine Ext.drew ?_ | refine Ext.drewN ?_ _ | refine Ext.alloc ?_ _ | refine Ext.trans ?_ (by assumption)))⟩
    subst h1
    rcases Decidable.em (mx = 0) with h2 | h2
    rotate_left
    · have m2 : (mx == 0) = false := by simpa using h2
      replace hn := Lib.hid hn
      change Calls Tryz.prog 72 #[.agg #[.int .i64 _, .int .u32 0, .int .u32 0, .bool false, .int .i64 _, .int .i64 _, .slice a _ cap]] w (RetA (HP.mk _ ⟨0#32, 0#32⟩ false _ _ a _ cap l) w)
      have hb : HP.okB (.mk 0 ⟨0#32, 0#32⟩ false 0 mx a n cap l) = false := by simp [HP.okB, h2]
      replace hb := Lib.hid hb
      go_enter Tryz.func72, Tryz.ntmps72
      go_wp2_with fail
      go_ret
      exact ⟨_, rfl, by rw [hb.out]; simp, (by repeat (first | exact Ext.refl _ | assumption | refine Ext.drew ?_ | refine Ext.drewN ?_ _ | refine Ext.alloc ?_ _ | refine Ext.trans ?_ (by assumption)))⟩
    subst h2
    rcases Nat.eq_zero_or_pos n with h3 | h3
    rotate_left
    · have m3 : (0 : Int) < (n : Int) := by omega
      have h4 : l ≠ [] := fun e => by subst e; simp at hn; omega
      replace hn := Lib.hid hn
      change Calls Tryz.prog 72 #[.agg #[.int .i64 _, .int .u32 0, .int .u32 0, .bool false, .int .i64 _, .int .i64 _, .slice a _ cap]] w (RetA (HP.mk _ ⟨0#32, 0#32⟩ false _ _ a _ cap l) w)
      have hb : HP.okB (.mk 0 ⟨0#32, 0#32⟩ false 0 0 a n cap l) = false := by simp [HP.okB, h4]
      replace hb := Lib.hid hb
      go_enter Tryz.func72, Tryz.ntmps72
      go_wp2_with fail
      go_ret
      exact ⟨_, rfl, by rw [hb.out]; simp, (by repeat (first | exact Ext.refl _ | assumption | refine Ext.drew ?_ | refine Ext.drewN ?_ _ | refine Ext.alloc ?_ _ | refine Ext.trans ?_ (by assumption)))⟩
    subst h3
    have h4 : l = [] := List.eq_nil_of_length_eq_zero hn
    subst h4
    clear hn
    change Calls Tryz.prog 72 #[.agg #[.int .i64 _, .int .u32 0, .int .u32 0, .bool false, .int .i64 _, .int .i64 _, .slice a _ cap]] w (RetA (HP.mk _ ⟨0#32, 0#32⟩ false _ _ a _ cap []) w)
    have hb : HP.okB (.mk 0 ⟨0#32, 0#32⟩ false 0 0 a 0 cap []) = true := by simp [HP.okB]
    replace hb := Lib.hid hb
    go_enter Tryz.func72, Tryz.ntmps72
    go_wp2_with fail
    refine (cbool (patvalid_any ⟨0#32, 0#32⟩ _) (b := true) rfl).mono ?_
    rintro e w1 ⟨rfl, hx1⟩
    go_wp2_with fail
    go_ret
    exact ⟨_, rfl, by rw [hb.out]; simp, (by repeat (first | exact Ext.refl _ | assumption | refine Ext.drew ?_ | refine Ext.drewN ?_ _ | refine Ext.alloc ?_ _ | refine Ext.trans ?_ (by assumption)))⟩
  rcases Decidable.em (kd = 2) with h2 | h2
  · subst h2; clear k1 h0
    rcases Decidable.em (is = z0S) with h7 | h7
    rotate_left
    · have hne : ∀ w, (binOp .neq 52 (.agg #[.int .u32 is.p.toNat, .int .u32 is.m.toNat]) (.agg #[.int .u32 0, .int .u32 0])).run Tryz.prog w = .ok (.bool true) w := fun w => by
        have := neq_snd is z0S w
        rw [decide_eq_false h7] at this
        exact this
      have h8 := z0_not h7
      replace h7 := Lib.hid h7
      replace hn := Lib.hid hn
      have hb : HP.okB (.mk 2 is ng mn mx a n cap l) = false := by simp [HP.okB, h8]
      replace hb := Lib.hid hb
      go_enter Tryz.func72, Tryz.ntmps72
      go_wp2_with fail
      go_ret
      exact ⟨_, rfl, by rw [hb.out]; simp, (by repeat (first | exact Ext.refl _ | assumption | refine Ext.drew ?_ | refine Ext.drewN ?_ _ | refine Ext.alloc ?_ _ | refine Ext.trans ?_ (by assumption)))⟩
    subst h7
    cases ng
    rotate_left
    · replace hn := Lib.hid hn
      have hb : HP.okB (.mk 2 ⟨0#32, 0#32⟩ true mn mx a n cap l) = false := by simp [HP.okB]
      replace hb := Lib.hid hb
      change Calls Tryz.prog 72 #[.agg #[.int .i64 2, .int .u32 0, .int .u32 0, .bool true, .int .i64 mn, .int .i64 mx, .slice a n cap]] w (RetA (HP.mk 2 ⟨0#32, 0#32⟩ true mn mx a n cap l) w)
      go_enter Tryz.func72, Tryz.ntmps72
      go_wp2_with fail
      go_ret
      exact ⟨_, rfl, by rw [hb.out]; simp, (by repeat (first | exact Ext.refl _ | assumption | refine Ext.drew ?_ | refine Ext.drewN ?_ _ | refine Ext.alloc ?_ _ | refine Ext.trans ?_ (by assumption)))⟩
    rcases Decidable.em (mn = 0) with h1 | h1
    rotate_left
    · have m1 : (mn == 0) = false := by simpa using h1
      replace hn := Lib.hid hn
      change Calls Tryz.prog 72 #[.agg #[.int .i64 _, .int .u32 0, .int .u32 0, .bool false, .int .i64 _, .int .i64 _, .slice a _ cap]] w (RetA (HP.mk _ ⟨0#32, 0#32⟩ false _ _ a _ cap l) w)
      have hb : HP.okB (.mk 2 ⟨0#32, 0#32⟩ false mn mx a n cap l) = false := by simp [HP.okB, h1]
      replace hb := Lib.hid hb
      go_enter Tryz.func72, Tryz.ntmps72
      go_wp2_with fail
      go_ret
      exact ⟨_, rfl, by rw [hb.out]; simp, (by repeat (first | exact Ext.refl _ | assumption | refine Ext.drew ?_ | refine Ext.drewN ?_ _ | refine Ext.alloc ?_ _ | refine Ext.trans ?_ (by assumption)))⟩
    subst h1
    rcases Decidable.em (mx = 0) with h2 | h2
    rotate_left
    · have m2 : (mx == 0) = false := by simpa using h2
      replace hn := Lib.hid hn
      change Calls Tryz.prog 72 #[.agg #[.int .i64 _, .int .u32 0, .int .u32 0, .bool false, .int .i64 _, .int .i64 _, .slice a _ cap]] w (RetA (HP.mk _ ⟨0#32, 0#32⟩ false _ _ a _ cap l) w)
      have hb : HP.okB (.mk 2 ⟨0#32, 0#32⟩ false 0 mx a n cap l) = false := by simp [HP.okB, h2]
      replace hb := Lib.hid hb
      go_enter Tryz.func72, Tryz.ntmps72
      go_wp2_with fail
      go_ret
      exact ⟨_, rfl, by rw [hb.out]; simp, (by repeat (first | exact Ext.refl _ | assumption | refine Ext.drew ?_ | refine Ext.drewN ?_ _ | refine Ext.alloc ?_ _ | refine Ext.trans ?_ (by assumption)))⟩
    subst h2
    rcases Nat.eq_zero_or_pos n with h3 | h3
    rotate_left
    · have m3 : (0 : Int) < (n : Int) := by omega
      have h4 : l ≠ [] := fun e => by subst e; simp at hn; omega
      replace hn := Lib.hid hn
      change Calls Tryz.prog 72 #[.agg #[.int .i64 _, .int .u32 0, .int .u32 0, .bool false, .int .i64 _, .int .i64 _, .slice a _ cap]] w (RetA (HP.mk _ ⟨0#32, 0#32⟩ false _ _ a _ cap l) w)
      have hb : HP.okB (.mk 2 ⟨0#32, 0#32⟩ false 0 0 a n cap l) = false := by simp [HP.okB, h4]
      replace hb := Lib.hid hb
      go_enter Tryz.func72, Tryz.ntmps72
      go_wp2_with fail
      go_ret
      exact ⟨_, rfl, by rw [hb.out]; simp, (by repeat (first | exact Ext.refl _ | assumption | refine Ext.drew ?_ | refine Ext.drewN ?_ _ | refine Ext.alloc ?_ _ | refine Ext.trans ?_ (by assumption)))⟩
    subst h3
    have h4 : l = [] := List.eq_nil_of_length_eq_zero hn
    subst h4
    clear hn
    change Calls Tryz.prog 72 #[.agg #[.int .i64 _, .int .u32 0, .int .u32 0, .bool false, .int .i64 _, .int .i64 _, .slice a _ cap]] w (RetA (HP.mk _ ⟨0#32, 0#32⟩ false _ _ a _ cap []) w)
    have hb : HP.okB (.mk 2 ⟨0#32, 0#32⟩ false 0 0 a 0 cap []) = true := by simp [HP.okB]
    replace hb := Lib.hid hb
    go_enter Tryz.func72, Tryz.ntmps72
    go_wp2_with fail
    refine (cbool (patvalid_any ⟨0#32, 0#32⟩ _) (b := true) rfl).mono ?_
    rintro e w1 ⟨rfl, hx1⟩
    go_wp2_with fail
    go_ret
    exact ⟨_, rfl, by rw [hb.out]; simp, (by repeat (first | exact Ext.refl _ | assumption | refine Ext.drew ?_ | refine Ext.drewN ?_ _ | refine Ext.alloc ?_ _ | refine Ext.trans ?_ (by assumption)))⟩
  rcases Decidable.em (kd = 6) with h6 | h6
  · subst h6; clear k1 h0 h2
    rcases Decidable.em (is = z0S) with h7 | h7
    rotate_left
    · have hne : ∀ w, (binOp .neq 52 (.agg #[.int .u32 is.p.toNat, .int .u32 is.m.toNat]) (.agg #[.int .u32 0, .int .u32 0])).run Tryz.prog w = .ok (.bool true) w := fun w => by
        have := neq_snd is z0S w
        rw [decide_eq_false h7] at this
        exact this
      have h8 := z0_not h7
      replace h7 := Lib.hid h7
      replace hn := Lib.hid hn
      have hb : HP.okB (.mk 6 is ng mn mx a n cap l) = false := by simp [HP.okB, h8]
      replace hb := Lib.hid hb
      go_enter Tryz.func72, Tryz.ntmps72
      go_wp2_with fail
      go_ret
      exact ⟨_, rfl, by rw [hb.out]; simp, (by repeat (first | exact Ext.refl _ | assumption | refine Ext.drew ?_ | refine Ext.drewN ?_ _ | refine Ext.alloc ?_ _ | refine Ext.trans ?_ (by assumption)))⟩
    subst h7
    cases ng
    rotate_left
    · replace hn := Lib.hid hn
      have hb : HP.okB (.mk 6 ⟨0#32, 0#32⟩ true mn mx a n cap l) = false := by simp [HP.okB]
      replace hb := Lib.hid hb
      change Calls Tryz.prog 72 #[.agg #[.int .i64 6, .int .u32 0, .int .u32 0, .bool true, .int .i64 mn, .int .i64 mx, .slice a n cap]] w (RetA (HP.mk 6 ⟨0#32, 0#32⟩ true mn mx a n cap l) w)
      go_enter Tryz.func72, Tryz.ntmps72
      go_wp2_with fail
      go_ret
      exact ⟨_, rfl, by rw [hb.out]; simp, (by repeat (first | exact Ext.refl _ | assumption | refine Ext.drew ?_ | refine Ext.drewN ?_ _ | refine Ext.alloc ?_ _ | refine Ext.trans ?_ (by assumption)))⟩
    rcases Decidable.em (mn = 0) with h1 | h1
    rotate_left
    · have m1 : (mn == 0) = false := by simpa using h1
      replace hn := Lib.hid hn
      change Calls Tryz.prog 72 #[.agg #[.int .i64 _, .int .u32 0, .int .u32 0, .bool false, .int .i64 _, .int .i64 _, .slice a _ cap]] w (RetA (HP.mk _ ⟨0#32, 0#32⟩ false _ _ a _ cap l) w)
      have hb : HP.okB (.mk 6 ⟨0#32, 0#32⟩ false mn mx a n cap l) = false := by simp [HP.okB, h1]
      replace hb := Lib.hid hb
      go_enter Tryz.func72, Tryz.ntmps72
      go_wp2_with fail
      go_ret
      exact ⟨_, rfl, by rw [hb.out]; simp, (by repeat (first | exact Ext.refl _ | assumption | refine Ext.drew ?_ | refine Ext.drewN ?_ _ | refine Ext.alloc ?_ _ | refine Ext.trans ?_ (by assumption)))⟩
    subst h1
    rcases Decidable.em (mx = 0) with h2 | h2
    rotate_left
    · have m2 : (mx == 0) = false := by simpa using h2
      replace hn := Lib.hid hn
      change Calls Tryz.prog 72 #[.agg #[.int .i64 _, .int .u32 0, .int .u32 0, .bool false, .int .i64 _, .int .i64 _, .slice a _ cap]] w (RetA (HP.mk _ ⟨0#32, 0#32⟩ false _ _ a _ cap l) w)
      have hb : HP.okB (.mk 6 ⟨0#32, 0#32⟩ false 0 mx a n cap l) = false := by simp [HP.okB, h2]
      replace hb := Lib.hid hb
      go_enter Tryz.func72, Tryz.ntmps72
      go_wp2_with fail
      go_ret
      exact ⟨_, rfl, by rw [hb.out]; simp, (by repeat (first | exact Ext.refl _ | assumption | refine Ext.drew ?_ | refine Ext.drewN ?_ _ | refine Ext.alloc ?_ _ | refine Ext.trans ?_ (by assumption)))⟩
    subst h2
    rcases Nat.eq_zero_or_pos n with h3 | h3
    rotate_left
    · have m3 : (0 : Int) < (n : Int) := by omega
      have h4 : l ≠ [] := fun e => by subst e; simp at hn; omega
      replace hn := Lib.hid hn
      change Calls Tryz.prog 72 #[.agg #[.int .i64 _, .int .u32 0, .int .u32 0, .bool false, .int .i64 _, .int .i64 _, .slice a _ cap]] w (RetA (HP.mk _ ⟨0#32, 0#32⟩ false _ _ a _ cap l) w)
      have hb : HP.okB (.mk 6 ⟨0#32, 0#32⟩ false 0 0 a n cap l) = false := by simp [HP.okB, h4]
      replace hb := Lib.hid hb
      go_enter Tryz.func72, Tryz.ntmps72
      go_wp2_with fail
      go_ret
      exact ⟨_, rfl, by rw [hb.out]; simp, (by repeat (first | exact Ext.refl _ | assumption | refine Ext.drew ?_ | refine Ext.drewN ?_ _ | refine Ext.alloc ?_ _ | refine Ext.trans ?_ (by assumption)))⟩
    subst h3
    have h4 : l = [] := List.eq_nil_of_length_eq_zero hn
    subst h4
    clear hn
    change Calls Tryz.prog 72 #[.agg #[.int .i64 _, .int .u32 0, .int .u32 0, .bool false, .int .i64 _, .int .i64 _, .slice a _ cap]] w (RetA (HP.mk _ ⟨0#32, 0#32⟩ false _ _ a _ cap []) w)
    have hb : HP.okB (.mk 6 ⟨0#32, 0#32⟩ false 0 0 a 0 cap []) = true := by simp [HP.okB]
    replace hb := Lib.hid hb
    go_enter Tryz.func72, Tryz.ntmps72
    go_wp2_with fail
    refine (cbool (patvalid_any ⟨0#32, 0#32⟩ _) (b := true) rfl).mono ?_
    rintro e w1 ⟨rfl, hx1⟩
    go_wp2_with fail
    go_ret
    exact ⟨_, rfl, by rw [hb.out]; simp, (by repeat (first | exact Ext.refl _ | assumption | refine Ext.drew ?_ | refine Ext.drewN ?_ _ | refine Ext.alloc ?_ _ | refine Ext.trans ?_ (by assumption)))⟩
  rcases Decidable.em (kd = 3) with h3 | h3
  · subst h3; clear k1 h0 h2 h6
    rcases Decidable.em (is = z0S) with h7 | h7
    rotate_left
    · have hne : ∀ w, (binOp .neq 52 (.agg #[.int .u32 is.p.toNat, .int .u32 is.m.toNat]) (.agg #[.int .u32 0, .int .u32 0])).run Tryz.prog w = .ok (.bool true) w := fun w => by
        have := neq_snd is z0S w
        rw [decide_eq_false h7] at this
        exact this
      have h8 := z0_not h7
      replace h7 := Lib.hid h7
      replace hn := Lib.hid hn
      have hb : HP.okB (.mk 3 is ng mn mx a n cap l) = false := by simp [HP.okB, h8]
      replace hb := Lib.hid hb
      go_enter Tryz.func72, Tryz.ntmps72
      go_wp2_with fail
      go_ret
      exact ⟨_, rfl, by rw [hb.out]; simp, (by repeat (first | exact Ext.refl _ | assumption | refine Ext.drew ?_ | refine Ext.drewN ?_ _ | refine Ext.alloc ?_ _ | refine Ext.trans ?_ (by assumption)))⟩
    subst h7
    cases ng
    rotate_left
    · replace hn := Lib.hid hn
      have hb : HP.okB (.mk 3 ⟨0#32, 0#32⟩ true mn mx a n cap l) = false := by simp [HP.okB]
      replace hb := Lib.hid hb
      change Calls Tryz.prog 72 #[.agg #[.int .i64 3, .int .u32 0, .int .u32 0, .bool true, .int .i64 mn, .int .i64 mx, .slice a n cap]] w (RetA (HP.mk 3 ⟨0#32, 0#32⟩ true mn mx a n cap l) w)
      go_enter Tryz.func72, Tryz.ntmps72
      go_wp2_with fail
      go_ret
      exact ⟨_, rfl, by rw [hb.out]; simp, (by repeat (first | exact Ext.refl _ | assumption | refine Ext.drew ?_ | refine Ext.drewN ?_ _ | refine Ext.alloc ?_ _ | refine Ext.trans ?_ (by assumption)))⟩
    rcases Decidable.em (mn = 0) with h1 | h1
    rotate_left
    · have m1 : (mn == 0) = false := by simpa using h1
      replace hn := Lib.hid hn
      change Calls Tryz.prog 72 #[.agg #[.int .i64 _, .int .u32 0, .int .u32 0, .bool false, .int .i64 _, .int .i64 _, .slice a _ cap]] w (RetA (HP.mk _ ⟨0#32, 0#32⟩ false _ _ a _ cap l) w)
      have hb : HP.okB (.mk 3 ⟨0#32, 0#32⟩ false mn mx a n cap l) = false := by simp [HP.okB, h1]
      replace hb := Lib.hid hb
      go_enter Tryz.func72, Tryz.ntmps72
      go_wp2_with fail
      go_ret
      exact ⟨_, rfl, by rw [hb.out]; simp, (by repeat (first | exact Ext.refl _ | assumption | refine Ext.drew ?_ | refine Ext.drewN ?_ _ | refine Ext.alloc ?_ _ | refine Ext.trans ?_ (by assumption)))⟩
    subst h1
    rcases Decidable.em (mx = 0) with h2 | h2
    rotate_left
    · have m2 : (mx == 0) = false := by simpa using h2
      replace hn := Lib.hid hn
      change Calls Tryz.prog 72 #[.agg #[.int .i64 _, .int .u32 0, .int .u32 0, .bool false, .int .i64 _, .int .i64 _, .slice a _ cap]] w (RetA (HP.mk _ ⟨0#32, 0#32⟩ false _ _ a _ cap l) w)
      have hb : HP.okB (.mk 3 ⟨0#32, 0#32⟩ false 0 mx a n cap l) = false := by simp [HP.okB, h2]
      replace hb := Lib.hid hb
      go_enter Tryz.func72, Tryz.ntmps72
      go_wp2_with fail
      go_ret
      exact ⟨_, rfl, by rw [hb.out]; simp, (by repeat (first | exact Ext.refl _ | assumption | refine Ext.drew ?_ | refine Ext.drewN ?_ _ | refine Ext.alloc ?_ _ | refine Ext.trans ?_ (by assumption)))⟩
    subst h2
    replace hn := Lib.hid hn
    change Calls Tryz.prog 72 #[.agg #[.int .i64 _, .int .u32 0, .int .u32 0, .bool false, .int .i64 _, .int .i64 _, .slice a _ cap]] w (RetA (HP.mk _ ⟨0#32, 0#32⟩ false _ _ a _ cap l) w)
    have hb : HP.okB (.mk 3 ⟨0#32, 0#32⟩ false 0 0 a n cap l) = true := by simp [HP.okB]
    replace hb := Lib.hid hb
    go_enter Tryz.func72, Tryz.ntmps72
    go_wp2_with fail
    refine (cbool (patvalid_any ⟨0#32, 0#32⟩ _) (b := true) rfl).mono ?_
    rintro e w1 ⟨rfl, hx1⟩
    go_wp2_with fail
    go_ret
    exact ⟨_, rfl, by rw [hb.out]; simp, (by repeat (first | exact Ext.refl _ | assumption | refine Ext.drew ?_ | refine Ext.drewN ?_ _ | refine Ext.alloc ?_ _ | refine Ext.trans ?_ (by assumption)))⟩
  rcases Decidable.em (kd = 4) with h4 | h4
  · subst h4; clear k1 h0 h2 h6 h3
    rcases Decidable.em (is = z0S) with h7 | h7
    rotate_left
    · have hne : ∀ w, (binOp .neq 52 (.agg #[.int .u32 is.p.toNat, .int .u32 is.m.toNat]) (.agg #[.int .u32 0, .int .u32 0])).run Tryz.prog w = .ok (.bool true) w := fun w => by
        have := neq_snd is z0S w
        rw [decide_eq_false h7] at this
        exact this
      have h8 := z0_not h7
      replace h7 := Lib.hid h7
      replace hn := Lib.hid hn
      have hb : HP.okB (.mk 4 is ng mn mx a n cap l) = false := by simp [HP.okB, h8]
      replace hb := Lib.hid hb
      go_enter Tryz.func72, Tryz.ntmps72
      go_wp2_with fail
      go_ret
      exact ⟨_, rfl, by rw [hb.out]; simp, (by repeat (first | exact Ext.refl _ | assumption | refine Ext.drew ?_ | refine Ext.drewN ?_ _ | refine Ext.alloc ?_ _ | refine Ext.trans ?_ (by assumption)))⟩
    subst h7
    cases ng
    rotate_left
    · replace hn := Lib.hid hn
      have hb : HP.okB (.mk 4 ⟨0#32, 0#32⟩ true mn mx a n cap l) = false := by simp [HP.okB]
      replace hb := Lib.hid hb
      change Calls Tryz.prog 72 #[.agg #[.int .i64 4, .int .u32 0, .int .u32 0, .bool true, .int .i64 mn, .int .i64 mx, .slice a n cap]] w (RetA (HP.mk 4 ⟨0#32, 0#32⟩ true mn mx a n cap l) w)
      go_enter Tryz.func72, Tryz.ntmps72
      go_wp2_with fail
      go_ret
      exact ⟨_, rfl, by rw [hb.out]; simp, (by repeat (first | exact Ext.refl _ | assumption | refine Ext.drew ?_ | refine Ext.drewN ?_ _ | refine Ext.alloc ?_ _ | refine Ext.trans ?_ (by assumption)))⟩
    rcases Decidable.em (mn = 0) with h1 | h1
    rotate_left
    · have m1 : (mn == 0) = false := by simpa using h1
      replace hn := Lib.hid hn
      change Calls Tryz.prog 72 #[.agg #[.int .i64 _, .int .u32 0, .int .u32 0, .bool false, .int .i64 _, .int .i64 _, .slice a _ cap]] w (RetA (HP.mk _ ⟨0#32, 0#32⟩ false _ _ a _ cap l) w)
      have hb : HP.okB (.mk 4 ⟨0#32, 0#32⟩ false mn mx a n cap l) = false := by simp [HP.okB, h1]
      replace hb := Lib.hid hb
      go_enter Tryz.func72, Tryz.ntmps72
      go_wp2_with fail
      go_ret
      exact ⟨_, rfl, by rw [hb.out]; simp, (by repeat (first | exact Ext.refl _ | assumption | refine Ext.drew ?_ | refine Ext.drewN ?_ _ | refine Ext.alloc ?_ _ | refine Ext.trans ?_ (by assumption)))⟩
    subst h1
    rcases Decidable.em (mx = 0) with h2 | h2
    rotate_left
    · have m2 : (mx == 0) = false := by simpa using h2
      replace hn := Lib.hid hn
      change Calls Tryz.prog 72 #[.agg #[.int .i64 _, .int .u32 0, .int .u32 0, .bool false, .int .i64 _, .int .i64 _, .slice a _ cap]] w (RetA (HP.mk _ ⟨0#32, 0#32⟩ false _ _ a _ cap l) w)
      have hb : HP.okB (.mk 4 ⟨0#32, 0#32⟩ false 0 mx a n cap l) = false := by simp [HP.okB, h2]
      replace hb := Lib.hid hb
      go_enter Tryz.func72, Tryz.ntmps72
      go_wp2_with fail
      go_ret
      exact ⟨_, rfl, by rw [hb.out]; simp, (by repeat (first | exact Ext.refl _ | assumption | refine Ext.drew ?_ | refine Ext.drewN ?_ _ | refine Ext.alloc ?_ _ | refine Ext.trans ?_ (by assumption)))⟩
    subst h2
    replace hn := Lib.hid hn
    change Calls Tryz.prog 72 #[.agg #[.int .i64 _, .int .u32 0, .int .u32 0, .bool false, .int .i64 _, .int .i64 _, .slice a _ cap]] w (RetA (HP.mk _ ⟨0#32, 0#32⟩ false _ _ a _ cap l) w)
    have hb : HP.okB (.mk 4 ⟨0#32, 0#32⟩ false 0 0 a n cap l) = true := by simp [HP.okB]
    replace hb := Lib.hid hb
    go_enter Tryz.func72, Tryz.ntmps72
    go_wp2_with fail
    refine (cbool (patvalid_any ⟨0#32, 0#32⟩ _) (b := true) rfl).mono ?_
    rintro e w1 ⟨rfl, hx1⟩
    go_wp2_with fail
    go_ret
    exact ⟨_, rfl, by rw [hb.out]; simp, (by repeat (first | exact Ext.refl _ | assumption | refine Ext.drew ?_ | refine Ext.drewN ?_ _ | refine Ext.alloc ?_ _ | refine Ext.trans ?_ (by assumption)))⟩
  rcases Decidable.em (kd = 5) with h5 | h5
  · subst h5; clear k1 h0 h2 h6 h3 h4
    rcases Decidable.em (n = 1) with hn1 | hn1
    rotate_left
    · have m0 : ((n : Int) == 1) = false := by simp; omega
      have m0' : ¬ (n : Int) = 1 := by omega
      have hl1 : ¬ l.length = 1 := by rw [hn]; exact hn1
      replace hn := Lib.hid hn
      replace hn1 := Lib.hid hn1
      have hb : HP.okB (.mk 5 is ng mn mx a n cap l) = false := by simp [HP.okB, hl1]
      replace hb := Lib.hid hb
      go_enter Tryz.func72, Tryz.ntmps72
      go_wp2_with fail
      go_ret
      exact ⟨_, rfl, by rw [hb.out]; simp, (by repeat (first | exact Ext.refl _ | assumption | refine Ext.drew ?_ | refine Ext.drewN ?_ _ | refine Ext.alloc ?_ _ | refine Ext.trans ?_ (by assumption)))⟩
    subst hn1
    rcases Decidable.em (mn < 0) with g1 | g1
    · have m1 : decide (mn < 0) = true := by simpa using g1
      replace hn := Lib.hid hn
      have g2 : ¬ 0 ≤ mn := by omega
      have hb : HP.okB (.mk 5 is ng mn mx a 1 cap l) = false := by simp [HP.okB, g2]
      replace hb := Lib.hid hb
      go_enter Tryz.func72, Tryz.ntmps72
      go_wp2_with fail
      go_ret
      exact ⟨_, rfl, by rw [hb.out]; simp, (by repeat (first | exact Ext.refl _ | assumption | refine Ext.drew ?_ | refine Ext.drewN ?_ _ | refine Ext.alloc ?_ _ | refine Ext.trans ?_ (by assumption)))⟩
    have m1 : decide (mn < 0) = false := by simp; omega
    rcases Decidable.em (32 < mn) with g2 | g2
    · have m2 : decide (32 < mn) = true := by simpa using g2
      replace hn := Lib.hid hn
      have g3 : ¬ mn ≤ 32 := by omega
      have hb : HP.okB (.mk 5 is ng mn mx a 1 cap l) = false := by simp [HP.okB, g3]
      replace hb := Lib.hid hb
      go_enter Tryz.func72, Tryz.ntmps72
      go_wp2_with fail
      go_ret
      exact ⟨_, rfl, by rw [hb.out]; simp, (by repeat (first | exact Ext.refl _ | assumption | refine Ext.drew ?_ | refine Ext.drewN ?_ _ | refine Ext.alloc ?_ _ | refine Ext.trans ?_ (by assumption)))⟩
    have m2 : decide (32 < mn) = false := by simp; omega
    have p1 : 0 ≤ mn := by omega
    have p2 : mn ≤ 32 := by omega
    replace g1 := Lib.hid g1
    replace g2 := Lib.hid g2
    rcases Decidable.em (mx = -1) with g3 | g3
    · subst g3
      rcases Decidable.em (is = z0S) with h7 | h7
      rotate_left
      · have hne : ∀ w, (binOp .neq 52 (.agg #[.int .u32 is.p.toNat, .int .u32 is.m.toNat]) (.agg #[.int .u32 0, .int .u32 0])).run Tryz.prog w = .ok (.bool true) w := fun w => by
          have := neq_snd is z0S w
          rw [decide_eq_false h7] at this
          exact this
        have h8 := z0_not h7
        replace h7 := Lib.hid h7
        replace hn := Lib.hid hn
        have hb : HP.okB (.mk 5 is ng mn (-1) a 1 cap l) = false := by simp [HP.okB, h8]
        replace hb := Lib.hid hb
        go_enter Tryz.func72, Tryz.ntmps72
        go_wp2_with fail
        go_ret
        exact ⟨_, rfl, by rw [hb.out]; simp, (by repeat (first | exact Ext.refl _ | assumption | refine Ext.drew ?_ | refine Ext.drewN ?_ _ | refine Ext.alloc ?_ _ | refine Ext.trans ?_ (by assumption)))⟩
      subst h7
      cases ng
      rotate_left
      · replace hn := Lib.hid hn
        have hb : HP.okB (.mk 5 ⟨0#32, 0#32⟩ true mn (-1) a 1 cap l) = false := by simp [HP.okB]
        replace hb := Lib.hid hb
        change Calls Tryz.prog 72 #[.agg #[.int .i64 5, .int .u32 0, .int .u32 0, .bool true, .int .i64 mn, .int .i64 (-1), .slice a 1 cap]] w (RetA (HP.mk 5 ⟨0#32, 0#32⟩ true mn (-1) a 1 cap l) w)
        go_enter Tryz.func72, Tryz.ntmps72
        go_wp2_with fail
        go_ret
        exact ⟨_, rfl, by rw [hb.out]; simp, (by repeat (first | exact Ext.refl _ | assumption | refine Ext.drew ?_ | refine Ext.drewN ?_ _ | refine Ext.alloc ?_ _ | refine Ext.trans ?_ (by assumption)))⟩
      have hl1 := hn
      replace hn := Lib.hid hn
      change Calls Tryz.prog 72 #[.agg #[.int .i64 _, .int .u32 0, .int .u32 0, .bool false, .int .i64 _, .int .i64 _, .slice a _ cap]] w (RetA (HP.mk _ ⟨0#32, 0#32⟩ false _ _ a _ cap l) w)
      have hb : HP.okB (.mk 5 ⟨0#32, 0#32⟩ false mn (-1) a 1 cap l) = true := by simp [HP.okB, hl1, p1, p2]
      replace hb := Lib.hid hb
      go_enter Tryz.func72, Tryz.ntmps72
      go_wp2_with fail
      refine (cbool (patvalid_any ⟨0#32, 0#32⟩ _) (b := true) rfl).mono ?_
      rintro e w1 ⟨rfl, hx1⟩
      go_wp2_with fail
      go_ret
      exact ⟨_, rfl, by rw [hb.out]; simp, (by repeat (first | exact Ext.refl _ | assumption | refine Ext.drew ?_ | refine Ext.drewN ?_ _ | refine Ext.alloc ?_ _ | refine Ext.trans ?_ (by assumption)))⟩
    have m5 : (mx == -1) = false := by simpa using g3
    rcases Decidable.em (mx < mn) with g4 | g4
    · have m3 : decide (mx < mn) = true := by simpa using g4
      replace hn := Lib.hid hn
      have g5 : ¬ mn ≤ mx := by omega
      have hb : HP.okB (.mk 5 is ng mn mx a 1 cap l) = false := by simp [HP.okB, g5, g3]
      replace hb := Lib.hid hb
      go_enter Tryz.func72, Tryz.ntmps72
      go_wp2_with fail
      go_ret
      exact ⟨_, rfl, by rw [hb.out]; simp, (by repeat (first | exact Ext.refl _ | assumption | refine Ext.drew ?_ | refine Ext.drewN ?_ _ | refine Ext.alloc ?_ _ | refine Ext.trans ?_ (by assumption)))⟩
    have m3 : decide (mx < mn) = false := by simp; omega
    rcases Decidable.em (32 < mx) with g5 | g5
    · have m4 : decide (32 < mx) = true := by simpa using g5
      replace hn := Lib.hid hn
      have g6 : ¬ mx ≤ 32 := by omega
      have hb : HP.okB (.mk 5 is ng mn mx a 1 cap l) = false := by simp [HP.okB, g6, g3]
      replace hb := Lib.hid hb
      go_enter Tryz.func72, Tryz.ntmps72
      go_wp2_with fail
      go_ret
      exact ⟨_, rfl, by rw [hb.out]; simp, (by repeat (first | exact Ext.refl _ | assumption | refine Ext.drew ?_ | refine Ext.drewN ?_ _ | refine Ext.alloc ?_ _ | refine Ext.trans ?_ (by assumption)))⟩
    have m4 : decide (32 < mx) = false := by simp; omega
    have p3 : mn ≤ mx := by omega
    have p4 : mx ≤ 32 := by omega
    replace g3 := Lib.hid g3
    replace g4 := Lib.hid g4
    replace g5 := Lib.hid g5
    rcases Decidable.em (is = z0S) with h7 | h7
    rotate_left
    · have hne : ∀ w, (binOp .neq 52 (.agg #[.int .u32 is.p.toNat, .int .u32 is.m.toNat]) (.agg #[.int .u32 0, .int .u32 0])).run Tryz.prog w = .ok (.bool true) w := fun w => by
        have := neq_snd is z0S w
        rw [decide_eq_false h7] at this
        exact this
      have h8 := z0_not h7
      replace h7 := Lib.hid h7
      replace hn := Lib.hid hn
      have hb : HP.okB (.mk 5 is ng mn mx a 1 cap l) = false := by simp [HP.okB, h8]
      replace hb := Lib.hid hb
      go_enter Tryz.func72, Tryz.ntmps72
      go_wp2_with fail
      go_ret
      exact ⟨_, rfl, by rw [hb.out]; simp, (by repeat (first | exact Ext.refl _ | assumption | refine Ext.drew ?_ | refine Ext.drewN ?_ _ | refine Ext.alloc ?_ _ | refine Ext.trans ?_ (by assumption)))⟩
    subst h7
    cases ng
    rotate_left
    · replace hn := Lib.hid hn
      have hb : HP.okB (.mk 5 ⟨0#32, 0#32⟩ true mn mx a 1 cap l) = false := by simp [HP.okB]
      replace hb := Lib.hid hb
      change Calls Tryz.prog 72 #[.agg #[.int .i64 5, .int .u32 0, .int .u32 0, .bool true, .int .i64 mn, .int .i64 mx, .slice a 1 cap]] w (RetA (HP.mk 5 ⟨0#32, 0#32⟩ true mn mx a 1 cap l) w)
      go_enter Tryz.func72, Tryz.ntmps72
      go_wp2_with fail
      go_ret
      exact ⟨_, rfl, by rw [hb.out]; simp, (by repeat (first | exact Ext.refl _ | assumption | refine Ext.drew ?_ | refine Ext.drewN ?_ _ | refine Ext.alloc ?_ _ | refine Ext.trans ?_ (by assumption)))⟩
    have hl1 := hn
    replace hn := Lib.hid hn
    change Calls Tryz.prog 72 #[.agg #[.int .i64 _, .int .u32 0, .int .u32 0, .bool false, .int .i64 _, .int .i64 _, .slice a _ cap]] w (RetA (HP.mk _ ⟨0#32, 0#32⟩ false _ _ a _ cap l) w)
    have hb : HP.okB (.mk 5 ⟨0#32, 0#32⟩ false mn mx a 1 cap l) = true := by simp [HP.okB, hl1, p1, p2, p3, p4]
    replace hb := Lib.hid hb
    go_enter Tryz.func72, Tryz.ntmps72
    go_wp2_with fail
    refine (cbool (patvalid_any ⟨0#32, 0#32⟩ _) (b := true) rfl).mono ?_
    rintro e w1 ⟨rfl, hx1⟩
    go_wp2_with fail
    go_ret
    exact ⟨_, rfl, by rw [hb.out]; simp, (by repeat (first | exact Ext.refl _ | assumption | refine Ext.drew ?_ | refine Ext.drewN ?_ _ | refine Ext.alloc ?_ _ | refine Ext.trans ?_ (by assumption)))⟩
  · have d0 : (kd == 0) = false := by simpa using h0
    have d1 : (kd == 1) = false := by simpa using k1
    have d2 : (kd == 2) = false := by simpa using h2
    have d3 : (kd == 3) = false := by simpa using h3
    have d4 : (kd == 4) = false := by simpa using h4
    have d5 : (kd == 5) = false := by simpa using h5
    have d6 : (kd == 6) = false := by simpa using h6
    have hb : HP.okB (.mk kd is ng mn mx a n cap l) = false := by simp [HP.okB, h0, k1, h2, h3, h4, h5, h6]
    replace hb := Lib.hid hb
    replace hn := Lib.hid hn
    clear h0 k1 h2 h3 h4 h5 h6
    go_enter Tryz.func72, Tryz.ntmps72
    go_wp2_with fail
    go_ret
    exact ⟨_, rfl, by rw [hb.out]; simp, (by repeat (first | exact Ext.refl _ | assumption | refine Ext.drew ?_ | refine Ext.drewN ?_ _ | refine Ext.alloc ?_ _ | refine Ext.trans ?_ (by assumption)))⟩
end Go.Proofs.YtadncjpknckaaaaGreatDoor
