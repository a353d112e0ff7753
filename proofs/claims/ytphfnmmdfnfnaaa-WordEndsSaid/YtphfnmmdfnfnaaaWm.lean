/-
  Walks of layer 2: Splice of the program.
-/
import Derived.Test.YtphfnmmdfnfnaaaWl
import Derived.Test.YtphfnmmdfnfnaaaWj
import Derived.Test.YtphfnmmdfnfnaaaQt
namespace Go.Proofs.Ytphfnmmdfnfnaaa
open Go.RowKit
theorem RdWs.made {w : World} {vs : List Value} {ws : List (List Snd)} {e : TypeId} (hl : vs.length = ws.length) (hm : vs.length ≤ maxLen) (hr : ∀ (i : Nat) (v : Value) (x : List Snd), vs[i]? = some v → ws[i]? = some x → WS w v x) {n : Nat} (hn : n = ws.length) :
    RdWs (w.alloc (.cells vs.toArray e)) (some ⟨w.heap.size, 0, none⟩) n n ws :=
  RdV.lit (by simp) (fun j u hu => by
    have := cell_new_list w vs e j u hu
    unfold Addr.add at this; split at this
    · rename_i h0; subst h0; exact this
    · simpa using this) hl hm (fun i v x h1 h2 => (hr i v x h1 h2).ext (Ext.alloc1 _ _)) hn
theorem RdWs.made2 {w : World} {v0 v1 : Value} {x0 x1 : List Snd} (e : TypeId) (h0 : WS w v0 x0) (h1 : WS w v1 x1) : RdWs (w.alloc (.cells #[v0, v1] e)) (some ⟨w.heap.size, 0, none⟩) 2 2 [x0, x1] := by
  refine RdWs.made (vs := [v0, v1]) rfl (by unfold maxLen; simp) (fun i v x hv hx => ?_) rfl
  match i, hv, hx with
  | 0, hv, hx => simp at hv hx; subst hv; subst hx; exact h0
  | 1, hv, hx => simp at hv hx; subst hv; subst hx; exact h1
theorem RdWs.made3 {w : World} {v0 v1 v2 : Value} {x0 x1 x2 : List Snd} (e : TypeId) (h0 : WS w v0 x0) (h1 : WS w v1 x1) (h2 : WS w v2 x2) : RdWs (w.alloc (.cells #[v0, v1, v2] e)) (some ⟨w.heap.size, 0, none⟩) 3 3 [x0, x1, x2] := by
  refine RdWs.made (vs := [v0, v1, v2]) rfl (by unfold maxLen; simp) (fun i v x hv hx => ?_) rfl
  match i, hv, hx with
  | 0, hv, hx => simp at hv hx; subst hv; subst hx; exact h0
  | 1, hv, hx => simp at hv hx; subst hv; subst hx; exact h1
  | 2, hv, hx => simp at hv hx; subst hv; subst hx; exact h2
theorem RdWs.made4 {w : World} {v0 v1 v2 v3 : Value} {x0 x1 x2 x3 : List Snd} (e : TypeId) (h0 : WS w v0 x0) (h1 : WS w v1 x1) (h2 : WS w v2 x2) (h3 : WS w v3 x3) : RdWs (w.alloc (.cells #[v0, v1, v2, v3] e)) (some ⟨w.heap.size, 0, none⟩) 4 4 [x0, x1, x2, x3] := by
  refine RdWs.made (vs := [v0, v1, v2, v3]) rfl (by unfold maxLen; simp) (fun i v x hv hx => ?_) rfl
  match i, hv, hx with
  | 0, hv, hx => simp at hv hx; subst hv; subst hx; exact h0
  | 1, hv, hx => simp at hv hx; subst hv; subst hx; exact h1
  | 2, hv, hx => simp at hv hx; subst hv; subst hx; exact h2
  | 3, hv, hx => simp at hv hx; subst hv; subst hx; exact h3
/-- The error of Splice, and its word. -/
def spliceE (xs : List Snd) (a b : Int) (ys : List Snd) : Int :=
  if checkWs [xs, ys] ≠ 0 then checkWs [xs, ys] else if ¬ (0 ≤ a ∧ a ≤ b ∧ b ≤ xs.length) then 3 else if 32 < xs.length - (b - a) + ys.length then 11 else 0
def spliceL (xs : List Snd) (a b : Int) (ys : List Snd) : List Snd := if spliceE xs a b ys = 0 then xs.take a.toNat ++ (ys ++ xs.drop b.toNat) else []
theorem splice_bad {xs ys : List Snd} {a b : Int} (h : checkWs [xs, ys] ≠ 0) : spliceL xs a b ys = [] ∧ spliceE xs a b ys = checkWs [xs, ys] := by
  have he : spliceE xs a b ys = checkWs [xs, ys] := by rw [spliceE, if_pos h]
  exact ⟨by rw [spliceL, he, if_neg h], he⟩
theorem splice_range {xs ys : List Snd} {a b : Int} (h : checkWs [xs, ys] = 0) (h2 : ¬ (0 ≤ a ∧ a ≤ b ∧ b ≤ xs.length)) : spliceL xs a b ys = [] ∧ spliceE xs a b ys = 3 := by
  have he : spliceE xs a b ys = 3 := by rw [spliceE, if_neg (by simpa using h), if_pos h2]
  exact ⟨by rw [spliceL, he, if_neg (by decide)], he⟩
theorem splice_long {xs ys : List Snd} {a b : Nat} (h : checkWs [xs, ys] = 0) (h1 : a ≤ b) (h2 : b ≤ xs.length) (h3 : 32 < xs.length - (b - a) + ys.length) : spliceL xs a b ys = [] ∧ spliceE xs a b ys = 11 := by
  have he : spliceE xs a b ys = 11 := by rw [spliceE, if_neg (by simpa using h), if_neg (by omega), if_pos (by omega)]
  exact ⟨by rw [spliceL, he, if_neg (by decide)], he⟩
theorem splice_ok {xs ys : List Snd} {a b : Nat} (h : checkWs [xs, ys] = 0) (h1 : a ≤ b) (h2 : b ≤ xs.length) (h3 : ¬ 32 < xs.length - (b - a) + ys.length) : spliceL xs a b ys = xs.take a ++ (ys ++ xs.drop b) ∧ spliceE xs a b ys = 0 := by
  have he : spliceE xs a b ys = 0 := by rw [spliceE, if_neg (by simpa using h), if_neg (by omega), if_neg (by omega)]
  exact ⟨by rw [spliceL, he, if_pos rfl]; simp, he⟩
theorem RdK.to {α : Type} {c : Nat} {enc : α → List Value} {w : World} {a : Option Addr} {n cap : Nat} {xs : List α} (h : RdK c enc w a n cap xs) {k : Nat} (h1 : k ≤ n) : RdK c enc w a k cap (xs.take k) := by
  have := h.sub (l := 0) (m := k) (Nat.zero_le _) h1
  rw [subA_zero] at this
  simpa using this
theorem run_sub_to {P : Program} {t : TypeId} (ht : P.underlying t = some (.slice (P.elem t))) {k : Nat} (hs : ∀ w, (sizeOf (P.elem t)).run P w = .ok k w) (a : Option Addr) (len cap h : Nat) (h2 : h ≤ cap) (w : World) :
    (Instr.slice t (.slice a len cap) none (some (.int .i64 h)) none).run P w = .ok (.slice a h cap) w := by
  have := run_sub_h ht hs a len cap h h2 w
  rwa [subA_zero] at this
theorem splice_any (ad ad' : Option Addr) (n cap n' cap' : Nat) (xs ys : List Snd) (a b : Int) (w : World) (hr : RdS w ad n cap xs) (hr' : RdS w ad' n' cap' ys) (hn : n ≤ 20000) (hn' : n' ≤ 20000) :
    Calls Try.prog 36 #[.slice ad n cap, .int .i64 a, .int .i64 b, .slice ad' n' cap'] w (RetSE (spliceL xs a b ys) (spliceE xs a b ys) w) := by
  by_cases hc : checkWs [xs, ys] = 0
  · have hcb : (checkWs [xs, ys] != 0) = false := by simp [hc]
    by_cases h1 : a < 0
    · obtain ⟨e1, e2⟩ := splice_range (a := a) (b := b) hc (by omega)
      have E1 := Lib.hid e1; have E2 := Lib.hid e2; clear e1 e2 hc
      go_enter Try.func36, Try.ntmps36
      go_wp2_with (go_at_call 51; refine (checks_any _ _ _ [xs, ys] _ (RdWs.made2 _ ⟨_, _, _, rfl, hr⟩ ⟨_, _, _, rfl, hr'⟩)).mono ?_; rintro e w1 ⟨rfl, hx1⟩)
      go_ret2
      exact retSE_nil E1.out (by repeat (first | exact Ext.refl _ | assumption | refine Ext.drew ?_ | refine Ext.drewN ?_ _ | refine Ext.alloc ?_ _ | refine Ext.trans ?_ (by assumption))) E2.out.symm
    by_cases h2 : b < a
    · obtain ⟨e1, e2⟩ := splice_range (a := a) (b := b) hc (by omega)
      have E1 := Lib.hid e1; have E2 := Lib.hid e2; clear e1 e2 hc
      go_enter Try.func36, Try.ntmps36
      go_wp2_with (go_at_call 51; refine (checks_any _ _ _ [xs, ys] _ (RdWs.made2 _ ⟨_, _, _, rfl, hr⟩ ⟨_, _, _, rfl, hr'⟩)).mono ?_; rintro e w1 ⟨rfl, hx1⟩)
      go_ret2
      exact retSE_nil E1.out (by repeat (first | exact Ext.refl _ | assumption | refine Ext.drew ?_ | refine Ext.drewN ?_ _ | refine Ext.alloc ?_ _ | refine Ext.trans ?_ (by assumption))) E2.out.symm
    by_cases h3 : (n : Int) < b
    · obtain ⟨e1, e2⟩ := splice_range (a := a) (b := b) hc (by rw [hr.len]; omega)
      have E1 := Lib.hid e1; have E2 := Lib.hid e2; clear e1 e2 hc
      go_enter Try.func36, Try.ntmps36
      go_wp2_with (go_at_call 51; refine (checks_any _ _ _ [xs, ys] _ (RdWs.made2 _ ⟨_, _, _, rfl, hr⟩ ⟨_, _, _, rfl, hr'⟩)).mono ?_; rintro e w1 ⟨rfl, hx1⟩)
      go_ret2
      exact retSE_nil E1.out (by repeat (first | exact Ext.refl _ | assumption | refine Ext.drew ?_ | refine Ext.drewN ?_ _ | refine Ext.alloc ?_ _ | refine Ext.trans ?_ (by assumption))) E2.out.symm
    obtain ⟨i, rfl⟩ := Int.eq_ofNat_of_zero_le (show 0 ≤ a by omega)
    obtain ⟨j, rfl⟩ := Int.eq_ofNat_of_zero_le (show 0 ≤ b by omega)
    have hij : i ≤ j := by omega
    have hjn : j ≤ n := by omega
    by_cases h4 : 32 < n - (j - i) + n'
    · obtain ⟨e1, e2⟩ := splice_long hc hij (by rw [hr.len]; omega) (by rw [hr.len, hr'.len]; exact h4)
      have h4' : (32 : Int) < (n : Int) - ((j : Int) - (i : Int)) + (n' : Int) := by omega
      have E1 := Lib.hid e1; have E2 := Lib.hid e2; clear e1 e2 hc h4
      go_enter Try.func36, Try.ntmps36
      go_wp2_with (go_at_call 51; refine (checks_any _ _ _ [xs, ys] _ (RdWs.made2 _ ⟨_, _, _, rfl, hr⟩ ⟨_, _, _, rfl, hr'⟩)).mono ?_; rintro e w1 ⟨rfl, hx1⟩)
      go_ret2
      exact retSE_nil E1.out (by repeat (first | exact Ext.refl _ | assumption | refine Ext.drew ?_ | refine Ext.drewN ?_ _ | refine Ext.alloc ?_ _ | refine Ext.trans ?_ (by assumption))) E2.out.symm
    · obtain ⟨e1, e2⟩ := splice_ok hc hij (by rw [hr.len]; omega) (by rw [hr.len, hr'.len]; exact h4)
      have h4' : ¬ (32 : Int) < (n : Int) - ((j : Int) - (i : Int)) + (n' : Int) := by omega
      have E1 := Lib.hid e1; have E2 := Lib.hid e2; clear e1 e2 hc h1 h2 h3 h4
      have hs1 := run_sub_to (P := Try.prog) elem_snds size_snds ad n cap i (by have := hr.le; omega)
      have hs2 := run_sub_l (P := Try.prog) elem_snds size_snds ad n cap j (by omega)
      have ht := hr.to (k := i) (by omega)
      have hf := hr.from (k := j) hjn
      go_enter Try.func36, Try.ntmps36
      go_wp2_with (go_at_call 51; refine (checks_any _ _ _ [xs, ys] _ (RdWs.made2 _ ⟨_, _, _, rfl, hr⟩ ⟨_, _, _, rfl, hr'⟩)).mono ?_; rintro e w1 ⟨rfl, hx1⟩)
      have hxa : Ext w w1 := (by repeat (first | exact Ext.refl _ | assumption | refine Ext.drew ?_ | refine Ext.drewN ?_ _ | refine Ext.alloc ?_ _ | refine Ext.trans ?_ (by assumption)))
      (refine wp_region_qxt 7 (by kernel_rfl) (by kernel_rfl) ?_
       simp only [List.take_succ_cons, List.take_zero, List.drop_succ_cons, List.drop_zero]
       repeat (go_big_quiet_step (fail))
       refine wpQuiet_nil ?_
       intro wq hw'
       have hxq := ext_of_ex hw'
       clear hw')
      have hxb : Ext w wq := hxa.trans hxq
      clear hxq
      go_wp2_with (go_at_call 56; refine (concat_any _ _ _ [xs.take i, ys, xs.drop j] _ (RdWs.made3 _ ⟨_, _, _, rfl, ht.ext hxb⟩ ⟨_, _, _, rfl, hr'.ext hxb⟩ ⟨_, _, _, rfl, hf.ext hxb⟩) (by decide) (by simp [hr.len, hr'.len]; omega)).mono ?_; rintro e w2 ⟨v2, rfl, ho2, hx2⟩)
      go_ret2
      exact retSE_mk ho2 ((Ext.alloc hxb _)) (by repeat (first | exact Ext.refl _ | assumption | refine Ext.drew ?_ | refine Ext.drewN ?_ _ | refine Ext.alloc ?_ _ | refine Ext.trans ?_ (by assumption))) (by rw [E1.out]; simp) E2.out.symm
  · have hcb : (checkWs [xs, ys] != 0) = true := by simpa using hc
    obtain ⟨e1, e2⟩ := splice_bad (a := a) (b := b) hc
    have E1 := Lib.hid e1; have E2 := Lib.hid e2; clear e1 e2 hc
    go_enter Try.func36, Try.ntmps36
    go_wp2_with (go_at_call 51; refine (checks_any _ _ _ [xs, ys] _ (RdWs.made2 _ ⟨_, _, _, rfl, hr⟩ ⟨_, _, _, rfl, hr'⟩)).mono ?_; rintro e w1 ⟨rfl, hx1⟩)
    go_ret2
    exact retSE_nil E1.out (by repeat (first | exact Ext.refl _ | assumption | refine Ext.drew ?_ | refine Ext.drewN ?_ _ | refine Ext.alloc ?_ _ | refine Ext.trans ?_ (by assumption))) E2.out.symm
end Go.Proofs.Ytphfnmmdfnfnaaa
