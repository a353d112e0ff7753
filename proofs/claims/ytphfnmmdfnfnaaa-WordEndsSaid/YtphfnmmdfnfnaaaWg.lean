/-
  Walks of layer 2: Find, Inside, Common of the program and of the reference.
-/
import Derived.Test.YtphfnmmdfnfnaaaWf
namespace Go.Proofs.Ytphfnmmdfnfnaaa
open Go.RowKit
/-! ### Find -/
def findW (xs ys : List Snd) : Int := match (List.range (xs.length + 1 - ys.length)).find? (fun i => decide ((xs.drop i).take ys.length = ys)) with
  | some i => i
  | none => -1
theorem find_range {p : Nat → Bool} {n k : Nat} (hk : k < n) (hp : p k = true) (hn : ∀ j, j < k → p j = false) : (List.range n).find? p = some k := by
  rw [List.find?_range_eq_some]
  exact ⟨by simpa using hp, by simpa using hk, fun j hj => by simp [hn j hj]⟩
theorem findW_at {xs ys : List Snd} {k : Nat} (hk : k + ys.length ≤ xs.length) (he : (xs.drop k).take ys.length = ys) (hn : ∀ j, j < k → (xs.drop j).take ys.length ≠ ys) : findW xs ys = k := by
  rw [findW, find_range (k := k) (by omega) (by simpa using he) (fun j hj => by simpa using hn j hj)]
theorem findW_no {xs ys : List Snd} {k : Nat} (hk : ¬ k + ys.length ≤ xs.length) (hn : ∀ j, j < k → (xs.drop j).take ys.length ≠ ys) : findW xs ys = -1 := by
  rw [findW, show (List.range (xs.length + 1 - ys.length)).find? (fun i => decide ((xs.drop i).take ys.length = ys)) = none from ?_]
  rw [List.find?_eq_none]; intro j hj
  have := List.mem_range.1 hj
  simpa using hn j (by omega)
theorem ne_succ {xs ys : List Snd} {m k : Nat} (h : ∀ j, j < k → (xs.drop j).take m ≠ ys) (hk : (xs.drop k).take m ≠ ys) : ∀ j, j < k + 1 → (xs.drop j).take m ≠ ys := by
  intro j hj; by_cases e : j = k
  · subst e; exact hk
  · exact h j (by omega)
theorem run_sub_km {P : Program} {t : TypeId} (ht : P.underlying t = some (.slice (P.elem t))) {c : Nat} (hs : ∀ w, (sizeOf (P.elem t)).run P w = .ok c w) (a : Option Addr) (len cap k m : Nat) (h : k + m ≤ cap) (w : World) :
    (Instr.slice t (.slice a len cap) (some (.int .i64 k)) (some (.int .i64 ((k : Int) + (m : Int)))) none).run P w = .ok (.slice (subA c a cap k) m (cap - k)) w := by
  have := run_sub_lh ht hs a len cap k (k + m) (by omega) h w
  rw [show ((k + m : Nat) : Int) = (k : Int) + (m : Int) by omega, show k + m - k = m by omega] at this
  exact this
theorem RdK.sub_km {α : Type} {c : Nat} {enc : α → List Value} {w : World} {a : Option Addr} {n cap : Nat} {xs : List α} (h : RdK c enc w a n cap xs) {k m : Nat} (h1 : k + m ≤ n) : RdK c enc w (subA c a cap k) m (cap - k) ((xs.drop k).take m) := by
  have := h.sub (l := k) (m := k + m) (by omega) h1
  rw [show k + m - k = m by omega] at this
  rw [List.take_drop]; exact this
theorem find_any (a a' : Option Addr) (n cap m cap' : Nat) (xs ys : List Snd) (w : World) (hr : RdS w a n cap xs) (hr' : RdS w a' m cap' ys) (hn : n ≤ 60000) (hm : m ≤ 60000) :
    Calls Try.prog 24 #[.slice a n cap, .slice a' m cap'] w fun e w' => e = .returned (.int .i64 (findW xs ys)) ∧ Ext w w' := by
  go_enter Try.func24, Try.ntmps24
  go_wp2_with fail
  go_loopw [5] (fun i wr => ∃ k : Nat, k ≤ n + 1 ∧ i = .int .i64 k ∧ Ext w wr ∧ Hid (∀ j, j < k → (xs.drop j).take ys.length ≠ ys)) (fun i _ => n + 1 - (intOf i).toNat)
  case atStart => exact ⟨0, Nat.zero_le _, rfl, Ext.refl _, fun j hj => absurd hj (Nat.not_lt_zero _)⟩
  case round =>
    obtain ⟨k, hk, rfl, hx, hall⟩ := hrel
    by_cases hkm : k + m ≤ n
    · have hsl := run_sub_km (P := Try.prog) elem_snds size_snds a n cap k m (by have := hr.le; omega)
      have hsub := hr.sub_km hkm
      cases hd : decide ((xs.drop k).take m = ys)
      · go_wp2_with (go_at_call 47; refine (seq_any _ _ _ _ _ _ _ ys _ (hsub.ext hx) (hr'.ext hx)).mono ?_; rintro e w1 ⟨rfl, hx1⟩)
        (first | exact ⟨⟨k + 1, by omega, by go_num, (by repeat (first | exact Ext.refl _ | assumption | refine Ext.drew ?_ | refine Ext.drewN ?_ _ | refine Ext.alloc ?_ _ | refine Ext.trans ?_ (by assumption))), by rw [hr'.len] at *; exact ne_succ hall (by simpa using hd)⟩, (by simp [intOf]; omega)⟩ | (go_roundw; case rel => exact ⟨k + 1, by omega, by go_num, (by repeat (first | exact Ext.refl _ | assumption | refine Ext.drew ?_ | refine Ext.drewN ?_ _ | refine Ext.alloc ?_ _ | refine Ext.trans ?_ (by assumption))), by rw [hr'.len] at *; exact ne_succ hall (by simpa using hd)⟩; case measure => exact (by simp [intOf]; omega)))
      · go_wp2_with (go_at_call 47; refine (seq_any _ _ _ _ _ _ _ ys _ (hsub.ext hx) (hr'.ext hx)).mono ?_; rintro e w1 ⟨rfl, hx1⟩)
        go_ret
        exact ⟨ret_int (findW_at (by rw [hr.len, hr'.len]; exact hkm) (by rw [hr'.len]; simpa using hd) hall).symm, (by repeat (first | exact Ext.refl _ | assumption | refine Ext.drew ?_ | refine Ext.drewN ?_ _ | refine Ext.alloc ?_ _ | refine Ext.trans ?_ (by assumption)))⟩
    · go_wp2_with fail
      go_ret
      exact ⟨ret_int (findW_no (by rw [hr.len, hr'.len]; exact hkm) hall).symm, hx⟩
theorem rfind_any (a a' : Option Addr) (n cap m cap' : Nat) (xs ys : List Snd) (w : World) (hr : RdS w a n cap xs) (hr' : RdS w a' m cap' ys) (hn : n ≤ 60000) (hm : m ≤ 60000) :
    Calls Try.prog 25 #[.slice a n cap, .slice a' m cap'] w fun e w' => e = .returned (.int .i64 (findW xs ys)) ∧ Ext w w' := by
  go_enter Try.func25, Try.ntmps25
  go_wp2_with fail
  go_loopw [5] (fun i wr => ∃ k : Nat, k ≤ n + 1 ∧ i = .int .i64 k ∧ Ext w wr ∧ Hid (∀ j, j < k → (xs.drop j).take ys.length ≠ ys)) (fun i _ => n + 1 - (intOf i).toNat)
  case atStart => exact ⟨0, Nat.zero_le _, rfl, Ext.refl _, fun j hj => absurd hj (Nat.not_lt_zero _)⟩
  case round =>
    obtain ⟨k, hk, rfl, hx, hall⟩ := hrel
    by_cases hkm : k + m ≤ n
    · have hsl := run_sub_km (P := Try.prog) elem_snds size_snds a n cap k m (by have := hr.le; omega)
      have hsub := hr.sub_km hkm
      cases hd : decide ((xs.drop k).take m = ys)
      · go_wp2_with (go_at_call 18; refine (req_any _ _ _ _ _ _ _ ys _ (hsub.ext hx) (hr'.ext hx)).mono ?_; rintro e w1 ⟨rfl, hx1⟩)
        (first | exact ⟨⟨k + 1, by omega, by go_num, (by repeat (first | exact Ext.refl _ | assumption | refine Ext.drew ?_ | refine Ext.drewN ?_ _ | refine Ext.alloc ?_ _ | refine Ext.trans ?_ (by assumption))), by rw [hr'.len] at *; exact ne_succ hall (by simpa using hd)⟩, (by simp [intOf]; omega)⟩ | (go_roundw; case rel => exact ⟨k + 1, by omega, by go_num, (by repeat (first | exact Ext.refl _ | assumption | refine Ext.drew ?_ | refine Ext.drewN ?_ _ | refine Ext.alloc ?_ _ | refine Ext.trans ?_ (by assumption))), by rw [hr'.len] at *; exact ne_succ hall (by simpa using hd)⟩; case measure => exact (by simp [intOf]; omega)))
      · go_wp2_with (go_at_call 18; refine (req_any _ _ _ _ _ _ _ ys _ (hsub.ext hx) (hr'.ext hx)).mono ?_; rintro e w1 ⟨rfl, hx1⟩)
        go_ret
        exact ⟨ret_int (findW_at (by rw [hr.len, hr'.len]; exact hkm) (by rw [hr'.len]; simpa using hd) hall).symm, (by repeat (first | exact Ext.refl _ | assumption | refine Ext.drew ?_ | refine Ext.drewN ?_ _ | refine Ext.alloc ?_ _ | refine Ext.trans ?_ (by assumption)))⟩
    · go_wp2_with fail
      go_ret
      exact ⟨ret_int (findW_no (by rw [hr.len, hr'.len]; exact hkm) hall).symm, hx⟩

/-! ### Inside -/
/-- What is left of v when the sounds of w have been looked at. -/
def eatW : List Snd → List Snd → List Snd
  | [], _ => []
  | v, [] => v
  | v :: vs, s :: ss => if v = s then eatW vs ss else eatW (v :: vs) ss
def insideW (v w : List Snd) : Bool := decide (eatW v w = [])
theorem eatW_nil (w : List Snd) : eatW [] w = [] := by cases w <;> rfl
theorem eatW_end (v : List Snd) : eatW v [] = v := by cases v <;> rfl
theorem eatW_yes {v ys : List Snd} {j k : Nat} {s : Snd} {r : List Snd} (h : r = eatW (v.drop j) (ys.drop k)) (h1 : v[j]? = some s) (h2 : ys[k]? = some s) : r = eatW (v.drop (j + 1)) (ys.drop (k + 1)) := by
  rw [h, drop_at h1, drop_at h2, eatW, if_pos rfl]
theorem eatW_no {v ys : List Snd} {j k : Nat} {s t : Snd} {r : List Snd} (h : r = eatW (v.drop j) (ys.drop k)) (h1 : v[j]? = some s) (h2 : ys[k]? = some t) (hst : s ≠ t) : r = eatW (v.drop j) (ys.drop (k + 1)) := by
  rw [h, drop_at h1, drop_at h2, eatW, if_neg hst, ← drop_at h1]
theorem eatW_done {v ys : List Snd} {j k : Nat} {r : List Snd} (h : r = eatW (v.drop j) (ys.drop k)) (h1 : v.length ≤ j) : r = eatW (v.drop j) (ys.drop (k + 1)) := by
  rw [h, List.drop_of_length_le h1, eatW_nil, eatW_nil]
theorem insideW_end {v ys : List Snd} {j k m : Nat} (h : eatW v ys = eatW (v.drop j) (ys.drop k)) (hk : ys.length ≤ k) (hm : v.length = m) (hj : j ≤ m) : insideW v ys = decide (j = m) := by
  rw [insideW, h, List.drop_of_length_le hk, eatW_end, Bool.eq_iff_iff]; simp only [decide_eq_true_eq, List.drop_eq_nil_iff]; omega
theorem rinside_any (a a' : Option Addr) (m cap n cap' : Nat) (xs ys : List Snd) (w : World) (hr : RdS w a m cap xs) (hr' : RdS w a' n cap' ys) (hn : n ≤ 60000) (hm : m ≤ 60000) :
    Calls Try.prog 27 #[.slice a m cap, .slice a' n cap'] w fun e w' => e = .returned (.bool (insideW xs ys)) ∧ Ext w w' := by
  have he := eql_snd
  go_enter Try.func27, Try.ntmps27
  go_wp2_with fail
  go_loopw [5, 6] (fun j i wr => ∃ k q : Nat, k ≤ n ∧ q ≤ m ∧ i = .int .i64 k ∧ j = .int .i64 q ∧ Ext w wr ∧ Hid (eatW xs ys = eatW (xs.drop q) (ys.drop k))) (fun _ i _ => n - (intOf i).toNat)
  case atStart => exact ⟨0, 0, Nat.zero_le _, Nat.zero_le _, rfl, rfl, Ext.refl _, rfl⟩
  case round =>
    obtain ⟨k, q, hk, hq, rfl, rfl, hx, hall⟩ := hrel
    by_cases hlt : k < n
    · obtain ⟨b', off', s', rfl, hs', hb', hc0', hc1'⟩ := (hr'.ext hx).snd hlt
      by_cases hlq : q < m
      · obtain ⟨b, off, s, rfl, hs, hb, hc0, hc1⟩ := (hr.ext hx).snd hlq
        by_cases hst : s = s'
        · subst hst
          go_wp2_with fail
          go_quiet (fail)
          go_wp2_with fail
          (first | exact ⟨⟨k + 1, q + 1, by omega, by omega, by go_num, by go_num, (by repeat (first | exact Ext.refl _ | assumption | refine Ext.drew ?_ | refine Ext.drewN ?_ _ | refine Ext.alloc ?_ _ | refine Ext.trans ?_ (by assumption))), eatW_yes hall hs hs'⟩, (by simp [intOf]; omega)⟩ | (go_roundw; case rel => exact ⟨k + 1, q + 1, by omega, by omega, by go_num, by go_num, (by repeat (first | exact Ext.refl _ | assumption | refine Ext.drew ?_ | refine Ext.drewN ?_ _ | refine Ext.alloc ?_ _ | refine Ext.trans ?_ (by assumption))), eatW_yes hall hs hs'⟩; case measure => exact (by simp [intOf]; omega)))
        · have hd : decide (s = s') = false := by simpa using hst
          go_wp2_with fail
          go_quiet (fail)
          go_wp2_with fail
          (first | exact ⟨⟨k + 1, q, by omega, by omega, by go_num, by go_num, (by repeat (first | exact Ext.refl _ | assumption | refine Ext.drew ?_ | refine Ext.drewN ?_ _ | refine Ext.alloc ?_ _ | refine Ext.trans ?_ (by assumption))), eatW_no hall hs hs' hst⟩, (by simp [intOf]; omega)⟩ | (go_roundw; case rel => exact ⟨k + 1, q, by omega, by omega, by go_num, by go_num, (by repeat (first | exact Ext.refl _ | assumption | refine Ext.drew ?_ | refine Ext.drewN ?_ _ | refine Ext.alloc ?_ _ | refine Ext.trans ?_ (by assumption))), eatW_no hall hs hs' hst⟩; case measure => exact (by simp [intOf]; omega)))
      · have hd : decide (q < m) = false := by simpa using hlq
        go_wp2_with fail
        go_quiet (fail)
        go_wp2_with fail
        (first | exact ⟨⟨k + 1, q, by omega, by omega, by go_num, by go_num, (by repeat (first | exact Ext.refl _ | assumption | refine Ext.drew ?_ | refine Ext.drewN ?_ _ | refine Ext.alloc ?_ _ | refine Ext.trans ?_ (by assumption))), eatW_done hall (by rw [hr.len]; omega)⟩, (by simp [intOf]; omega)⟩ | (go_roundw; case rel => exact ⟨k + 1, q, by omega, by omega, by go_num, by go_num, (by repeat (first | exact Ext.refl _ | assumption | refine Ext.drew ?_ | refine Ext.drewN ?_ _ | refine Ext.alloc ?_ _ | refine Ext.trans ?_ (by assumption))), eatW_done hall (by rw [hr.len]; omega)⟩; case measure => exact (by simp [intOf]; omega)))
    · have hfin := Lib.hid (insideW_end hall (by rw [hr'.len]; omega) hr.len hq)
      by_cases hqm : q = m
      · subst hqm
        go_wp2_with fail
        go_ret
        exact ⟨ret_bool (by rw [hfin.out]; simp), hx⟩
      · have hd : ((q : Int) == (m : Int)) = false := by simp; omega
        go_wp2_with fail
        go_ret
        exact ⟨ret_bool (by rw [hfin.out]; simpa using hqm), hx⟩
end Go.Proofs.Ytphfnmmdfnfnaaa
