/-
  The order of sounds: the program's and the reference's.
  Rows of the call's own, elements of k cells: read, written.
-/
import Derived.Test.YtilkemdecenibaaLez
import Derived.StillTailTactics
import Derived.Handy
import Derived.Deep.RegionWith
import Derived.Lib.SliceRun
namespace Go.Proofs.Ytilkemdecenibaa
open Go.RowKit
theorem cmp_any (x y : Int) (w : World) : Calls Try.prog 113 #[.int .u32 x, .int .u32 y] w fun e w' => e = .returned (.int .i64 (cmpI x y)) ∧ w' = w := by
  have hx : (x != x) = false := by simp
  have hy : (y != y) = false := by simp
  by_cases h1 : x < y
  · go_enter Try.func113, Try.ntmps113
    go_wp2
    go_ret
    exact ⟨ret_int (cmpI_lt h1).symm, rfl⟩
  by_cases h2 : y < x
  · go_enter Try.func113, Try.ntmps113
    go_wp2
    go_ret
    exact ⟨ret_int (cmpI_gt h2).symm, rfl⟩
  · go_enter Try.func113, Try.ntmps113
    go_wp2
    go_ret
    exact ⟨ret_int (cmpI_eq (by omega)).symm, rfl⟩

/-- cmp.Or of two numbers. -/
def orI (x y : Int) : Int := if x = 0 then y else x
theorem or_any (x y : Int) (b cap : Nat) (w : World) (h0 : w.cell? ⟨b, 0, none⟩ = some (.int .i64 x)) (h1 : w.cell? ⟨b, 1, none⟩ = some (.int .i64 y)) :
    Calls Try.prog 112 #[.slice (some ⟨b, 0, none⟩) 2 cap] w fun e w' => e = .returned (.int .i64 (orI x y)) ∧ w' = w := by
  by_cases hx : x = 0
  · subst hx
    by_cases hy : y = 0
    · subst hy
      go_enter Try.func112, Try.ntmps112
      go_wp2
      go_rounds 3
      go_ret
      exact ⟨ret_int (by simp [orI]), rfl⟩
    · have hyb : (y != 0) = true := by simpa using hy
      go_enter Try.func112, Try.ntmps112
      go_wp2
      go_rounds 3
      go_ret
      exact ⟨ret_int (by simp [orI]), rfl⟩
  · have hxb : (x != 0) = true := by simpa using hx
    go_enter Try.func112, Try.ntmps112
    go_wp2
    go_rounds 3
    go_ret
    exact ⟨ret_int (by rw [orI, if_neg hx]), rfl⟩
theorem orI_cmpS (s t : Snd) : orI (cmpI s.p.toNat t.p.toNat) (cmpI s.m.toNat t.m.toNat) = cmpS s t := rfl
theorem order_any (s t : Snd) (w : World) :
    Calls Try.prog 98 #[.agg #[.int .u32 s.p.toNat, .int .u32 s.m.toNat], .agg #[.int .u32 t.p.toNat, .int .u32 t.m.toNat]] w fun e w' => e = .returned (.int .i64 (cmpS s t)) ∧ Ext w w' := by
  go_enter Try.func98, Try.ntmps98
  go_wp2_with fail
  have f0 := fun x : ExtOf ((w.alloc (.cells #[.int .u32 s.p.toNat, .int .u32 s.m.toNat] 24)).alloc (.cells #[.int .u32 t.p.toNat, .int .u32 t.m.toNat] 24)) => x.cell (b := w.heap.size) (o := 0) (v := .int .u32 s.p.toNat) (by go_simp)
  have f1 := fun x : ExtOf ((w.alloc (.cells #[.int .u32 s.p.toNat, .int .u32 s.m.toNat] 24)).alloc (.cells #[.int .u32 t.p.toNat, .int .u32 t.m.toNat] 24)) => x.cell (b := w.heap.size) (o := 1) (v := .int .u32 s.m.toNat) (by go_simp)
  have f2 := fun x : ExtOf ((w.alloc (.cells #[.int .u32 s.p.toNat, .int .u32 s.m.toNat] 24)).alloc (.cells #[.int .u32 t.p.toNat, .int .u32 t.m.toNat] 24)) => x.cell (b := w.heap.size + 1) (o := 0) (v := .int .u32 t.p.toNat) (by go_simp)
  have f3 := fun x : ExtOf ((w.alloc (.cells #[.int .u32 s.p.toNat, .int .u32 s.m.toNat] 24)).alloc (.cells #[.int .u32 t.p.toNat, .int .u32 t.m.toNat] 24)) => x.cell (b := w.heap.size + 1) (o := 1) (v := .int .u32 t.m.toNat) (by go_simp)
  (refine wp_region_qxt 10 (by kernel_rfl) (by kernel_rfl) ?_
   simp only [List.take_succ_cons, List.take_zero, List.drop_succ_cons, List.drop_zero]
   repeat (go_big_quiet_step ((go_at_call 113; exact calls_ext_same (cmp_any _ _ _))))
   refine wpQuiet_nil ?_
   intro wq hw'
   have hxq := ext_of_ex hw'
   clear hw')
  go_wp2_with (go_at_call 112; refine (or_any (cmpI s.p.toNat t.p.toNat) (cmpI s.m.toNat t.m.toNat) _ _ _ (by go_simp) (by go_simp)).mono ?_; rintro e w' ⟨rfl, rfl⟩)
  go_ret
  exact ⟨rfl, (((Ext.alloc1 w _).alloc _).trans hxq).alloc _⟩

/-! ### The reference's -/
theorem cmpS_lt {s t : Snd} (h : s.p.toNat < t.p.toNat ∨ s.p.toNat = t.p.toNat ∧ s.m.toNat < t.m.toNat) : cmpS s t = -1 := by
  unfold cmpS
  rcases h with h | ⟨h1, h2⟩
  · rw [cmpI_lt (by omega)]; rfl
  · rw [cmpI_eq (by omega), if_pos rfl, cmpI_lt (by omega)]
theorem cmpS_gt {s t : Snd} (h1 : ¬ (s.p.toNat < t.p.toNat ∨ s.p.toNat = t.p.toNat ∧ s.m.toNat < t.m.toNat)) (h2 : s ≠ t) : cmpS s t = 1 := by
  have h3 : ¬ cmpS s t = 0 := fun h => h2 (cmpS_tot.zero h)
  rcases cmpS_tot.tri s t with h | h | h
  · exfalso
    unfold cmpS at h
    rcases cmpI_spec (s.p.toNat : Int) (t.p.toNat : Int) with ⟨e, hh⟩ | ⟨e, hh⟩ | ⟨e, hh⟩
    · exact h1 (.inl (by omega))
    · rw [if_pos e] at h
      rcases cmpI_spec (s.m.toNat : Int) (t.m.toNat : Int) with ⟨e2, hh2⟩ | ⟨e2, hh2⟩ | ⟨e2, hh2⟩
      · exact h1 (.inr ⟨by omega, by omega⟩)
      · omega
      · omega
    · rw [if_neg (by omega)] at h; omega
  · exact absurd h h3
  · exact h
set_option maxHeartbeats 1000000 in
theorem rorder_any (s t : Snd) (w : World) :
    Calls Try.prog 129 #[.agg #[.int .u32 s.p.toNat, .int .u32 s.m.toNat], .agg #[.int .u32 t.p.toNat, .int .u32 t.m.toNat]] w fun e w' => e = .returned (.int .i64 (cmpS s t)) ∧ Ext w w' := by
  have heq := eql_snd
  by_cases h1 : s.p.toNat < t.p.toNat
  · have d1 : decide (s.p.toNat < t.p.toNat) = true := by simpa using h1
    have hR := cmpS_lt (.inl h1)
    rw [hR]
    clear hR
    replace h1 := Lib.hid h1
    go_enter Try.func129, Try.ntmps129
    go_wp2_with fail
    go_ret
    exact ⟨rfl, (by repeat (first | exact Ext.refl _ | assumption | refine Ext.drew ?_ | refine Ext.drewN ?_ _ | refine Ext.alloc ?_ _ | refine Ext.trans ?_ (by assumption)))⟩
  have d1 : decide (s.p.toNat < t.p.toNat) = false := by simpa using h1
  by_cases h2 : s.p.toNat = t.p.toNat
  · have d2 : ((s.p.toNat : Int) == (t.p.toNat : Int)) = true := by simp [h2]
    by_cases h3 : s.m.toNat < t.m.toNat
    · have d3 : decide (s.m.toNat < t.m.toNat) = true := by simpa using h3
      have hR := cmpS_lt (.inr ⟨h2, h3⟩)
      rw [hR]
      clear hR
      replace h2 := Lib.hid h2
      replace h3 := Lib.hid h3
      go_enter Try.func129, Try.ntmps129
      go_wp2_with fail
      go_ret
      exact ⟨rfl, (by repeat (first | exact Ext.refl _ | assumption | refine Ext.drew ?_ | refine Ext.drewN ?_ _ | refine Ext.alloc ?_ _ | refine Ext.trans ?_ (by assumption)))⟩
    have d3 : decide (s.m.toNat < t.m.toNat) = false := by simpa using h3
    by_cases h4 : s = t
    · subst h4
      rw [cmpS_tot.self]
      have d4 : decide (s = s) = true := by simp
      clear h2 h1 h3
      go_enter Try.func129, Try.ntmps129
      go_wp2_with fail
      go_ret
      exact ⟨rfl, (by repeat (first | exact Ext.refl _ | assumption | refine Ext.drew ?_ | refine Ext.drewN ?_ _ | refine Ext.alloc ?_ _ | refine Ext.trans ?_ (by assumption)))⟩
    · have d4 : decide (s = t) = false := by simpa using h4
      have hR := cmpS_gt (fun h => h.elim h1 fun h => h3 h.2) h4
      rw [hR]
      clear hR
      replace h1 := Lib.hid h1
      replace h2 := Lib.hid h2
      replace h3 := Lib.hid h3
      replace h4 := Lib.hid h4
      go_enter Try.func129, Try.ntmps129
      go_wp2_with fail
      go_ret
      exact ⟨rfl, (by repeat (first | exact Ext.refl _ | assumption | refine Ext.drew ?_ | refine Ext.drewN ?_ _ | refine Ext.alloc ?_ _ | refine Ext.trans ?_ (by assumption)))⟩
  · have d2 : ((s.p.toNat : Int) == (t.p.toNat : Int)) = false := by simp; omega
    have h4 : s ≠ t := fun h => h2 (by rw [h])
    have d4 : decide (s = t) = false := by simpa using h4
    have hR := cmpS_gt (fun h => h.elim h1 fun h => h2 h.1) h4
    rw [hR]
    clear hR
    replace h1 := Lib.hid h1
    replace h2 := Lib.hid h2
    replace h4 := Lib.hid h4
    go_enter Try.func129, Try.ntmps129
    go_wp2_with fail
    go_ret
    exact ⟨rfl, (by repeat (first | exact Ext.refl _ | assumption | refine Ext.drew ?_ | refine Ext.drewN ?_ _ | refine Ext.alloc ?_ _ | refine Ext.trans ?_ (by assumption)))⟩
end Go.Proofs.Ytilkemdecenibaa
namespace Go.Proofs.Ytilkemdecenibaa
open Go.RowKit
/-! ### Rows of the call's own, elements of k cells -/
section
variable {α : Type} {k : Nat} {enc : α → List Value} {B e g n cap : Nat} {w : World} {xs : List α}
theorem OwnK.atk (hk : ∀ x, (enc x).length = k) (h : OwnK k enc B e w (.slice (some ⟨g, 0, none⟩) n cap) xs) {i : Nat} {y : α} (hi : xs[i]? = some y) {j : Nat} {u : Value} (hu : (enc y)[j]? = some u) : w.cell? ⟨g, i * k + j, none⟩ = some u := by
  obtain ⟨h1, h2⟩ := h
  rcases h2 with ⟨h3, _⟩ | ⟨g', cap', cur, h3, _, hh, _, _, _, ht⟩
  · cases h3
  · simp only [Value.slice.injEq, Option.some.injEq, Addr.mk.injEq, and_true] at h3
    obtain ⟨rfl, _, _⟩ := h3
    have hf := flatMap_at hk xs i y hi j _ hu
    rw [← ht, List.getElem?_take] at hf
    split at hf
    · simp only [World.cell?, hh]; simpa using hf
    · cases hf
theorem OwnK.free (h : OwnK k enc B e w (.slice (some ⟨g, 0, none⟩) n cap) xs) (i : Nat) : w.frozen? ⟨g, i, none⟩ = false := by
  obtain ⟨h1, h2⟩ := h
  rcases h2 with ⟨h3, _⟩ | ⟨g', cap', cur, h3, _, hh, _, _, _, ht⟩
  · cases h3
  · simp only [Value.slice.injEq, Option.some.injEq, Addr.mk.injEq, and_true] at h3
    obtain ⟨rfl, _, _⟩ := h3
    exact frozen_of_row w g i cur e hh
theorem OwnK.ge (h : OwnK k enc B e w (.slice (some ⟨g, 0, none⟩) n cap) xs) : B ≤ g ∧ g < w.heap.size ∧ xs.length = n ∧ n ≤ cap ∧ cap ≤ maxLen := by
  have h0 := World.ownsRow.lt h g rfl
  obtain ⟨h1, h2⟩ := h
  rcases h2 with ⟨h3, _⟩ | ⟨g', cap', cur, h3, _, hh, h4, h5, _, ht⟩
  · cases h3
  · simp only [Value.slice.injEq, Option.some.injEq, Addr.mk.injEq, and_true] at h3
    obtain ⟨_, h6, h7⟩ := h3
    exact ⟨h0.1, h0.2, h6.symm, by omega, by omega⟩
theorem OwnK.takeK (hk : ∀ x, (enc x).length = k) (h : OwnK k enc B e w (.slice (some ⟨g, 0, none⟩) n cap) xs) {m : Nat} (hm : m ≤ n) : OwnK k enc B e w (.slice (some ⟨g, 0, none⟩) m cap) (xs.take m) := by
  have hl := (OwnK.ge h).2.2.1
  obtain ⟨h1, h2⟩ := h
  rcases h2 with ⟨h3, _⟩ | ⟨g', cap', cur, h3, hg, hh, h4, h5, h6, ht⟩
  · cases h3
  · simp only [Value.slice.injEq, Option.some.injEq, Addr.mk.injEq, and_true] at h3
    obtain ⟨rfl, h7, rfl⟩ := h3
    have hlt : (xs.take m).length = m := by simp; omega
    refine ⟨length_flatMap_enc hk _, .inr ⟨g, cap, cur, by rw [hlt], hg, hh, by omega, h5, h6, ?_⟩⟩
    rw [flatMap_take hk, ← ht, List.take_take, hlt]
    congr 1
    have := Nat.mul_le_mul_right k hm
    rw [h7] at this; omega
/-- Cells behind the row are written: the row stays. -/
theorem OwnK.behind (hk : ∀ x, (enc x).length = k) : ∀ (vs : List Value) (o : Nat) (w : World), OwnK k enc B e w (.slice (some ⟨g, 0, none⟩) n cap) xs → n * k ≤ o → OwnK k enc B e (w.setCells g o vs) (.slice (some ⟨g, 0, none⟩) n cap) xs
  | [], _, _, h, _ => h
  | v :: vs, o, w, h, ho => by
    have hl := (OwnK.ge h).2.2.1
    refine OwnK.behind hk vs (o + 1) _ ?_ (by omega)
    subst hl
    have h1 := (World.ownsRow.stored h o v).1
    rw [List.set_eq_of_length_le (by rw [length_flatMap_enc hk]; exact ho)] at h1
    exact h1
theorem flat_set (hk : ∀ x, (enc x).length = k) : ∀ (xs : List α) (i : Nat) (y : α), i < xs.length → (xs.set i y).flatMap enc = (xs.flatMap enc).take (i * k) ++ enc y ++ (xs.flatMap enc).drop (i * k + k)
  | [], _, _, h => absurd h (Nat.not_lt_zero _)
  | x :: xs, 0, y, _ => by
    simp only [List.set_cons_zero, List.flatMap_cons, Nat.zero_mul, List.take_zero, List.nil_append, Nat.zero_add]
    rw [List.drop_append_of_le_length (by rw [hk]; exact Nat.le_refl _), List.drop_of_length_le (by rw [hk]; exact Nat.le_refl _)]; rfl
  | x :: xs, i + 1, y, h => by
    have ih := flat_set hk xs i y (by simpa using h)
    simp only [List.set_cons_succ, List.flatMap_cons]
    rw [ih, Nat.add_mul, Nat.one_mul, List.take_append, hk, List.take_of_length_le (l := enc x) (by rw [hk]; omega), show i * k + k - k = i * k by omega, List.drop_append, hk, List.drop_of_length_le (l := enc x) (by rw [hk]; omega), show i * k + k + k - k = i * k + k by omega]
    simp
end
section
variable {B e g n cap : Nat} {w : World} {xs : List Snd}
theorem OwnS.at (h : OwnS B e w (.slice (some ⟨g, 0, none⟩) n cap) xs) {i : Nat} {y : Snd} (hi : xs[i]? = some y) : w.cell? ⟨g, i * 2, none⟩ = some (.int .u32 y.p.toNat) ∧ w.cell? ⟨g, i * 2 + 1, none⟩ = some (.int .u32 y.m.toNat) :=
  ⟨OwnK.atk Snd.len h hi (j := 0) rfl, OwnK.atk Snd.len h hi (j := 1) rfl⟩
theorem set_two {β : Type} (l : List β) (j : Nat) (a b : β) (h : j + 1 < l.length) : (l.set j a).set (j + 1) b = l.take j ++ [a, b] ++ l.drop (j + 2) := by
  apply List.ext_getElem?
  intro i
  rw [List.getElem?_set, List.getElem?_set, List.append_assoc, List.getElem?_append, List.getElem?_append]
  simp only [List.length_set, List.length_take, List.length_cons, List.length_nil, List.getElem?_take, List.getElem?_drop]
  by_cases h1 : i < j
  · rw [if_neg (by omega), if_neg (by omega), if_pos (by omega), if_pos h1]
  · by_cases h2 : i = j
    · subst h2
      rw [if_neg (by omega), if_pos rfl, if_pos (by omega), if_neg (by omega), if_pos (by omega)]
      simp [show min i l.length = i by omega]
    · by_cases h3 : i = j + 1
      · subst h3
        rw [if_pos rfl, if_pos h, if_neg (by omega), if_pos (by omega)]
        simp [show min j l.length = j by omega]
      · rw [if_neg (by omega), if_neg (by omega), if_neg (by omega), if_neg (by omega)]
        congr 1; omega
theorem OwnS.set (h : OwnS B e w (.slice (some ⟨g, 0, none⟩) n cap) xs) {i : Nat} (hi : i < n) (y : Snd) :
    OwnS B e ((w.setCell ⟨g, i * 2, none⟩ (.int .u32 y.p.toNat)).setCell ⟨g, i * 2 + 1, none⟩ (.int .u32 y.m.toNat)) (.slice (some ⟨g, 0, none⟩) n cap) (xs.set i y) := by
  have hl := (OwnK.ge h).2.2.1
  subst hl
  have h1 := (World.ownsRow.stored h (i * 2) (.int .u32 y.p.toNat)).1
  have h2 := (World.ownsRow.stored h1 (i * 2 + 1) (.int .u32 y.m.toNat)).1
  rw [set_two _ _ _ _ (by rw [length_flatMap_enc Snd.len]; omega)] at h2
  unfold OwnS OwnK
  rw [List.length_set, flat_set Snd.len xs i y hi]
  exact h2
end
end Go.Proofs.Ytilkemdecenibaa
