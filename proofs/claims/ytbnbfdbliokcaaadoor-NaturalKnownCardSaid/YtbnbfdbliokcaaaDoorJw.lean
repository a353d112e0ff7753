/-
  The order of sounds, and slices.SortFunc (cut from Lex, So, Ow, Sq, for a seat without cells).
-/
import Derived.Test.YtbnbfdbliokcaaaDoorJv
import Derived.StillTailTactics
import Derived.Handy
import Derived.Deep.RegionWith
import Derived.Lib.SliceRun
import Derived.Shelf.SlSortCmp.NoneTotal
import Derived.Sort.Grow
namespace Go.Proofs.YtbnbfdbliokcaaaDoor
/-- A total order, told by a function. -/
structure Tot {α : Type} (cf : α → α → Int) : Prop where
  anti : ∀ x y, cf y x = - cf x y
  tri : ∀ x y, cf x y = -1 ∨ cf x y = 0 ∨ cf x y = 1
  zero : ∀ {x y}, cf x y = 0 → x = y
  trans : ∀ {x y z}, cf x y < 0 → cf y z < 0 → cf x z < 0
section
variable {α : Type} {cf : α → α → Int}
theorem Tot.self (T : Tot cf) (x : α) : cf x x = 0 := by have := T.anti x x; omega
theorem Tot.le_lt (T : Tot cf) {x y z : α} (h1 : cf x y ≤ 0) (h2 : cf y z < 0) : cf x z < 0 := by
  by_cases e : cf x y = 0
  · rw [T.zero e]; exact h2
  · exact T.trans (by omega) h2
theorem Tot.lt_le (T : Tot cf) {x y z : α} (h1 : cf x y < 0) (h2 : cf y z ≤ 0) : cf x z < 0 := by
  by_cases e : cf y z = 0
  · rw [← T.zero e]; exact h1
  · exact T.trans h1 (by omega)
theorem Tot.gt (T : Tot cf) {x y : α} (h : ¬ cf x y ≤ 0) : cf y x < 0 := by have := T.anti x y; omega
end
def cmpI (x y : Int) : Int := if x < y then -1 else if y < x then 1 else 0
theorem cmpI_lt {x y : Int} (h : x < y) : cmpI x y = -1 := by simp [cmpI, h]
theorem cmpI_gt {x y : Int} (h : y < x) : cmpI x y = 1 := by rw [cmpI, if_neg (by omega), if_pos h]
theorem cmpI_eq {x y : Int} (h : x = y) : cmpI x y = 0 := by subst h; simp [cmpI]
theorem cmpI_spec (x y : Int) : (cmpI x y = -1 ∧ x < y) ∨ (cmpI x y = 0 ∧ x = y) ∨ (cmpI x y = 1 ∧ y < x) := by
  unfold cmpI; split
  · exact .inl ⟨rfl, ‹_›⟩
  · split
    · exact .inr (.inr ⟨rfl, ‹_›⟩)
    · exact .inr (.inl ⟨rfl, by omega⟩)
theorem cmpI_tot : Tot cmpI := by
  refine ⟨fun x y => ?_, fun x y => ?_, fun {x y} h => ?_, fun {x y z} h1 h2 => ?_⟩
  · rcases cmpI_spec x y with h | h | h <;> rcases cmpI_spec y x with h' | h' | h' <;> omega
  · rcases cmpI_spec x y with h | h | h <;> omega
  · rcases cmpI_spec x y with h' | h' | h' <;> omega
  · rcases cmpI_spec x y with h | h | h <;> rcases cmpI_spec y z with h' | h' | h' <;> rcases cmpI_spec x z with h'' | h'' | h'' <;> omega
/-- Two orders, one behind the other. -/
theorem Tot.then {α β γ : Type} {c1 : β → β → Int} {c2 : γ → γ → Int} (T1 : Tot c1) (T2 : Tot c2) (f : α → β) (g : α → γ) (hfg : ∀ x y, f x = f y → g x = g y → x = y) :
    Tot (fun x y : α => if c1 (f x) (f y) = 0 then c2 (g x) (g y) else c1 (f x) (f y)) := by
  refine ⟨fun x y => ?_, fun x y => ?_, fun {x y} h => ?_, fun {x y z} h1 h2 => ?_⟩
  · have := T1.anti (f x) (f y)
    by_cases e : c1 (f x) (f y) = 0
    · rw [if_pos e, if_pos (by omega)]; exact T2.anti _ _
    · rw [if_neg e, if_neg (by omega)]; exact this
  · show (if c1 (f x) (f y) = 0 then c2 (g x) (g y) else c1 (f x) (f y)) = -1 ∨ _
    by_cases e : c1 (f x) (f y) = 0
    · simp only [if_pos e]; exact T2.tri _ _
    · simp only [if_neg e]; exact T1.tri _ _
  · by_cases e : c1 (f x) (f y) = 0
    · rw [if_pos e] at h; exact hfg x y (T1.zero e) (T2.zero h)
    · rw [if_neg e] at h; exact absurd h e
  · by_cases e1 : c1 (f x) (f y) = 0
    · rw [if_pos e1] at h1
      by_cases e2 : c1 (f y) (f z) = 0
      · rw [if_pos e2] at h2
        have e3 : c1 (f x) (f z) = 0 := by rw [T1.zero e1, T1.zero e2]; exact T1.self _
        rw [if_pos e3]; exact T2.trans h1 h2
      · rw [if_neg e2] at h2
        rw [T1.zero e1, if_neg e2]; exact h2
    · rw [if_neg e1] at h1
      by_cases e2 : c1 (f y) (f z) = 0
      · rw [← T1.zero e2, if_neg e1]; exact h1
      · rw [if_neg e2] at h2
        have h3 := T1.trans h1 h2
        rw [if_neg (by omega)]; exact h3
/-- The order of sounds. -/
def cmpS (s t : Snd) : Int := if cmpI s.p.toNat t.p.toNat = 0 then cmpI s.m.toNat t.m.toNat else cmpI s.p.toNat t.p.toNat
theorem cmpS_tot : Tot cmpS := Tot.then cmpI_tot cmpI_tot (fun s : Snd => (s.p.toNat : Int)) (fun s : Snd => (s.m.toNat : Int)) (fun x y h1 h2 => by
  cases x; cases y; simp only [Snd.mk.injEq]; dsimp only at h1 h2; exact ⟨BitVec.eq_of_toNat_eq (by omega), BitVec.eq_of_toNat_eq (by omega)⟩)
end Go.Proofs.YtbnbfdbliokcaaaDoor
namespace Go.Proofs.YtbnbfdbliokcaaaDoor
open Go.RowKit
theorem cmp_any (x y : Int) (w : World) : Calls Tryd.prog 70 #[.int .u32 x, .int .u32 y] w fun e w' => e = .returned (.int .i64 (cmpI x y)) ∧ w' = w := by
  have hx : (x != x) = false := by simp
  have hy : (y != y) = false := by simp
  by_cases h1 : x < y
  · go_enter Tryd.func70, Tryd.ntmps70
    go_wp2
    go_ret
    exact ⟨ret_int (cmpI_lt h1).symm, rfl⟩
  by_cases h2 : y < x
  · go_enter Tryd.func70, Tryd.ntmps70
    go_wp2
    go_ret
    exact ⟨ret_int (cmpI_gt h2).symm, rfl⟩
  · go_enter Tryd.func70, Tryd.ntmps70
    go_wp2
    go_ret
    exact ⟨ret_int (cmpI_eq (by omega)).symm, rfl⟩

/-- cmp.Or of two numbers. -/
def orI (x y : Int) : Int := if x = 0 then y else x
theorem or_any (x y : Int) (b cap : Nat) (w : World) (h0 : w.cell? ⟨b, 0, none⟩ = some (.int .i64 x)) (h1 : w.cell? ⟨b, 1, none⟩ = some (.int .i64 y)) :
    Calls Tryd.prog 69 #[.slice (some ⟨b, 0, none⟩) 2 cap] w fun e w' => e = .returned (.int .i64 (orI x y)) ∧ w' = w := by
  by_cases hx : x = 0
  · subst hx
    by_cases hy : y = 0
    · subst hy
      go_enter Tryd.func69, Tryd.ntmps69
      go_wp2
      go_rounds 3
      go_ret
      exact ⟨ret_int (by simp [orI]), rfl⟩
    · have hyb : (y != 0) = true := by simpa using hy
      go_enter Tryd.func69, Tryd.ntmps69
      go_wp2
      go_rounds 3
      go_ret
      exact ⟨ret_int (by simp [orI]), rfl⟩
  · have hxb : (x != 0) = true := by simpa using hx
    go_enter Tryd.func69, Tryd.ntmps69
    go_wp2
    go_rounds 3
    go_ret
    exact ⟨ret_int (by rw [orI, if_neg hx]), rfl⟩
theorem orI_cmpS (s t : Snd) : orI (cmpI s.p.toNat t.p.toNat) (cmpI s.m.toNat t.m.toNat) = cmpS s t := rfl
theorem order_any (s t : Snd) (w : World) :
    Calls Tryd.prog 34 #[.agg #[.int .u32 s.p.toNat, .int .u32 s.m.toNat], .agg #[.int .u32 t.p.toNat, .int .u32 t.m.toNat]] w fun e w' => e = .returned (.int .i64 (cmpS s t)) ∧ Ext w w' := by
  go_enter Tryd.func34, Tryd.ntmps34
  go_wp2_with fail
  have f0 := fun x : ExtOf ((w.alloc (.cells #[.int .u32 s.p.toNat, .int .u32 s.m.toNat] 27)).alloc (.cells #[.int .u32 t.p.toNat, .int .u32 t.m.toNat] 27)) => x.cell (b := w.heap.size) (o := 0) (v := .int .u32 s.p.toNat) (by go_simp)
  have f1 := fun x : ExtOf ((w.alloc (.cells #[.int .u32 s.p.toNat, .int .u32 s.m.toNat] 27)).alloc (.cells #[.int .u32 t.p.toNat, .int .u32 t.m.toNat] 27)) => x.cell (b := w.heap.size) (o := 1) (v := .int .u32 s.m.toNat) (by go_simp)
  have f2 := fun x : ExtOf ((w.alloc (.cells #[.int .u32 s.p.toNat, .int .u32 s.m.toNat] 27)).alloc (.cells #[.int .u32 t.p.toNat, .int .u32 t.m.toNat] 27)) => x.cell (b := w.heap.size + 1) (o := 0) (v := .int .u32 t.p.toNat) (by go_simp)
  have f3 := fun x : ExtOf ((w.alloc (.cells #[.int .u32 s.p.toNat, .int .u32 s.m.toNat] 27)).alloc (.cells #[.int .u32 t.p.toNat, .int .u32 t.m.toNat] 27)) => x.cell (b := w.heap.size + 1) (o := 1) (v := .int .u32 t.m.toNat) (by go_simp)
  (refine wp_region_qxt 10 (by kernel_rfl) (by kernel_rfl) ?_
   simp only [List.take_succ_cons, List.take_zero, List.drop_succ_cons, List.drop_zero]
   repeat (go_big_quiet_step ((go_at_call 70; exact calls_ext_same (cmp_any _ _ _))))
   refine wpQuiet_nil ?_
   intro wq hw'
   have hxq := ext_of_ex hw'
   clear hw')
  go_wp2_with (go_at_call 69; refine (or_any (cmpI s.p.toNat t.p.toNat) (cmpI s.m.toNat t.m.toNat) _ _ _ (by go_simp) (by go_simp)).mono ?_; rintro e w' ⟨rfl, rfl⟩)
  go_ret
  exact ⟨rfl, (((Ext.alloc1 w _).alloc _).trans hxq).alloc _⟩

/-! ### The reference's -/
theorem cmpS_lt {s t : Snd} (h : s.p.toNat < t.p.toNat ∨ s.p.toNat = t.p.toNat ∧ s.m.toNat < t.m.toNat) : cmpS s t = -1 := by
  unfold cmpS
  rcases h with h | ⟨h1, h2⟩
  · rw [cmpI_lt (by omega)]; rfl
  · rw [cmpI_eq (by omega), if_pos rfl, cmpI_lt (by omega)]
theorem cmpS_gt {s t : Snd} (h1 : ¬ (s.p.toNat < t.p.toNat ∨ s.p.toNat = t.p.toNat ∧ s.m.toNat < t.m.toNat)) (h2 : s ≠ t) : cmpS s t = 1 := by
  have h3 : ¬ cmpS s t = 0 := fun h => h2 (cmpS_tot.zero h)
  rcases cmpS_tot.tri s t with h | h | h
  · exfalso
    unfold cmpS at h
    rcases cmpI_spec (s.p.toNat : Int) (t.p.toNat : Int) with ⟨e, hh⟩ | ⟨e, hh⟩ | ⟨e, hh⟩
    · exact h1 (.inl (by omega))
    · rw [if_pos e] at h
      rcases cmpI_spec (s.m.toNat : Int) (t.m.toNat : Int) with ⟨e2, hh2⟩ | ⟨e2, hh2⟩ | ⟨e2, hh2⟩
      · exact h1 (.inr ⟨by omega, by omega⟩)
      · omega
      · omega
    · rw [if_neg (by omega)] at h; omega
  · exact absurd h h3
  · exact h
set_option maxHeartbeats 1000000 in
theorem rorder_any (s t : Snd) (w : World) :
    Calls Tryd.prog 81 #[.agg #[.int .u32 s.p.toNat, .int .u32 s.m.toNat], .agg #[.int .u32 t.p.toNat, .int .u32 t.m.toNat]] w fun e w' => e = .returned (.int .i64 (cmpS s t)) ∧ Ext w w' := by
  have heq := eql_snd
  by_cases h1 : s.p.toNat < t.p.toNat
  · have d1 : decide (s.p.toNat < t.p.toNat) = true := by simpa using h1
    have hR := cmpS_lt (.inl h1)
    rw [hR]
    clear hR
    replace h1 := Lib.hid h1
    go_enter Tryd.func81, Tryd.ntmps81
    go_wp2_with fail
    go_ret
    exact ⟨rfl, (by repeat (first | exact Ext.refl _ | assumption | refine Ext.drew ?_ | refine Ext.drewN ?_ _ | refine Ext.alloc ?_ _ | refine Ext.trans ?_ (by assumption)))⟩
  have d1 : decide (s.p.toNat < t.p.toNat) = false := by simpa using h1
  by_cases h2 : s.p.toNat = t.p.toNat
  · have d2 : ((s.p.toNat : Int) == (t.p.toNat : Int)) = true := by simp [h2]
    by_cases h3 : s.m.toNat < t.m.toNat
    · have d3 : decide (s.m.toNat < t.m.toNat) = true := by simpa using h3
      have hR := cmpS_lt (.inr ⟨h2, h3⟩)
      rw [hR]
      clear hR
      replace h2 := Lib.hid h2
      replace h3 := Lib.hid h3
      go_enter Tryd.func81, Tryd.ntmps81
      go_wp2_with fail
      go_ret
      exact ⟨rfl, (by repeat (first | exact Ext.refl _ | assumption | refine Ext.drew ?_ | refine Ext.drewN ?_ _ | refine Ext.alloc ?_ _ | refine Ext.trans ?_ (by assumption)))⟩
    have d3 : decide (s.m.toNat < t.m.toNat) = false := by simpa using h3
    by_cases h4 : s = t
    · subst h4
      rw [cmpS_tot.self]
      have d4 : decide (s = s) = true := by simp
      clear h2 h1 h3
      go_enter Tryd.func81, Tryd.ntmps81
      go_wp2_with fail
      go_ret
      exact ⟨rfl, (by repeat (first | exact Ext.refl _ | assumption | refine Ext.drew ?_ | refine Ext.drewN ?_ _ | refine Ext.alloc ?_ _ | refine Ext.trans ?_ (by assumption)))⟩
    · have d4 : decide (s = t) = false := by simpa using h4
      have hR := cmpS_gt (fun h => h.elim h1 fun h => h3 h.2) h4
      rw [hR]
      clear hR
      replace h1 := Lib.hid h1
      replace h2 := Lib.hid h2
      replace h3 := Lib.hid h3
      replace h4 := Lib.hid h4
      go_enter Tryd.func81, Tryd.ntmps81
      go_wp2_with fail
      go_ret
      exact ⟨rfl, (by repeat (first | exact Ext.refl _ | assumption | refine Ext.drew ?_ | refine Ext.drewN ?_ _ | refine Ext.alloc ?_ _ | refine Ext.trans ?_ (by assumption)))⟩
  · have d2 : ((s.p.toNat : Int) == (t.p.toNat : Int)) = false := by simp; omega
    have h4 : s ≠ t := fun h => h2 (by rw [h])
    have d4 : decide (s = t) = false := by simpa using h4
    have hR := cmpS_gt (fun h => h.elim h1 fun h => h2 h.1) h4
    rw [hR]
    clear hR
    replace h1 := Lib.hid h1
    replace h2 := Lib.hid h2
    replace h4 := Lib.hid h4
    go_enter Tryd.func81, Tryd.ntmps81
    go_wp2_with fail
    go_ret
    exact ⟨rfl, (by repeat (first | exact Ext.refl _ | assumption | refine Ext.drew ?_ | refine Ext.drewN ?_ _ | refine Ext.alloc ?_ _ | refine Ext.trans ?_ (by assumption)))⟩
end Go.Proofs.YtbnbfdbliokcaaaDoor
namespace Go.Proofs.YtbnbfdbliokcaaaDoor
open Go.RowKit
/-! ### Rows of the call's own, elements of k cells -/
section
variable {α : Type} {k : Nat} {enc : α → List Value} {B e g n cap : Nat} {w : World} {xs : List α}
theorem OwnK.atk (hk : ∀ x, (enc x).length = k) (h : OwnK k enc B e w (.slice (some ⟨g, 0, none⟩) n cap) xs) {i : Nat} {y : α} (hi : xs[i]? = some y) {j : Nat} {u : Value} (hu : (enc y)[j]? = some u) : w.cell? ⟨g, i * k + j, none⟩ = some u := by
  obtain ⟨h1, h2⟩ := h
  rcases h2 with ⟨h3, _⟩ | ⟨g', cap', cur, h3, _, hh, _, _, _, ht⟩
  · cases h3
  · simp only [Value.slice.injEq, Option.some.injEq, Addr.mk.injEq, and_true] at h3
    obtain ⟨rfl, _, _⟩ := h3
    have hf := flatMap_at hk xs i y hi j _ hu
    rw [← ht, List.getElem?_take] at hf
    split at hf
    · simp only [World.cell?, hh]; simpa using hf
    · cases hf
theorem OwnK.free (h : OwnK k enc B e w (.slice (some ⟨g, 0, none⟩) n cap) xs) (i : Nat) : w.frozen? ⟨g, i, none⟩ = false := by
  obtain ⟨h1, h2⟩ := h
  rcases h2 with ⟨h3, _⟩ | ⟨g', cap', cur, h3, _, hh, _, _, _, ht⟩
  · cases h3
  · simp only [Value.slice.injEq, Option.some.injEq, Addr.mk.injEq, and_true] at h3
    obtain ⟨rfl, _, _⟩ := h3
    exact frozen_of_row w g i cur e hh
theorem OwnK.ge (h : OwnK k enc B e w (.slice (some ⟨g, 0, none⟩) n cap) xs) : B ≤ g ∧ g < w.heap.size ∧ xs.length = n ∧ n ≤ cap ∧ cap ≤ maxLen := by
  have h0 := World.ownsRow.lt h g rfl
  obtain ⟨h1, h2⟩ := h
  rcases h2 with ⟨h3, _⟩ | ⟨g', cap', cur, h3, _, hh, h4, h5, _, ht⟩
  · cases h3
  · simp only [Value.slice.injEq, Option.some.injEq, Addr.mk.injEq, and_true] at h3
    obtain ⟨_, h6, h7⟩ := h3
    exact ⟨h0.1, h0.2, h6.symm, by omega, by omega⟩
theorem OwnK.takeK (hk : ∀ x, (enc x).length = k) (h : OwnK k enc B e w (.slice (some ⟨g, 0, none⟩) n cap) xs) {m : Nat} (hm : m ≤ n) : OwnK k enc B e w (.slice (some ⟨g, 0, none⟩) m cap) (xs.take m) := by
  have hl := (OwnK.ge h).2.2.1
  obtain ⟨h1, h2⟩ := h
  rcases h2 with ⟨h3, _⟩ | ⟨g', cap', cur, h3, hg, hh, h4, h5, h6, ht⟩
  · cases h3
  · simp only [Value.slice.injEq, Option.some.injEq, Addr.mk.injEq, and_true] at h3
    obtain ⟨rfl, h7, rfl⟩ := h3
    have hlt : (xs.take m).length = m := by simp; omega
    refine ⟨length_flatMap_enc hk _, .inr ⟨g, cap, cur, by rw [hlt], hg, hh, by omega, h5, h6, ?_⟩⟩
    rw [flatMap_take hk, ← ht, List.take_take, hlt]
    congr 1
    have := Nat.mul_le_mul_right k hm
    rw [h7] at this; omega
/-- Cells behind the row are written: the row stays. -/
theorem OwnK.behind (hk : ∀ x, (enc x).length = k) : ∀ (vs : List Value) (o : Nat) (w : World), OwnK k enc B e w (.slice (some ⟨g, 0, none⟩) n cap) xs → n * k ≤ o → OwnK k enc B e (w.setCells g o vs) (.slice (some ⟨g, 0, none⟩) n cap) xs
  | [], _, _, h, _ => h
  | v :: vs, o, w, h, ho => by
    have hl := (OwnK.ge h).2.2.1
    refine OwnK.behind hk vs (o + 1) _ ?_ (by omega)
    subst hl
    have h1 := (World.ownsRow.stored h o v).1
    rw [List.set_eq_of_length_le (by rw [length_flatMap_enc hk]; exact ho)] at h1
    exact h1
theorem flat_set (hk : ∀ x, (enc x).length = k) : ∀ (xs : List α) (i : Nat) (y : α), i < xs.length → (xs.set i y).flatMap enc = (xs.flatMap enc).take (i * k) ++ enc y ++ (xs.flatMap enc).drop (i * k + k)
  | [], _, _, h => absurd h (Nat.not_lt_zero _)
  | x :: xs, 0, y, _ => by
    simp only [List.set_cons_zero, List.flatMap_cons, Nat.zero_mul, List.take_zero, List.nil_append, Nat.zero_add]
    rw [List.drop_append_of_le_length (by rw [hk]; exact Nat.le_refl _), List.drop_of_length_le (by rw [hk]; exact Nat.le_refl _)]; rfl
  | x :: xs, i + 1, y, h => by
    have ih := flat_set hk xs i y (by simpa using h)
    simp only [List.set_cons_succ, List.flatMap_cons]
    rw [ih, Nat.add_mul, Nat.one_mul, List.take_append, hk, List.take_of_length_le (l := enc x) (by rw [hk]; omega), show i * k + k - k = i * k by omega, List.drop_append, hk, List.drop_of_length_le (l := enc x) (by rw [hk]; omega), show i * k + k + k - k = i * k + k by omega]
    simp
end
section
variable {B e g n cap : Nat} {w : World} {xs : List Snd}
theorem OwnS.at (h : OwnS B e w (.slice (some ⟨g, 0, none⟩) n cap) xs) {i : Nat} {y : Snd} (hi : xs[i]? = some y) : w.cell? ⟨g, i * 2, none⟩ = some (.int .u32 y.p.toNat) ∧ w.cell? ⟨g, i * 2 + 1, none⟩ = some (.int .u32 y.m.toNat) :=
  ⟨OwnK.atk Snd.len h hi (j := 0) rfl, OwnK.atk Snd.len h hi (j := 1) rfl⟩
theorem set_two {β : Type} (l : List β) (j : Nat) (a b : β) (h : j + 1 < l.length) : (l.set j a).set (j + 1) b = l.take j ++ [a, b] ++ l.drop (j + 2) := by
  apply List.ext_getElem?
  intro i
  rw [List.getElem?_set, List.getElem?_set, List.append_assoc, List.getElem?_append, List.getElem?_append]
  simp only [List.length_set, List.length_take, List.length_cons, List.length_nil, List.getElem?_take, List.getElem?_drop]
  by_cases h1 : i < j
  · rw [if_neg (by omega), if_neg (by omega), if_pos (by omega), if_pos h1]
  · by_cases h2 : i = j
    · subst h2
      rw [if_neg (by omega), if_pos rfl, if_pos (by omega), if_neg (by omega), if_pos (by omega)]
      simp [show min i l.length = i by omega]
    · by_cases h3 : i = j + 1
      · subst h3
        rw [if_pos rfl, if_pos h, if_neg (by omega), if_pos (by omega)]
        simp [show min j l.length = j by omega]
      · rw [if_neg (by omega), if_neg (by omega), if_neg (by omega), if_neg (by omega)]
        congr 1; omega
theorem OwnS.set (h : OwnS B e w (.slice (some ⟨g, 0, none⟩) n cap) xs) {i : Nat} (hi : i < n) (y : Snd) :
    OwnS B e ((w.setCell ⟨g, i * 2, none⟩ (.int .u32 y.p.toNat)).setCell ⟨g, i * 2 + 1, none⟩ (.int .u32 y.m.toNat)) (.slice (some ⟨g, 0, none⟩) n cap) (xs.set i y) := by
  have hl := (OwnK.ge h).2.2.1
  subst hl
  have h1 := (World.ownsRow.stored h (i * 2) (.int .u32 y.p.toNat)).1
  have h2 := (World.ownsRow.stored h1 (i * 2 + 1) (.int .u32 y.m.toNat)).1
  rw [set_two _ _ _ _ (by rw [length_flatMap_enc Snd.len]; omega)] at h2
  unfold OwnS OwnK
  rw [List.length_set, flat_set Snd.len xs i y hi]
  exact h2
end
end Go.Proofs.YtbnbfdbliokcaaaDoor
namespace Go.Proofs.YtbnbfdbliokcaaaDoor
open Go.RowKit Go.Shelf Go.Sort Go.Lib
theorem ExtD.to_grow {w w' : World} (h : ExtD w w') : ∃ q os, w' = Sort.grow (w.drewN q) os := by
  refine ⟨w'.drawn - w.drawn, w'.heap.extract w.heap.size w'.heap.size, ?_⟩
  have h1 := h.ext.bel.os; have h2 := h.ext.bel.tape; have h3 := h.ext.bel.output; have h4 := h.dr; have h5 := h.ext.bel.size; have h6 := h.ext.bel.block
  obtain ⟨hp, tp, dr, os, out⟩ := w
  obtain ⟨hp', tp', dr', os', out'⟩ := w'
  simp only at *
  subst h1 h2 h3
  simp only [Sort.grow, World.drewN, World.mk.injEq, and_true, true_and]
  refine ⟨?_, by omega⟩
  apply Array.ext_getElem?; intro k
  rw [Array.getElem?_append]
  split
  · exact h6 k ‹_›
  · rw [Array.getElem?_extract]
    by_cases hk : k < hp'.size
    · rw [if_pos (by omega)]; congr 1; omega
    · rw [if_neg (by omega), Array.getElem?_eq_none (by omega)]
/-- A world that has grown since W, and whose tape has not gone back. -/
structure ExtDOf (W : World) where
  w : World
  h : ExtD W w
instance (W : World) : Inhabited (ExtDOf W) := ⟨⟨W, ExtD.refl W⟩⟩
theorem ExtDOf.cell {W : World} (x : ExtDOf W) {b o : Nat} {v : Value} (h : W.cell? ⟨b, o, none⟩ = some v) : x.w.cell? ⟨b, o, none⟩ = some v := x.h.ext.cellv h
theorem calls_extD_same {P : Program} {f : FuncId} {args : Array Value} {W : World} {x : ExtDOf W} {v : Value}
    (h : Calls P f args x.w fun e w' => e = .returned v ∧ w' = x.w) : Calls P f args x.w fun e w'' => e = .returned v ∧ ∃ y : ExtDOf W, w'' = y.w :=
  h.mono fun _ _ ⟨he, hx⟩ => ⟨he, x, hx⟩
theorem extD_of_ex {W w' : World} (h : ∃ x : ExtDOf W, w' = x.w) : ExtD W w' := by obtain ⟨x, rfl⟩ := h; exact x.h
theorem wp_region_qxtD {P : Program} {id : Nat} {Q : Exit → Act → World → Prop} {a : Act} {w : World} {l : List Oper} (n : Nat) (hm : P.follows .mixedOrders = true) (hB : Region.lexTailB .any l.toArray n = true)
    (h : wpQuiet P l.toArray (fun w' => ∃ x : ExtDOf w, w' = x.w) (fun a' => ∀ w', (∃ x : ExtDOf w, w' = x.w) → wpList P l.toArray Q (l.drop n) a' w') (l.take n) a) : (Code.region id l.toArray true).wp P Q a w :=
  wp_region_qt (fun w' => ∃ x : ExtDOf w, w' = x.w) n hm hB ⟨⟨w.drew, (ExtD.refl w).drew⟩, rfl⟩ h
section
variable {α : Type} [Inhabited α] {k : Nat} {enc : α → List Value}
theorem flatK_toList (hk : ∀ x, (enc x).length = k) (d : Array α) : (flatK enc k d).toList = d.toList.flatMap enc := by
  apply List.ext_getElem?
  intro t
  by_cases ht : t < d.size * k
  · have hk0 : 0 < k := Nat.pos_of_ne_zero fun h => by subst h; simp at ht
    have hq : t / k < d.size := Nat.div_lt_of_lt_mul (by rwa [Nat.mul_comm])
    have hx : d.toList[t / k]? = some d[t / k] := by simp [hq]
    have hr : t % k < (enc d[t / k]).length := by rw [hk]; exact Nat.mod_lt _ hk0
    have h1 := flatMap_at hk d.toList (t / k) _ hx (t % k) _ (List.getElem?_eq_getElem hr)
    have hdm : t / k * k + t % k = t := by rw [Nat.mul_comm]; exact Nat.div_add_mod t k
    rw [hdm] at h1
    rw [h1, Array.getElem?_toList, Array.getElem?_eq_getElem (by simpa using ht)]
    have := get_flatK enc k d t ht
    rw [getElem!_pos (flatK enc k d) t (by simpa using ht)] at this
    rw [this, getElem!_pos d _ hq, getElem!_pos (enc d[t / k]) _ hr]
  · rw [List.getElem?_eq_none (by simp; omega), List.getElem?_eq_none (by rw [length_flatMap_enc hk]; simpa using ht)]
theorem take_putCells' (cur ts : Array Value) (h : ts.size ≤ cur.size) : (putCells id 0 ts cur).toList.take ts.size = ts.toList := by
  apply List.ext_getElem?
  intro j
  by_cases hj : j < ts.size
  · rw [List.getElem?_take_of_lt hj, Array.getElem?_toList]
    simp [putCells, hj, show j < cur.size by omega]
  · rw [List.getElem?_take_eq_none (by omega), List.getElem?_eq_none (by simp; omega)]
theorem OwnK.holds (hk : ∀ x, (enc x).length = k) {B e g n cap : Nat} {w : World} {d : Array α} (h : OwnK k enc B e w (.slice (some ⟨g, 0, none⟩) n cap) d.toList) : HoldsK enc k w g 0 d := by
  have hfr := OwnK.free h
  obtain ⟨h1, h2⟩ := h
  rcases h2 with ⟨h3, _⟩ | ⟨g', cap', cur, h3, hg, hh, h4, h5, h6, ht⟩
  · cases h3
  · simp only [Value.slice.injEq, Option.some.injEq, Addr.mk.injEq, and_true] at h3
    obtain ⟨rfl, h7, rfl⟩ := h3
    intro j hj
    rw [Nat.zero_add]
    refine ⟨?_, hfr j⟩
    rw [size_flatK] at hj
    have hf : (d.toList.flatMap enc)[j]? = some (flatK enc k d)[j]! := by
      rw [← flatK_toList hk, Array.getElem?_toList, Array.getElem?_eq_getElem (by simpa using hj), getElem!_pos (flatK enc k d) j (by simpa using hj)]
    rw [← ht, List.getElem?_take] at hf
    split at hf
    · simp only [World.cell?, hh]; simpa using hf
    · cases hf
theorem extD_sortWorldK {w w0 : World} (hx : Ext w w0) {blk : Nat} (hb : w.heap.size ≤ blk) (off m : Nat) (dk : Array α) (os : Array Obj) : Ext w (sortWorldK enc k w0 blk off m dk os) := by
  have hs := hx.le
  refine ⟨⟨hx.bel.os, hx.bel.tape, hx.bel.output, by simp [sortWorldK, putRowK, Sort.ahead]; omega, fun j hj => ?_⟩⟩
  unfold sortWorldK putRowK
  rw [heap_grow_old _ _ (by simp [Sort.ahead]; omega)]
  have : blk ≠ j := by omega
  simp [putRow, mapBlock, Sort.ahead, Array.getElem?_modify, this]
  exact hx.bel.block j hj
theorem own_sortedK (hk : ∀ x, (enc x).length = k) {w0 : World} {B e g n cap m : Nat} {hs : List α} {os : Array Obj} (h : OwnK k enc B e w0 (.slice (some ⟨g, 0, none⟩) n cap) hs) (d : Array α) (hd : d.size = n) :
    OwnK k enc B e (sortWorldK enc k w0 g 0 m d os) (.slice (some ⟨g, 0, none⟩) n cap) d.toList := by
  obtain ⟨h1, h2⟩ := h
  rcases h2 with ⟨h3, _⟩ | ⟨g', cap', cur, h3, hg, hh, h4, h5, h6, ht⟩
  · cases h3
  · simp only [Value.slice.injEq, Option.some.injEq, Addr.mk.injEq, and_true] at h3
    obtain ⟨rfl, h7, rfl⟩ := h3
    have hlt : d.toList.length = n := by simp [hd]
    have hgs : g < w0.heap.size := (Array.getElem?_eq_some_iff.1 hh).1
    have hmul : n * k ≤ cap * k := Nat.mul_le_mul_right k (by omega)
    refine ⟨length_flatMap_enc hk _, .inr ⟨g, cap, putCells id 0 (flatK enc k d) cur, by rw [hlt], hg, ?_, by omega, h5, by simp [putCells, h6], ?_⟩⟩
    · unfold sortWorldK putRowK
      rw [heap_grow_old _ _ (by simpa [Sort.ahead] using hgs)]
      simp [putRow, mapBlock, Sort.ahead, Array.getElem?_modify, hh, onCells]
    · have := take_putCells' cur (flatK enc k d) (by rw [size_flatK, hd, h6]; exact hmul)
      rw [size_flatK, hd] at this
      rw [hlt, this, flatK_toList hk]
/-- slices.SortFunc at a list that the call owns. -/
theorem sortK_any {ρ : Ren} (L : SlLaysF0.n6 Tryd.prog ρ) (hk : ∀ x, (enc x).length = k) (h1 : ∀ x, ∀ v ∈ enc x, v.oneCell' = true) (aE : ∀ w, (isAgg (ρ.t 24)).run Tryd.prog w = .ok true w) (zE : ∀ w, (Go.sizeOf (ρ.t 24)).run Tryd.prog w = .ok k w)
    (cf : α → α → Int) (hO : SWO (ltOf cf)) (gf : Nat) (cb : Array Value) (eg : ∀ args w, (callFunc gf args).run Tryd.prog w = .ok (.enter gf args) w) {w w0 : World} {e g n cap : Nat} {hs : List α}
    (hcmp : ∀ (W : World) (x y : α), Ext w W → Calls Tryd.prog gf (#[.agg (enc x).toArray, .agg (enc y).toArray] ++ cb) W fun en w' => en = .returned (.int .i64 (cf x y)) ∧ ExtD W w')
    (hx : Ext w w0) (hown : OwnK k enc w.heap.size e w0 (.slice (some ⟨g, 0, none⟩) n cap) hs) (hn : n ≤ 60000000) :
    Calls Tryd.prog (ρ.f 6) #[.slice (some ⟨g, 0, none⟩) n cap, .func (.func gf) #[] cb] w0 fun en w' => en = .returned (.tuple #[]) ∧ Ext w w' ∧
      ∃ ts : List α, ts.Perm hs ∧ ts.Pairwise (fun x y => ¬ cf y x < 0) ∧ OwnK k enc w.heap.size e w' (.slice (some ⟨g, 0, none⟩) n cap) ts := by
  obtain ⟨hB, hgs, hlen, _, _⟩ := OwnK.ge hown
  obtain ⟨d, rfl⟩ : ∃ d : Array α, d.toList = hs := ⟨hs.toArray, rfl⟩
  have hsz : d.size = n := by simpa using hlen
  have hc := AnyQ.slices_SortFunc L k aE zE enc hk h1 cf hO gf cb g 0 cap d w0 eg
    (fun m os dk _ x y => (hcmp _ x y (extD_sortWorldK hx hB 0 m dk os)).mono fun en w' ⟨he, h⟩ => ⟨he, h.to_grow⟩)
    (OwnK.holds hk hown) hgs (by omega)
  rw [hsz] at hc
  refine Calls.mono hc ?_
  rintro en w' ⟨rfl, d', m, os, hp, hso, rfl⟩
  refine ⟨rfl, extD_sortWorldK hx hB _ _ _ _, d'.toList, ?_, ?_, own_sortedK hk hown d' (by rw [hp.1, hsz])⟩
  · have := hp.2.2
    rw [← hsz] at this
    rw [← hp.1, Array.extract_size] at this
    rw [hp.1, Array.extract_size] at this
    exact this
  · rw [List.pairwise_iff_getElem]
    intro i j hi hj hij
    have h1 := hso i j (Nat.zero_le _) hij (by simp at hj; have := hp.1; omega)
    have h2 : ¬ cf d'[j]! d'[i]! < 0 := of_decide_eq_false h1
    simp at hi hj
    rw [getElem!_pos d' i hi, getElem!_pos d' j hj] at h2
    simpa using h2
end
theorem order_anyD (s t : Snd) (w : World) :
    Calls Tryd.prog 34 #[.agg #[.int .u32 s.p.toNat, .int .u32 s.m.toNat], .agg #[.int .u32 t.p.toNat, .int .u32 t.m.toNat]] w fun e w' => e = .returned (.int .i64 (cmpS s t)) ∧ ExtD w w' := by
  go_enter Tryd.func34, Tryd.ntmps34
  go_wp2_with fail
  have f0 := fun x : ExtDOf ((w.alloc (.cells #[.int .u32 s.p.toNat, .int .u32 s.m.toNat] 27)).alloc (.cells #[.int .u32 t.p.toNat, .int .u32 t.m.toNat] 27)) => x.cell (b := w.heap.size) (o := 0) (v := .int .u32 s.p.toNat) (by go_simp)
  have f1 := fun x : ExtDOf ((w.alloc (.cells #[.int .u32 s.p.toNat, .int .u32 s.m.toNat] 27)).alloc (.cells #[.int .u32 t.p.toNat, .int .u32 t.m.toNat] 27)) => x.cell (b := w.heap.size) (o := 1) (v := .int .u32 s.m.toNat) (by go_simp)
  have f2 := fun x : ExtDOf ((w.alloc (.cells #[.int .u32 s.p.toNat, .int .u32 s.m.toNat] 27)).alloc (.cells #[.int .u32 t.p.toNat, .int .u32 t.m.toNat] 27)) => x.cell (b := w.heap.size + 1) (o := 0) (v := .int .u32 t.p.toNat) (by go_simp)
  have f3 := fun x : ExtDOf ((w.alloc (.cells #[.int .u32 s.p.toNat, .int .u32 s.m.toNat] 27)).alloc (.cells #[.int .u32 t.p.toNat, .int .u32 t.m.toNat] 27)) => x.cell (b := w.heap.size + 1) (o := 1) (v := .int .u32 t.m.toNat) (by go_simp)
  refine wp_region_qxtD 10 (by kernel_rfl) (by kernel_rfl) ?_
  simp only [List.take_succ_cons, List.take_zero, List.drop_succ_cons, List.drop_zero]
  repeat (go_big_quiet_step ((go_at_call 70; exact calls_extD_same (cmp_any _ _ _))))
  refine wpQuiet_nil ?_
  intro wq hw'
  have hxq := extD_of_ex hw'
  clear hw'
  go_wp2_with (go_at_call 69; refine (or_any (cmpI s.p.toNat t.p.toNat) (cmpI s.m.toNat t.m.toNat) _ _ _ (by go_simp) (by go_simp)).mono ?_; rintro e w' ⟨rfl, rfl⟩)
  go_ret
  exact ⟨rfl, (((ExtD.refl w).alloc _).alloc _ |>.trans hxq).alloc _⟩
theorem swo_tot {α : Type} {cf : α → α → Int} (T : Tot cf) : SWO (ltOf cf) where
  irrefl x := by simp [ltOf, T.self]
  trans x y z h1 h2 := by
    simp only [ltOf, decide_eq_true_eq] at *
    exact T.trans h1 h2
  ntrans x y z h1 h2 := by
    simp only [ltOf, decide_eq_false_iff_not] at *
    have h3 := T.anti x y
    have h4 := T.anti y z
    intro h5
    by_cases h6 : cf y z = 0
    · rw [T.zero h6] at h1; exact h1 h5
    · have h7 : cf z y < 0 := by rcases T.tri y z with h | h | h <;> omega
      have := T.trans h5 h7
      exact h1 this
end Go.Proofs.YtbnbfdbliokcaaaDoor
