/-
  Sounds looked for in a list; refused.
  Build, least: plain.
-/
import Derived.Test.YtilkemdecenibaaV2
namespace Go.Proofs.Ytilkemdecenibaa
open Go.RowKit
/-- The first place of x; -1: there is none. -/
def idxI {α : Type} [DecidableEq α] (xs : List α) (x : α) : Int := if x ∈ xs then (xs.idxOf x : Nat) else -1
theorem idxI_at {α : Type} [DecidableEq α] {xs : List α} {x : α} {k : Nat} (hk : xs[k]? = some x) (h : ∀ (i : Nat) (y : α), i < k → xs[i]? = some y → decide (x ≠ y) = true) : idxI xs x = k := by
  have hm := List.mem_of_getElem? hk
  have hlt := (List.getElem?_eq_some_iff.1 hk).1
  unfold idxI
  rw [if_pos hm]
  have hi : xs.idxOf x < xs.length := List.idxOf_lt_length_iff.2 hm
  have he : xs[xs.idxOf x]? = some x := by rw [List.getElem?_eq_getElem hi, List.getElem_idxOf]
  congr 1
  rcases Nat.lt_trichotomy (xs.idxOf x) k with hl | hl | hl
  · have := h _ _ hl he; simp at this
  · exact hl
  · have hle : xs.idxOf x ≤ k := by
      have h2 := List.getElem?_eq_some_iff.1 hk
      have : xs.idxOf x = (xs.take k ++ xs.drop k).idxOf x := by rw [List.take_append_drop]
      rw [this, List.idxOf_append]
      split
      · rename_i hin
        have := List.idxOf_lt_length_iff.2 hin
        simp at this; omega
      · have hd : xs.drop k = x :: xs.drop (k + 1) := by rw [List.drop_eq_getElem_cons hlt, h2.2]
        rw [hd]; simp; omega
    omega
theorem idxI_none {α : Type} [DecidableEq α] {xs : List α} {x : α} {n : Nat} (hl : xs.length = n) (h : ∀ (i : Nat) (y : α), i < n → xs[i]? = some y → decide (x ≠ y) = true) : idxI xs x = -1 := by
  unfold idxI
  rw [if_neg]
  intro hm
  obtain ⟨i, hi⟩ := List.getElem?_of_mem hm
  have := h i x (by have := (List.getElem?_eq_some_iff.1 hi).1; omega) hi
  simp at this
theorem indexS_any (a : Option Addr) (n cap : Nat) (xs : List Snd) (x : Snd) (w : World) (hr : RdS w a n cap xs) :
    Calls Try.prog 61 #[.slice a n cap, .agg #[.int .u32 x.p.toNat, .int .u32 x.m.toNat]] w fun e w' => e = .returned (.int .i64 (idxI xs x)) ∧ Ext w w' := by
  have he := eql_snd
  have hl := hr.len
  have hmax : n ≤ 9223372036854775807 := by have := hr.le; have := hr.most; unfold maxLen at this; omega
  replace hl := Lib.hid hl
  go_enter Try.func61, Try.ntmps61
  go_wp2_with fail
  go_loopw [8] (fun i wr => ∃ k : Nat, k ≤ n ∧ i = .int .i64 k ∧ Ext (w.alloc (.cells #[.int .u32 x.p.toNat, .int .u32 x.m.toNat] 24)) wr ∧ Hid (∀ (i : Nat) (y : _), i < k → xs[i]? = some y → decide (x ≠ y) = true)) (fun i _ => n - (intOf i).toNat)
  case atStart => exact ⟨0, Nat.zero_le _, rfl, Ext.refl _, fun i x hi => absurd hi (Nat.not_lt_zero _)⟩
  case round =>
    obtain ⟨k, hk, rfl, hx, hall⟩ := hrel
    have hx0 : Ext w wr := (Ext.alloc1 _ _).trans hx
    have hcl1 := fun b o (h : b < _) => Ext.cell hx (b := b) o h
    by_cases hlt : k < n
    · obtain ⟨b, off, s, rfl, hs, hb, hc0, hc1⟩ := (hr.ext hx0).snd hlt
      by_cases hst : x = s
      · have hd : decide (x = s) = true := by simpa using hst
        have hi := Lib.hid (idxI_at (by rw [hs.out, hst]) hall.out)
        clear hst
        go_wp2_with fail
        go_quiet (fail)
        go_wp2_with fail
        go_ret
        exact ⟨ret_int hi.out.symm, (by repeat (first | exact Ext.refl _ | assumption | refine Ext.drew ?_ | refine Ext.drewN ?_ _ | refine Ext.alloc ?_ _ | refine Ext.trans ?_ (by assumption)))⟩
      · have hd : decide (x = s) = false := by simpa using hst
        have hn := all_succ (p := fun y => decide (x ≠ y)) hall.out hs.out (by simpa using hst)
        replace hn := Lib.hid hn
        go_wp2_with fail
        go_quiet (fail)
        go_wp2_with fail
        (first | exact ⟨⟨k + 1, by omega, by go_num, hx.trans ((Ext.refl _).drewN _), hn⟩, (by simp [intOf]; omega)⟩ | (go_roundw; case rel => exact ⟨k + 1, by omega, by go_num, hx.trans ((Ext.refl _).drewN _), hn⟩; case measure => exact (by simp [intOf]; omega)))
    · go_wp2_with fail
      go_ret
      exact ⟨ret_int (idxI_none hl.out (fun i y hi => hall.out i y (by omega))).symm, hx0⟩
theorem containsS_any (a : Option Addr) (n cap : Nat) (xs : List Snd) (x : Snd) (w : World) (hr : RdS w a n cap xs) :
    Calls Try.prog 105 #[.slice a n cap, .agg #[.int .u32 x.p.toNat, .int .u32 x.m.toNat]] w fun e w' => e = .returned (.bool (decide (x ∈ xs))) ∧ Ext w w' := by
  have hi : decide (0 ≤ idxI xs x) = decide (x ∈ xs) := by
    unfold idxI
    by_cases h : x ∈ xs
    · rw [if_pos h]; simp [h]
    · rw [if_neg h]; simp [h]
  go_enter Try.func105, Try.ntmps105
  go_wp2_with fail
  refine (indexS_any a n cap xs x _ (hr.ext (Ext.alloc1 _ _))).mono ?_
  rintro e w1 ⟨rfl, hx1⟩
  go_wp2_with fail
  go_ret
  exact ⟨ret_bool (by first | exact hi | simp), (by repeat (first | exact Ext.refl _ | assumption | refine Ext.drew ?_ | refine Ext.drewN ?_ _ | refine Ext.alloc ?_ _ | refine Ext.trans ?_ (by assumption)))⟩
/-- What a call that makes a word hands back. -/
def RetS (xs : List Snd) (w : World) (e : Ending) (w' : World) : Prop := ∃ v, e = .returned v ∧ OwnS w.heap.size 24 w' v xs ∧ Ext w w'
theorem clone_any (a : Option Addr) (n cap : Nat) (xs : List Snd) (w : World) (hr : RdS w a n cap xs) (hn : n ≤ 60000) :
    Calls Try.prog 34 #[.slice a n cap] w (RetS xs w) := by
  cases a with
  | none =>
    have hc := hr.isnil rfl
    have h0 : n = 0 := by have := hr.le; omega
    subst h0; subst hc
    have hx : xs = [] := List.eq_nil_of_length_eq_zero hr.len
    subst hx
    have he := fun w => Lib.run_eql_slice_nil (P := Try.prog) w 28 24 Option.none 0 0 0 0 Try.underlying28
    go_enter Try.func34, Try.ntmps34
    go_wp2_with fail
    go_ret
    exact ⟨_, rfl, OwnK.nil _ _ _, Ext.refl _⟩
  | some ad =>
    have he := fun w => Lib.run_eql_slice_nil (P := Try.prog) w 28 24 (some ad) n cap 0 0 Try.underlying28
    have h0 : OwnS w.heap.size 24 (w.alloc (.cells #[] 24)) (.slice (some ⟨w.heap.size, 0, Option.none⟩) 0 0) [] := World.ownsRow_lit w #[] 0 (Nat.le_refl _) (Nat.zero_le _) rfl
    go_enter Try.func34, Try.ntmps34
    go_wp2_with (at_builtin; refine wp_appN w _ xs rfl _ _ 28 rfl 24 Try.underlying28 info_snd rfl (by decide) _ _ rfl h0 (Ext.alloc1 _ _) (some ad) n cap rfl (hr.ext (Ext.alloc1 _ _)) Snd.len Snd.one (by simp; omega) (by unfold maxLen; simp; omega) ?_; intro v' w1 hown1 hx1 _)
    go_ret
    exact ⟨_, rfl, hown1, hx1⟩
theorem rdk_pre {α : Type} {k : Nat} {enc : α → List Value} {w : World} {a : Option Addr} {n cap : Nat} {xs : List α} (h : RdK k enc w a n cap xs) {m : Nat} (hm : m ≤ n) : RdK k enc w a m cap (xs.take m) :=
  ⟨by rw [List.length_take, h.len]; omega, by have := h.le; omega, h.most, h.isnil, fun h0 => let ⟨b, off, ha, hb, hc⟩ := h.pos (by omega); ⟨b, off, ha, hb, fun i x hi j u hu => hc i x (by rw [List.getElem?_take] at hi; split at hi; exact hi; cases hi) j u hu⟩⟩
theorem any_of_atS {α : Type} {xs : List α} {p : α → Bool} {i : Nat} {x : α} (hi : xs[i]? = some x) (hp : p x = true) : xs.any p = true := List.any_eq_true.2 ⟨x, List.mem_of_getElem? hi, hp⟩
theorem any_noneS {α : Type} {xs : List α} {p : α → Bool} {n : Nat} (hl : xs.length = n) (h : ∀ (i : Nat) (x : α), i < n → xs[i]? = some x → (!p x) = true) : xs.any p = false := by
  rw [List.any_eq_false]; intro x hx
  obtain ⟨i, hi⟩ := List.getElem?_of_mem hx
  have := h i x (by have := (List.getElem?_eq_some_iff.1 hi).1; omega) hi
  simpa using this
/-! ### The sounds are in order -/
theorem refused1_any (s : Snd) (w : World) : Calls Try.prog 103 #[sndV s] w fun e w' => e = .returned (.bool (!s.ok)) ∧ Ext w w' := by
  go_enter Try.func103, Try.ntmps103
  go_wp2_with fail
  refine (fvalid_any s _).mono ?_
  rintro e w1 ⟨rfl, hx1⟩
  go_wp2_with fail
  go_ret
  exact ⟨rfl, (by repeat (first | exact Ext.refl _ | assumption | refine Ext.drew ?_ | refine Ext.drewN ?_ _ | refine Ext.alloc ?_ _ | refine Ext.trans ?_ (by assumption)))⟩
theorem indexV_any (a : Option Addr) (n cap : Nat) (xs : List Snd) (w : World) (hr : RdS w a n cap xs) :
    Calls Try.prog 130 #[.slice a n cap, .func (.func 103) #[] #[]] w fun e w' => ∃ r : Int, e = .returned (.int .i64 r) ∧ decide (0 ≤ r) = xs.any (fun y => !y.ok) ∧ Ext w w' := by
  have any_of_at := @any_of_atS Snd
  have any_none := @any_noneS Snd
  have hl := hr.len
  have hmax : n ≤ 9223372036854775807 := by have := hr.le; have := hr.most; unfold maxLen at this; omega
  replace hl := Lib.hid hl
  go_enter Try.func130, Try.ntmps130
  go_wp2_with fail
  go_loopw [8] (fun i wr => ∃ k : Nat, k ≤ n ∧ i = .int .i64 k ∧ Ext w wr ∧ Hid (∀ (i : Nat) (y : _), i < k → xs[i]? = some y → (!(fun y : Snd => !y.ok) y) = true)) (fun i _ => n - (intOf i).toNat)
  case atStart => exact ⟨0, Nat.zero_le _, rfl, Ext.refl _, fun i x hi => absurd hi (Nat.not_lt_zero _)⟩
  case round =>
    obtain ⟨k, hk, rfl, hx, hall⟩ := hrel
    by_cases hlt : k < n
    · obtain ⟨b, off, y, rfl, hs, hb, hc0, hc1⟩ := (hr.ext hx).snd hlt
      cases hp : (fun y : Snd => !y.ok) y
      · have hnew := Lib.hid (all_succ (p := fun y => !(fun y : Snd => !y.ok) y) hall.out hs.out (by show (!(fun y : Snd => !y.ok) y) = true; rw [hp]; rfl))
        go_wp2_with fail
        refine (cbool (refused1_any y _) hp).mono ?_
        rintro e w1 ⟨rfl, hx1⟩
        clear hp
        go_wp2_with fail
        (first | exact ⟨⟨k + 1, by omega, by go_num, hx.trans hx1, hnew⟩, (by simp [intOf]; omega)⟩ | (go_roundw; case rel => exact ⟨k + 1, by omega, by go_num, hx.trans hx1, hnew⟩; case measure => exact (by simp [intOf]; omega)))
      · have hany := Lib.hid (any_of_at (p := fun y : Snd => !y.ok) hs.out hp)
        go_wp2_with fail
        refine (cbool (refused1_any y _) hp).mono ?_
        rintro e w1 ⟨rfl, hx1⟩
        clear hp
        go_wp2_with fail
        go_ret
        exact ⟨(k : Int), rfl, by rw [hany.out]; simp, hx.trans hx1⟩
    · go_wp2_with fail
      go_ret
      exact ⟨-1, rfl, by rw [any_none (p := fun y : Snd => !y.ok) hl.out (fun i y hi => hall.out i y (by omega))]; simp, hx⟩
theorem containsV_any (a : Option Addr) (n cap : Nat) (xs : List Snd) (w : World) (hr : RdS w a n cap xs) :
    Calls Try.prog 102 #[.slice a n cap, .func (.func 103) #[] #[]] w fun e w' => e = .returned (.bool (xs.any fun y => !y.ok)) ∧ Ext w w' := by
  go_enter Try.func102, Try.ntmps102
  go_wp2_with fail
  refine (indexV_any a n cap xs _ hr).mono ?_
  rintro e w1 ⟨r, rfl, hd, hx1⟩
  replace hd := Lib.hid hd
  go_wp2_with fail
  go_ret
  exact ⟨ret_bool hd.out, hx1⟩
/-! ### refused -/
/-- Is a sound there twice? -/
def dupB (xs : List Snd) : Bool := (List.range xs.length).any fun i => match xs[i]? with | some s => decide (s ∈ xs.take i) | none => false
/-- The error of sounds, and of a pattern's width. -/
def refE (W : Nat) (xs : List Snd) : Int := if 8 < xs.length then 12 else if xs.any (fun y => !y.ok) then 14 else if dupB xs then 6 else if 10 < W then 12 else 0
mutual
theorem HP.allB_num : ∀ (h : HP), h.allB = true → h.numB = true
  | .mk kd is ng mn mx a n cap l, h => by
    simp only [HP.allB, Bool.and_eq_true] at h
    obtain ⟨h1, h2⟩ := h
    have h3 := HP.allBL_num l h2
    simp only [HP.numB, Bool.and_eq_true, decide_eq_true_eq, h3, and_true]
    simp only [HP.okB] at h1
    by_cases k1 : kd = 1
    · subst k1
      simp at h1
      simp [h1]
    · rw [if_neg k1] at h1
      by_cases k5 : kd = 5
      · subst k5
        simp at h1
        obtain ⟨_, ⟨⟨h4, h5⟩, h6⟩, h7⟩ := h1
        refine ⟨⟨⟨⟨h5, h6⟩, ?_⟩, ?_⟩, ?_⟩
        · omega
        · omega
        · cases l with
          | nil => cases h4
          | cons x l => simp
      · rw [if_neg k5] at h1
        simp at h1
        obtain ⟨_, ⟨h4, h5⟩, _⟩ := h1
        subst h4 h5
        simp [k5]
theorem HP.allBL_num : ∀ (l : List HP), HP.allBL l = true → HP.numBL l = true
  | [], _ => by simp [HP.numBL]
  | x :: l, h => by
    simp only [HP.allBL, Bool.and_eq_true] at h
    simp only [HP.numBL, Bool.and_eq_true]
    exact ⟨HP.allB_num x h.1, HP.allBL_num l h.2⟩
end
theorem dup_some {xs : List Snd} {i : Nat} {s : Snd} (h : xs[i]? = some s) (hd : s ∈ xs.take i) : dupB xs = true := by
  unfold dupB
  rw [List.any_eq_true]
  exact ⟨i, by simpa using (List.getElem?_eq_some_iff.1 h).1, by rw [h]; simpa using hd⟩
theorem dup_none {xs : List Snd} {n : Nat} (hl : xs.length = n) (h : ∀ (i : Nat) (s : Snd), i < n → xs[i]? = some s → s ∉ xs.take i) : dupB xs = false := by
  unfold dupB
  rw [List.any_eq_false]
  intro i hi
  have hi : i < n := by rw [List.mem_range] at hi; omega
  rw [List.getElem?_eq_getElem (by omega)]
  simpa using h i _ hi (List.getElem?_eq_getElem (by omega))
set_option maxHeartbeats 4000000 in
set_option maxRecDepth 20000 in
theorem refused_any (h : HP) (hok : h.allB = true) (hsz : h.cnt ≤ 40) (sa : Option Addr) (n sc : Nat) (xs : List Snd) (w : World) (hr : RdPt w h) (hs : RdS w sa n sc xs) :
    Calls Try.prog 66 #[patV h, .slice sa n sc] w fun e w' => e = .returned (.int .i64 (refE (wid h) xs)) ∧ Ext w w' := by
  have hl := hs.len
  have hmost := hs.most
  have hle := hs.le
  unfold maxLen at hmost
  have hxB : Ext w (w.alloc (.cells #[.int .i64 h.kind, .int .u32 h.is.p.toNat, .int .u32 h.is.m.toNat, .bool h.neg, .int .i64 h.mn, .int .i64 h.mx, .slice h.a h.n h.cap] 27)) := Ext.alloc1 _ _
  have c0 : (w.alloc (.cells #[.int .i64 h.kind, .int .u32 h.is.p.toNat, .int .u32 h.is.m.toNat, .bool h.neg, .int .i64 h.mn, .int .i64 h.mx, .slice h.a h.n h.cap] 27)).cell? ⟨w.heap.size, 0, none⟩ = some (.int .i64 h.kind) := by go_simp
  have c1 : (w.alloc (.cells #[.int .i64 h.kind, .int .u32 h.is.p.toNat, .int .u32 h.is.m.toNat, .bool h.neg, .int .i64 h.mn, .int .i64 h.mx, .slice h.a h.n h.cap] 27)).cell? ⟨w.heap.size, 1, none⟩ = some (.int .u32 h.is.p.toNat) := by go_simp
  have c2 : (w.alloc (.cells #[.int .i64 h.kind, .int .u32 h.is.p.toNat, .int .u32 h.is.m.toNat, .bool h.neg, .int .i64 h.mn, .int .i64 h.mx, .slice h.a h.n h.cap] 27)).cell? ⟨w.heap.size, 2, none⟩ = some (.int .u32 h.is.m.toNat) := by go_simp
  have c3 : (w.alloc (.cells #[.int .i64 h.kind, .int .u32 h.is.p.toNat, .int .u32 h.is.m.toNat, .bool h.neg, .int .i64 h.mn, .int .i64 h.mx, .slice h.a h.n h.cap] 27)).cell? ⟨w.heap.size, 3, none⟩ = some (.bool h.neg) := by go_simp
  have c4 : (w.alloc (.cells #[.int .i64 h.kind, .int .u32 h.is.p.toNat, .int .u32 h.is.m.toNat, .bool h.neg, .int .i64 h.mn, .int .i64 h.mx, .slice h.a h.n h.cap] 27)).cell? ⟨w.heap.size, 4, none⟩ = some (.int .i64 h.mn) := by go_simp
  have c5 : (w.alloc (.cells #[.int .i64 h.kind, .int .u32 h.is.p.toNat, .int .u32 h.is.m.toNat, .bool h.neg, .int .i64 h.mn, .int .i64 h.mx, .slice h.a h.n h.cap] 27)).cell? ⟨w.heap.size, 5, none⟩ = some (.int .i64 h.mx) := by go_simp
  have c6 : (w.alloc (.cells #[.int .i64 h.kind, .int .u32 h.is.p.toNat, .int .u32 h.is.m.toNat, .bool h.neg, .int .i64 h.mn, .int .i64 h.mx, .slice h.a h.n h.cap] 27)).cell? ⟨w.heap.size, 6, none⟩ = some (.slice h.a h.n h.cap) := by go_simp
  obtain ⟨R, hR⟩ : ∃ R, R = refE (wid h) xs := ⟨_, rfl⟩
  rw [← hR]
  unfold refE at hR
  rw [hl] at hR
  have hchk := fun W (hx : Ext w W) => check_any h hok hsz W (hr.ext hx)
  have hwid := fun W (hx : Ext w W) => width_any _ h W (Nat.le_refl _) (hr.ext hx) (HP.allB_num h hok)
  replace hl := Lib.hid hl
  by_cases h8 : 8 < n
  · rw [if_pos h8] at hR
    have d8 : decide ((8 : Int) < (n : Int)) = true := by simp; omega
    subst hR
    go_enter Try.func66, Try.ntmps66
    go_wp2_with fail
    refine (hchk _ hxB).mono ?_
    rintro e w1 ⟨rfl, hx1⟩
    go_wp2_with fail
    go_ret
    exact ⟨rfl, (by repeat (first | exact Ext.refl _ | assumption | refine Ext.drew ?_ | refine Ext.drewN ?_ _ | refine Ext.alloc ?_ _ | refine Ext.trans ?_ (by assumption)))⟩
  · rw [if_neg h8] at hR
    have d8 : decide ((8 : Int) < (n : Int)) = false := by simp; omega
    cases hv : xs.any (fun y => !y.ok)
    · rw [hv, if_neg (by decide)] at hR
      replace hR := Lib.hid hR
      go_enter Try.func66, Try.ntmps66
      go_wp2_with fail
      refine (hchk _ hxB).mono ?_
      rintro e w1 ⟨rfl, hx1⟩
      go_wp2_with fail
      refine (cbool (containsV_any sa n sc xs _ (hs.ext (hxB.trans hx1))) hv).mono ?_
      rintro e w2 ⟨rfl, hx2⟩
      clear hv
      go_wp2_with fail
      go_loopw [20] (fun iv wr => ∃ k : Nat, k ≤ n ∧ iv = .int .i64 k ∧ Ext (w.alloc (.cells #[.int .i64 h.kind, .int .u32 h.is.p.toNat, .int .u32 h.is.m.toNat, .bool h.neg, .int .i64 h.mn, .int .i64 h.mx, .slice h.a h.n h.cap] 27)) wr ∧ Hid (∀ (i : Nat) (s : Snd), i < k → xs[i]? = some s → s ∉ xs.take i)) (fun iv _ => n - (intOf iv).toNat)
      case atStart => exact ⟨0, Nat.zero_le _, rfl, hx1.trans hx2, Lib.hid fun i s hi => absurd hi (Nat.not_lt_zero _)⟩
      case round =>
        obtain ⟨k, hk, rfl, hx, hall⟩ := hrel
        by_cases hlt : k < n
        · obtain ⟨b, off, s, rfl, hsk, hb, s0, s1⟩ := (hs.ext (hxB.trans hx)).snd hlt
          have hd0 : (wr.alloc (.cells #[.int .u32 s.p.toNat, .int .u32 s.m.toNat] 24)).cell? ⟨wr.heap.size, 0, none⟩ = some (.int .u32 s.p.toNat) := by go_simp
          have hd1 : (wr.alloc (.cells #[.int .u32 s.p.toNat, .int .u32 s.m.toNat] 24)).cell? ⟨wr.heap.size, 1, none⟩ = some (.int .u32 s.m.toNat) := by go_simp
          have e0 := fun X : ExtOf (wr.alloc (.cells #[.int .u32 s.p.toNat, .int .u32 s.m.toNat] 24)) => X.cell hd0
          have e1 := fun X : ExtOf (wr.alloc (.cells #[.int .u32 s.p.toNat, .int .u32 s.m.toNat] 24)) => X.cell hd1
          have hpre := rdk_pre (hs.ext ((hxB.trans hx).alloc (.cells #[.int .u32 s.p.toNat, .int .u32 s.m.toNat] 24))) (m := k) (by omega)
          have hcon := fun X : ExtOf (wr.alloc (.cells #[.int .u32 s.p.toNat, .int .u32 s.m.toNat] 24)) => containsS_any (some ⟨b, off, none⟩) k sc (xs.take k) s X.w (hpre.ext X.h)
          have hksc : k ≤ sc := by omega
          by_cases hm : s ∈ xs.take k
          · have hdm : decide (s ∈ xs.take k) = true := by simpa using hm
            have hR6 : Hid (R = 6) := Lib.hid (by rw [hR.out, if_pos (dup_some hsk.out hm)])
            replace hm := Lib.hid hm
            go_wp2_with fail
            (refine wp_region_qx (by kernel_rfl) (by kernel_rfl) ?_
             repeat (go_big_quiet_step ((go_at_call 105; exact calls_ext (cbool (hcon _) hdm))))
             refine wpQuiet_nil ?_
             intro wq hw'
             have hxq := ext_of_ex hw'
             clear hw')
            go_wp2_with fail
            go_ret
            exact ⟨ret_int hR6.out.symm, hxB.trans ((hx.alloc _).trans hxq)⟩
          · have hdm : decide (s ∈ xs.take k) = false := by simpa using hm
            have hnew : Hid (∀ (i : Nat) (s : Snd), i < k + 1 → xs[i]? = some s → s ∉ xs.take i) := Lib.hid fun i t hi ht => by
              by_cases e : i = k
              · subst e; rw [hsk.out] at ht; cases ht; exact hm
              · exact hall.out i t (by omega) ht
            replace hm := Lib.hid hm
            go_wp2_with fail
            (refine wp_region_qx (by kernel_rfl) (by kernel_rfl) ?_
             repeat (go_big_quiet_step ((go_at_call 105; exact calls_ext (cbool (hcon _) hdm))))
             refine wpQuiet_nil ?_
             intro wq hw'
             have hxq := ext_of_ex hw'
             clear hw')
            go_wp2_with fail
            (first | exact ⟨⟨k + 1, hlt, by go_num, (hx.alloc _).trans hxq, hnew⟩, (by simp [intOf]; omega)⟩ | (go_roundw; case rel => exact ⟨k + 1, hlt, by go_num, (hx.alloc _).trans hxq, hnew⟩; case measure => exact (by simp [intOf]; omega)))
        · obtain rfl : k = n := by omega
          have hR1 : Hid (R = if 10 < wid h then 12 else 0) := Lib.hid (by rw [hR.out, dup_none hl.out hall.out]; rfl)
          replace c0 := hx.cellv c0
          replace c1 := hx.cellv c1
          replace c2 := hx.cellv c2
          replace c3 := hx.cellv c3
          replace c4 := hx.cellv c4
          replace c5 := hx.cellv c5
          replace c6 := hx.cellv c6
          obtain ⟨Wd, hWd⟩ : ∃ Wd, Wd = wid h := ⟨_, rfl⟩
          have hwd := hwid wr (hxB.trans hx)
          rw [← hWd] at hwd hR1
          by_cases h10 : 10 < Wd
          · have d10 : decide ((10 : Int) < (Wd : Int)) = true := by simp; omega
            have hR2 : Hid (R = 12) := Lib.hid (by rw [hR1.out, if_pos h10])
            go_wp2_with fail
            refine hwd.mono ?_
            rintro e w3 ⟨rfl, hx3⟩
            go_wp2_with fail
            go_ret
            exact ⟨ret_int hR2.out.symm, hxB.trans (hx.trans hx3)⟩
          · have d10 : decide ((10 : Int) < (Wd : Int)) = false := by simp; omega
            have hR2 : Hid (R = 0) := Lib.hid (by rw [hR1.out, if_neg h10])
            go_wp2_with fail
            refine hwd.mono ?_
            rintro e w3 ⟨rfl, hx3⟩
            go_wp2_with fail
            go_ret
            exact ⟨ret_int hR2.out.symm, hxB.trans (hx.trans hx3)⟩
    · rw [hv, if_pos rfl] at hR
      subst hR
      go_enter Try.func66, Try.ntmps66
      go_wp2_with fail
      refine (hchk _ hxB).mono ?_
      rintro e w1 ⟨rfl, hx1⟩
      go_wp2_with fail
      refine (cbool (containsV_any sa n sc xs _ (hs.ext (hxB.trans hx1))) hv).mono ?_
      rintro e w2 ⟨rfl, hx2⟩
      go_wp2_with fail
      go_ret
      exact ⟨rfl, hxB.trans (hx1.trans hx2)⟩
end Go.Proofs.Ytilkemdecenibaa
namespace Go.Proofs.Ytilkemdecenibaa
open Go.RowKit
/-! ### Sets with numbers -/
abbrev BS := List Bool
/-- The number of a set: its first place, the first set of all left out. -/
def numAt (sets : List BS) (s : BS) : Option Nat := if s ∈ sets.drop 1 then some ((sets.drop 1).idxOf s + 1) else none
def putSet (sets : List BS) (s : BS) : Nat × List BS := match numAt sets s with
  | some n => (n, sets)
  | none => (sets.length, sets ++ [s])
def rowB (g : Net) (cur : BS) : List Snd → List BS → List Nat × List BS
  | [], sets => ([], sets)
  | s :: ss, sets => let p := putSet sets (afterM g cur s); let t := rowB g cur ss p.2; (p.1 :: t.1, t.2)
theorem rowB_snoc (g : Net) (cur : BS) (s : Snd) : ∀ (l : List Snd) (sets : List BS), rowB g cur (l ++ [s]) sets = ((rowB g cur l sets).1 ++ [(putSet (rowB g cur l sets).2 (afterM g cur s)).1], (putSet (rowB g cur l sets).2 (afterM g cur s)).2)
  | [], sets => by simp [rowB]
  | x :: l, sets => by simp only [List.cons_append, rowB]; rw [rowB_snoc g cur s l]
theorem rowB_len (g : Net) (cur : BS) : ∀ (l : List Snd) (sets : List BS), (rowB g cur l sets).1.length = l.length
  | [], sets => rfl
  | x :: l, sets => by simp only [rowB, List.length_cons]; rw [rowB_len g cur l]
theorem putSet_pre (sets : List BS) (s : BS) : sets <+: (putSet sets s).2 := by
  unfold putSet
  split
  · exact List.prefix_refl _
  · exact List.prefix_append _ _
theorem rowB_pre (g : Net) (cur : BS) : ∀ (l : List Snd) (sets : List BS), sets <+: (rowB g cur l sets).2
  | [], sets => List.prefix_refl _
  | x :: l, sets => by simp only [rowB]; exact (putSet_pre _ _).trans (rowB_pre g cur l _)
theorem rowB_take_pre (g : Net) (cur : BS) (xs : List Snd) (k : Nat) (sets : List BS) : (rowB g cur (xs.take k) sets).2 <+: (rowB g cur xs sets).2 := by
  have h : ∀ (l m : List Snd) (sets : List BS), (rowB g cur l sets).2 <+: (rowB g cur (l ++ m) sets).2 := fun l => by
    induction l with
    | nil => intro m sets; exact rowB_pre g cur m sets
    | cons x l ih => intro m sets; simp only [List.cons_append, rowB]; exact ih m _
  have := h (xs.take k) (xs.drop k) sets
  rwa [List.take_append_drop] at this
theorem putSet_some {sets : List BS} {s : BS} {n : Nat} (h : numAt sets s = some n) : putSet sets s = (n, sets) := by unfold putSet; rw [h]
theorem putSet_none {sets : List BS} {s : BS} (h : numAt sets s = none) : putSet sets s = (sets.length, sets ++ [s]) := by unfold putSet; rw [h]
theorem numAt_lt {sets : List BS} {s : BS} {n : Nat} (h : numAt sets s = some n) : n < sets.length := by
  unfold numAt at h
  split at h
  · rename_i hm
    cases h
    have := List.idxOf_lt_length_iff.2 hm
    rw [List.length_drop] at this; omega
  · cases h
theorem numAt_snoc {sets : List BS} {s : BS} (h0 : sets ≠ []) (h : numAt sets s = none) (y : BS) : numAt (sets ++ [s]) y = if y = s then some sets.length else numAt sets y := by
  cases sets with
  | nil => exact absurd rfl h0
  | cons c l =>
    unfold numAt at h ⊢
    simp only [List.drop_succ_cons, List.drop_zero, List.cons_append, List.length_cons] at h ⊢
    by_cases hs : s ∈ l
    · rw [if_pos hs] at h; cases h
    · by_cases e : y = s
      · subst e
        rw [if_pos (by simp), if_pos rfl, List.idxOf_append, if_neg hs]; simp
      · by_cases hy : y ∈ l
        · rw [if_pos (by simp [hy]), if_neg e, if_pos hy, List.idxOf_append, if_pos hy]
        · rw [if_neg (by simp [hy, e]), if_neg e, if_neg hy]
/-! ### Build -/
structure BSt where
  sets : List BS
  next : List (List Nat)
  fin : List Bool
def buildN (g : Net) (xs : List Snd) (goal : Nat) (first : BS) : Nat → BSt
  | 0 => ⟨[first], [], []⟩
  | i + 1 => let st := buildN g xs goal first i; let cur := st.sets.getD i []; let r := rowB g cur xs st.sets
    ⟨r.2, st.next ++ [r.1], st.fin ++ [(spreadM g cur (i == 0) true).getD goal false]⟩
/-- The first set. -/
def firstB (g : Net) : BS := spreadM g ((List.replicate g.length false).set 0 true) true false
theorem buildN_pre (g : Net) (xs : List Snd) (goal : Nat) (first : BS) {i j : Nat} (h : i ≤ j) : (buildN g xs goal first i).sets <+: (buildN g xs goal first j).sets := by
  induction j with
  | zero => rw [show i = 0 by omega]; exact List.prefix_refl _
  | succ j ih =>
    rcases Nat.lt_or_ge i (j + 1) with h1 | h1
    · exact (ih (by omega)).trans (by simp only [buildN]; exact rowB_pre _ _ _ _)
    · rw [show i = j + 1 by omega]; exact List.prefix_refl _
theorem buildN_ne (g : Net) (xs : List Snd) (goal : Nat) (first : BS) (i : Nat) : (buildN g xs goal first i).sets ≠ [] := by
  have h := buildN_pre g xs goal first (Nat.zero_le i)
  intro e
  rw [e] at h
  have := h.length_le
  simp [buildN] at this
theorem buildN_next (g : Net) (xs : List Snd) (goal : Nat) (first : BS) : ∀ i, (buildN g xs goal first i).next.length = i ∧ (buildN g xs goal first i).fin.length = i
  | 0 => ⟨rfl, rfl⟩
  | i + 1 => by
    obtain ⟨h1, h2⟩ := buildN_next g xs goal first i
    simp only [buildN, List.length_append, List.length_singleton, h1, h2, and_self]
/-! ### The automaton -/
structure Au where
  snd : List Snd
  next : List (List Nat)
  fin : List Bool
/-- A row of eight numbers. -/
def RE.enc (r : List Nat) : List Value := (List.range 8).map fun i => .int .i64 ((r.getD i 0 : Nat) : Int)
theorem RE.len (r : List Nat) : (RE.enc r).length = 8 := by simp [RE.enc]
theorem RE.one (r : List Nat) : ∀ u ∈ RE.enc r, u.oneCell' = true := by
  intro u hu
  obtain ⟨i, _, rfl⟩ := List.mem_map.1 hu
  rfl
theorem RE.at (r : List Nat) {i : Nat} (hi : i < 8) : (RE.enc r)[i]? = some (.int .i64 ((r.getD i 0 : Nat) : Int)) := by
  unfold RE.enc
  rw [List.getElem?_map, List.getElem?_range hi]; rfl
/-! ### least -/
def key9 (n : Nat) (A : Au) (cls : List Nat) (s : Nat) : List Nat := cls.getD s 0 :: (List.range 8).map fun i => if i < n then cls.getD ((A.next.getD s []).getD i 0) 0 else 0
def putKey (ks : List (List Nat)) (k : List Nat) : Nat × List (List Nat) := if k ∈ ks then (ks.idxOf k, ks) else (ks.length, ks ++ [k])
def numKeys : List (List Nat) → List (List Nat) → List Nat × List (List Nat)
  | [], ks => ([], ks)
  | k :: r, ks => let p := putKey ks k; let t := numKeys r p.2; (p.1 :: t.1, t.2)
theorem numKeys_snoc (k : List Nat) : ∀ (l ks : List (List Nat)), numKeys (l ++ [k]) ks = ((numKeys l ks).1 ++ [(putKey (numKeys l ks).2 k).1], (putKey (numKeys l ks).2 k).2)
  | [], ks => by simp [numKeys]
  | x :: l, ks => by simp only [List.cons_append, numKeys]; rw [numKeys_snoc k l]
theorem numKeys_len : ∀ (l ks : List (List Nat)), (numKeys l ks).1.length = l.length
  | [], ks => rfl
  | x :: l, ks => by simp only [numKeys, List.length_cons]; rw [numKeys_len l]
theorem putKey_le (ks : List (List Nat)) (k : List Nat) : (putKey ks k).1 < (putKey ks k).2.length ∧ ks.length ≤ (putKey ks k).2.length ∧ (putKey ks k).2.length ≤ ks.length + 1 := by
  unfold putKey
  split
  · rename_i h; exact ⟨List.idxOf_lt_length_iff.2 h, Nat.le_refl _, Nat.le_succ _⟩
  · simp
theorem numKeys_lt : ∀ (l ks : List (List Nat)), (∀ x ∈ (numKeys l ks).1, x < (numKeys l ks).2.length) ∧ ks.length ≤ (numKeys l ks).2.length ∧ (numKeys l ks).2.length ≤ ks.length + l.length
  | [], ks => by simp [numKeys]
  | k :: l, ks => by
    obtain ⟨h1, h2, h3⟩ := numKeys_lt l (putKey ks k).2
    obtain ⟨p1, p2, p3⟩ := putKey_le ks k
    simp only [numKeys, List.length_cons]
    refine ⟨fun x hx => ?_, by omega, by omega⟩
    rcases List.mem_cons.1 hx with rfl | hx
    · omega
    · exact h1 x hx
/-- All keys of a round. -/
def keysOf (A : Au) (cls : List Nat) : List (List Nat) := (List.range A.next.length).map fun s => key9 A.snd.length A cls s
def stepK (A : Au) (cls : List Nat) : List Nat × List (List Nat) := numKeys (keysOf A cls) []
/-- The classes and their number, after some rounds. -/
def cls0 (A : Au) : List Nat := A.fin.map fun b => if b != A.fin.getD 0 false then 1 else 0
def cnt0 (A : Au) : Nat := if A.fin.any (fun b => b != A.fin.getD 0 false) then 2 else 1
def clsN (A : Au) : Nat → List Nat × Nat
  | 0 => (cls0 A, cnt0 A)
  | j + 1 => let r := stepK A (clsN A j).1; (r.1, r.2.length)
/-- The rounds of least end behind round J. -/
def LeastAt (A : Au) (J : Nat) : Prop := (clsN A (J + 1)).2 = (clsN A J).2 ∧ ∀ j, j < J → (clsN A (j + 1)).2 ≠ (clsN A j).2
theorem clsN_len (A : Au) (h : A.fin.length = A.next.length) : ∀ j, (clsN A j).1.length = A.next.length
  | 0 => by simp [clsN, cls0, h]
  | j + 1 => by simp only [clsN, stepK]; rw [numKeys_len]; simp [keysOf]
theorem clsN_lt (A : Au) (j : Nat) : ∀ x ∈ (clsN A (j + 1)).1, x < (clsN A (j + 1)).2 := by
  simp only [clsN, stepK]; exact (numKeys_lt _ _).1
theorem clsN_le (A : Au) (j : Nat) : (clsN A (j + 1)).2 ≤ A.next.length := by
  have := (numKeys_lt (keysOf A (clsN A j).1) []).2.2
  simp only [clsN, stepK]
  simpa [keysOf] using this
/-- The new rows: for each state its class's row is written. -/
def rowSet (n : Nat) (v : Nat → Nat) (r : List Nat) : List Nat := (List.range n).foldl (fun r i => r.set i (v i)) r
theorem rowSet_succ (n : Nat) (v : Nat → Nat) (r : List Nat) : rowSet (n + 1) v r = (rowSet n v r).set n (v n) := by
  unfold rowSet; rw [List.range_succ, List.foldl_append]; rfl
def outTo (A : Au) (cls : List Nat) (C : Nat) : Nat → List (List Nat) × List Bool
  | 0 => (List.replicate C (List.replicate 8 0), List.replicate C false)
  | s + 1 => let o := outTo A cls C s; let c := cls.getD s 0
    (o.1.set c (rowSet A.snd.length (fun i => cls.getD ((A.next.getD s []).getD i 0) 0) (o.1.getD c [])), o.2.set c (A.fin.getD s false))
def leastM (A : Au) (J : Nat) : Au := let o := outTo A (clsN A (J + 1)).1 (clsN A J).2 A.next.length; ⟨A.snd, o.1, o.2⟩
theorem outTo_len (A : Au) (cls : List Nat) (C : Nat) : ∀ s, (outTo A cls C s).1.length = C ∧ (outTo A cls C s).2.length = C
  | 0 => by simp [outTo]
  | s + 1 => by have := outTo_len A cls C s; simp [outTo, this]
/-- All that a state's row names is a state. -/
def Au.okB (A : Au) : Bool := decide (A.snd.length ≤ 8) && (decide (A.fin.length = A.next.length) && A.next.all fun r => (List.range A.snd.length).all fun i => decide (r.getD i 0 < A.next.length))
theorem Au.ok_at {A : Au} (h : A.okB = true) : A.snd.length ≤ 8 ∧ A.fin.length = A.next.length ∧ ∀ (s : Nat) (r : List Nat), A.next[s]? = some r → ∀ i, i < A.snd.length → r.getD i 0 < A.next.length := by
  simp only [Au.okB, Bool.and_eq_true, decide_eq_true_eq, List.all_eq_true] at h
  exact ⟨h.1, h.2.1, fun s r hr i hi => h.2.2 r (List.mem_of_getElem? hr) i (by simpa using hi)⟩
end Go.Proofs.Ytilkemdecenibaa
