/-
  Words in an alignment: data, and the checks of words (word.Check, multi.words; of the reference too).
-/
import Derived.Test.YtjfhfbobnncpkaaDoorK
import Derived.Test.YtjfhfbobnncpkaaDoorMk
namespace Go.Proofs.YtjfhfbobnncpkaaDoor
open Go.RowKit
/-! ### Data -/
/-- The header of a word, and its sounds. -/
structure HS where
  a : Option Addr
  n : Nat
  cap : Nat
  x : List Snd
def HS.enc (h : HS) : List Value := [.slice h.a h.n h.cap]
theorem HS.len (h : HS) : (HS.enc h).length = 1 := rfl
theorem HS.one (h : HS) : ∀ u ∈ HS.enc h, u.oneCell' = true := by intro u hu; simp [HS.enc] at hu; subst hu; rfl
structure RdW (w : World) (a : Option Addr) (n cap : Nat) (hs : List HS) : Prop where
  rd : RdK 1 HS.enc w a n cap hs
  ok : ∀ h ∈ hs, RdS w h.a h.n h.cap h.x
theorem RdW.ext {w w' : World} {a : Option Addr} {n cap : Nat} {hs : List HS} (h : RdW w a n cap hs) (hx : Ext w w') : RdW w' a n cap hs := ⟨h.rd.ext hx, fun y hy => (h.ok y hy).ext hx⟩
theorem RdW.at {w : World} {a : Option Addr} {n cap : Nat} {hs : List HS} (h : RdW w a n cap hs) {i : Nat} (hi : i < n) :
    ∃ b off y, a = some ⟨b, off, none⟩ ∧ Hid (hs[i]? = some y) ∧ b < w.heap.size ∧ w.cell? ⟨b, off + i, none⟩ = some (.slice y.a y.n y.cap) ∧ RdS w y.a y.n y.cap y.x := by
  obtain ⟨b, off, x, ha, hx, hb, hc⟩ := h.rd.get hi
  exact ⟨b, off, x, ha, hx, hb, by have := hc 0 _ rfl; simpa using this, h.ok x (List.mem_of_getElem? hx.out)⟩
/-- The header of a column, and its numbers. -/
structure HI where
  a : Option Addr
  n : Nat
  cap : Nat
  x : List Int
def HI.enc (h : HI) : List Value := [.slice h.a h.n h.cap]
theorem HI.len (h : HI) : (HI.enc h).length = 1 := rfl
structure RdN2 (w : World) (a : Option Addr) (n cap : Nat) (hs : List HI) : Prop where
  rd : RdK 1 HI.enc w a n cap hs
  ok : ∀ h ∈ hs, RdI w h.a h.n h.cap h.x
theorem RdN2.ext {w w' : World} {a : Option Addr} {n cap : Nat} {hs : List HI} (h : RdN2 w a n cap hs) (hx : Ext w w') : RdN2 w' a n cap hs := ⟨h.rd.ext hx, fun y hy => (h.ok y hy).ext hx⟩
theorem RdN2.at {w : World} {a : Option Addr} {n cap : Nat} {hs : List HI} (h : RdN2 w a n cap hs) {i : Nat} (hi : i < n) :
    ∃ b off y, a = some ⟨b, off, none⟩ ∧ Hid (hs[i]? = some y) ∧ b < w.heap.size ∧ w.cell? ⟨b, off + i, none⟩ = some (.slice y.a y.n y.cap) ∧ RdI w y.a y.n y.cap y.x := by
  obtain ⟨b, off, x, ha, hx, hb, hc⟩ := h.rd.get hi
  exact ⟨b, off, x, ha, hx, hb, by have := hc 0 _ rfl; simpa using this, h.ok x (List.mem_of_getElem? hx.out)⟩
/-- A form: is it known, the header of its word, and its sounds. -/
structure HF where
  has : Bool
  a : Option Addr
  n : Nat
  cap : Nat
  x : List Snd
def HF.enc (h : HF) : List Value := [.bool h.has, .slice h.a h.n h.cap]
theorem HF.len (h : HF) : (HF.enc h).length = 2 := rfl
structure RdF (w : World) (a : Option Addr) (n cap : Nat) (hs : List HF) : Prop where
  rd : RdK 2 HF.enc w a n cap hs
  ok : ∀ h ∈ hs, RdS w h.a h.n h.cap h.x
theorem RdF.ext {w w' : World} {a : Option Addr} {n cap : Nat} {hs : List HF} (h : RdF w a n cap hs) (hx : Ext w w') : RdF w' a n cap hs := ⟨h.rd.ext hx, fun y hy => (h.ok y hy).ext hx⟩
theorem RdF.at {w : World} {a : Option Addr} {n cap : Nat} {hs : List HF} (h : RdF w a n cap hs) {i : Nat} (hi : i < n) :
    ∃ b off y, a = some ⟨b, off, none⟩ ∧ Hid (hs[i]? = some y) ∧ b < w.heap.size ∧ w.cell? ⟨b, off + i * 2, none⟩ = some (.bool y.has) ∧ w.cell? ⟨b, off + i * 2 + 1, none⟩ = some (.slice y.a y.n y.cap) ∧ RdS w y.a y.n y.cap y.x := by
  obtain ⟨b, off, x, ha, hx, hb, hc⟩ := h.rd.get hi
  exact ⟨b, off, x, ha, hx, hb, by simpa using hc 0 _ rfl, hc 1 _ rfl, h.ok x (List.mem_of_getElem? hx.out)⟩
/-! ### word.valid, word.Check -/
theorem wvalid_any (s : Snd) (w : World) :
    Calls Tryd.prog 15 #[.agg #[.int .u32 s.p.toNat, .int .u32 s.m.toNat]] w fun e w' => e = .returned (.bool s.ok) ∧ Ext w w' := by
  go_enter Tryd.func15, Tryd.ntmps15
  go_wp2
  · rename_i h
    go_ret
    exact ⟨ret_bool (by simp only [Snd.ok, h, div24]; simp), Ext.alloc1 _ _⟩
  · rename_i h
    go_ret
    exact ⟨ret_bool (by simp [Snd.ok, h]), Ext.alloc1 _ _⟩
theorem or_lt24 (a b : Nat) : (a ||| b < 16777216) ↔ a < 16777216 ∧ b < 16777216 := by
  refine ⟨fun h => ⟨Nat.lt_of_le_of_lt Nat.left_le_or h, Nat.lt_of_le_of_lt Nat.right_le_or h⟩, fun h => ?_⟩
  exact Nat.or_lt_two_pow (n := 24) h.1 h.2
theorem dec24 (x : Nat) : decide ((x : Int) < 16777216) = decide (x < 16777216) := by
  rw [Bool.eq_iff_iff]; simp only [decide_eq_true_eq]; omega
/-- Check as a function on lists of sounds. -/
def checkS (xs : List Snd) : Int := if 32 < xs.length then 11 else if xs.all Snd.ok then 0 else 14
theorem checkS_long {xs : List Snd} (h : 32 < xs.length) : checkS xs = 11 := by simp [checkS, h]
theorem checkS_ok {xs : List Snd} (h : xs.length ≤ 32) (ha : ∀ (i : Nat) (x : Snd), xs[i]? = some x → x.ok = true) : checkS xs = 0 := by
  rw [checkS, if_neg (by omega), if_pos]; rw [List.all_eq_true]; intro x hx
  obtain ⟨i, hi⟩ := List.getElem?_of_mem hx; exact ha i x hi
theorem checkS_bad {xs : List Snd} {i : Nat} {x : Snd} (h : xs.length ≤ 32) (hi : xs[i]? = some x) (hx : x.ok = false) : checkS xs = 14 := by
  rw [checkS, if_neg (by omega), if_neg]; intro ha; rw [List.all_eq_true] at ha
  rw [ha x (List.mem_of_getElem? hi)] at hx; cases hx
theorem checkS_zero {xs : List Snd} (h : checkS xs = 0) : xs.length ≤ 32 ∧ ∀ x ∈ xs, x.ok = true := by
  unfold checkS at h
  split at h
  · cases h
  · split at h
    · rename_i h1 h2; exact ⟨by omega, List.all_eq_true.1 h2⟩
    · cases h
theorem wcheck_any (a : Option Addr) (n cap : Nat) (xs : List Snd) (w : World) (hr : RdS w a n cap xs) :
    Calls Tryd.prog 9 #[.slice a n cap] w fun e w' => e = .returned (.int .i64 (checkS xs)) ∧ Ext w w' := by
    have hmax : n ≤ 9223372036854775807 := by have := hr.le; have := hr.most; unfold maxLen at this; omega
    by_cases h : 32 < n
    · go_enter Tryd.func9, Tryd.ntmps9
      go_wp2_with fail
      go_ret
      exact ⟨ret_int (checkS_long (by rw [hr.len]; exact h)).symm, Ext.refl _⟩
    · have h' : n ≤ 32 := by omega
      go_enter Tryd.func9, Tryd.ntmps9
      go_wp2_with fail
      go_loopw [10] (fun i wr => ∃ k : Nat, k ≤ n ∧ i = .int .i64 k ∧ Ext w wr ∧ Hid (∀ (i : Nat) (x : Snd), i < k → xs[i]? = some x → x.ok = true)) (fun i _ => n - (intOf i).toNat)
      case atStart => exact ⟨0, Nat.zero_le _, rfl, Ext.refl _, fun i x hi => absurd hi (Nat.not_lt_zero _)⟩
      case round =>
        obtain ⟨k, hk, rfl, hx, hall⟩ := hrel
        by_cases hlt : k < n
        · obtain ⟨b, off, s, rfl, hs, hb, hc0, hc1⟩ := (hr.ext hx).snd hlt
          cases hok : s.ok
          · go_wp2_with (go_at_call 15; refine (wvalid_any s _).mono ?_; rintro e w1 ⟨rfl, hx1⟩)
            go_ret
            exact ⟨ret_int (checkS_bad (by rw [hr.len]; exact h') hs hok).symm, (by repeat (first | exact Ext.refl _ | assumption | refine Ext.drew ?_ | refine Ext.drewN ?_ _ | refine Ext.alloc ?_ _ | refine Ext.trans ?_ (by assumption)))⟩
          · go_wp2_with (go_at_call 15; refine (wvalid_any s _).mono ?_; rintro e w1 ⟨rfl, hx1⟩)
            (first | exact ⟨⟨k + 1, by omega, by go_num, (by repeat (first | exact Ext.refl _ | assumption | refine Ext.drew ?_ | refine Ext.drewN ?_ _ | refine Ext.alloc ?_ _ | refine Ext.trans ?_ (by assumption))), all_succ hall hs hok⟩, (by simp [intOf]; omega)⟩ | (go_roundw; case rel => exact ⟨k + 1, by omega, by go_num, (by repeat (first | exact Ext.refl _ | assumption | refine Ext.drew ?_ | refine Ext.drewN ?_ _ | refine Ext.alloc ?_ _ | refine Ext.trans ?_ (by assumption))), all_succ hall hs hok⟩; case measure => exact (by simp [intOf]; omega)))
        · go_wp2_with fail
          go_ret
          exact ⟨ret_int (checkS_ok (by rw [hr.len]; exact h') (fun i x hi => hall i x (by have := (List.getElem?_eq_some_iff.1 hi).1; have := hr.len; omega) hi)).symm, hx⟩
/-! ### words -/
/-- The first error of words. -/
def firstE : List HS → Int
  | [] => 0
  | y :: l => if checkS y.x ≠ 0 then checkS y.x else firstE l
def wordsE (l : List HS) : Int := if 8 < l.length then 12 else firstE l
theorem drop_cons' {α : Type} : ∀ {l : List α} {k : Nat} {y : α}, l[k]? = some y → l.drop k = y :: l.drop (k + 1)
  | [], _, _, h => by simp at h
  | x :: l, 0, y, h => by simp at h; subst h; rfl
  | x :: l, k + 1, y, h => by
    have := drop_cons' (l := l) (k := k) (by simpa using h)
    simpa using this
theorem firstE_drop {l : List HS} {i : Nat} {y : HS} (h : l[i]? = some y) : firstE (l.drop i) = if checkS y.x ≠ 0 then checkS y.x else firstE (l.drop (i + 1)) := by
  rw [drop_cons' h]; rfl
theorem firstE_zero : ∀ {l : List HS}, firstE l = 0 → ∀ y ∈ l, checkS y.x = 0
  | [], _, y, hy => by cases hy
  | z :: l, h, y, hy => by
    unfold firstE at h
    split at h
    · rename_i h1; exact absurd h h1
    · rename_i h1
      rcases List.mem_cons.1 hy with rfl | hy
      · simpa using h1
      · exact firstE_zero h y hy
theorem words_any (a : Option Addr) (n cap : Nat) (l : List HS) (w : World) (hr : RdW w a n cap l) :
    Calls Tryd.prog 19 #[.int .i64 8, .slice a n cap] w fun e w' => e = .returned (.int .i64 (wordsE l)) ∧ Ext w w' := by
    have hl := hr.rd.len
    have hmax : n ≤ 9223372036854775807 := by have := hr.rd.le; have := hr.rd.most; unfold maxLen at this; omega
    by_cases h : 8 < n
    · have hE : wordsE l = 12 := by unfold wordsE; rw [if_pos (by omega)]
      replace hE := Lib.hid hE
      replace hl := Lib.hid hl
      go_enter Tryd.func19, Tryd.ntmps19
      go_wp2_with fail
      go_ret
      exact ⟨ret_int hE.out.symm, Ext.refl _⟩
    · have h' : n ≤ 8 := by omega
      have hE : wordsE l = firstE l := by unfold wordsE; rw [if_neg (by omega)]
      replace hE := Lib.hid hE
      replace hl := Lib.hid hl
      go_enter Tryd.func19, Tryd.ntmps19
      go_wp2_with fail
      go_loopw [14] (fun i wr => ∃ k : Nat, k ≤ n ∧ i = .int .i64 k ∧ Hid (firstE l = firstE (l.drop k)) ∧ Ext w wr) (fun i _ => n - (intOf i).toNat)
      case atStart => exact ⟨0, Nat.zero_le _, rfl, Lib.hid rfl, Ext.refl _⟩
      case round =>
        obtain ⟨k, hk, rfl, hf, hx⟩ := hrel
        by_cases hlt : k < n
        · have hki : (k : Int) < (n : Int) := by omega
          obtain ⟨b, off, y, rfl, hy, hb, hc0, hcy⟩ := (hr.ext hx).at hlt
          have hd := firstE_drop hy.out
          have hcall := wcheck_any y.a y.n y.cap y.x wr hcy
          by_cases h0 : checkS y.x = 0
          · have hb0 : (checkS y.x != 0) = false := by simpa using h0
            rw [if_neg (by simpa using h0)] at hd
            have hnew : Hid (firstE l = firstE (l.drop (k + 1))) := Lib.hid (hf.out.trans hd)
            generalize checkS y.x = E at *
            replace h0 := Lib.hid h0
            replace hd := Lib.hid hd
            go_wp2_with fail
            refine hcall.mono ?_
            rintro e w1 ⟨rfl, hx1⟩
            clear hcall
            go_wp2_with fail
            (first | exact ⟨⟨k + 1, by omega, by go_num, hnew, hx.trans hx1⟩, (by simp [intOf]; omega)⟩ | (go_roundw; case rel => exact ⟨k + 1, by omega, by go_num, hnew, hx.trans hx1⟩; case measure => exact (by simp [intOf]; omega)))
          · have hb0 : (checkS y.x != 0) = true := by simpa using h0
            rw [if_pos h0] at hd
            have hnew : Hid (wordsE l = checkS y.x) := Lib.hid (hE.out.trans (hf.out.trans hd))
            generalize checkS y.x = E at *
            replace h0 := Lib.hid h0
            replace hd := Lib.hid hd
            go_wp2_with fail
            refine hcall.mono ?_
            rintro e w1 ⟨rfl, hx1⟩
            clear hcall
            go_wp2_with fail
            go_ret
            exact ⟨ret_int hnew.out.symm, hx.trans hx1⟩
        · have h0 : wordsE l = 0 := by
            rw [hE.out, hf.out, List.drop_of_length_le (by rw [hl.out]; omega)]; rfl
          replace h0 := Lib.hid h0
          go_wp2_with fail
          go_ret
          exact ⟨ret_int h0.out.symm, hx⟩
end Go.Proofs.YtjfhfbobnncpkaaDoor
