/-
  corr.ask.
-/
import Derived.Test.YtkdancoffmhjhaaKs
namespace Go.Proofs.Ytkdancoffmhjhaa
open Go.RowKit
def badC (c : Cl) : Bool := !c.ok || decide (c.kind = 0)
theorem ask1_any (c : Cl) (w : World) : Calls Try.prog 80 #[clV c] w fun e w' => e = .returned (.bool (badC c)) ∧ Ext w w' := by
  have hv := fun W => cvalid_any c W
  cases h1 : c.ok
  · have hb : badC c = true := by unfold badC; rw [h1]; rfl
    rw [h1] at hv
    rw [hb]
    clear hb h1
    go_enter Try.func80, Try.ntmps80
    go_wp2_with fail
    refine (hv _).mono ?_
    rintro e w1 ⟨rfl, hx1⟩
    go_wp2_with fail
    go_ret
    exact ⟨rfl, (by repeat (first | exact Ext.refl _ | assumption | refine Ext.drew ?_ | refine Ext.drewN ?_ _ | refine Ext.alloc ?_ _ | refine Ext.trans ?_ (by assumption)))⟩
  · rw [h1] at hv
    have hb : badC c = (c.kind == 0) := by unfold badC; rw [h1, Bool.eq_iff_iff]; simp
    rw [hb]
    clear hb h1
    go_enter Try.func80, Try.ntmps80
    go_wp2_with fail
    have b0 : (w.alloc (.cells #[.int .i64 c.kind, .int .u32 c.s.p.toNat, .int .u32 c.s.m.toNat] 39)).cell? ⟨w.heap.size, 0, none⟩ = some (.int .i64 c.kind) := by go_simp
    refine (hv _).mono ?_
    rintro e w1 ⟨rfl, hx1⟩
    have b1 := hx1.cellv b0
    go_wp2_with fail
    go_ret
    exact ⟨rfl, (by repeat (first | exact Ext.refl _ | assumption | refine Ext.drew ?_ | refine Ext.drewN ?_ _ | refine Ext.alloc ?_ _ | refine Ext.trans ?_ (by assumption)))⟩
theorem indexB_any (a : Option Addr) (n cap : Nat) (xs : List Cl) (w : World) (hr : RdC w a n cap xs) :
    Calls Try.prog 85 #[.slice a n cap, .func (.func 80) #[] #[]] w fun e w' => ∃ r : Int, e = .returned (.int .i64 r) ∧ decide (0 ≤ r) = xs.any badC ∧ Ext w w' := by
  have hl := hr.len
  have hmax : n ≤ 9223372036854775807 := by have := hr.le; have := hr.most; unfold maxLen at this; omega
  replace hl := Lib.hid hl
  go_enter Try.func85, Try.ntmps85
  go_wp2_with fail
  go_loopw [8] (fun i wr => ∃ k : Nat, k ≤ n ∧ i = .int .i64 k ∧ Ext w wr ∧ Hid (∀ (i : Nat) (y : _), i < k → xs[i]? = some y → (!(badC) y) = true)) (fun i _ => n - (intOf i).toNat)
  case atStart => exact ⟨0, Nat.zero_le _, rfl, Ext.refl _, fun i x hi => absurd hi (Nat.not_lt_zero _)⟩
  case round =>
    obtain ⟨k, hk, rfl, hx, hall⟩ := hrel
    by_cases hlt : k < n
    · obtain ⟨b, off, y, rfl, hs, hb, hc0, hc1, hc2⟩ := (hr.ext hx).cl hlt
      cases hp : (badC) y
      · have hnew := Lib.hid (all_succ (p := fun y => !(badC) y) hall.out hs.out (by show (!(badC) y) = true; rw [hp]; rfl))
        go_wp2_with fail
        refine (cbool (ask1_any y _) hp).mono ?_
        rintro e w1 ⟨rfl, hx1⟩
        clear hp
        go_wp2_with fail
        (first | exact ⟨⟨k + 1, by omega, by go_num, hx.trans hx1, hnew⟩, (by simp [intOf]; omega)⟩ | (go_roundw; case rel => exact ⟨k + 1, by omega, by go_num, hx.trans hx1, hnew⟩; case measure => exact (by simp [intOf]; omega)))
      · have hany := Lib.hid (any_of_at (p := badC) hs.out hp)
        go_wp2_with fail
        refine (cbool (ask1_any y _) hp).mono ?_
        rintro e w1 ⟨rfl, hx1⟩
        clear hp
        go_wp2_with fail
        go_ret
        exact ⟨(k : Int), rfl, by rw [hany.out]; simp, hx.trans hx1⟩
    · go_wp2_with fail
      go_ret
      exact ⟨-1, rfl, by rw [any_none (p := badC) hl.out (fun i y hi => hall.out i y (by omega))]; simp, hx⟩
theorem containsB_any (a : Option Addr) (n cap : Nat) (xs : List Cl) (w : World) (hr : RdC w a n cap xs) :
    Calls Try.prog 60 #[.slice a n cap, .func (.func 80) #[] #[]] w fun e w' => e = .returned (.bool (xs.any badC)) ∧ Ext w w' := by
  go_enter Try.func60, Try.ntmps60
  go_wp2_with fail
  refine (indexB_any a n cap xs _ hr).mono ?_
  rintro e w1 ⟨r, rfl, hd, hx1⟩
  replace hd := Lib.hid hd
  go_wp2_with fail
  go_ret
  exact ⟨ret_bool hd.out, hx1⟩
/-- Why a question is not possible: any cells. -/
def askC (l : List HCo) (f t : Int) (xs : List Cl) : Int :=
  if chkE [l] ≠ 0 then chkE [l] else if f < 0 ∨ (widH l : Int) ≤ f ∨ t < 0 ∨ (widH l : Int) ≤ t then 3 else if xs.any badC = true then 2 else 0
theorem askC_two (l : List HCo) (f t : Int) (x y : Cl) : askC l f t [x, y] = askE l f t x y := by
  unfold askC askE
  congr 1
  congr 1
  have : ([x, y].any badC = true) ↔ (x.ok = false ∨ x.kind = 0 ∨ y.ok = false ∨ y.kind = 0) := by
    simp [badC]
    constructor
    · rintro ((h | h) | (h | h)) <;> simp [h]
    · rintro (h | h | h | h) <;> simp [h]
  simp only [this]
theorem askC_one (l : List HCo) (f t : Int) (x : Cl) : askC l f t [x] = askE l f t x x := by
  rw [← askC_two]
  unfold askC
  simp
set_option maxHeartbeats 4000000 in
theorem ask_any (a : Option Addr) (n cap : Nat) (l : List HCo) (f t : Int) (ac : Option Addr) (nc cc : Nat) (xs : List Cl) (w : World) (hr : RdH w a n cap l) (hc : RdC w ac nc cc xs) :
    Calls Try.prog 51 #[.slice a n cap, .int .i64 f, .int .i64 t, .slice ac nc cc] w fun e w' => e = .returned (.int .i64 (askC l f t xs)) ∧ Ext w w' := by
  have hl := hr.rd.len
  have hck := ccheck_any _ 1 1 [l] _ (rdl_one hr)
  by_cases h0 : chkE [l] = 0
  · have hA : askC l f t xs = if f < 0 ∨ (widH l : Int) ≤ f ∨ t < 0 ∨ (widH l : Int) ≤ t then 3 else if xs.any badC = true then 2 else 0 := by unfold askC; rw [if_neg (by simp [h0])]
    obtain ⟨V, hV⟩ : ∃ V, V = askC l f t xs := ⟨_, rfl⟩
    rw [← hV]
    rw [hA] at hV
    rw [h0] at hck
    clear hA
    replace h0 := Lib.hid h0
    by_cases hn : n = 0
    · have hw0 : widH l = 0 := by
        have : l = [] := List.eq_nil_of_length_eq_zero (by omega)
        subst this; rfl
      have hd : decide (0 < n) = false := by simp; omega
      have hd2 : decide ((0 : Int) < (n : Int)) = false := by simp; omega
      have hV2 : Hid (3 = V) := Lib.hid (by rw [hV, if_pos (by rw [hw0]; omega)])
      replace hn := Lib.hid hn
      replace hl := Lib.hid hl
      clear hw0 hV
      go_enter Try.func51, Try.ntmps51
      go_wp2_with fail
      refine hck.mono ?_
      rintro e w1 ⟨rfl, hx1⟩
      go_wp2_with fail
      all_goals
        go_ret
        exact ⟨ret_int hV2.out, (Ext.alloc1 _ _).trans hx1⟩
    · have hn1 : 0 < n := by omega
      have hd : decide (0 < n) = true := by simpa using hn1
      have hd2 : decide ((0 : Int) < (n : Int)) = true := by simpa using hn1
      have hn2 : (0 : Int) < (n : Int) := by omega
      by_cases h1 : f < 0 ∨ (widH l : Int) ≤ f ∨ t < 0 ∨ (widH l : Int) ≤ t
      · have hV2 : Hid (3 = V) := Lib.hid (by rw [hV, if_pos h1])
        clear hV
        replace hl := Lib.hid hl
        replace hn := Lib.hid hn
        go_enter Try.func51, Try.ntmps51
        go_wp2_with fail
        refine hck.mono ?_
        rintro e w1 ⟨rfl, hx1⟩
        have hxw1 : Ext w w1 := (Ext.alloc1 _ _).trans hx1
        obtain ⟨b, off, y, rfl, hy, hb, hc0, hc1, hcy⟩ := (hr.ext hxw1).at hn1
        have hW := corB_head hy.out
        simp only [Nat.zero_mul, Nat.add_zero] at hc0
        rw [hW] at h1
        have hyn := len_int' hcy
        replace hW := Lib.hid hW
        clear hck
        go_wp2_with fail
        all_goals first
          | (exfalso; omega)
          | (go_ret; exact ⟨ret_int hV2.out, hxw1⟩)
      · have hV2 : Hid (V = if xs.any badC = true then 2 else 0) := Lib.hid (by rw [hV, if_neg h1])
        have hcb := fun W (z : Ext w W) => containsB_any ac nc cc xs W (hc.ext z)
        clear hV
        replace hl := Lib.hid hl
        replace hn := Lib.hid hn
        cases hB : xs.any badC
        all_goals
          rw [hB] at hcb hV2
          have hV3 := Lib.hid (show V = _ from hV2.out)
          simp only [Bool.false_eq_true, if_false, if_true] at hV3
          replace hB := Lib.hid hB
          clear hV2
          go_enter Try.func51, Try.ntmps51
          go_wp2_with fail
          refine hck.mono ?_
          rintro e w1 ⟨rfl, hx1⟩
          have hxw1 : Ext w w1 := (Ext.alloc1 _ _).trans hx1
          obtain ⟨b, off, y, rfl, hy, hb, hc0, hc1, hcy⟩ := (hr.ext hxw1).at hn1
          have hW := corB_head hy.out
          simp only [Nat.zero_mul, Nat.add_zero] at hc0
          rw [hW] at h1
          have hyn := len_int' hcy
          replace hW := Lib.hid hW
          clear hck
          go_wp2_with fail
          all_goals first
            | (exfalso; omega)
            | (refine (hcb _ hxw1).mono ?_
               rintro e w2 ⟨rfl, hx2⟩
               go_wp2_with fail
               go_ret
               exact ⟨ret_int hV3.out.symm, hxw1.trans hx2⟩)
  · have hA : askC l f t xs = chkE [l] := by unfold askC; rw [if_pos h0]
    rw [hA]
    clear hA
    generalize chkE [l] = er at *
    have hd : (er != 0) = true := by simpa using h0
    replace h0 := Lib.hid h0
    replace hl := Lib.hid hl
    go_enter Try.func51, Try.ntmps51
    go_wp2_with fail
    refine hck.mono ?_
    rintro e w1 ⟨rfl, hx1⟩
    go_wp2_with fail
    go_ret
    exact ⟨rfl, (Ext.alloc1 _ _).trans hx1⟩
end Go.Proofs.Ytkdancoffmhjhaa
