/-
  NaturalCounts, NaturalSelects: the walks.
-/
import Derived.Test.YtbnbfdbliokcaaaDoorJ5
namespace Go.Proofs.YtbnbfdbliokcaaaDoor
open Go.RowKit
def fewB (n : Nat) : Bool := decide (n ≤ 24 ∨ (256 < n ∧ n ≤ 300))
theorem few_any (a : Option Addr) (n cap : Nat) (w : World) : Calls Tryd.prog 13 #[.slice a n cap] w fun e w' => e = .returned (.bool (fewB n)) ∧ Ext w w' := by
  unfold fewB
  by_cases h1 : n ≤ 24
  · have d1 : decide ((n : Int) ≤ 24) = true := by simp; omega
    rw [decide_eq_true (Or.inl h1)]
    go_enter Tryd.func13, Tryd.ntmps13
    go_wp2_with fail
    go_ret
    exact ⟨rfl, Ext.refl _⟩
  · have d1 : decide ((n : Int) ≤ 24) = false := by simp; omega
    by_cases h2 : 256 < n
    · have d2 : decide ((256 : Int) < n) = true := by simp; omega
      by_cases h3 : n ≤ 300
      · have d3 : decide ((n : Int) ≤ 300) = true := by simp; omega
        rw [decide_eq_true (Or.inr ⟨h2, h3⟩)]
        go_enter Tryd.func13, Tryd.ntmps13
        go_wp2_with fail
        go_ret
        exact ⟨by simp <;> omega, Ext.refl _⟩
      · have d3 : decide ((n : Int) ≤ 300) = false := by simp; omega
        rw [decide_eq_false (by omega)]
        go_enter Tryd.func13, Tryd.ntmps13
        go_wp2_with fail
        go_ret
        exact ⟨by simp <;> omega, Ext.refl _⟩
    · have d2 : decide ((256 : Int) < n) = false := by simp; omega
      rw [decide_eq_false (by omega)]
      go_enter Tryd.func13, Tryd.ntmps13
      go_wp2_with fail
      go_ret
      exact ⟨by simp <;> omega, Ext.refl _⟩
theorem naturalCounts_any (a : Option Addr) (n cap : Nat) (xs : List Snd) (w : World) (hr : RdS w a n cap xs) (hT : TabOk w) (hT2 : Tab64 w) :
    Calls Tryd.prog 5 #[.slice a n cap] w fun e w' => e = .returned (.bool true) ∧ Ext w w' := by
  have hx0 := Ext.refl w
  by_cases h0 : (10 < n ∧ n ≤ 12) ∨ 300 < n
  · by_cases h1 : 10 < n
    · have d1 : decide ((10 : Int) < n) = true := by simp; omega
      by_cases h2 : n ≤ 12
      · have d2 : decide ((n : Int) ≤ 12) = true := by simp; omega
        go_enter Tryd.func5, Tryd.ntmps5
        go_wp2_with fail
        refine (works_any _ (hT.ext hx0) (hT2.ext hx0)).mono ?_
        rintro e wz ⟨rfl, hxz⟩
        go_wp2_with fail
        go_ret
        exact ⟨rfl, (hx0).trans hxz⟩
      · have d2 : decide ((n : Int) ≤ 12) = false := by simp; omega
        have d3 : decide ((300 : Int) < n) = true := by simp; omega
        go_enter Tryd.func5, Tryd.ntmps5
        go_wp2_with fail
        refine (works_any _ (hT.ext hx0) (hT2.ext hx0)).mono ?_
        rintro e wz ⟨rfl, hxz⟩
        go_wp2_with fail
        go_ret
        exact ⟨rfl, (hx0).trans hxz⟩
    · exfalso; omega
  · have d3 : decide ((300 : Int) < n) = false := by simp; omega
    have hcn := count_any a n cap xs w hr hT2
    have hrc := fun W (h : RdS W a n cap xs) => rcount_any a n cap xs W h
    unfold RetCn at hcn hrc
    have go : ∀ b1 b2 : Bool, decide ((10 : Int) < n) = b1 → decide ((n : Int) ≤ 12) = b2 → (b1 && b2) = false → Calls Tryd.prog 5 #[.slice a n cap] w fun e w' => e = .returned (.bool true) ∧ Ext w w' := by
      intro b1 b2 d1 d2 hb
      cases b1 <;> cases b2 <;> first | (cases hb; done) | skip
      all_goals
        generalize cntV xs = V at *
        generalize chkI 12 xs = E at *
        go_enter Tryd.func5, Tryd.ntmps5
        go_wp2_with fail
        refine hcn.mono ?_
        rintro e w1 ⟨rfl, hx1⟩
        go_wp2_with fail
        refine (hrc _ (hr.ext hx1)).mono ?_
        rintro e w2 ⟨rfl, hx2⟩
        have hx := hx1.trans hx2
        clear hx1 hx2 hrc hcn
        go_wp2_with fail
        refine (works_any _ (hT.ext hx) (hT2.ext hx)).mono ?_
        rintro e wz ⟨rfl, hxz⟩
        go_wp2_with fail
        go_ret
        exact ⟨rfl, (hx).trans hxz⟩
    exact go _ _ rfl rfl (by cases h1 : decide ((10 : Int) < n) <;> cases h2 : decide ((n : Int) ≤ 12) <;> simp at * <;> omega)
theorem naturalSelects_any (a : Option Addr) (n cap : Nat) (xs : List Snd) (c : Snd) (w : World) (hr : RdS w a n cap xs) (hT : TabOk w) (hT2 : Tab64 w) :
    Calls Tryd.prog 9 #[.slice a n cap, .agg #[.int .u32 c.p.toNat, .int .u32 c.m.toNat]] w fun e w' => e = .returned (.bool true) ∧ Ext w w' := by
  have hx0 := Ext.alloc1 w (.cells #[.int .u32 c.p.toNat, .int .u32 c.m.toNat] 27)
  have q0 := SndB.new w c
  have hfw := fun W => few_any a n cap W
  cases hf : fewB n
  · rw [hf] at hfw
    go_enter Tryd.func9, Tryd.ntmps9
    go_wp2_with fail
    refine (hfw _).mono ?_
    rintro e w1 ⟨rfl, hx1⟩
    have hx := hx0.trans hx1
    clear hx0 hx1 hfw q0
    go_wp2_with fail
    refine (works_any _ (hT.ext hx) (hT2.ext hx)).mono ?_
    rintro e wz ⟨rfl, hxz⟩
    go_wp2_with fail
    go_ret
    exact ⟨rfl, (hx).trans hxz⟩
  · rw [hf] at hfw
    go_enter Tryd.func9, Tryd.ntmps9
    go_wp2_with fail
    refine (hfw _).mono ?_
    rintro e w1 ⟨rfl, hx1⟩
    have hx := hx0.trans hx1
    have q0 := q0.ext hx1
    obtain ⟨c0, c1⟩ := q0.cells
    clear hx0 hx1 hfw
    go_wp2_with fail
    refine (select_any a n cap xs c _ (hr.ext hx)).mono ?_
    rintro e w2 ⟨v2, rfl, hown2, hx2⟩
    have hx := hx.trans hx2
    have q0 := q0.ext hx2
    obtain ⟨a2, n2, c2, hn2, rfl, hI⟩ := OwnK.rdn I64.len hown2
    replace hn2 := Lib.hid hn2
    clear c0 c1 hx2 hown2
    obtain ⟨c0, c1⟩ := q0.cells
    go_wp2_with fail
    refine (rselect_any a n cap xs c _ (hr.ext hx)).mono ?_
    rintro e w3 ⟨v3, rfl, hown3, hx3⟩
    have hx := hx.trans hx3
    have hI := hI.ext hx3
    obtain ⟨a3, n3, c3, hn3, rfl, hI3⟩ := OwnK.rdn I64.len hown3
    replace hn3 := Lib.hid hn3
    clear c0 c1 hx3 hown3 q0
    generalize selE xs c = E at *
    have heq := lequal_any _ _ _ _ _ _ _ _ _ hI hI3
    rw [decide_eq_true rfl] at heq
    go_wp2_with fail
    refine heq.mono ?_
    rintro e w4 ⟨rfl, hx4⟩
    have hx := hx.trans hx4
    clear hx4 heq
    go_wp2_with fail
    refine (works_any _ (hT.ext hx) (hT2.ext hx)).mono ?_
    rintro e wz ⟨rfl, hxz⟩
    go_wp2_with fail
    go_ret
    exact ⟨rfl, (hx).trans hxz⟩
end Go.Proofs.YtbnbfdbliokcaaaDoor
