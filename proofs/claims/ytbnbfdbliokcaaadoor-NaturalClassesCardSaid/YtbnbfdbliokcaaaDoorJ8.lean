/-
  NaturalClasses: the walk.
-/
import Derived.Test.YtbnbfdbliokcaaaDoorJ6
namespace Go.Proofs.YtbnbfdbliokcaaaDoor
open Go.RowKit
set_option maxHeartbeats 2000000 in
set_option maxRecDepth 20000 in
theorem naturalClasses_any (a : Option Addr) (n cap : Nat) (xs : List Snd) (b : Option Addr) (m cap2 : Nat) (ys : List Snd) (w : World) (hr : RdS w a n cap xs) (hs : RdS w b m cap2 ys) (hT : TabOk w) (hT2 : Tab64 w) :
    Calls Tryd.prog 3 #[.slice a n cap, .slice b m cap2] w fun e w' => e = .returned (.bool true) ∧ Ext w w' := by
  have hfw := fun W => few_any a n cap W
  have hl := hr.len
  have hl2 := hs.len
  cases hf : fewB n
  · rw [hf] at hfw
    go_enter Tryd.func3, Tryd.ntmps3
    go_wp2_with fail
    refine (hfw _).mono ?_
    rintro e w1 ⟨rfl, hx⟩
    clear hfw
    go_wp2_with fail
    refine (works_any _ (hT.ext hx) (hT2.ext hx)).mono ?_
    rintro e wz ⟨rfl, hxz⟩
    go_wp2_with fail
    go_ret
    exact ⟨rfl, (hx).trans hxz⟩
  · rw [hf] at hfw
    have hn : n ≤ 300 := by unfold fewB at hf; have := of_decide_eq_true hf; omega
    replace hf := Lib.hid hf
    replace hl := Lib.hid hl
    replace hl2 := Lib.hid hl2
    by_cases hm : 40 < m
    · have d1 : decide ((40 : Int) < m) = true := by simp; omega
      go_enter Tryd.func3, Tryd.ntmps3
      go_wp2_with fail
      refine (hfw _).mono ?_
      rintro e w1 ⟨rfl, hx⟩
      clear hfw
      go_wp2_with fail
      refine (works_any _ (hT.ext hx) (hT2.ext hx)).mono ?_
      rintro e wz ⟨rfl, hxz⟩
      go_wp2_with fail
      go_ret
      exact ⟨rfl, (hx).trans hxz⟩
    · have d1 : decide ((40 : Int) < m) = false := by simp; omega
      have hm4 : m ≤ 40 := by omega
      replace hm := Lib.hid hm
      go_enter Tryd.func3, Tryd.ntmps3
      go_wp2_with fail
      refine (hfw _).mono ?_
      rintro e wa ⟨rfl, hxa⟩
      clear hfw
      have o0 : OwnS w.heap.size 27 (wa.alloc (.cells #[] 27)) (.slice (some ⟨wa.heap.size, 0, Option.none⟩) 0 0) [] := OwnK.base (World.ownsRow_lit wa #[] 0 (Nat.le_refl _) (Nat.zero_le _) rfl) (Ext.le hxa)
      have hl0 := hr.len
      have hrz := hr.ext (hxa.alloc (.cells #[] 27))
      have hl3 := hs.len
      go_wp2_with (first | ((at_builtin; refine wp_appN w _ xs rfl _ _ 22 rfl 27 Tryd.underlying22 info_snd rfl (by decide) _ _ rfl o0 (hxa.alloc _) a n cap rfl hrz Snd.len Snd.one (by simp; omega) (by unfold maxLen; simp; omega) ?_; intro vz w2 o2 x2 _; obtain ⟨am, nm, cm, hnm, rfl, rm⟩ := OwnK.rdn Snd.len o2; replace hnm := Lib.hid hnm); have o3 : OwnS w2.heap.size 27 (w2.alloc (.cells #[] 27)) (.slice (some ⟨w2.heap.size, 0, Option.none⟩) 0 0) [] := World.ownsRow_lit w2 #[] 0 (Nat.le_refl _) (Nat.zero_le _) rfl; have hsz := hs.ext (x2.alloc (.cells #[] 27))) | (at_builtin; refine wp_appN w2 _ ys rfl _ _ 22 rfl 27 Tryd.underlying22 info_snd rfl (by decide) _ _ rfl o3 (Ext.alloc1 w2 _) b m cap2 rfl hsz Snd.len Snd.one (by simp; omega) (by unfold maxLen; simp; omega) ?_; intro vz w3 o4 x3 _; obtain ⟨bm, mm, dm, hmm, rfl, sm⟩ := OwnK.rdn Snd.len o4; replace hmm := Lib.hid hmm))
      rw [List.nil_append] at rm sm
      have rm := rm.ext x3
      have hnm2 : nm = n := by have := hnm.out; simpa [hl0] using this
      subst hnm2
      have hmm2 : mm = m := by have := hmm.out; simpa [hl3] using this
      subst hmm2
      have hx := x2.trans x3
      clear o0 hrz hl0 hxa hnm hmm o2 o4 hl3 x2 x3 o3 hsz
      have hcl := fun W (h : RdS W am nm cm xs) (h2 : RdS W bm mm dm ys) => closure_any am nm cm xs bm mm dm ys W h h2
      have hrcl := fun W (h : RdS W a nm cap xs) (h2 : RdS W b mm cap2 ys) => rclosure_any a nm cap xs b mm cap2 ys W h h2
      have his := fun W (h : RdS W am nm cm xs) (h2 : RdS W bm mm dm ys) => is_any am nm cm xs bm mm dm ys W h h2
      have hris := fun W (h : RdS W a nm cap xs) (h2 : RdS W b mm cap2 ys) => ris_any a nm cap xs b mm cap2 ys W h h2
      have hsh := fun W (h : RdS W am nm cm xs) (h2 : RdS W bm mm dm ys) => shortest_any am nm cm xs bm mm dm ys W h h2
      have hrsh := fun W (h : RdS W a nm cap xs) (h2 : RdS W b mm cap2 ys) => rshortest_any a nm cap xs b mm cap2 ys W h h2
      unfold RetC at hcl hrcl
      unfold RetIs at his hris
      unfold RetSh at hsh hrsh
      generalize clC xs ys = C1 at *
      generalize clL xs ys = L1 at *
      generalize closE xs ys = E1 at *
      generalize isB xs ys = B1 at *
      generalize shC xs ys = S1 at *
      refine (hcl _ rm sm).mono ?_
      rintro e w4 ⟨v4, rfl, hown4, hx4⟩
      obtain ⟨a4, n4, c4, hn4, rfl, hI⟩ := OwnK.rdn I64.len hown4
      replace hn4 := Lib.hid hn4
      have hxA := hx4.trans (Ext.alloc1 w4 (.cells #[.int .u32 C1.p.toNat, .int .u32 C1.m.toNat] 27))
      have hI := hI.ext (Ext.alloc1 w4 (.cells #[.int .u32 C1.p.toNat, .int .u32 C1.m.toNat] 27))
      have qA := SndB.new w4 C1
      have hx := hx.trans hxA
      have rm := rm.ext hxA
      have sm := sm.ext hxA
      clear hown4 hcl hxA hx4
      go_wp2_with fail
      generalize w4.heap.size = gA at *
      generalize (w4.alloc (.cells #[.int .u32 C1.p.toNat, .int .u32 C1.m.toNat] 27)) = wA at *
      refine (hrcl _ (hr.ext hx) (hs.ext hx)).mono ?_
      rintro e w5 ⟨v5, rfl, hown5, hx5⟩
      obtain ⟨a5, n5, c5, hn5, rfl, hI5⟩ := OwnK.rdn I64.len hown5
      replace hn5 := Lib.hid hn5
      have hxA := hx5.trans (Ext.alloc1 w5 (.cells #[.int .u32 C1.p.toNat, .int .u32 C1.m.toNat] 27))
      have hI5 := hI5.ext (Ext.alloc1 w5 (.cells #[.int .u32 C1.p.toNat, .int .u32 C1.m.toNat] 27))
      have qB := SndB.new w5 C1
      have hI := hI.ext hxA
      have qA := qA.ext hxA
      have hx := hx.trans hxA
      have rm := rm.ext hxA
      have sm := sm.ext hxA
      clear hown5 hrcl hxA hx5
      go_wp2_with fail
      generalize w5.heap.size = gB at *
      generalize (w5.alloc (.cells #[.int .u32 C1.p.toNat, .int .u32 C1.m.toNat] 27)) = wB at *
      refine (his _ rm sm).mono ?_
      rintro e w6 ⟨rfl, hx6⟩
      have hx := hx.trans hx6
      have rm := rm.ext hx6
      have sm := sm.ext hx6
      go_wp2_with fail
      refine (hris _ (hr.ext hx) (hs.ext hx)).mono ?_
      rintro e w7 ⟨rfl, hx7⟩
      have hx := hx.trans hx7
      have rm := rm.ext hx7
      have sm := sm.ext hx7
      have hxB := hx6.trans hx7
      clear hx6 hx7
      go_wp2_with fail
      refine (hsh _ rm sm).mono ?_
      rintro e w8 ⟨rfl, hx8⟩
      have hxA := hx8.trans (Ext.alloc1 w8 (.cells #[.int .u32 S1.p.toNat, .int .u32 S1.m.toNat] 27))
      have qC := SndB.new w8 S1
      have hx := hx.trans hxA
      have rm := rm.ext hxA
      have sm := sm.ext hxA
      have hxB := hxB.trans hxA
      clear hxA hx8
      go_wp2_with fail
      generalize w8.heap.size = gC at *
      generalize (w8.alloc (.cells #[.int .u32 S1.p.toNat, .int .u32 S1.m.toNat] 27)) = wC at *
      refine (hrsh _ (hr.ext hx) (hs.ext hx)).mono ?_
      rintro e w9 ⟨rfl, hx9⟩
      have hxA := hx9.trans (Ext.alloc1 w9 (.cells #[.int .u32 S1.p.toNat, .int .u32 S1.m.toNat] 27))
      have qD := SndB.new w9 S1
      have qC := qC.ext hxA
      have hx := hx.trans hxA
      have rm := rm.ext hxA
      have sm := sm.ext hxA
      have hxB := hxB.trans hxA
      have hI := hI.ext hxB
      have hI5 := hI5.ext hxB
      have qA := qA.ext hxB
      have qB := qB.ext hxB
      clear hxA hx9 hxB his hris hsh hrsh
      obtain ⟨k0, k1⟩ := qA.cells
      obtain ⟨k2, k3⟩ := qB.cells
      obtain ⟨k4, k5⟩ := qC.cells
      obtain ⟨k6, k7⟩ := qD.cells
      have hne := neq_snd
      have hC1 : ∀ W : World, (binOp .neq 27 (.agg #[.int .u32 C1.p.toNat, .int .u32 C1.m.toNat]) (.agg #[.int .u32 C1.p.toNat, .int .u32 C1.m.toNat])).run Tryd.prog W = .ok (.bool false) W := fun W => by rw [neq_snd]; simp
      have hS1 : ∀ W : World, (binOp .neq 27 (.agg #[.int .u32 S1.p.toNat, .int .u32 S1.m.toNat]) (.agg #[.int .u32 S1.p.toNat, .int .u32 S1.m.toNat])).run Tryd.prog W = .ok (.bool false) W := fun W => by rw [neq_snd]; simp
      clear hne
      have heq := lequal_any _ _ _ _ _ _ _ _ _ hI hI5
      rw [decide_eq_true rfl] at heq
      go_wp2_with fail
      refine heq.mono ?_
      rintro e w10 ⟨rfl, hx10⟩
      have hx := hx.trans hx10
      have rm := rm.ext hx10
      have sm := sm.ext hx10
      have k4 := hx10.cellv k4
      have k5 := hx10.cellv k5
      have k6 := hx10.cellv k6
      have k7 := hx10.cellv k7
      clear heq hI hI5 k0 k1 k2 k3 hC1 qA qB qC qD hx10
      have heq := lsame_any _ _ _ _ _ _ _ _ _ rm (hr.ext hx)
      rw [decide_eq_true rfl] at heq
      go_wp2_with fail
      refine heq.mono ?_
      rintro e w11 ⟨rfl, hx11⟩
      have hx := hx.trans hx11
      have sm := sm.ext hx11
      clear heq k4 k5 k6 k7 hx11 hS1
      have heq := lsame_any _ _ _ _ _ _ _ _ _ sm (hs.ext hx)
      rw [decide_eq_true rfl] at heq
      go_wp2_with fail
      refine heq.mono ?_
      rintro e w12 ⟨rfl, hx12⟩
      have hx := hx.trans hx12
      clear heq hx12
      go_wp2_with fail
      refine (works_any _ (hT.ext hx) (hT2.ext hx)).mono ?_
      rintro e wz ⟨rfl, hxz⟩
      go_wp2_with fail
      go_ret
      exact ⟨rfl, (hx).trans hxz⟩
end Go.Proofs.YtbnbfdbliokcaaaDoor
