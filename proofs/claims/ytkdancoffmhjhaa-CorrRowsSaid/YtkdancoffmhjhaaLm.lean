/-
  The laws CorrMerges, CorrCounts: the walks.
  The laws CorrShares, CorrCollects: the walks.
-/
import Derived.Test.YtkdancoffmhjhaaLw
import Derived.Test.YtkdancoffmhjhaaKh
namespace Go.Proofs.Ytkdancoffmhjhaa
open Go.RowKit Go.Shelf
/-- The sum of a list. -/
def sumL (l : List (List Cl × Int)) : List (List Cl × Int) := l.foldl (addK cmpCs) []
def sumEr (E : Int) (l : List (List Cl × Int)) : Int := if E = 0 then sumE (sumL l) else E
def sumVa (E : Int) (l : List (List Cl × Int)) : List (List Cl × Int) := if E = 0 then (if sumE (sumL l) = 0 then sumL l else []) else []
/-- A list of correspondences handed back, with an error. -/
def ListRet (L : List (List Cl × Int)) (er : Int) (w : World) (e : Ending) (w' : World) : Prop :=
  ∃ a n cap hs, e = .returned (.tuple #[.slice a n cap, .int .i64 er]) ∧ RdH w' a n cap hs ∧ hs.map kp = L ∧ Ext w w'
theorem orSum_v {E : Int} {l : List (List Cl × Int)} {w : World} {e : Ending} {w' : World} (h : OrSum E l w e w') : ListRet (sumVa E l) (sumEr E l) w e w' := by
  rcases h with ⟨h, rfl, hx⟩ | ⟨h, L, hL, v, hs, rfl, ho, hk, hx⟩
  · refine ⟨none, 0, 0, [], ?_, rdh_none _, ?_, hx⟩
    · unfold sumEr; rw [if_neg h]
    · unfold sumVa; rw [if_neg h]; rfl
  · have hL2 : L = sumL l := sumK_is hL
    subst hL2
    obtain ⟨a, n, cap, hn, rfl, hr⟩ := OwnK.rdn HCo.len ho.own
    refine ⟨a, n, cap, hs, ?_, ⟨hr, ho.ok⟩, ?_, hx⟩
    · unfold sumEr; rw [if_pos h]
    · unfold sumVa; rw [if_pos h]; exact hk
theorem regRet_v {E : Int} {L : List (List Cl × Int)} {w : World} {e : Ending} {w' : World} (h : RegRet E L w e w') : ListRet (if E = 0 then L else []) E w e w' := by
  rcases h with ⟨h, rfl, hx⟩ | ⟨h, v, hs, rfl, ho, hk, hx⟩
  · exact ⟨none, 0, 0, [], rfl, rdh_none _, by rw [if_neg h]; rfl, hx⟩
  · obtain ⟨a, n, cap, hn, rfl, hr⟩ := OwnK.rdn HCo.len ho.own
    exact ⟨a, n, cap, hs, by rw [h], ⟨hr, ho.ok⟩, by rw [if_pos h]; exact hk, hx⟩
theorem RdH.max {w : World} {a : Option Addr} {n cap : Nat} {hs : List HCo} (h : RdH w a n cap hs) : n ≤ 9223372036854775807 := by
  have := h.rd.le; have := h.rd.most; unfold maxLen at this; omega
set_option maxHeartbeats 1000000 in
theorem corrMerges_any (a : Option Addr) (n cap : Nat) (l : List HCo) (b : Option Addr) (m cap2 : Nat) (l2 : List HCo) (w : World) (hr : RdH w a n cap l) (hs : RdH w b m cap2 l2) :
    Calls Try.prog 4 #[.slice a n cap, .slice b m cap2] w fun e w' => e = .returned (.bool true) ∧ Ext w w' := by
  have hm1 := hr.max
  have hm2 := hs.max
  have hA := fun W (z : Ext w W) => (merge_any a n cap l b m cap2 l2 W (hr.ext z) (hs.ext z)).mono (fun _ _ h => orSum_v h)
  have hB := fun W (z : Ext w W) => (rmerge_any a n cap l b m cap2 l2 W (hr.ext z) (hs.ext z)).mono (fun _ _ h => orSum_v h)
  unfold ListRet at hA hB
  by_cases h1 : n ≤ 60 ∨ 4096 < n ∧ n ≤ 5000
  · have d1 : decide (n ≤ 60 ∨ 4096 < n ∧ n ≤ 5000) = true := decide_eq_true h1
    replace h1 := Lib.hid h1
    by_cases h2 : m ≤ 60 ∨ 4096 < m ∧ m ≤ 5000
    · have d2 : decide (m ≤ 60 ∨ 4096 < m ∧ m ≤ 5000) = true := decide_eq_true h2
      replace h2 := Lib.hid h2
      replace d1 := Lib.hid d1
      replace d2 := Lib.hid d2
      go_enter Try.func4, Try.ntmps4
      go_wp2_with fail
      refine (few_any _ n _ _ (by assumption)).mono ?_
      rintro e wf ⟨rfl, hwf⟩
      subst wf
      rw [d1.out]
      go_wp2_with fail
      refine (few_any _ m _ _ (by assumption)).mono ?_
      rintro e wf ⟨rfl, hwf⟩
      subst wf
      rw [d2.out]
      go_wp2_with fail
      refine (hA _ (Ext.refl _)).mono ?_
      rintro e w1 ⟨a1, n1, c1, hs1, rfl, hr1, hk1, hx1⟩
      have hB1 := hB _ hx1
      go_wp2_with fail
      refine hB1.mono ?_
      rintro e w2 ⟨a2, n2, c2, hs2, rfl, hr2, hk2, hx2⟩
      have hsame := same_any a1 n1 c1 hs1 a2 n2 c2 hs2 w2 (hr1.ext hx2) hr2
      rw [hk1, hk2, decide_eq_true rfl] at hsame
      clear hA hB hB1 hk1 hk2
      go_wp2_with fail
      refine hsame.mono ?_
      rintro e w3 ⟨rfl, hx3⟩
      go_wp2_with fail
      refine (works_any _).mono ?_
      rintro e wz ⟨rfl, hxz⟩
      go_wp2_with fail
      go_ret
      exact ⟨rfl, (by repeat (first | exact Ext.refl _ | assumption | refine Ext.drew ?_ | refine Ext.drewN ?_ _ | refine Ext.alloc ?_ _ | refine Ext.trans ?_ (by assumption)))⟩
    · have d2 : decide (m ≤ 60 ∨ 4096 < m ∧ m ≤ 5000) = false := decide_eq_false h2
      replace h2 := Lib.hid h2
      replace d1 := Lib.hid d1
      replace d2 := Lib.hid d2
      go_enter Try.func4, Try.ntmps4
      go_wp2_with fail
      refine (few_any _ n _ _ (by assumption)).mono ?_
      rintro e wf ⟨rfl, hwf⟩
      subst wf
      rw [d1.out]
      go_wp2_with fail
      refine (few_any _ m _ _ (by assumption)).mono ?_
      rintro e wf ⟨rfl, hwf⟩
      subst wf
      rw [d2.out]
      go_wp2_with fail
      refine (works_any _).mono ?_
      rintro e wz ⟨rfl, hxz⟩
      go_wp2_with fail
      go_ret
      exact ⟨rfl, (by repeat (first | exact Ext.refl _ | assumption | refine Ext.drew ?_ | refine Ext.drewN ?_ _ | refine Ext.alloc ?_ _ | refine Ext.trans ?_ (by assumption)))⟩
  · have d1 : decide (n ≤ 60 ∨ 4096 < n ∧ n ≤ 5000) = false := decide_eq_false h1
    replace h1 := Lib.hid h1
    replace d1 := Lib.hid d1
    go_enter Try.func4, Try.ntmps4
    go_wp2_with fail
    refine (few_any _ n _ _ (by assumption)).mono ?_
    rintro e wf ⟨rfl, hwf⟩
    subst wf
    rw [d1.out]
    go_wp2_with fail
    refine (works_any _).mono ?_
    rintro e wz ⟨rfl, hxz⟩
    go_wp2_with fail
    go_ret
    exact ⟨rfl, (by repeat (first | exact Ext.refl _ | assumption | refine Ext.drew ?_ | refine Ext.drewN ?_ _ | refine Ext.alloc ?_ _ | refine Ext.trans ?_ (by assumption)))⟩
set_option maxHeartbeats 1000000 in
theorem corrCounts_any (a : Option Addr) (n cap : Nat) (l : List HCo) (k : Int) (w : World) (hr : RdH w a n cap l) :
    Calls Try.prog 10 #[.slice a n cap, .int .i64 k] w fun e w' => e = .returned (.bool true) ∧ Ext w w' := by
  have hm1 := hr.max
  have hA := fun W (z : Ext w W) => (regular_any a n cap l k W (hr.ext z)).mono (fun _ _ h => regRet_v h)
  have hB := fun W (z : Ext w W) => (rregular_any a n cap l k W (hr.ext z)).mono (fun _ _ h => regRet_v h)
  have hC := fun W (z : Ext w W) => total_any a n cap l W (hr.ext z)
  have hD := fun W (z : Ext w W) => rtotal_any a n cap l W (hr.ext z)
  unfold ListRet at hA hB
  generalize (if chkE [l] = 0 then (l.filter (regB k)).map kp else []) = L at *
  generalize (if chkE [l] = 0 then sumC l else 0) = S at *
  generalize chkE [l] = E at *
  by_cases h1 : n ≤ 60 ∨ 4096 < n ∧ n ≤ 5000
  · have d1 : decide (n ≤ 60 ∨ 4096 < n ∧ n ≤ 5000) = true := decide_eq_true h1
    replace h1 := Lib.hid h1
    replace d1 := Lib.hid d1
    go_enter Try.func10, Try.ntmps10
    go_wp2_with fail
    refine (few_any _ n _ _ (by assumption)).mono ?_
    rintro e wf ⟨rfl, hwf⟩
    subst wf
    rw [d1.out]
    go_wp2_with fail
    refine (hA _ (Ext.refl _)).mono ?_
    rintro e w1 ⟨a1, n1, c1, hs1, rfl, hr1, hk1, hx1⟩
    have hB1 := hB _ hx1
    go_wp2_with fail
    refine hB1.mono ?_
    rintro e w2 ⟨a2, n2, c2, hs2, rfl, hr2, hk2, hx2⟩
    have hC1 := hC _ (hx1.trans hx2)
    go_wp2_with fail
    refine hC1.mono ?_
    rintro e w3 ⟨rfl, hx3⟩
    have hD1 := hD _ ((hx1.trans hx2).trans hx3)
    go_wp2_with fail
    refine hD1.mono ?_
    rintro e w4 ⟨rfl, hx4⟩
    have hsame := same_any a1 n1 c1 hs1 a2 n2 c2 hs2 w4 ((hr1.ext hx2).ext (hx3.trans hx4)) (hr2.ext (hx3.trans hx4))
    rw [hk1, hk2, decide_eq_true rfl] at hsame
    clear hA hB hB1 hk1 hk2 hC hD hC1 hD1
    go_wp2_with fail
    refine hsame.mono ?_
    rintro e w5 ⟨rfl, hx5⟩
    go_wp2_with fail
    refine (works_any _).mono ?_
    rintro e wz ⟨rfl, hxz⟩
    go_wp2_with fail
    go_ret
    exact ⟨rfl, (by repeat (first | exact Ext.refl _ | assumption | refine Ext.drew ?_ | refine Ext.drewN ?_ _ | refine Ext.alloc ?_ _ | refine Ext.trans ?_ (by assumption)))⟩
  · have d1 : decide (n ≤ 60 ∨ 4096 < n ∧ n ≤ 5000) = false := decide_eq_false h1
    replace h1 := Lib.hid h1
    replace d1 := Lib.hid d1
    go_enter Try.func10, Try.ntmps10
    go_wp2_with fail
    refine (few_any _ n _ _ (by assumption)).mono ?_
    rintro e wf ⟨rfl, hwf⟩
    subst wf
    rw [d1.out]
    go_wp2_with fail
    refine (works_any _).mono ?_
    rintro e wz ⟨rfl, hxz⟩
    go_wp2_with fail
    go_ret
    exact ⟨rfl, (by repeat (first | exact Ext.refl _ | assumption | refine Ext.drew ?_ | refine Ext.drewN ?_ _ | refine Ext.alloc ?_ _ | refine Ext.trans ?_ (by assumption)))⟩
end Go.Proofs.Ytkdancoffmhjhaa
namespace Go.Proofs.Ytkdancoffmhjhaa
open Go.RowKit Go.Shelf
theorem eql_frac_self (a b : Int) (w : World) : (binOp .eql 44 (.agg #[.int .i64 a, .int .i64 b]) (.agg #[.int .i64 a, .int .i64 b])).run Try.prog w = .ok (.bool true) w := (eql_frac a b a b w).trans (by simp)
set_option maxHeartbeats 1000000 in
theorem corrShares_any (a : Option Addr) (n cap : Nat) (l : List HCo) (f t : Int) (x y : Cl) (w : World) (hr : RdH w a n cap l) :
    Calls Try.prog 6 #[.slice a n cap, .agg #[.int .i64 f, .int .i64 t], .agg #[.int .i64 x.kind, .int .u32 x.s.p.toNat, .int .u32 x.s.m.toNat, .int .i64 y.kind, .int .u32 y.s.p.toNat, .int .u32 y.s.m.toNat]] w fun e w' => e = .returned (.bool true) ∧ Ext w w' := by
  have hm1 := hr.max
  have hA := fun W (z : Ext w W) => share_any a n cap l f t x y W (hr.ext z)
  have hB := fun W (z : Ext w W) => rshare_any a n cap l f t x y W (hr.ext z)
  unfold ShRet at hA
  have hef := eql_frac_self
  generalize shareV l f t x y = V at *
  generalize askE l f t x y = E at *
  by_cases h1 : n ≤ 60 ∨ 4096 < n ∧ n ≤ 5000
  · have d1 : decide (n ≤ 60 ∨ 4096 < n ∧ n ≤ 5000) = true := decide_eq_true h1
    replace h1 := Lib.hid h1
    replace d1 := Lib.hid d1
    have q0 : ((w.alloc (.cells #[.int .i64 f, .int .i64 t] 34)).alloc (.cells #[.int .i64 x.kind, .int .u32 x.s.p.toNat, .int .u32 x.s.m.toNat, .int .i64 y.kind, .int .u32 y.s.p.toNat, .int .u32 y.s.m.toNat] 42)).cell? ⟨w.heap.size, 0, none⟩ = some (.int .i64 f) := by go_simp
    have q1 : ((w.alloc (.cells #[.int .i64 f, .int .i64 t] 34)).alloc (.cells #[.int .i64 x.kind, .int .u32 x.s.p.toNat, .int .u32 x.s.m.toNat, .int .i64 y.kind, .int .u32 y.s.p.toNat, .int .u32 y.s.m.toNat] 42)).cell? ⟨w.heap.size, 1, none⟩ = some (.int .i64 t) := by go_simp
    have q2 : ((w.alloc (.cells #[.int .i64 f, .int .i64 t] 34)).alloc (.cells #[.int .i64 x.kind, .int .u32 x.s.p.toNat, .int .u32 x.s.m.toNat, .int .i64 y.kind, .int .u32 y.s.p.toNat, .int .u32 y.s.m.toNat] 42)).cell? ⟨w.heap.size + 1, 0, none⟩ = some (.int .i64 x.kind) := by go_simp
    have q3 : ((w.alloc (.cells #[.int .i64 f, .int .i64 t] 34)).alloc (.cells #[.int .i64 x.kind, .int .u32 x.s.p.toNat, .int .u32 x.s.m.toNat, .int .i64 y.kind, .int .u32 y.s.p.toNat, .int .u32 y.s.m.toNat] 42)).cell? ⟨w.heap.size + 1, 1, none⟩ = some (.int .u32 x.s.p.toNat) := by go_simp
    have q4 : ((w.alloc (.cells #[.int .i64 f, .int .i64 t] 34)).alloc (.cells #[.int .i64 x.kind, .int .u32 x.s.p.toNat, .int .u32 x.s.m.toNat, .int .i64 y.kind, .int .u32 y.s.p.toNat, .int .u32 y.s.m.toNat] 42)).cell? ⟨w.heap.size + 1, 2, none⟩ = some (.int .u32 x.s.m.toNat) := by go_simp
    have q5 : ((w.alloc (.cells #[.int .i64 f, .int .i64 t] 34)).alloc (.cells #[.int .i64 x.kind, .int .u32 x.s.p.toNat, .int .u32 x.s.m.toNat, .int .i64 y.kind, .int .u32 y.s.p.toNat, .int .u32 y.s.m.toNat] 42)).cell? ⟨w.heap.size + 1, 3, none⟩ = some (.int .i64 y.kind) := by go_simp
    have q6 : ((w.alloc (.cells #[.int .i64 f, .int .i64 t] 34)).alloc (.cells #[.int .i64 x.kind, .int .u32 x.s.p.toNat, .int .u32 x.s.m.toNat, .int .i64 y.kind, .int .u32 y.s.p.toNat, .int .u32 y.s.m.toNat] 42)).cell? ⟨w.heap.size + 1, 4, none⟩ = some (.int .u32 y.s.p.toNat) := by go_simp
    have q7 : ((w.alloc (.cells #[.int .i64 f, .int .i64 t] 34)).alloc (.cells #[.int .i64 x.kind, .int .u32 x.s.p.toNat, .int .u32 x.s.m.toNat, .int .i64 y.kind, .int .u32 y.s.p.toNat, .int .u32 y.s.m.toNat] 42)).cell? ⟨w.heap.size + 1, 5, none⟩ = some (.int .u32 y.s.m.toNat) := by go_simp
    have hxB : Ext w ((w.alloc (.cells #[.int .i64 f, .int .i64 t] 34)).alloc (.cells #[.int .i64 x.kind, .int .u32 x.s.p.toNat, .int .u32 x.s.m.toNat, .int .i64 y.kind, .int .u32 y.s.p.toNat, .int .u32 y.s.m.toNat] 42)) := (by repeat (first | exact Ext.refl _ | refine Ext.drew ?_ | refine Ext.drewN ?_ _ | refine Ext.alloc ?_ _))
    go_enter Try.func6, Try.ntmps6
    go_wp2_with fail
    generalize ((w.alloc (.cells #[.int .i64 f, .int .i64 t] 34)).alloc (.cells #[.int .i64 x.kind, .int .u32 x.s.p.toNat, .int .u32 x.s.m.toNat, .int .i64 y.kind, .int .u32 y.s.p.toNat, .int .u32 y.s.m.toNat] 42)) = wB at *
    refine (few_any _ n _ _ (by assumption)).mono ?_
    rintro e wf ⟨rfl, hwf⟩
    subst wf
    rw [d1.out]
    go_wp2_with fail
    have hA1 := hA _ hxB
    refine hA1.mono ?_
    rintro e w1 ⟨rfl, hx1⟩
    have s0 := hx1.cellv q0
    have s1 := hx1.cellv q1
    have s2 := hx1.cellv q2
    have s3 := hx1.cellv q3
    have s4 := hx1.cellv q4
    have s5 := hx1.cellv q5
    have s6 := hx1.cellv q6
    have s7 := hx1.cellv q7
    have hl0 := cell_lt s0
    have hl1 := cell_lt s2
    simp only at hl0 hl1
    have hB1 := hB (w1.alloc (.cells #[.int .i64 V.1, .int .i64 V.2] 44)) ((hxB.trans hx1).alloc _)
    have z0 : (w1.alloc (.cells #[.int .i64 V.1, .int .i64 V.2] 44)).cell? ⟨w1.heap.size, 0, none⟩ = some (.int .i64 V.1) := by go_simp
    have z1 : (w1.alloc (.cells #[.int .i64 V.1, .int .i64 V.2] 44)).cell? ⟨w1.heap.size, 1, none⟩ = some (.int .i64 V.2) := by go_simp
    clear q0 q1 q2 q3 q4 q5 q6 q7 hA hB hA1
    go_wp2_with fail
    refine hB1.mono ?_
    rintro e w2 ⟨rfl, hx2⟩
    have z2 := hx2.cellv z0
    have z3 := hx2.cellv z1
    have hl2 := cell_lt z2
    simp only at hl2
    have hxw2 := ((hxB.trans hx1).alloc (.cells #[.int .i64 V.1, .int .i64 V.2] 44)).trans hx2
    clear s0 s1 s2 s3 s4 s5 s6 s7 hB1 z0 z1
    go_wp2_with fail
    refine (works_any _).mono ?_
    rintro e wz ⟨rfl, hxz⟩
    go_wp2_with fail
    go_ret
    exact ⟨rfl, (by repeat (first | exact Ext.refl _ | assumption | refine Ext.drew ?_ | refine Ext.drewN ?_ _ | refine Ext.alloc ?_ _ | refine Ext.trans ?_ (by assumption)))⟩
  · have d1 : decide (n ≤ 60 ∨ 4096 < n ∧ n ≤ 5000) = false := decide_eq_false h1
    replace h1 := Lib.hid h1
    replace d1 := Lib.hid d1
    go_enter Try.func6, Try.ntmps6
    go_wp2_with fail
    refine (few_any _ n _ _ (by assumption)).mono ?_
    rintro e wf ⟨rfl, hwf⟩
    subst wf
    rw [d1.out]
    go_wp2_with fail
    refine (works_any _).mono ?_
    rintro e wz ⟨rfl, hxz⟩
    go_wp2_with fail
    go_ret
    exact ⟨rfl, (by repeat (first | exact Ext.refl _ | assumption | refine Ext.drew ?_ | refine Ext.drewN ?_ _ | refine Ext.alloc ?_ _ | refine Ext.trans ?_ (by assumption)))⟩
theorem RdHW.max {w : World} {a : Option Addr} {n cap : Nat} {hs : List HW} (h : RdHW w a n cap hs) : n ≤ 9223372036854775807 := by
  have := h.rd.le; have := h.rd.most; unfold maxLen at this; omega
set_option maxHeartbeats 1000000 in
theorem corrCollects_any (a : Option Addr) (n cap : Nat) (hs : List HW) (w : World) (hr : RdHW w a n cap hs) :
    Calls Try.prog 3 #[.slice a n cap] w fun e w' => e = .returned (.bool true) ∧ Ext w w' := by
  have hm1 := hr.max
  by_cases h1 : 60 < n ∧ n ≤ 4096 ∨ 5000 < n
  · by_cases h2 : n ≤ 4096
    · have d1 : decide ((60 : Int) < (n : Int)) = true := by simp; omega
      have d2 : decide ((n : Int) ≤ 4096) = true := by simp; omega
      replace h1 := Lib.hid h1
      go_enter Try.func3, Try.ntmps3
      go_wp2_with fail
      refine (works_any _).mono ?_
      rintro e wz ⟨rfl, hxz⟩
      go_wp2_with fail
      go_ret
      exact ⟨rfl, (by repeat (first | exact Ext.refl _ | assumption | refine Ext.drew ?_ | refine Ext.drewN ?_ _ | refine Ext.alloc ?_ _ | refine Ext.trans ?_ (by assumption)))⟩
    · have d1 : decide ((60 : Int) < (n : Int)) = true := by simp; omega
      have d2 : decide ((n : Int) ≤ 4096) = false := by simp; omega
      have d3 : decide ((5000 : Int) < (n : Int)) = true := by simp; omega
      replace h1 := Lib.hid h1
      replace h2 := Lib.hid h2
      go_enter Try.func3, Try.ntmps3
      go_wp2_with fail
      refine (works_any _).mono ?_
      rintro e wz ⟨rfl, hxz⟩
      go_wp2_with fail
      go_ret
      exact ⟨rfl, (by repeat (first | exact Ext.refl _ | assumption | refine Ext.drew ?_ | refine Ext.drewN ?_ _ | refine Ext.alloc ?_ _ | refine Ext.trans ?_ (by assumption)))⟩
  · have hn : n ≤ 60000 := by omega
    have hA := fun W (z : Ext w W) => (collect_any a n cap hs W (hr.ext z) hn).mono (fun _ _ h => orSum_v h)
    have hB := fun W (z : Ext w W) => (rcollect_any a n cap hs W (hr.ext z) hn).mono (fun _ _ h => orSum_v h)
    unfold ListRet at hA hB
    generalize sumVa (chkE [hs.map HW.co1]) ((hs.map HW.co1).map kp) = L at *
    generalize sumEr (chkE [hs.map HW.co1]) ((hs.map HW.co1).map kp) = E at *
    have fin : ∀ (W : World), Ext w W → ∀ a1 n1 c1 hs1 a2 n2 c2 hs2, RdH W a1 n1 c1 hs1 → RdH W a2 n2 c2 hs2 → hs1.map kp = L → hs2.map kp = L → Calls Try.prog 20 #[.slice a1 n1 c1, .slice a2 n2 c2] W fun e w' => e = .returned (.bool true) ∧ Ext W w' := by
      intro W _ a1 n1 c1 hs1 a2 n2 c2 hs2 hr1 hr2 hk1 hk2
      have hsame := same_any a1 n1 c1 hs1 a2 n2 c2 hs2 W hr1 hr2
      rwa [hk1, hk2, decide_eq_true rfl] at hsame
    by_cases h60 : n ≤ 60
    · have d1 : decide ((60 : Int) < (n : Int)) = false := by simp; omega
      have d3 : decide ((5000 : Int) < (n : Int)) = false := by simp; omega
      replace h1 := Lib.hid h1
      go_enter Try.func3, Try.ntmps3
      go_wp2_with fail
      refine (hA _ (Ext.refl _)).mono ?_
      rintro e w1 ⟨a1, n1, c1, hs1, rfl, hr1, hk1, hx1⟩
      have hB1 := hB _ hx1
      go_wp2_with fail
      refine hB1.mono ?_
      rintro e w2 ⟨a2, n2, c2, hs2, rfl, hr2, hk2, hx2⟩
      clear hA hB hB1 d1 d3
      go_wp2_with fail
      go_loopw [7] (fun i wr => ∃ k : Nat, k + 1 ≤ 60 ∧ i = .int .i64 ((k : Int) + 1) ∧ Ext w2 wr) (fun i _ => 60 - (intOf i).toNat)
      case atStart => exact ⟨0, by omega, rfl, Ext.refl _⟩
      case round =>
        obtain ⟨k, hk60, rfl, hxr⟩ := hrel
        by_cases hlt : k + 1 < n
        · have e1 : decide ((k : Int) + 1 < (n : Int)) = true := by simp; omega
          by_cases hlt2 : k + 1 < 60
          · have e2 : decide ((k : Int) + 1 < 60) = true := by simp; omega
            have hr2r := hr.ext ((hx1.trans hx2).trans hxr)
            obtain ⟨b, off, y, rfl, hy, hb, p0, pr⟩ := hr2r.at (i := k) (by omega)
            obtain ⟨_, _, z, he, hz, _, q0, qr⟩ := hr2r.at hlt
            cases he
            have hki : (k : Int) < (n : Int) := by omega
            have hki2 : (k : Int) + 1 < (n : Int) := by omega
            have hwr1 : IntKind.i64.wrap (k : Int) = k := IntWalk.i64_in _ (by omega)
            have htn : ((k : Int) + 1).toNat = k + 1 := by omega
            have hc1 := fun u : ExtOf wr => (cord_anyD y.a y.n y.cap y.x z.a z.n z.cap z.x u.w (pr.ext u.h) (qr.ext u.h)).mono (R' := fun e w' => e = .returned (.int .i64 (cmpCs y.x z.x)) ∧ Ext u.w w') (fun _ _ h => ⟨h.1, h.2.ext⟩)
            have hc2 := fun u : ExtOf wr => rcord_any y.a y.n y.cap y.x z.a z.n z.cap z.x u.w (pr.ext u.h) (qr.ext u.h)
            have r0 := fun u : ExtOf wr => u.cell p0
            have r1 := fun u : ExtOf wr => u.cell q0
            generalize cmpCs y.x z.x = C at *
            replace hlt := Lib.hid hlt
            replace hlt2 := Lib.hid hlt2
            go_wp2_with fail
            refine wp_region_qx (by kernel_rfl) (by kernel_rfl) ?_
            repeat (go_big_quiet_step (first | exact calls_ext (hc1 _) | exact calls_ext (hc2 _)))
            refine wpQuiet_nil ?_
            intro wq hw'
            have hxq := ext_of_ex hw'
            clear hw'
            go_wp2_with fail
            clear hc1 hc2 r0 r1
            replace hlt2 := hlt2.out
            (first | exact ⟨⟨k + 1, by omega, by go_num, hxr.trans hxq⟩, (by simp [intOf]; omega)⟩ | (go_roundw; case rel => exact ⟨k + 1, by omega, by go_num, hxr.trans hxq⟩; case measure => exact (by simp [intOf]; omega)))
          · have e2 : decide ((k : Int) + 1 < 60) = false := by simp; omega
            have fin1 := fin wr (((hx1.trans hx2).trans hxr)) a1 n1 c1 hs1 a2 n2 c2 hs2 (hr1.ext (hx2.trans hxr)) (hr2.ext hxr) hk1 hk2
            replace hlt := Lib.hid hlt
            replace hlt2 := Lib.hid hlt2
            go_wp2_with fail
            refine fin1.mono ?_
            rintro e w3 ⟨rfl, hx3⟩
            go_wp2_with fail
            refine (works_any _).mono ?_
            rintro e wz ⟨rfl, hxz⟩
            go_wp2_with fail
            go_ret
            exact ⟨rfl, (by repeat (first | exact Ext.refl _ | assumption | refine Ext.drew ?_ | refine Ext.drewN ?_ _ | refine Ext.alloc ?_ _ | refine Ext.trans ?_ (by assumption)))⟩
        · have e1 : decide ((k : Int) + 1 < (n : Int)) = false := by simp; omega
          have fin1 := fin wr (((hx1.trans hx2).trans hxr)) a1 n1 c1 hs1 a2 n2 c2 hs2 (hr1.ext (hx2.trans hxr)) (hr2.ext hxr) hk1 hk2
          replace hlt := Lib.hid hlt
          go_wp2_with fail
          refine fin1.mono ?_
          rintro e w3 ⟨rfl, hx3⟩
          go_wp2_with fail
          refine (works_any _).mono ?_
          rintro e wz ⟨rfl, hxz⟩
          go_wp2_with fail
          go_ret
          exact ⟨rfl, (by repeat (first | exact Ext.refl _ | assumption | refine Ext.drew ?_ | refine Ext.drewN ?_ _ | refine Ext.alloc ?_ _ | refine Ext.trans ?_ (by assumption)))⟩
    · have d1 : decide ((60 : Int) < (n : Int)) = true := by simp; omega
      have d2 : decide ((n : Int) ≤ 4096) = false := by simp; omega
      have d3 : decide ((5000 : Int) < (n : Int)) = false := by simp; omega
      replace h1 := Lib.hid h1
      replace h60 := Lib.hid h60
      go_enter Try.func3, Try.ntmps3
      go_wp2_with fail
      refine (hA _ (Ext.refl _)).mono ?_
      rintro e w1 ⟨a1, n1, c1, hs1, rfl, hr1, hk1, hx1⟩
      have hB1 := hB _ hx1
      go_wp2_with fail
      refine hB1.mono ?_
      rintro e w2 ⟨a2, n2, c2, hs2, rfl, hr2, hk2, hx2⟩
      clear hA hB hB1 d1 d3
      go_wp2_with fail
      go_loopw [7] (fun i wr => ∃ k : Nat, k + 1 ≤ 60 ∧ i = .int .i64 ((k : Int) + 1) ∧ Ext w2 wr) (fun i _ => 60 - (intOf i).toNat)
      case atStart => exact ⟨0, by omega, rfl, Ext.refl _⟩
      case round =>
        obtain ⟨k, hk60, rfl, hxr⟩ := hrel
        by_cases hlt : k + 1 < n
        · have e1 : decide ((k : Int) + 1 < (n : Int)) = true := by simp; omega
          by_cases hlt2 : k + 1 < 60
          · have e2 : decide ((k : Int) + 1 < 60) = true := by simp; omega
            have hr2r := hr.ext ((hx1.trans hx2).trans hxr)
            obtain ⟨b, off, y, rfl, hy, hb, p0, pr⟩ := hr2r.at (i := k) (by omega)
            obtain ⟨_, _, z, he, hz, _, q0, qr⟩ := hr2r.at hlt
            cases he
            have hki : (k : Int) < (n : Int) := by omega
            have hki2 : (k : Int) + 1 < (n : Int) := by omega
            have hwr1 : IntKind.i64.wrap (k : Int) = k := IntWalk.i64_in _ (by omega)
            have htn : ((k : Int) + 1).toNat = k + 1 := by omega
            have hc1 := fun u : ExtOf wr => (cord_anyD y.a y.n y.cap y.x z.a z.n z.cap z.x u.w (pr.ext u.h) (qr.ext u.h)).mono (R' := fun e w' => e = .returned (.int .i64 (cmpCs y.x z.x)) ∧ Ext u.w w') (fun _ _ h => ⟨h.1, h.2.ext⟩)
            have hc2 := fun u : ExtOf wr => rcord_any y.a y.n y.cap y.x z.a z.n z.cap z.x u.w (pr.ext u.h) (qr.ext u.h)
            have r0 := fun u : ExtOf wr => u.cell p0
            have r1 := fun u : ExtOf wr => u.cell q0
            generalize cmpCs y.x z.x = C at *
            replace hlt := Lib.hid hlt
            replace hlt2 := Lib.hid hlt2
            go_wp2_with fail
            refine wp_region_qx (by kernel_rfl) (by kernel_rfl) ?_
            repeat (go_big_quiet_step (first | exact calls_ext (hc1 _) | exact calls_ext (hc2 _)))
            refine wpQuiet_nil ?_
            intro wq hw'
            have hxq := ext_of_ex hw'
            clear hw'
            go_wp2_with fail
            clear hc1 hc2 r0 r1
            replace hlt2 := hlt2.out
            (first | exact ⟨⟨k + 1, by omega, by go_num, hxr.trans hxq⟩, (by simp [intOf]; omega)⟩ | (go_roundw; case rel => exact ⟨k + 1, by omega, by go_num, hxr.trans hxq⟩; case measure => exact (by simp [intOf]; omega)))
          · have e2 : decide ((k : Int) + 1 < 60) = false := by simp; omega
            have fin1 := fin wr (((hx1.trans hx2).trans hxr)) a1 n1 c1 hs1 a2 n2 c2 hs2 (hr1.ext (hx2.trans hxr)) (hr2.ext hxr) hk1 hk2
            replace hlt := Lib.hid hlt
            replace hlt2 := Lib.hid hlt2
            go_wp2_with fail
            refine fin1.mono ?_
            rintro e w3 ⟨rfl, hx3⟩
            go_wp2_with fail
            refine (works_any _).mono ?_
            rintro e wz ⟨rfl, hxz⟩
            go_wp2_with fail
            go_ret
            exact ⟨rfl, (by repeat (first | exact Ext.refl _ | assumption | refine Ext.drew ?_ | refine Ext.drewN ?_ _ | refine Ext.alloc ?_ _ | refine Ext.trans ?_ (by assumption)))⟩
        · have e1 : decide ((k : Int) + 1 < (n : Int)) = false := by simp; omega
          have fin1 := fin wr (((hx1.trans hx2).trans hxr)) a1 n1 c1 hs1 a2 n2 c2 hs2 (hr1.ext (hx2.trans hxr)) (hr2.ext hxr) hk1 hk2
          replace hlt := Lib.hid hlt
          go_wp2_with fail
          refine fin1.mono ?_
          rintro e w3 ⟨rfl, hx3⟩
          go_wp2_with fail
          refine (works_any _).mono ?_
          rintro e wz ⟨rfl, hxz⟩
          go_wp2_with fail
          go_ret
          exact ⟨rfl, (by repeat (first | exact Ext.refl _ | assumption | refine Ext.drew ?_ | refine Ext.drewN ?_ _ | refine Ext.alloc ?_ _ | refine Ext.trans ?_ (by assumption)))⟩
end Go.Proofs.Ytkdancoffmhjhaa
