/-
  The laws CorrMerges, CorrCounts: the walks.
-/
import Derived.Test.YtkdancoffmhjhaaLw
import Derived.Test.YtkdancoffmhjhaaKh
namespace Go.Proofs.Ytkdancoffmhjhaa
open Go.RowKit Go.Shelf
/-- The sum of a list. -/
def sumL (l : List (List Cl × Int)) : List (List Cl × Int) := l.foldl (addK cmpCs) []
def sumEr (E : Int) (l : List (List Cl × Int)) : Int := if E = 0 then sumE (sumL l) else E
def sumVa (E : Int) (l : List (List Cl × Int)) : List (List Cl × Int) := if E = 0 then (if sumE (sumL l) = 0 then sumL l else []) else []
/-- A list of correspondences handed back, with an error. -/
def ListRet (L : List (List Cl × Int)) (er : Int) (w : World) (e : Ending) (w' : World) : Prop :=
  ∃ a n cap hs, e = .returned (.tuple #[.slice a n cap, .int .i64 er]) ∧ RdH w' a n cap hs ∧ hs.map kp = L ∧ Ext w w'
theorem orSum_v {E : Int} {l : List (List Cl × Int)} {w : World} {e : Ending} {w' : World} (h : OrSum E l w e w') : ListRet (sumVa E l) (sumEr E l) w e w' := by
  rcases h with ⟨h, rfl, hx⟩ | ⟨h, L, hL, v, hs, rfl, ho, hk, hx⟩
  · refine ⟨none, 0, 0, [], ?_, rdh_none _, ?_, hx⟩
    · unfold sumEr; rw [if_neg h]
    · unfold sumVa; rw [if_neg h]; rfl
  · have hL2 : L = sumL l := sumK_is hL
    subst hL2
    obtain ⟨a, n, cap, hn, rfl, hr⟩ := OwnK.rdn HCo.len ho.own
    refine ⟨a, n, cap, hs, ?_, ⟨hr, ho.ok⟩, ?_, hx⟩
    · unfold sumEr; rw [if_pos h]
    · unfold sumVa; rw [if_pos h]; exact hk
theorem regRet_v {E : Int} {L : List (List Cl × Int)} {w : World} {e : Ending} {w' : World} (h : RegRet E L w e w') : ListRet (if E = 0 then L else []) E w e w' := by
  rcases h with ⟨h, rfl, hx⟩ | ⟨h, v, hs, rfl, ho, hk, hx⟩
  · exact ⟨none, 0, 0, [], rfl, rdh_none _, by rw [if_neg h]; rfl, hx⟩
  · obtain ⟨a, n, cap, hn, rfl, hr⟩ := OwnK.rdn HCo.len ho.own
    exact ⟨a, n, cap, hs, by rw [h], ⟨hr, ho.ok⟩, by rw [if_pos h]; exact hk, hx⟩
theorem RdH.max {w : World} {a : Option Addr} {n cap : Nat} {hs : List HCo} (h : RdH w a n cap hs) : n ≤ 9223372036854775807 := by
  have := h.rd.le; have := h.rd.most; unfold maxLen at this; omega
set_option maxHeartbeats 1000000 in
theorem corrMerges_any (a : Option Addr) (n cap : Nat) (l : List HCo) (b : Option Addr) (m cap2 : Nat) (l2 : List HCo) (w : World) (hr : RdH w a n cap l) (hs : RdH w b m cap2 l2) :
    Calls Try.prog 4 #[.slice a n cap, .slice b m cap2] w fun e w' => e = .returned (.bool true) ∧ Ext w w' := by
  have hm1 := hr.max
  have hm2 := hs.max
  have hA := fun W (z : Ext w W) => (merge_any a n cap l b m cap2 l2 W (hr.ext z) (hs.ext z)).mono (fun _ _ h => orSum_v h)
  have hB := fun W (z : Ext w W) => (rmerge_any a n cap l b m cap2 l2 W (hr.ext z) (hs.ext z)).mono (fun _ _ h => orSum_v h)
  unfold ListRet at hA hB
  by_cases h1 : n ≤ 60 ∨ 4096 < n ∧ n ≤ 5000
  · have d1 : decide (n ≤ 60 ∨ 4096 < n ∧ n ≤ 5000) = true := decide_eq_true h1
    replace h1 := Lib.hid h1
    by_cases h2 : m ≤ 60 ∨ 4096 < m ∧ m ≤ 5000
    · have d2 : decide (m ≤ 60 ∨ 4096 < m ∧ m ≤ 5000) = true := decide_eq_true h2
      replace h2 := Lib.hid h2
      replace d1 := Lib.hid d1
      replace d2 := Lib.hid d2
      go_enter Try.func4, Try.ntmps4
      go_wp2_with fail
      refine (few_any _ n _ _ (by assumption)).mono ?_
      rintro e wf ⟨rfl, hwf⟩
      subst wf
      rw [d1.out]
      go_wp2_with fail
      refine (few_any _ m _ _ (by assumption)).mono ?_
      rintro e wf ⟨rfl, hwf⟩
      subst wf
      rw [d2.out]
      go_wp2_with fail
      refine (hA _ (Ext.refl _)).mono ?_
      rintro e w1 ⟨a1, n1, c1, hs1, rfl, hr1, hk1, hx1⟩
      have hB1 := hB _ hx1
      go_wp2_with fail
      refine hB1.mono ?_
      rintro e w2 ⟨a2, n2, c2, hs2, rfl, hr2, hk2, hx2⟩
      have hsame := same_any a1 n1 c1 hs1 a2 n2 c2 hs2 w2 (hr1.ext hx2) hr2
      rw [hk1, hk2, decide_eq_true rfl] at hsame
      clear hA hB hB1 hk1 hk2
      go_wp2_with fail
      refine hsame.mono ?_
      rintro e w3 ⟨rfl, hx3⟩
      go_wp2_with fail
      refine (works_any _).mono ?_
      rintro e wz ⟨rfl, hxz⟩
      go_wp2_with fail
      go_ret
      exact ⟨rfl, (by repeat (first | exact Ext.refl _ | assumption | refine Ext.drew ?_ | refine Ext.drewN ?_ _ | refine Ext.alloc ?_ _ | refine Ext.trans ?_ (by assumption)))⟩
    · have d2 : decide (m ≤ 60 ∨ 4096 < m ∧ m ≤ 5000) = false := decide_eq_false h2
      replace h2 := Lib.hid h2
      replace d1 := Lib.hid d1
      replace d2 := Lib.hid d2
      go_enter Try.func4, Try.ntmps4
      go_wp2_with fail
      refine (few_any _ n _ _ (by assumption)).mono ?_
      rintro e wf ⟨rfl, hwf⟩
      subst wf
      rw [d1.out]
      go_wp2_with fail
      refine (few_any _ m _ _ (by assumption)).mono ?_
      rintro e wf ⟨rfl, hwf⟩
      subst wf
      rw [d2.out]
      go_wp2_with fail
      refine (works_any _).mono ?_
      rintro e wz ⟨rfl, hxz⟩
      go_wp2_with fail
      go_ret
      exact ⟨rfl, (by repeat (first | exact Ext.refl _ | assumption | refine Ext.drew ?_ | refine Ext.drewN ?_ _ | refine Ext.alloc ?_ _ | refine Ext.trans ?_ (by assumption)))⟩
  · have d1 : decide (n ≤ 60 ∨ 4096 < n ∧ n ≤ 5000) = false := decide_eq_false h1
    replace h1 := Lib.hid h1
    replace d1 := Lib.hid d1
    go_enter Try.func4, Try.ntmps4
    go_wp2_with fail
    refine (few_any _ n _ _ (by assumption)).mono ?_
    rintro e wf ⟨rfl, hwf⟩
    subst wf
    rw [d1.out]
    go_wp2_with fail
    refine (works_any _).mono ?_
    rintro e wz ⟨rfl, hxz⟩
    go_wp2_with fail
    go_ret
    exact ⟨rfl, (by repeat (first | exact Ext.refl _ | assumption | refine Ext.drew ?_ | refine Ext.drewN ?_ _ | refine Ext.alloc ?_ _ | refine Ext.trans ?_ (by assumption)))⟩
set_option maxHeartbeats 1000000 in
theorem corrCounts_any (a : Option Addr) (n cap : Nat) (l : List HCo) (k : Int) (w : World) (hr : RdH w a n cap l) :
    Calls Try.prog 10 #[.slice a n cap, .int .i64 k] w fun e w' => e = .returned (.bool true) ∧ Ext w w' := by
  have hm1 := hr.max
  have hA := fun W (z : Ext w W) => (regular_any a n cap l k W (hr.ext z)).mono (fun _ _ h => regRet_v h)
  have hB := fun W (z : Ext w W) => (rregular_any a n cap l k W (hr.ext z)).mono (fun _ _ h => regRet_v h)
  have hC := fun W (z : Ext w W) => total_any a n cap l W (hr.ext z)
  have hD := fun W (z : Ext w W) => rtotal_any a n cap l W (hr.ext z)
  unfold ListRet at hA hB
  generalize (if chkE [l] = 0 then (l.filter (regB k)).map kp else []) = L at *
  generalize (if chkE [l] = 0 then sumC l else 0) = S at *
  generalize chkE [l] = E at *
  by_cases h1 : n ≤ 60 ∨ 4096 < n ∧ n ≤ 5000
  · have d1 : decide (n ≤ 60 ∨ 4096 < n ∧ n ≤ 5000) = true := decide_eq_true h1
    replace h1 := Lib.hid h1
    replace d1 := Lib.hid d1
    go_enter Try.func10, Try.ntmps10
    go_wp2_with fail
    refine (few_any _ n _ _ (by assumption)).mono ?_
    rintro e wf ⟨rfl, hwf⟩
    subst wf
    rw [d1.out]
    go_wp2_with fail
    refine (hA _ (Ext.refl _)).mono ?_
    rintro e w1 ⟨a1, n1, c1, hs1, rfl, hr1, hk1, hx1⟩
    have hB1 := hB _ hx1
    go_wp2_with fail
    refine hB1.mono ?_
    rintro e w2 ⟨a2, n2, c2, hs2, rfl, hr2, hk2, hx2⟩
    have hC1 := hC _ (hx1.trans hx2)
    go_wp2_with fail
    refine hC1.mono ?_
    rintro e w3 ⟨rfl, hx3⟩
    have hD1 := hD _ ((hx1.trans hx2).trans hx3)
    go_wp2_with fail
    refine hD1.mono ?_
    rintro e w4 ⟨rfl, hx4⟩
    have hsame := same_any a1 n1 c1 hs1 a2 n2 c2 hs2 w4 ((hr1.ext hx2).ext (hx3.trans hx4)) (hr2.ext (hx3.trans hx4))
    rw [hk1, hk2, decide_eq_true rfl] at hsame
    clear hA hB hB1 hk1 hk2 hC hD hC1 hD1
    go_wp2_with fail
    refine hsame.mono ?_
    rintro e w5 ⟨rfl, hx5⟩
    go_wp2_with fail
    refine (works_any _).mono ?_
    rintro e wz ⟨rfl, hxz⟩
    go_wp2_with fail
    go_ret
    exact ⟨rfl, (by repeat (first | exact Ext.refl _ | assumption | refine Ext.drew ?_ | refine Ext.drewN ?_ _ | refine Ext.alloc ?_ _ | refine Ext.trans ?_ (by assumption)))⟩
  · have d1 : decide (n ≤ 60 ∨ 4096 < n ∧ n ≤ 5000) = false := decide_eq_false h1
    replace h1 := Lib.hid h1
    replace d1 := Lib.hid d1
    go_enter Try.func10, Try.ntmps10
    go_wp2_with fail
    refine (few_any _ n _ _ (by assumption)).mono ?_
    rintro e wf ⟨rfl, hwf⟩
    subst wf
    rw [d1.out]
    go_wp2_with fail
    refine (works_any _).mono ?_
    rintro e wz ⟨rfl, hxz⟩
    go_wp2_with fail
    go_ret
    exact ⟨rfl, (by repeat (first | exact Ext.refl _ | assumption | refine Ext.drew ?_ | refine Ext.drewN ?_ _ | refine Ext.alloc ?_ _ | refine Ext.trans ?_ (by assumption)))⟩
end Go.Proofs.Ytkdancoffmhjhaa
