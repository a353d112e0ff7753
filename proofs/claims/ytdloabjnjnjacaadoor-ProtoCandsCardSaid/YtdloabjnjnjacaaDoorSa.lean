/-
  sankoff: matrices, and Check; the reference's too.
  ref23.Check, checked.
-/
import Derived.Test.YtdloabjnjnjacaaDoorTe
import Derived.Test.YtdloabjnjnjacaaDoorMt
namespace Go.Proofs.YtdloabjnjnjacaaDoor
open Go.RowKit
def entB (x : Int) : Bool := decide (-1 ≤ x) && decide (x ≤ 1073741824)
def rowB (N : Nat) (r : List Int) : Bool := decide (r.length = N) && r.all entB
/-- A matrix in order. -/
def smB (ms : List (List Int)) : Bool := decide (1 ≤ ms.length) && (decide (ms.length ≤ 12) && ms.all (rowB ms.length))
theorem smB_of {ms : List (List Int)} (h : smB ms = true) : 1 ≤ ms.length ∧ ms.length ≤ 12 ∧ ∀ r ∈ ms, r.length = ms.length ∧ ∀ x ∈ r, -1 ≤ x ∧ x ≤ 1073741824 := by
  simp only [smB, Bool.and_eq_true, decide_eq_true_eq, List.all_eq_true, rowB, entB] at h
  exact ⟨h.1, h.2.1, h.2.2⟩
theorem smatrix_any (a : Option Addr) (n cap : Nat) (ms : List (List Int)) (w : World) (hr : RdM w a n cap ms) :
    Calls Tryd.prog 92 #[.slice a n cap] w fun e w' => e = .returned (.bool (smB ms)) ∧ Ext w w' := by
  have hl := RdV.len hr
  have hmax : n ≤ 9223372036854775807 := by have := RdV.le hr; have := RdV.most hr; unfold maxLen at this; omega
  by_cases h0 : n < 1
  · have hb : smB ms = false := by simp [smB, hl]; omega
    replace hl := Lib.hid hl
    rw [hb]
    go_enter Tryd.func92, Tryd.ntmps92
    go_wp2_with fail
    go_ret
    exact ⟨rfl, Ext.refl _⟩
  by_cases h12 : 12 < n
  · have hb : smB ms = false := by simp [smB, hl]; omega
    replace hl := Lib.hid hl
    rw [hb]
    go_enter Tryd.func92, Tryd.ntmps92
    go_wp2_with fail
    go_ret
    exact ⟨rfl, Ext.refl _⟩
  have hB : smB ms = ms.all (rowB n) := by simp only [smB, hl, decide_eq_true (show 1 ≤ n by omega), decide_eq_true (show n ≤ 12 by omega), Bool.true_and]
  replace hB := Lib.hid hB
  replace hl := Lib.hid hl
  go_enter Tryd.func92, Tryd.ntmps92
  go_wp2_with fail
  go_loopw [17] (fun i wr => ∃ k : Nat, k ≤ n ∧ i = .int .i64 k ∧ Ext w wr ∧ Hid (∀ (i : Nat) (r : List Int), i < k → ms[i]? = some r → rowB n r = true)) (fun i _ => n - (intOf i).toNat)
  case atStart => exact ⟨0, Nat.zero_le _, rfl, Ext.refl _, fun i r h => absurd h (Nat.not_lt_zero _)⟩
  case round =>
    obtain ⟨k, hk, rfl, hx, hall⟩ := hrel
    by_cases hlt : k < n
    · obtain ⟨b, off, _, r, rfl, hs, hb, hc0, al, nl, cl, rfl, hrl⟩ := RdV.at (hr.ext hx) hlt
      have hll := hrl.len
      have hlb := hrl.le
      have hlm := hrl.most
      unfold maxLen at hlm
      by_cases hnl : nl = n
      · have hd : ((nl : Int) != (n : Int)) = false := by simp [hnl]
        replace hll := Lib.hid hll
        replace hnl := Lib.hid hnl
        obtain ⟨wi, hwi⟩ : ∃ x, x = wr := ⟨_, rfl⟩
        rw [← hwi] at hx hrl hc0
        rw [← hwi]
        clear hwi
        go_wp2_with fail
        go_loopw [28] (fun i wr => ∃ j : Nat, j ≤ nl ∧ i = .int .i64 j ∧ Ext wi wr ∧ Hid (∀ (i : Nat) (x : Int), i < j → r[i]? = some x → entB x = true)) (fun i _ => nl - (intOf i).toNat)
        case atStart => exact ⟨0, Nat.zero_le _, rfl, Ext.refl _, fun i r h => absurd h (Nat.not_lt_zero _)⟩
        case round =>
          obtain ⟨j, hj, rfl, hxj, hall2⟩ := hrel
          by_cases hlj : j < nl
          · obtain ⟨b2, off2, s, rfl, hs2, hb2, hd2⟩ := (hrl.ext hxj).i64 hlj
            have hbad : entB s = false → smB ms = false := fun h => by rw [hB.out]; exact all_not hs.out (by simp only [rowB, all_not hs2.out h]; simp)
            by_cases hm1 : s < -1
            · have he := Lib.hid (hbad (by simp [entB]; omega))
              clear hbad
              go_wp2_with fail
              go_ret
              exact ⟨ret_bool he.out.symm, (by repeat (first | exact Ext.refl _ | assumption | refine Ext.drew ?_ | refine Ext.drewN ?_ _ | refine Ext.alloc ?_ _ | refine Ext.trans ?_ (by assumption)))⟩
            · by_cases hm2 : 1073741824 < s
              · have he := Lib.hid (hbad (by simp [entB]; omega))
                clear hbad
                have hd1 : decide (s < -1) = false := by simpa using hm1
                go_wp2_with fail
                go_ret
                exact ⟨ret_bool he.out.symm, (by repeat (first | exact Ext.refl _ | assumption | refine Ext.drew ?_ | refine Ext.drewN ?_ _ | refine Ext.alloc ?_ _ | refine Ext.trans ?_ (by assumption)))⟩
              · have hnew := Lib.hid (all_succ (p := entB) hall2.out hs2.out (by simp [entB]; omega))
                clear hbad
                have hd1 : decide (s < -1) = false := by simpa using hm1
                have hd2 : decide (1073741824 < s) = false := by simpa using hm2
                go_wp2_with fail
                (first | exact ⟨⟨j + 1, by omega, by go_num, hxj, hnew⟩, (by simp [intOf]; omega)⟩ | (go_roundw; case rel => exact ⟨j + 1, by omega, by go_num, hxj, hnew⟩; case measure => exact (by simp [intOf]; omega)))
          · have hrow : rowB n r = true := by
              simp only [rowB, hll.out, hnl.out]; simp only [decide_true, Bool.true_and]
              exact all_of_each hll.out (fun i x hi => hall2.out i x (by omega))
            have hnew := Lib.hid (all_succ (p := rowB n) hall.out hs.out hrow)
            clear hrow
            go_wp2_with fail
            (first | exact ⟨⟨k + 1, by omega, by go_num, hx.trans hxj, hnew⟩, (by simp [intOf]; omega)⟩ | (go_roundw; case rel => exact ⟨k + 1, by omega, by go_num, hx.trans hxj, hnew⟩; case measure => exact (by simp [intOf]; omega)))
      · have hd : ((nl : Int) != (n : Int)) = true := by simp; omega
        have he : smB ms = false := by rw [hB.out]; exact all_not hs.out (by simp [rowB, hll, hnl])
        replace he := Lib.hid he
        go_wp2_with fail
        go_ret
        exact ⟨ret_bool he.out.symm, hx⟩
    · have hfin : smB ms = true := by rw [hB.out]; exact all_of_each hl.out (fun i x hi => hall.out i x (by omega))
      replace hfin := Lib.hid hfin
      go_wp2_with fail
      go_ret
      exact ⟨ret_bool hfin.out.symm, hx⟩
theorem rmatrix2_any (a : Option Addr) (n cap : Nat) (ms : List (List Int)) (w : World) (hr : RdM w a n cap ms) :
    Calls Tryd.prog 105 #[.slice a n cap] w fun e w' => e = .returned (.bool (smB ms)) ∧ Ext w w' := by
  have hl := RdV.len hr
  have hmax : n ≤ 9223372036854775807 := by have := RdV.le hr; have := RdV.most hr; unfold maxLen at this; omega
  by_cases h0 : n < 1
  · have hb : smB ms = false := by simp [smB, hl]; omega
    replace hl := Lib.hid hl
    rw [hb]
    go_enter Tryd.func105, Tryd.ntmps105
    go_wp2_with fail
    go_ret
    exact ⟨rfl, Ext.refl _⟩
  by_cases h12 : 12 < n
  · have hb : smB ms = false := by simp [smB, hl]; omega
    replace hl := Lib.hid hl
    rw [hb]
    go_enter Tryd.func105, Tryd.ntmps105
    go_wp2_with fail
    go_ret
    exact ⟨rfl, Ext.refl _⟩
  have hB : smB ms = ms.all (rowB n) := by simp only [smB, hl, decide_eq_true (show 1 ≤ n by omega), decide_eq_true (show n ≤ 12 by omega), Bool.true_and]
  replace hB := Lib.hid hB
  replace hl := Lib.hid hl
  go_enter Tryd.func105, Tryd.ntmps105
  go_wp2_with fail
  go_loopw [3] (fun i wr => ∃ k : Nat, k ≤ n ∧ i = .int .i64 k ∧ Ext w wr ∧ Hid (∀ (i : Nat) (r : List Int), i < k → ms[i]? = some r → rowB n r = true)) (fun i _ => n - (intOf i).toNat)
  case atStart => exact ⟨0, Nat.zero_le _, rfl, Ext.refl _, fun i r h => absurd h (Nat.not_lt_zero _)⟩
  case round =>
    obtain ⟨k, hk, rfl, hx, hall⟩ := hrel
    by_cases hlt : k < n
    · obtain ⟨b, off, _, r, rfl, hs, hb, hc0', al, nl, cl, rfl, hrl⟩ := RdV.at hr hlt
      have hc0 := hx.cellv hc0'
      have hll := hrl.len
      have hlb := hrl.le
      have hlm := hrl.most
      unfold maxLen at hlm
      by_cases hnl : nl = n
      · have hd : ((nl : Int) != (n : Int)) = false := by simp [hnl]
        replace hll := Lib.hid hll
        replace hnl := Lib.hid hnl
        go_wp2_with fail
        go_loopw [4] (fun i wr => ∃ j : Nat, j ≤ nl ∧ i = .int .i64 j ∧ Ext w wr ∧ Hid (∀ (i : Nat) (x : Int), i < j → r[i]? = some x → entB x = true)) (fun i _ => nl - (intOf i).toNat)
        case atStart => exact ⟨0, Nat.zero_le _, rfl, hx, fun i r h => absurd h (Nat.not_lt_zero _)⟩
        case round =>
          obtain ⟨j, hj, rfl, hxj, hall2⟩ := hrel
          have hc1 := hxj.cellv hc0'
          have hcc := fun x : ExtOf wr => x.cell hc1
          by_cases hlj : j < nl
          · obtain ⟨b2, off2, s, rfl, hs2, hb2, hd2⟩ := (hrl.ext hxj).i64 hlj
            have hdd := fun x : ExtOf wr => x.cell hd2
            have hbad : entB s = false → smB ms = false := fun h => by rw [hB.out]; exact all_not hs.out (by simp only [rowB, all_not hs2.out h]; simp)
            by_cases hm1 : s < -1
            · have he := Lib.hid (hbad (by simp [entB]; omega))
              clear hbad
              go_wp2_with fail
              go_ret
              exact ⟨ret_bool he.out.symm, (by repeat (first | exact Ext.refl _ | assumption | refine Ext.drew ?_ | refine Ext.drewN ?_ _ | refine Ext.alloc ?_ _ | refine Ext.trans ?_ (by assumption)))⟩
            · by_cases hm2 : 1073741824 < s
              · have he := Lib.hid (hbad (by simp [entB]; omega))
                clear hbad
                have hd1 : decide (s < -1) = false := by simpa using hm1
                have hd3 : decide (1073741824 < s) = true := by simpa using hm2
                go_wp2_with fail
                go_ret
                exact ⟨ret_bool he.out.symm, (by repeat (first | exact Ext.refl _ | assumption | refine Ext.drew ?_ | refine Ext.drewN ?_ _ | refine Ext.alloc ?_ _ | refine Ext.trans ?_ (by assumption)))⟩
              · have hnew := Lib.hid (all_succ (p := entB) hall2.out hs2.out (by simp [entB]; omega))
                clear hbad
                have hd1 : decide (s < -1) = false := by simpa using hm1
                have hd3 : decide (1073741824 < s) = false := by simpa using hm2
                go_wp2_with fail
                (first | exact ⟨⟨j + 1, by omega, by go_num, hxj, hnew⟩, (by simp [intOf]; omega)⟩ | (go_roundw; case rel => exact ⟨j + 1, by omega, by go_num, hxj, hnew⟩; case measure => exact (by simp [intOf]; omega)))
          · have hrow : rowB n r = true := by
              simp only [rowB, hll.out, hnl.out]; simp only [decide_true, Bool.true_and]
              exact all_of_each hll.out (fun i x hi => hall2.out i x (by omega))
            have hnew := Lib.hid (all_succ (p := rowB n) hall.out hs.out hrow)
            clear hrow
            go_wp2_with fail
            (first | exact ⟨⟨k + 1, by omega, by go_num, hxj, hnew⟩, (by simp [intOf]; omega)⟩ | (go_roundw; case rel => exact ⟨k + 1, by omega, by go_num, hxj, hnew⟩; case measure => exact (by simp [intOf]; omega)))
      · have hd : ((nl : Int) != (n : Int)) = true := by simp; omega
        have he : smB ms = false := by rw [hB.out]; exact all_not hs.out (by simp [rowB, hll, hnl])
        replace he := Lib.hid he
        go_wp2_with fail
        go_ret
        exact ⟨ret_bool he.out.symm, hx⟩
    · have hfin : smB ms = true := by rw [hB.out]; exact all_of_each hl.out (fun i x hi => hall.out i x (by omega))
      replace hfin := Lib.hid hfin
      go_wp2_with fail
      go_ret
      exact ⟨ret_bool hfin.out.symm, hx⟩
/-! ### Check -/
def staB (N : Nat) (s : Int) : Bool := decide (-1 ≤ s) && decide (s < N)
/-- The error of a task. -/
def chkS (ts : List Nd) (ms : List (List Int)) (st : List Int) : Int :=
  if treeB ts = false then 16 else if smB ms = false ∨ st.length ≠ (leafL ts).length then 2 else if st.all (staB ms.length) = true then 0 else 3
theorem leavesR_ok {ts : List Nd} (h : treeB ts = true) : leavesR ts = leafL ts := by simp [leavesR, h]
set_option maxHeartbeats 1000000 in
theorem scheck_any (a : Option Addr) (n cap : Nat) (ts : List Nd) (am : Option Addr) (m capm : Nat) (ms : List (List Int)) (ast : Option Addr) (l caps : Nat) (st : List Int) (w : World)
    (hr : RdN w a n cap ts) (hm : RdM w am m capm ms) (hs : RdI w ast l caps st) :
    Calls Tryd.prog 131 #[.slice a n cap, .slice am m capm, .slice ast l caps] w fun e w' => e = .returned (.int .i64 (chkS ts ms st)) ∧ Ext w w' := by
  have hl := hs.len
  have hlm := RdV.len hm
  have hmax : l ≤ 9223372036854775807 := by have := hs.le; have := hs.most; unfold maxLen at this; omega
  have hmax2 : m ≤ 9223372036854775807 := by have := RdV.le hm; have := RdV.most hm; unfold maxLen at this; omega
  cases ht : treeB ts
  · have hE := treeE_not ht
    have hR : chkS ts ms st = 16 := by simp [chkS, ht]
    have hcall := RetIE.rd (tleaves_any a n cap ts w hr) hE
    rw [hR]
    replace hl := Lib.hid hl
    replace hlm := Lib.hid hlm
    replace hE := Lib.hid hE
    clear ht hR
    go_enter Tryd.func131, Tryd.ntmps131
    go_wp2_with fail
    refine hcall.mono ?_
    rintro e w1 ⟨al, nl, cl, hnl, rfl, hrl, hx1⟩
    replace hnl := Lib.hid hnl
    go_wp2_with fail
    go_ret
    exact ⟨rfl, hx1⟩
  · have hE := treeE_zero ht
    have hcall := RetIE.rd (tleaves_any a n cap ts w hr) hE
    rw [leavesR_ok ht] at hcall
    have hcm := fun W (hx : Ext w W) => smatrix_any am m capm ms W (hm.ext hx)
    cases hmb : smB ms
    · have hR : chkS ts ms st = 2 := by simp [chkS, ht, hmb]
      have hcm2 := fun W hx => cbool (hcm W hx) hmb
      rw [hR]
      replace hl := Lib.hid hl
      replace hlm := Lib.hid hlm
      replace hE := Lib.hid hE
      clear ht hR hmb hcm
      go_enter Tryd.func131, Tryd.ntmps131
      go_wp2_with fail
      refine hcall.mono ?_
      rintro e w1 ⟨al, nl, cl, hnl, rfl, hrl, hx1⟩
      replace hnl := Lib.hid hnl
      go_wp2_with fail
      refine (hcm2 _ (by repeat (first | exact Ext.refl _ | assumption | refine Ext.drew ?_ | refine Ext.drewN ?_ _ | refine Ext.alloc ?_ _ | refine Ext.trans ?_ (by assumption)))).mono ?_
      rintro e w2 ⟨rfl, hx2⟩
      go_wp2_with fail
      go_ret
      exact ⟨rfl, (by repeat (first | exact Ext.refl _ | assumption | refine Ext.drew ?_ | refine Ext.drewN ?_ _ | refine Ext.alloc ?_ _ | refine Ext.trans ?_ (by assumption)))⟩
    · have hcm2 := fun W hx => cbool (hcm W hx) hmb
      by_cases hle : l = (leafL ts).length
      · have hR : chkS ts ms st = if st.all (staB m) = true then 0 else 3 := by simp [chkS, ht, hmb, hl, hle, hlm]
        replace hR := Lib.hid hR
        replace hl := Lib.hid hl
        replace hlm := Lib.hid hlm
        replace hE := Lib.hid hE
        replace hle := Lib.hid hle
        clear ht hmb hcm
        go_enter Tryd.func131, Tryd.ntmps131
        go_wp2_with fail
        refine hcall.mono ?_
        rintro e w1 ⟨al, nl, cl, hnl, rfl, hrl, hx1⟩
        have hdl : ((l : Int) != (nl : Int)) = false := by rw [hle.out, hnl]; simp
        replace hnl := Lib.hid hnl
        go_wp2_with fail
        refine (hcm2 _ (by repeat (first | exact Ext.refl _ | assumption | refine Ext.drew ?_ | refine Ext.drewN ?_ _ | refine Ext.alloc ?_ _ | refine Ext.trans ?_ (by assumption)))).mono ?_
        rintro e w2 ⟨rfl, hx2⟩
        go_wp2_with fail
        go_loopw [30] (fun i wr => ∃ k : Nat, k ≤ l ∧ i = .int .i64 k ∧ Ext w wr ∧ Hid (∀ (i : Nat) (x : Int), i < k → st[i]? = some x → staB m x = true)) (fun i _ => l - (intOf i).toNat)
        case atStart => exact ⟨0, Nat.zero_le _, rfl, (by repeat (first | exact Ext.refl _ | assumption | refine Ext.drew ?_ | refine Ext.drewN ?_ _ | refine Ext.alloc ?_ _ | refine Ext.trans ?_ (by assumption))), fun i r h => absurd h (Nat.not_lt_zero _)⟩
        case round =>
          obtain ⟨j, hj, rfl, hxj, hall⟩ := hrel
          by_cases hlj : j < l
          · obtain ⟨b2, off2, s, rfl, hs2, hb2, hd2⟩ := (hs.ext hxj).i64 hlj
            by_cases hgood : staB m s = true
            · have hnew := Lib.hid (all_succ (p := staB m) hall.out hs2.out hgood)
              simp only [staB, Bool.and_eq_true, decide_eq_true_eq] at hgood
              have hd1 : decide (s < -1) = false := by simp; omega
              have hd3 : decide ((m : Int) ≤ s) = false := by simp; omega
              clear hgood
              go_wp2_with fail
              (first | exact ⟨⟨j + 1, by omega, by go_num, hxj, hnew⟩, (by simp [intOf]; omega)⟩ | (go_roundw; case rel => exact ⟨j + 1, by omega, by go_num, hxj, hnew⟩; case measure => exact (by simp [intOf]; omega)))
            · have hb : staB m s = false := by simpa using hgood
              have he : chkS ts ms st = 3 := by rw [hR.out, all_not hs2.out hb]; rfl
              replace he := Lib.hid he
              by_cases h1 : s < -1
              · have hd1 : decide (s < -1) = true := by simpa using h1
                clear hb hgood
                go_wp2_with fail
                go_ret
                exact ⟨ret_int he.out.symm, hxj⟩
              · have hd1 : decide (s < -1) = false := by simpa using h1
                have hd3 : decide ((m : Int) ≤ s) = true := by simp [staB] at hb; simp; omega
                clear hb hgood
                go_wp2_with fail
                go_ret
                exact ⟨ret_int he.out.symm, hxj⟩
          · have hfin : chkS ts ms st = 0 := by rw [hR.out, all_of_each hl.out (fun i x hi => hall.out i x (by omega))]; rfl
            replace hfin := Lib.hid hfin
            go_wp2_with fail
            go_ret
            exact ⟨ret_int hfin.out.symm, hxj⟩
      · have hR : chkS ts ms st = 2 := by simp [chkS, ht, hl, hle]
        rw [hR]
        replace hl := Lib.hid hl
        replace hlm := Lib.hid hlm
        replace hE := Lib.hid hE
        clear ht hmb hcm hR
        go_enter Tryd.func131, Tryd.ntmps131
        go_wp2_with fail
        refine hcall.mono ?_
        rintro e w1 ⟨al, nl, cl, hnl, rfl, hrl, hx1⟩
        have hdl : ((l : Int) != (nl : Int)) = true := by rw [hnl]; simp; omega
        replace hnl := Lib.hid hnl
        go_wp2_with fail
        refine (hcm2 _ (by repeat (first | exact Ext.refl _ | assumption | refine Ext.drew ?_ | refine Ext.drewN ?_ _ | refine Ext.alloc ?_ _ | refine Ext.trans ?_ (by assumption)))).mono ?_
        rintro e w2 ⟨rfl, hx2⟩
        go_wp2_with fail
        go_ret
        exact ⟨rfl, (by repeat (first | exact Ext.refl _ | assumption | refine Ext.drew ?_ | refine Ext.drewN ?_ _ | refine Ext.alloc ?_ _ | refine Ext.trans ?_ (by assumption)))⟩
end Go.Proofs.YtdloabjnjnjacaaDoor
namespace Go.Proofs.YtdloabjnjnjacaaDoor
open Go.RowKit
set_option maxHeartbeats 1000000 in
theorem rscheck_any (a : Option Addr) (n cap : Nat) (ts : List Nd) (am : Option Addr) (m capm : Nat) (ms : List (List Int)) (ast : Option Addr) (l caps : Nat) (st : List Int) (w : World)
    (hr : RdN w a n cap ts) (hm : RdM w am m capm ms) (hs : RdI w ast l caps st) :
    Calls Tryd.prog 80 #[.slice a n cap, .slice am m capm, .slice ast l caps] w fun e w' => e = .returned (.int .i64 (chkS ts ms st)) ∧ Ext w w' := by
  have hl := hs.len
  have hlm := RdV.len hm
  have hmax : l ≤ 9223372036854775807 := by have := hs.le; have := hs.most; unfold maxLen at this; omega
  have hmax2 : m ≤ 9223372036854775807 := by have := RdV.le hm; have := RdV.most hm; unfold maxLen at this; omega
  cases ht : treeB ts
  · have hE := treeE_not ht
    have hR : chkS ts ms st = 16 := by simp [chkS, ht]
    have hcc := cint (rtcheck_any a n cap ts w hr) hE
    rw [hR]
    replace hl := Lib.hid hl
    replace hlm := Lib.hid hlm
    replace hE := Lib.hid hE
    clear ht hR
    go_enter Tryd.func80, Tryd.ntmps80
    go_wp2_with fail
    refine hcc.mono ?_
    rintro e w1 ⟨rfl, hx1⟩
    go_wp2_with fail
    go_ret
    exact ⟨rfl, hx1⟩
  · have hE := treeE_zero ht
    have hcc := cint (rtcheck_any a n cap ts w hr) hE
    have hcall := fun W (hx : Ext w W) => RetIE.rd (rleaves_any a n cap ts W (hr.ext hx)) hE
    rw [leavesR_ok ht] at hcall
    have hcm := fun W (hx : Ext w W) => rmatrix2_any am m capm ms W (hm.ext hx)
    cases hmb : smB ms
    · have hR : chkS ts ms st = 2 := by simp [chkS, ht, hmb]
      have hcm2 := fun W hx => cbool (hcm W hx) hmb
      rw [hR]
      replace hl := Lib.hid hl
      replace hlm := Lib.hid hlm
      replace hE := Lib.hid hE
      clear ht hmb hcm hR
      go_enter Tryd.func80, Tryd.ntmps80
      go_wp2_with fail
      refine hcc.mono ?_
      rintro e w1 ⟨rfl, hx1⟩
      go_wp2_with fail
      refine (hcall _ (by repeat (first | exact Ext.refl _ | assumption | refine Ext.drew ?_ | refine Ext.drewN ?_ _ | refine Ext.alloc ?_ _ | refine Ext.trans ?_ (by assumption)))).mono ?_
      rintro e w2 ⟨al, nl, cl, hnl, rfl, hrl, hx2⟩
      replace hnl := Lib.hid hnl
      go_wp2_with fail
      refine (hcm2 _ (by repeat (first | exact Ext.refl _ | assumption | refine Ext.drew ?_ | refine Ext.drewN ?_ _ | refine Ext.alloc ?_ _ | refine Ext.trans ?_ (by assumption)))).mono ?_
      rintro e w3 ⟨rfl, hx3⟩
      go_wp2_with fail
      go_ret
      exact ⟨rfl, (by repeat (first | exact Ext.refl _ | assumption | refine Ext.drew ?_ | refine Ext.drewN ?_ _ | refine Ext.alloc ?_ _ | refine Ext.trans ?_ (by assumption)))⟩
    · have hcm2 := fun W hx => cbool (hcm W hx) hmb
      by_cases hle : l = (leafL ts).length
      · have hR : chkS ts ms st = if st.all (staB m) = true then 0 else 3 := by simp [chkS, ht, hmb, hl, hle, hlm]
        have hR' := Lib.hid hR
        replace hle := Lib.hid hle
        replace hl := Lib.hid hl
        replace hlm := Lib.hid hlm
        replace hE := Lib.hid hE
        clear ht hmb hcm hR
        go_enter Tryd.func80, Tryd.ntmps80
        go_wp2_with fail
        refine hcc.mono ?_
        rintro e w1 ⟨rfl, hx1⟩
        go_wp2_with fail
        refine (hcall _ (by repeat (first | exact Ext.refl _ | assumption | refine Ext.drew ?_ | refine Ext.drewN ?_ _ | refine Ext.alloc ?_ _ | refine Ext.trans ?_ (by assumption)))).mono ?_
        rintro e w2 ⟨al, nl, cl, hnl, rfl, hrl, hx2⟩
        have hdl : ((l : Int) != (nl : Int)) = false := by rw [hle.out, hnl]; simp
        replace hnl := Lib.hid hnl
        go_wp2_with fail
        refine (hcm2 _ (by repeat (first | exact Ext.refl _ | assumption | refine Ext.drew ?_ | refine Ext.drewN ?_ _ | refine Ext.alloc ?_ _ | refine Ext.trans ?_ (by assumption)))).mono ?_
        rintro e w3 ⟨rfl, hx3⟩
        go_wp2_with fail
        go_loopw [9] (fun i wr => ∃ k : Nat, k ≤ l ∧ i = .int .i64 k ∧ Ext w wr ∧ Hid (∀ (i : Nat) (x : Int), i < k → st[i]? = some x → staB m x = true)) (fun i _ => l - (intOf i).toNat)
        case atStart => exact ⟨0, Nat.zero_le _, rfl, (by repeat (first | exact Ext.refl _ | assumption | refine Ext.drew ?_ | refine Ext.drewN ?_ _ | refine Ext.alloc ?_ _ | refine Ext.trans ?_ (by assumption))), fun i r h => absurd h (Nat.not_lt_zero _)⟩
        case round =>
          obtain ⟨j, hj, rfl, hxj, hall⟩ := hrel
          by_cases hlj : j < l
          · obtain ⟨b2, off2, s, rfl, hs2, hb2, hd2⟩ := (hs.ext hxj).i64 hlj
            have hdd := fun x : ExtOf wr => x.cell hd2
            by_cases hgood : staB m s = true
            · have hnew := Lib.hid (all_succ (p := staB m) hall.out hs2.out hgood)
              simp only [staB, Bool.and_eq_true, decide_eq_true_eq] at hgood
              have hd1 : decide (s < -1) = false := by simp; omega
              have hd3 : decide ((m : Int) ≤ s) = false := by simp; omega
              clear hgood
              go_wp2_with fail
              (first | exact ⟨⟨j + 1, by omega, by go_num, hxj, hnew⟩, (by simp [intOf]; omega)⟩ | (go_roundw; case rel => exact ⟨j + 1, by omega, by go_num, hxj, hnew⟩; case measure => exact (by simp [intOf]; omega)))
            · have hb : staB m s = false := by simpa using hgood
              have he : chkS ts ms st = 3 := by rw [hR'.out, all_not hs2.out hb]; rfl
              replace he := Lib.hid he
              by_cases h1 : s < -1
              · have hd1 : decide (s < -1) = true := by simpa using h1
                clear hb hgood
                go_wp2_with fail
                go_ret
                exact ⟨ret_int he.out.symm, hxj⟩
              · have hd1 : decide (s < -1) = false := by simpa using h1
                have hd3 : decide ((m : Int) ≤ s) = true := by simp [staB] at hb; simp; omega
                clear hb hgood
                go_wp2_with fail
                go_ret
                exact ⟨ret_int he.out.symm, hxj⟩
          · have hfin : chkS ts ms st = 0 := by rw [hR'.out, all_of_each hl.out (fun i x hi => hall.out i x (by omega))]; rfl
            replace hfin := Lib.hid hfin
            go_wp2_with fail
            go_ret
            exact ⟨ret_int hfin.out.symm, hxj⟩
      · have hR : chkS ts ms st = 2 := by simp [chkS, ht, hl, hle]
        rw [hR]
        replace hl := Lib.hid hl
        replace hlm := Lib.hid hlm
        replace hE := Lib.hid hE
        clear ht hmb hcm hR
        go_enter Tryd.func80, Tryd.ntmps80
        go_wp2_with fail
        refine hcc.mono ?_
        rintro e w1 ⟨rfl, hx1⟩
        go_wp2_with fail
        refine (hcall _ (by repeat (first | exact Ext.refl _ | assumption | refine Ext.drew ?_ | refine Ext.drewN ?_ _ | refine Ext.alloc ?_ _ | refine Ext.trans ?_ (by assumption)))).mono ?_
        rintro e w2 ⟨al, nl, cl, hnl, rfl, hrl, hx2⟩
        have hdl : ((l : Int) != (nl : Int)) = true := by rw [hnl]; simp; omega
        replace hnl := Lib.hid hnl
        go_wp2_with fail
        refine (hcm2 _ (by repeat (first | exact Ext.refl _ | assumption | refine Ext.drew ?_ | refine Ext.drewN ?_ _ | refine Ext.alloc ?_ _ | refine Ext.trans ?_ (by assumption)))).mono ?_
        rintro e w3 ⟨rfl, hx3⟩
        go_wp2_with fail
        go_ret
        exact ⟨rfl, (by repeat (first | exact Ext.refl _ | assumption | refine Ext.drew ?_ | refine Ext.drewN ?_ _ | refine Ext.alloc ?_ _ | refine Ext.trans ?_ (by assumption)))⟩
/-- The program's first look at a task whose states are all given. -/
theorem checked_any (a : Option Addr) (n cap : Nat) (ts : List Nd) (aa : Option Addr) (l capa : Nat) (wrong : Bool) (w : World) (hr : RdN w a n cap ts) :
    Calls Tryd.prog 91 #[.slice a n cap, .slice aa l capa, .bool wrong] w fun e w' => e = .returned (.int .i64 (if treeB ts = false then 16 else if wrong = true ∨ l ≠ n then 2 else 0)) ∧ Ext w w' := by
  have hc := check_any a n cap ts w hr
  cases ht : treeB ts
  · have hcc := cint hc (treeE_not ht)
    clear hc ht
    go_enter Tryd.func91, Tryd.ntmps91
    go_wp2_with fail
    refine hcc.mono ?_
    rintro e w1 ⟨rfl, hx1⟩
    go_wp2_with fail
    go_ret
    exact ⟨rfl, hx1⟩
  · have hcc := cint hc (treeE_zero ht)
    clear hc ht
    by_cases hw : wrong = true ∨ l ≠ n
    · rw [if_neg (by simp), if_pos hw]
      have hd : ((l : Int) != (n : Int)) = !decide (l = n) := by
        by_cases h : l = n <;> simp [h]
        omega
      cases wrong
      · have hne : ((l : Int) != (n : Int)) = true := by rw [hd]; simpa using hw
        clear hd
        go_enter Tryd.func91, Tryd.ntmps91
        go_wp2_with fail
        refine hcc.mono ?_
        rintro e w1 ⟨rfl, hx1⟩
        go_wp2_with fail
        go_ret
        exact ⟨rfl, hx1⟩
      · go_enter Tryd.func91, Tryd.ntmps91
        go_wp2_with fail
        refine hcc.mono ?_
        rintro e w1 ⟨rfl, hx1⟩
        go_wp2_with fail
        go_ret
        exact ⟨rfl, hx1⟩
    · rw [if_neg (by simp), if_neg hw]
      have h1 : wrong = false := by cases wrong <;> simp_all
      have h2 : l = n := by
        by_cases h : l = n
        · exact h
        · exact absurd (.inr h) hw
      subst h1
      have hne : ((l : Int) != (n : Int)) = false := by simp [h2]
      clear hw
      replace h2 := Lib.hid h2
      go_enter Tryd.func91, Tryd.ntmps91
      go_wp2_with fail
      refine hcc.mono ?_
      rintro e w1 ⟨rfl, hx1⟩
      go_wp2_with fail
      go_ret
      exact ⟨rfl, hx1⟩
end Go.Proofs.YtdloabjnjnjacaaDoor
