/-
  ref23: Min, Roots, Best.
-/
import Derived.Test.YtdloabjnjnjacaaDoorKc
namespace Go.Proofs.YtdloabjnjnjacaaDoor
open Go.RowKit
section
variable {ts : List Nd} {ms : List (List Int)} {st : List Int}
theorem tabRows_at {v : Nat} (h : v < ts.length) : (tabRows ts ms st)[v]? = some (tabS ts ms st v) := by unfold tabRows; rw [List.getElem?_map, List.getElem?_range h]; rfl
theorem tab_last (h0 : chkS ts ms st = 0) {v b : Nat} (hv : v < ts.length) (hb : b < ms.length) : (tabS ts ms st v)[b]? = some (accS ts ms st (ts.length - 1) v b) := by
  obtain ⟨ht, hm, _, _⟩ := chkS_zero h0
  have hl := (tab_bd (st := st) ht hm hv).1
  have e := accS_last (st := st) ht hm hv hb
  rw [List.getD_eq_getElem?_getD, List.getElem?_eq_getElem (by omega)] at e
  rw [List.getElem?_eq_getElem (by omega)]
  exact congrArg some e
theorem small_root (h0 : chkS ts ms st = 0) : (bstF (fun b => (tabS ts ms st 0).getD b (-1)) ms.length).1 = (rootB ts ms st).1 := by
  obtain ⟨ht, hm, _, _⟩ := chkS_zero h0
  refine congrArg Prod.fst (bstF_congr ms.length fun b hb => ?_)
  exact accS_last (st := st) ht hm (tree_len ht).1 hb
/-- A step of the list, with what makes it the first best. -/
theorem best_step (h : possE ts ms st = 0) {r : Nat} (hr : (rootB ts ms st).2 = r) {v p : Nat} {a' : Int} (v0 : 0 < v) (hv : v < ts.length) (hp : parF ts v = p) (ha : (bestTo ts ms st r v)[p]? = some a') :
    ∃ a s : Nat, a' = a ∧ a < ms.length ∧ s < ms.length ∧ 0 ≤ (bstF (stepC ts ms st v a) ms.length).1 ∧ stepC ts ms st v a s = (bstF (stepC ts ms st v a) ms.length).1 ∧ (∀ i, i < s → stepC ts ms st v a i ≠ (bstF (stepC ts ms st v a) ms.length).1) ∧ bestTo ts ms st r (v + 1) = bestTo ts ms st r v ++ [(s : Int)] := by
  obtain ⟨r', h1, h2, h3, h4⟩ := root_at h
  have e : r' = r := by omega
  subst e
  obtain ⟨h0, _⟩ := possE_zero h
  obtain ⟨a, e1, e2, e3⟩ := best_succ h0 h1 (by omega) v0 hv hp ha
  obtain ⟨s, hs⟩ := best_at h0 h1 (by omega) (v + 1) (by omega) v (by omega)
  obtain ⟨p', a2, q1, q2, q3, q4, q5, q6, q7, q8⟩ := hs.step v0
  have ep : p' = p := by omega
  subst ep
  rw [bestTo_pre q2 (Nat.le_succ v), ha, e1] at q4
  have ea : a2 = a := by have := Option.some.inj q4; omega
  subst ea
  exact ⟨a2, s, e1, e2, hs.lt, q5, q7, q8, by rw [e3, q6]⟩
end
theorem under_step (am : Option Addr) (k capm : Nat) (ms : List (List Int)) (s : Nat) (ac : Option Addr) (capc : Nat) (ts : List Nd) (st : List Int) (v : Nat) (w : World)
    (hm : RdM w am k capm ms) (h0 : chkS ts ms st = 0) (hkl : ms.length = k) (hs : s < k) (hv : v < ts.length) (hy : RdI w ac k capc (tabS ts ms st v)) :
    Calls Tryd.prog 89 #[.slice am k capm, .int .i64 s, .slice ac k capc] w fun e w' => e = .returned (.int .i64 (bstF (stepC ts ms st v s) k).1) ∧ Ext w w' := by
  obtain ⟨ht, hmb, _, _⟩ := chkS_zero h0
  refine cint (under_any am k capm ms s ac capc (tabS ts ms st v) w hm hmb hs hy (fun y hy => by have := (tab_bd (st := st) ht hmb hv).2 y hy; omega)) ?_
  refine congrArg Prod.fst (bstF_congr k fun b hb => ?_)
  show op _ ((tabS ts ms st v).getD b (-1)) = op _ _
  congr 1
  exact accS_last (st := st) ht hmb hv (by omega)
set_option maxHeartbeats 1000000 in
theorem rmin_any (a : Option Addr) (n cap : Nat) (ts : List Nd) (am : Option Addr) (k capm : Nat) (ms : List (List Int)) (ast : Option Addr) (l caps : Nat) (st : List Int) (w : World)
    (hr : RdN w a n cap ts) (hm : RdM w am k capm ms) (hs : RdI w ast l caps st) :
    Calls Tryd.prog 47 #[.slice a n cap, .slice am k capm, .slice ast l caps] w fun e w' =>
      e = .returned (.tuple #[.int .i64 (if possE ts ms st = 0 then (rootB ts ms st).1 else 0), .int .i64 (possE ts ms st)]) ∧ Ext w w' := by
  have hck := rscheck_any a n cap ts am k capm ms ast l caps st w hr hm hs
  have hnl := hr.rd.len
  have hkl := RdV.len hm
  by_cases h0 : chkS ts ms st = 0
  · obtain ⟨ht, hmb, _, _⟩ := chkS_zero h0
    have hn1 : 0 < n := by rw [← hnl]; exact (tree_len ht).1
    have htab := fun W (hx : Ext w W) => table_any a n cap ts am k capm ms ast l caps st W (hr.ext hx) (hm.ext hx) (hs.ext hx) h0
    have hrow := tabRows_at (ts := ts) (ms := ms) (st := st) (v := 0) (by omega)
    have hTl := (tab_bd (st := st) ht hmb (show 0 < ts.length by omega)).1
    have hTb := (tab_bd (st := st) ht hmb (show 0 < ts.length by omega)).2
    have hsr := small_root h0
    have hge : -1 ≤ (rootB ts ms st).1 := bstF_ge _
    rw [hkl] at hTl hsr
    have hE : possE ts ms st = if (rootB ts ms st).1 < 0 then 5 else 0 := by
      unfold possE; rw [if_neg (by simp [h0])]
      by_cases h : (rootB ts ms st).1 = -1
      · rw [if_pos h, if_pos (by omega)]
      · rw [if_neg h, if_neg (by omega)]
    have hck0 := cint hck h0
    have hsm := fun (ac : Option Addr) (nc cc : Nat) W (hy : RdI W ac nc cc (tabS ts ms st 0)) (hn : nc = k) => cint (smallest_any ac nc cc (tabS ts ms st 0) W hy (fun y hy => (hTb y hy).1)) (show _ = (rootB ts ms st).1 by rw [hn]; exact hsr)
    rw [hE]
    generalize (rootB ts ms st).1 = q at *
    generalize tabS ts ms st 0 = T0 at *
    replace hnl := Lib.hid hnl
    replace hkl := Lib.hid hkl
    replace hrow := Lib.hid hrow
    replace hTl := Lib.hid hTl
    clear hck h0 ht hmb hE hsr hTb
    by_cases hq : q < 0
    all_goals
      first | rw [if_pos hq, if_neg (by decide)] | rw [if_neg hq, if_pos rfl]
      go_enter Tryd.func47, Tryd.ntmps47
      go_wp2_with fail
      refine hck0.mono ?_
      rintro e w1 ⟨rfl, hx1⟩
      go_wp2_with fail
      refine (htab _ (by repeat (first | exact Ext.refl _ | assumption | refine Ext.drew ?_ | refine Ext.drewN ?_ _ | refine Ext.alloc ?_ _ | refine Ext.trans ?_ (by assumption)))).mono ?_
      rintro e w2 ⟨G, rfl, hM, hx2⟩
      obtain ⟨bG, oG, vG, rG, hae, hrr, hbG, hcG, ar, nr, cr, rfl, hri⟩ := RdV.at hM hn1
      cases hae
      have hrG : rG = T0 := by have := hrr.out; rw [hrow.out] at this; exact (Option.some.inj this).symm
      subst hrG
      have hnr := hri.len
      rw [hTl.out] at hnr
      replace hnr := Lib.hid hnr
      go_wp2_with fail
      refine (hsm ar nr cr _ hri hnr.out.symm).mono ?_
      rintro e w3 ⟨rfl, hx3⟩
      go_wp2_with fail
      go_ret2
      exact ⟨rfl, (by repeat (first | exact Ext.refl _ | assumption | refine Ext.drew ?_ | refine Ext.drewN ?_ _ | refine Ext.alloc ?_ _ | refine Ext.trans ?_ (by assumption)))⟩
  · have hE : possE ts ms st = chkS ts ms st := by simp [possE, h0]
    have hd : (chkS ts ms st != 0) = true := by simpa using h0
    rw [hE, if_neg h0]
    generalize chkS ts ms st = er at *
    go_enter Tryd.func47, Tryd.ntmps47
    go_wp2_with fail
    refine hck.mono ?_
    rintro e w1 ⟨rfl, hx1⟩
    go_wp2_with fail
    go_ret2
    exact ⟨rfl, (by repeat (first | exact Ext.refl _ | assumption | refine Ext.drew ?_ | refine Ext.drewN ?_ _ | refine Ext.alloc ?_ _ | refine Ext.trans ?_ (by assumption)))⟩
set_option maxHeartbeats 1000000 in
theorem rroots_any (a : Option Addr) (n cap : Nat) (ts : List Nd) (am : Option Addr) (k capm : Nat) (ms : List (List Int)) (ast : Option Addr) (l caps : Nat) (st : List Int) (w : World)
    (hr : RdN w a n cap ts) (hm : RdM w am k capm ms) (hs : RdI w ast l caps st) :
    Calls Tryd.prog 54 #[.slice a n cap, .slice am k capm, .slice ast l caps] w (RetIE (rootsL ts ms st) (possE ts ms st) w) := by
  have hmin := rmin_any a n cap ts am k capm ms ast l caps st w hr hm hs
  have hnl := hr.rd.len
  have hkl := RdV.len hm
  by_cases hp : possE ts ms st = 0
  · obtain ⟨h0, _⟩ := possE_zero hp
    obtain ⟨ht, hmb, _, _⟩ := chkS_zero h0
    have hn1 : 0 < n := by rw [← hnl]; exact (tree_len ht).1
    have hk12 : k ≤ 12 := by rw [← hkl]; exact (smB_of hmb).2.1
    have htab := fun W (hx : Ext w W) => table_any a n cap ts am k capm ms ast l caps st W (hr.ext hx) (hm.ext hx) (hs.ext hx) h0
    have hrow := tabRows_at (ts := ts) (ms := ms) (st := st) (v := 0) (by omega)
    have hTl := (tab_bd (st := st) ht hmb (show 0 < ts.length by omega)).1
    have hTa := fun b hb => tab_last h0 (v := 0) (b := b) (by omega) hb
    rw [hkl] at hTl hTa
    have hL : rootsL ts ms st = rootsTo ts ms st k := by rw [rootsL, if_pos hp, hkl]
    have hrs := rootsTo_succ ts ms st
    have hrl := fun j => rootsTo_len ts ms st j
    have hr0 : rootsTo ts ms st 0 = [] := rfl
    rw [hL]
    rw [hp, if_pos rfl] at hmin
    rw [hp]
    generalize accS ts ms st (ts.length - 1) 0 = c at *
    generalize (rootB ts ms st).1 = q at *
    generalize rootsTo ts ms st = R at *
    generalize tabS ts ms st 0 = T0 at *
    replace hnl := Lib.hid hnl
    replace hkl := Lib.hid hkl
    replace hrow := Lib.hid hrow
    replace hTl := Lib.hid hTl
    replace hTa := Lib.hid hTa
    replace hrs := Lib.hid hrs
    replace hr0 := Lib.hid hr0
    clear h0 ht hmb hL hp
    go_enter Tryd.func54, Tryd.ntmps54
    go_wp2_with fail
    refine hmin.mono ?_
    rintro e w1 ⟨rfl, hx1⟩
    go_wp2_with fail
    refine (htab _ (by repeat (first | exact Ext.refl _ | assumption | refine Ext.drew ?_ | refine Ext.drewN ?_ _ | refine Ext.alloc ?_ _ | refine Ext.trans ?_ (by assumption)))).mono ?_
    rintro e w2 ⟨G, rfl, hM, hx2⟩
    obtain ⟨bG, oG, vG, rG, hae, hrr, hbG, hcG, ar, nr, cr, rfl, hri⟩ := RdV.at hM hn1
    cases hae
    have hrG : rG = T0 := by have := hrr.out; rw [hrow.out] at this; exact (Option.some.inj this).symm
    subst hrG
    have hnr := hri.len
    rw [hTl.out] at hnr
    obtain rfl : k = nr := hnr
    have hx02 : Ext w w2 := (by repeat (first | exact Ext.refl _ | assumption | refine Ext.drew ?_ | refine Ext.drewN ?_ _ | refine Ext.alloc ?_ _ | refine Ext.trans ?_ (by assumption)))
    go_wp2_with fail
    go_loopw [11, 12] (fun ov i wr => ∃ j : Nat, j ≤ k ∧ i = .int .i64 j ∧ Ext w2 wr ∧ OwnI w2.heap.size 3 wr ov (R j)) (fun _ i _ => k - (intOf i).toNat)
    case atStart => exact ⟨0, Nat.zero_le _, rfl, Ext.refl _, by rw [hr0.out]; exact OwnK.nil _ _ _⟩
    case round =>
      obtain ⟨j, hj, rfl, hx, hown⟩ := hrel
      by_cases hlt : j < k
      · obtain ⟨b, off, y, rfl, hy, hb, hcy⟩ := (hri.ext hx).i64 hlt
        have hlen := hrl j
        have hsu := hrs.out j
        have hyc : c j = y := by have := hy.out; rw [hTa.out j hlt] at this; exact Option.some.inj this
        rw [hyc] at hsu
        clear hyc
        by_cases hy : y = q
        · have hd : (y == q) = true := by simpa using hy
          rw [if_pos hy] at hsu
          replace hsu := Lib.hid hsu
          replace hy := Lib.hid hy
          go_wp2_with (at_builtin; refine wp_app1 w2 wr (j : Int) rfl _ _ 52 rfl 3 Tryd.underlying52 info_int rfl (by decide) _ _ rfl hown hx rfl (I64.len _) (I64.one _) (by omega) (by unfold maxLen; omega) ?_; intro v3 w3 o3 x3 _)
          (first | exact ⟨⟨j + 1, by omega, by go_num, x3, by rw [hsu.out]; exact o3⟩, (by simp [intOf]; omega)⟩ | (go_roundw; case rel => exact ⟨j + 1, by omega, by go_num, x3, by rw [hsu.out]; exact o3⟩; case measure => exact (by simp [intOf]; omega)))
        · have hd : (y == q) = false := by simpa using hy
          rw [if_neg hy, List.append_nil] at hsu
          rw [← hsu] at hown
          replace hsu := Lib.hid hsu
          go_wp2_with fail
          (first | exact ⟨⟨j + 1, by omega, by go_num, hx, hown⟩, (by simp [intOf]; omega)⟩ | (go_roundw; case rel => exact ⟨j + 1, by omega, by go_num, hx, hown⟩; case measure => exact (by simp [intOf]; omega)))
      · have hjk : j = k := by omega
        subst hjk
        go_wp2_with fail
        go_ret2
        exact ⟨_, rfl, OwnK.base hown (Ext.le hx02), hx02.trans hx⟩
  · have hL : rootsL ts ms st = [] := by rw [rootsL, if_neg hp]
    rw [hL]
    rw [if_neg hp] at hmin
    have hd : (possE ts ms st != 0) = true := by simpa using hp
    generalize possE ts ms st = pe at *
    go_enter Tryd.func54, Tryd.ntmps54
    go_wp2_with fail
    refine hmin.mono ?_
    rintro e w1 ⟨rfl, hx1⟩
    go_wp2_with fail
    go_ret2
    exact ⟨_, rfl, OwnK.nil _ _ _, (by repeat (first | exact Ext.refl _ | assumption | refine Ext.drew ?_ | refine Ext.drewN ?_ _ | refine Ext.alloc ?_ _ | refine Ext.trans ?_ (by assumption)))⟩
set_option maxHeartbeats 4000000 in
set_option maxRecDepth 20000 in
theorem rbest_any (a : Option Addr) (n cap : Nat) (ts : List Nd) (am : Option Addr) (k capm : Nat) (ms : List (List Int)) (ast : Option Addr) (l caps : Nat) (st : List Int) (w : World)
    (hr : RdN w a n cap ts) (hm : RdM w am k capm ms) (hs : RdI w ast l caps st) :
    Calls Tryd.prog 60 #[.slice a n cap, .slice am k capm, .slice ast l caps] w (RetIE (bestS ts ms st) (possE ts ms st) w) := by
  have hro := rroots_any a n cap ts am k capm ms ast l caps st w hr hm hs
  have hnl := hr.rd.len
  have hkl := RdV.len hm
  by_cases hp : possE ts ms st = 0
  · obtain ⟨h0, _⟩ := possE_zero hp
    obtain ⟨ht, hmb, _, _⟩ := chkS_zero h0
    obtain ⟨r, hrk, hr2, hra, hrg⟩ := root_at hp
    have hn1 : 1 ≤ n := by rw [← hnl]; exact (tree_len ht).1
    have hn63 : n ≤ 63 := by rw [← hnl]; exact (tree_len ht).2
    have hk12 : k ≤ 12 := by rw [← hkl]; exact (smB_of hmb).2.1
    have hhd := roots_head hp
    have htab := fun W (hx : Ext w W) => table_any a n cap ts am k capm ms ast l caps st W (hr.ext hx) (hm.ext hx) (hs.ext hx) h0
    have hrow : ∀ v, v < n → (tabRows ts ms st)[v]? = some (tabS ts ms st v) := fun v hv => tabRows_at (by omega)
    have hTl : ∀ v, v < n → (tabS ts ms st v).length = k := fun v hv => by rw [← hkl]; exact (tab_bd (st := st) ht hmb (show v < ts.length by omega)).1
    have hTa : ∀ v b, v < n → b < k → (tabS ts ms st v)[b]? = some (accS ts ms st (ts.length - 1) v b) ∧ -1 ≤ accS ts ms st (ts.length - 1) v b ∧ accS ts ms st (ts.length - 1) v b ≤ 1099511627776 := fun v b hv hb => ⟨tab_last h0 (by omega) (by omega), acc_bds h0 (by omega) (by omega)⟩
    have hund := fun s ac capc v W (hx : Ext w W) (hs : s < k) (hv : v < n) (hy : RdI W ac k capc (tabS ts ms st v)) => under_step am k capm ms s ac capc ts st v W (hm.ext hx) h0 hkl hs (by omega) hy
    have hent : ∀ s1 s2, s1 < k → s2 < k → ∃ r, ms[s1]? = some r ∧ r[s2]? = some (ent ms s1 s2) ∧ r.length = k ∧ -1 ≤ ent ms s1 s2 ∧ ent ms s1 s2 ≤ 1073741824 := fun s1 s2 h1 h2 => by
      obtain ⟨r, e1, e2, e3, e4, e5⟩ := smB_ent hmb (show s1 < ms.length by omega) (show s2 < ms.length by omega)
      exact ⟨r, e1, e2, by omega, e4, e5⟩
    have hstC : ∀ v s b, stepC ts ms st v s b = op (ent ms s b) (accS ts ms st (ts.length - 1) v b) := fun v s b => rfl
    have hstep : ∀ (v p : Nat) (a' : Int), 0 < v → v < n → parF ts v = p → (bestTo ts ms st r v)[p]? = some a' → ∃ a s : Nat, a' = a ∧ a < k ∧ s < k ∧ 0 ≤ (bstF (stepC ts ms st v a) k).1 ∧ stepC ts ms st v a s = (bstF (stepC ts ms st v a) k).1 ∧ (∀ i, i < s → stepC ts ms st v a i ≠ (bstF (stepC ts ms st v a) k).1) ∧ bestTo ts ms st r (v + 1) = bestTo ts ms st r v ++ [(s : Int)] := fun v p a' v0 hv hpp ha => by
      have := best_step hp hr2 v0 (by omega) hpp ha
      rw [hkl] at this; exact this
    have hpar : ∀ (v : Nat) (x : Nd), 0 < v → ts[v]? = some x → ∃ p : Nat, x.par = p ∧ p < v ∧ parF ts v = p := fun v x v0 hx => by
      obtain ⟨h1, h2⟩ := treeB_par ht hx v0
      obtain ⟨p, hp⟩ := Int.eq_ofNat_of_zero_le h1
      exact ⟨p, hp, by omega, by rw [parF_at hx, hp]⟩
    have hB1 : bestTo ts ms st r 1 = [(r : Int)] := rfl
    have hBl : ∀ j, (bestTo ts ms st r j).length = j := bestTo_len _
    have hL : bestS ts ms st = bestTo ts ms st r n := by rw [bestS, if_pos hp, hr2, hnl]
    rw [hL]
    rw [hp] at hro
    rw [hp]
    rw [hr2] at hhd
    generalize bestTo ts ms st r = R at *
    generalize rootsL ts ms st = Lr at *
    generalize stepC ts ms st = S at *
    generalize accS ts ms st (ts.length - 1) = A at *
    generalize tabS ts ms st = T at *
    generalize tabRows ts ms st = TR at *
    replace hnl := Lib.hid hnl
    replace hkl := Lib.hid hkl
    replace hr2 := Lib.hid hr2
    replace hra := Lib.hid hra
    replace hrow := Lib.hid hrow
    replace hTl := Lib.hid hTl
    replace hTa := Lib.hid hTa
    replace hent := Lib.hid hent
    replace hstC := Lib.hid hstC
    replace hstep := Lib.hid hstep
    replace hpar := Lib.hid hpar
    replace hB1 := Lib.hid hB1
    replace hBl := Lib.hid hBl
    replace hhd := Lib.hid hhd
    replace hrg := Lib.hid hrg
    clear h0 ht hmb hL hp
    go_enter Tryd.func60, Tryd.ntmps60
    go_wp2_with fail
    refine hro.mono ?_
    rintro e w1 ⟨vl, rfl, hol, hx1⟩
    obtain ⟨al, nl, cl, hnl2, rfl, hrl⟩ := OwnK.rdn I64.len hol
    have hnl0 : 0 < nl := by rw [hnl2]; exact (List.getElem?_eq_some_iff.1 hhd.out).1
    replace hnl2 := Lib.hid hnl2
    go_wp2_with fail
    refine (htab _ (by repeat (first | exact Ext.refl _ | assumption | refine Ext.drew ?_ | refine Ext.drewN ?_ _ | refine Ext.alloc ?_ _ | refine Ext.trans ?_ (by assumption)))).mono ?_
    rintro e w2 ⟨G, rfl, hM, hx2⟩
    obtain ⟨bl, ol, yl, rfl, hyl, hbl, hcl⟩ := (hrl.ext hx2).i64 hnl0
    obtain rfl : yl = (r : Int) := by have := hyl.out; rw [hhd.out] at this; exact (Option.some.inj this).symm
    rw [Nat.add_zero] at hcl
    have hx02 : Ext w w2 := (by repeat (first | exact Ext.refl _ | assumption | refine Ext.drew ?_ | refine Ext.drewN ?_ _ | refine Ext.alloc ?_ _ | refine Ext.trans ?_ (by assumption)))
    have hown0 : OwnI w2.heap.size 3 (w2.alloc (.cells #[.int .i64 (r : Int)] 3)) (.slice (some ⟨w2.heap.size, 0, none⟩) 1 1) (R 1) := by
      rw [hB1.out]; exact lit_own I64.len w2 3 [(r : Int)] #[.int .i64 (r : Int)] rfl rfl (by omega)
    have hx2a : Ext w2 (w2.alloc (.cells #[.int .i64 (r : Int)] 3)) := Ext.alloc1 _ _
    go_wp2_with fail
    go_loopw [11, 12] (fun ov i wr => ∃ v : Nat, 1 ≤ v ∧ v ≤ n ∧ i = .int .i64 v ∧ Ext w2 wr ∧ OwnI w2.heap.size 3 wr ov (R v)) (fun _ i _ => n - (intOf i).toNat)
    case atStart => exact ⟨1, by omega, by omega, rfl, hx2a, hown0⟩
    case round =>
      obtain ⟨v, hv1, hvn, rfl, hx, hown⟩ := hrel
      obtain ⟨ao, no, co, hno, rfl, hrO⟩ := OwnK.rdn I64.len hown
      rw [hBl.out] at hno
      obtain rfl : v = no := hno.symm
      by_cases hlt : v < n
      · obtain ⟨b, off, x, rfl, hx0, hb, hcp, _, _⟩ := (hr.ext (hx02.trans hx)).nd hlt
        obtain ⟨p, hpe, hpv, hpF⟩ := hpar.out v x (by omega) hx0.out
        rw [hpe] at hcp
        obtain ⟨bo, oo, a', rfl, ha', hbo, hca⟩ := hrO.i64 hpv
        obtain ⟨s, t, rfl, hsk, htk, hge, hat, hno2, hsu⟩ := hstep.out v p a' (by omega) hlt hpF ha'.out
        obtain ⟨bG, oG, vG, rG, hae, hrr, hbG, hcG, ar, nr, cr, rfl, hri⟩ := RdV.at (RdM.ext hM hx) hlt
        cases hae
        have hrG : rG = T v := by have := hrr.out; rw [hrow.out v hlt] at this; exact (Option.some.inj this).symm
        subst hrG
        rw [Nat.zero_add] at hcG
        have hnr := hri.len
        rw [hTl.out v hlt] at hnr
        obtain rfl : k = nr := hnr
        have hcall := fun W (hx' : Ext wr W) => hund s ar cr v W ((hx02.trans hx).trans hx') hsk hlt (hri.ext hx')
        generalize (bstF (S v s) k).1 = q at *
        replace hsu := Lib.hid hsu
        replace hpe := Lib.hid hpe
        replace hpF := Lib.hid hpF
        replace hat := Lib.hid hat
        replace hno2 := Lib.hid hno2
        clear hrr ha' hx0
        go_wp2_with fail
        refine (hcall _ (by repeat (first | exact Ext.refl _ | assumption | refine Ext.drew ?_ | refine Ext.drewN ?_ _ | refine Ext.alloc ?_ _ | refine Ext.trans ?_ (by assumption)))).mono ?_
        rintro e w4 ⟨rfl, hx4⟩
        clear hcall
        go_wp2_with fail
        obtain ⟨wo, hwo⟩ : ∃ x, x = wr := ⟨_, rfl⟩
        rw [← hwo] at hx hown hrO hca hcG hri hx4
        clear hwo
        go_loopw [11, 15] (fun ov i wr => ∃ j : Nat, j ≤ t ∧ i = .int .i64 j ∧ ov = .slice (some ⟨bo, oo, none⟩) v co ∧ Ext wo wr) (fun _ i _ => t - (intOf i).toNat)
        case atStart => exact ⟨0, Nat.zero_le _, rfl, rfl, hx4⟩
        case round =>
          obtain ⟨j, hj, rfl, rfl, hxj⟩ := hrel
          have hjk : j < k := by omega
          obtain ⟨bm, offm, _, rw', rfl, hr1, hbm, hcm1, ar2, nr2, cr2, rfl, hrr2⟩ := RdV.at (hm.ext ((hx02.trans hx).trans hxj)) hsk
          obtain ⟨r0, q1, q2, q3, q4, q5⟩ := hent.out s j hsk hjk
          have hrr0 : rw' = r0 := by have := hr1.out; rw [q1] at this; exact (Option.some.inj this).symm
          subst hrr0
          have hnr2 := hrr2.len
          rw [q3] at hnr2
          obtain rfl : k = nr2 := hnr2
          obtain ⟨br, offr, x2, rfl, hx2', hbr', hcr⟩ := hrr2.i64 hjk
          have hx2e : x2 = ent ms s j := by have := hx2'.out; rw [q2] at this; exact (Option.some.inj this).symm
          obtain ⟨by', oy, y2, rfl, hy2', hby', hcy⟩ := (hri.ext hxj).i64 hjk
          obtain ⟨t1, t2, t3⟩ := hTa.out v j hlt hjk
          have hy2e : y2 = A v j := by have := hy2'.out; rw [t1] at this; exact (Option.some.inj this).symm
          have hS := hstC.out v s j
          rw [← hx2e] at q4 q5
          rw [← hy2e] at t2 t3
          rw [← hx2e, ← hy2e] at hS
          have hcGj := hxj.cellv hcG
          have hp1 := fun z : ExtOf wr => z.cell hcm1
          have hp2 := fun z : ExtOf wr => z.cell hcr
          have hp3 := fun z : ExtOf wr => z.cell hcGj
          have hp4 := fun z : ExtOf wr => z.cell hcy
          have hwr : IntKind.i64.wrap (x2 + y2) = x2 + y2 := IntWalk.i64_in _ (by omega)
          clear hx2e hy2e q1 q2 q3 hr1 hx2' hy2' t1 hcG
          by_cases ejt : j = t
          · subst ejt
            rw [hS] at hat
            have hx20 : 0 ≤ x2 ∧ 0 ≤ y2 ∧ x2 + y2 = q := by
              have := hat.out
              unfold op at this
              split at this <;> omega
            obtain ⟨g1, g2, g3⟩ := hx20
            have hd1 : decide (0 ≤ x2) = true := by simpa using g1
            have hd2 : decide (0 ≤ y2) = true := by simpa using g2
            have hd3 : (x2 + y2 == q) = true := by simpa using g3
            replace g3 := Lib.hid g3
            replace hS := Lib.hid hS
            have hownq := (hown.kept hxj)
            have hxq2 := hx.trans hxj
            go_wp2_with fail
            (refine wp_region_qx (by kernel_rfl) (by kernel_rfl) ?_
             repeat (go_big_quiet_step (fail))
             refine wpQuiet_nil ?_
             intro wq hw'
             have hxq := ext_of_ex hw'
             clear hw')
            have hown6 := hownq.kept hxq
            have hx6 := hxq2.trans hxq
            clear hp1 hp2 hp3 hp4 hxq hownq hxq2
            have hlR := Lib.hid (show ((R v).length + 1) * 8 ≤ 140737488355328 ∧ (R v).length + 1 ≤ maxLen by have := hBl.out v; unfold maxLen; omega)
            go_wp2_with (at_builtin; refine wp_app1 w2 wq (j : Int) rfl _ _ 52 rfl 3 Tryd.underlying52 info_int rfl (by decide) _ _ rfl hown6 hx6 rfl (I64.len _) (I64.one _) hlR.out.1 hlR.out.2 ?_; intro v3 w3 o3 x3 _)
            (first | exact ⟨⟨v + 1, by omega, by omega, by go_num, x3, by rw [hsu.out]; exact o3⟩, (by simp [intOf]; omega)⟩ | (go_roundw; case rel => exact ⟨v + 1, by omega, by omega, by go_num, x3, by rw [hsu.out]; exact o3⟩; case measure => exact (by simp [intOf]; omega)))
          · have hne := hno2.out j (by omega)
            rw [hS] at hne
            replace hS := Lib.hid hS
            by_cases g1 : 0 ≤ x2
            · have hd1 : decide (0 ≤ x2) = true := by simpa using g1
              by_cases g2 : 0 ≤ y2
              · have hd2 : decide (0 ≤ y2) = true := by simpa using g2
                rw [op_pos g1 g2] at hne
                have hd3 : (x2 + y2 == q) = false := by simpa using hne
                replace hne := Lib.hid hne
                go_wp2_with fail
                (refine wp_region_qx (by kernel_rfl) (by kernel_rfl) ?_
                 repeat (go_big_quiet_step (fail))
                 refine wpQuiet_nil ?_
                 intro wq hw'
                 have hxq := ext_of_ex hw'
                 clear hw')
                go_wp2_with fail
                (first | exact ⟨⟨j + 1, by omega, by go_num, rfl, hxj.trans hxq⟩, (by simp [intOf]; omega)⟩ | (go_roundw; case rel => exact ⟨j + 1, by omega, by go_num, rfl, hxj.trans hxq⟩; case measure => exact (by simp [intOf]; omega)))
              · have hd2 : decide (0 ≤ y2) = false := by simpa using g2
                replace hne := Lib.hid hne
                go_wp2_with fail
                (refine wp_region_qx (by kernel_rfl) (by kernel_rfl) ?_
                 repeat (go_big_quiet_step (fail))
                 refine wpQuiet_nil ?_
                 intro wq hw'
                 have hxq := ext_of_ex hw'
                 clear hw')
                go_wp2_with fail
                (first | exact ⟨⟨j + 1, by omega, by go_num, rfl, hxj.trans hxq⟩, (by simp [intOf]; omega)⟩ | (go_roundw; case rel => exact ⟨j + 1, by omega, by go_num, rfl, hxj.trans hxq⟩; case measure => exact (by simp [intOf]; omega)))
            · have hd1 : decide (0 ≤ x2) = false := by simpa using g1
              replace hne := Lib.hid hne
              go_wp2_with fail
              (refine wp_region_qx (by kernel_rfl) (by kernel_rfl) ?_
               repeat (go_big_quiet_step (fail))
               refine wpQuiet_nil ?_
               intro wq hw'
               have hxq := ext_of_ex hw'
               clear hw')
              go_wp2_with fail
              (first | exact ⟨⟨j + 1, by omega, by go_num, rfl, hxj.trans hxq⟩, (by simp [intOf]; omega)⟩ | (go_roundw; case rel => exact ⟨j + 1, by omega, by go_num, rfl, hxj.trans hxq⟩; case measure => exact (by simp [intOf]; omega)))
      · have hvn2 : v = n := by omega
        subst hvn2
        go_wp2_with fail
        go_ret2
        exact ⟨_, rfl, OwnK.base hown (Ext.le hx02), hx02.trans hx⟩
  · have hL : bestS ts ms st = [] := by rw [bestS, if_neg hp]
    rw [hL]
    have hd : (possE ts ms st != 0) = true := by simpa using hp
    generalize possE ts ms st = pe at *
    go_enter Tryd.func60, Tryd.ntmps60
    go_wp2_with fail
    refine hro.mono ?_
    rintro e w1 ⟨vl, rfl, hol, hx1⟩
    obtain ⟨al, nl, cl, hnl2, rfl, hrl⟩ := OwnK.rdn I64.len hol
    go_wp2_with fail
    go_ret2
    exact ⟨_, rfl, OwnK.nil _ _ _, (by repeat (first | exact Ext.refl _ | assumption | refine Ext.drew ?_ | refine Ext.drewN ?_ _ | refine Ext.alloc ?_ _ | refine Ext.trans ?_ (by assumption)))⟩
end Go.Proofs.YtdloabjnjnjacaaDoor
