/-
  proto: on, and what is asked.
-/
import Derived.Test.YtdloabjnjnjacaaDoorPb
import Derived.Deep.RegionHeld3
import Derived.BigRegion
namespace Go.Proofs.YtdloabjnjnjacaaDoor
open Go.RowKit Go.Shelf Go.Maps
/-! ### on -/
def OnRet (ts : List Nd) (cs : List Snd) (x : List Cl) (w : World) (Q : World → Prop) (e : Ending) (w' : World) : Prop :=
  ¬ (onE ts cs x = 0 ∧ knownB x = true) ∧ e = .returned (.int .i64 (onE ts cs x)) ∧ Ext w w' ∨ onE ts cs x = 0 ∧ knownB x = true ∧ e = .returned (.int .i64 0) ∧ Q w'
theorem onE_len {ts : List Nd} {cs : List Snd} {x : List Cl} (h : ¬ x.length = (leafL ts).length) : onE ts cs x = 2 := by simp [onE, h]
theorem onE_bad {ts : List Nd} {cs : List Snd} {x : List Cl} (h : x.all Cl.ok = false) : onE ts cs x = 2 := by simp [onE, h]
theorem onE_lost {ts : List Nd} {cs : List Snd} {x : List Cl} (h : x.length = (leafL ts).length) (h2 : x.all Cl.ok = true) (h3 : x.any (lostC cs) = true) : onE ts cs x = 5 := by
  unfold onE; rw [if_neg (by simp [h, h2]), if_pos h3]
theorem onE_ok {ts : List Nd} {cs : List Snd} {x : List Cl} (h : x.length = (leafL ts).length) (h2 : x.all Cl.ok = true) (h3 : x.any (lostC cs) = false) : onE ts cs x = 0 := by
  unfold onE; rw [if_neg (by simp [h, h2]), if_neg (by simp [h3])]
set_option maxHeartbeats 2000000 in
theorem onT_any (p : Nat) (a : Option Addr) (n cap : Nat) (ts : List Nd) (ac : Option Addr) (nc cc : Nat) (cs : List Snd) (am : Option Addr) (capm : Nat) (ms : List (List Int)) (bm : Nat) (ax : Option Addr) (l cx : Nat) (x : List Cl) (B0 B1 B2 : Nat) (w : World) (Q : World → Prop)
    (hK : TskOk w p a n cap ts ac nc cc cs am capm ms bm) (hr : RdC w ax l cx x) (ht : treeB ts = true)
    (hcall : onE ts cs x = 0 → ∀ W az ls cps, Ext w W → OwnI w.heap.size 3 W (.slice az ls cps) (stL cs x) → ls = x.length → Calls Tryd.prog 49 #[.slice az ls cps, .pointer (some ⟨B0, 0, none⟩), .pointer (some ⟨B1, 0, none⟩), .pointer (some ⟨B2, 0, none⟩)] W fun e w' => e = .returned (.int .i64 0) ∧ Q w') :
    Calls Tryd.prog 48 #[.pointer (some ⟨p, 0, none⟩), .slice ax l cx, .func (.func 49) #[] #[.pointer (some ⟨B0, 0, none⟩), .pointer (some ⟨B1, 0, none⟩), .pointer (some ⟨B2, 0, none⟩)]] w (OnRet ts cs x w Q) := by
  have hncl := hK.rc.len
  have hxl := hr.len
  have hln63 : (leafL ts).length ≤ 63 := by
    have := leafTo_len ts ts.length
    have h2 := (tree_len ht).2
    unfold leafL; omega
  have hlv := fun W (hx : Ext w W) => RetIE.rd (tleaves_any a n cap ts W (hK.rd.ext hx)) (treeE_zero ht)
  rw [leavesR_ok ht] at hlv
  obtain ⟨hp0, hp1, hp2, hp3, hp4⟩ := hK.at
  have hpv := fun W (hx : Ext w W) => pvalid_any ax l cx x W (hr.ext hx)
  by_cases hlen : l = (leafL ts).length
  · have hok : cellsOk x = x.all Cl.ok := by unfold cellsOk; rw [decide_eq_true (by omega), Bool.true_and]
    rw [hok] at hpv
    have hst := fun W (hx : Ext w W) => pstates_any p a n cap ts ac nc cc cs am capm ms bm ax l cx x W (hK.ext hx) (hr.ext hx) (by omega)
    have hlen' : x.length = (leafL ts).length := by rw [hxl]; exact hlen
    cases hall : x.all Cl.ok
    · have hE := onE_bad (ts := ts) (cs := cs) hall
      have hpv0 := fun W hx => cbool (hpv W hx) hall
      replace hE := Lib.hid hE
      replace hncl := Lib.hid hncl
      replace hxl := Lib.hid hxl
      replace hlen := Lib.hid hlen
      replace hok := Lib.hid hok
      clear hlen' hall hpv hcall hst
      go_enter Tryd.func48, Tryd.ntmps48
      go_wp2_with fail
      refine (hlv _ (by repeat (first | exact Ext.refl _ | assumption | refine Ext.drew ?_ | refine Ext.drewN ?_ _ | refine Ext.alloc ?_ _ | refine Ext.trans ?_ (by assumption)))).mono ?_
      rintro e w1 ⟨al, nl, cl, hnl, rfl, hrl, hx1⟩
      have hd : ((l : Int) != (nl : Int)) = false := by simp [hlen.out, hnl]
      replace hnl := Lib.hid hnl
      go_wp2_with fail
      refine (hpv0 _ (by repeat (first | exact Ext.refl _ | assumption | refine Ext.drew ?_ | refine Ext.drewN ?_ _ | refine Ext.alloc ?_ _ | refine Ext.trans ?_ (by assumption)))).mono ?_
      rintro e w2 ⟨rfl, hx2⟩
      go_wp2_with fail
      go_ret
      exact .inl ⟨by rw [hE.out]; simp, by rw [hE.out]; rfl, (by repeat (first | exact Ext.refl _ | assumption | refine Ext.drew ?_ | refine Ext.drewN ?_ _ | refine Ext.alloc ?_ _ | refine Ext.trans ?_ (by assumption)))⟩
    · have hpv1 := fun W hx => cbool (hpv W hx) hall
      cases hlost : x.any (lostC cs)
      · have hE := onE_ok hlen' hall hlost
        cases hkn : knownB x
        all_goals
          replace hE := Lib.hid hE
          replace hncl := Lib.hid hncl
          replace hxl := Lib.hid hxl
          replace hlen := Lib.hid hlen
          replace hok := Lib.hid hok
          replace hkn := Lib.hid hkn
          replace hlost := Lib.hid hlost
          clear hlen' hall hpv
          go_enter Tryd.func48, Tryd.ntmps48
          go_wp2_with fail
          refine (hlv _ (by repeat (first | exact Ext.refl _ | assumption | refine Ext.drew ?_ | refine Ext.drewN ?_ _ | refine Ext.alloc ?_ _ | refine Ext.trans ?_ (by assumption)))).mono ?_
          rintro e w1 ⟨al, nl, cl, hnl, rfl, hrl, hx1⟩
          have hd : ((l : Int) != (nl : Int)) = false := by simp [hlen.out, hnl]
          replace hnl := Lib.hid hnl
          go_wp2_with fail
          refine (hpv1 _ (by repeat (first | exact Ext.refl _ | assumption | refine Ext.drew ?_ | refine Ext.drewN ?_ _ | refine Ext.alloc ?_ _ | refine Ext.trans ?_ (by assumption)))).mono ?_
          rintro e w2 ⟨rfl, hx2⟩
          go_wp2_with fail
          refine (hst _ (by repeat (first | exact Ext.refl _ | assumption | refine Ext.drew ?_ | refine Ext.drewN ?_ _ | refine Ext.alloc ?_ _ | refine Ext.trans ?_ (by assumption)))).mono ?_
          rintro e w3 ⟨hx3, ⟨hl3, rfl⟩ | ⟨_, v3, rfl, ho3⟩⟩
          · rw [hlost.out] at hl3; cases hl3
          obtain ⟨a3, n3, c3, hn3, rfl, hr3⟩ := OwnK.rdn I64.len ho3
          rw [hkn.out]
          have hx03 : Ext w w3 := (by repeat (first | exact Ext.refl _ | assumption | refine Ext.drew ?_ | refine Ext.drewN ?_ _ | refine Ext.alloc ?_ _ | refine Ext.trans ?_ (by assumption)))
          replace hn3 := Lib.hid hn3
          have ho3' := OwnK.base ho3 (show w.heap.size ≤ _ from Ext.le (show Ext w w2 from (by repeat (first | exact Ext.refl _ | assumption | refine Ext.drew ?_ | refine Ext.drewN ?_ _ | refine Ext.alloc ?_ _ | refine Ext.trans ?_ (by assumption)))))
          clear hr3
          go_wp2_with fail
          first
          | (go_ret; exact .inl ⟨by rw [hkn.out]; simp, by rw [hE.out]; rfl, hx03⟩)
          | (refine (hcall hE.out _ a3 n3 c3 hx03 ho3' (by rw [hn3.out]; simp [stL])).mono ?_
             rintro e w4 ⟨rfl, hq⟩
             go_wp2_with fail
             go_ret
             exact .inr ⟨hE.out, hkn.out, rfl, hq⟩)
      · have hE := onE_lost hlen' hall hlost
        replace hE := Lib.hid hE
        replace hncl := Lib.hid hncl
        replace hxl := Lib.hid hxl
        replace hlen := Lib.hid hlen
        replace hok := Lib.hid hok
        replace hlost := Lib.hid hlost
        clear hlen' hall hpv hcall
        go_enter Tryd.func48, Tryd.ntmps48
        go_wp2_with fail
        refine (hlv _ (by repeat (first | exact Ext.refl _ | assumption | refine Ext.drew ?_ | refine Ext.drewN ?_ _ | refine Ext.alloc ?_ _ | refine Ext.trans ?_ (by assumption)))).mono ?_
        rintro e w1 ⟨al, nl, cl, hnl, rfl, hrl, hx1⟩
        have hd : ((l : Int) != (nl : Int)) = false := by simp [hlen.out, hnl]
        replace hnl := Lib.hid hnl
        go_wp2_with fail
        refine (hpv1 _ (by repeat (first | exact Ext.refl _ | assumption | refine Ext.drew ?_ | refine Ext.drewN ?_ _ | refine Ext.alloc ?_ _ | refine Ext.trans ?_ (by assumption)))).mono ?_
        rintro e w2 ⟨rfl, hx2⟩
        go_wp2_with fail
        refine (hst _ (by repeat (first | exact Ext.refl _ | assumption | refine Ext.drew ?_ | refine Ext.drewN ?_ _ | refine Ext.alloc ?_ _ | refine Ext.trans ?_ (by assumption)))).mono ?_
        rintro e w3 ⟨hx3, ⟨_, rfl⟩ | ⟨hl3, _⟩⟩
        · go_wp2_with fail
          go_ret
          exact .inl ⟨by rw [hE.out]; simp, by rw [hE.out]; rfl, (by repeat (first | exact Ext.refl _ | assumption | refine Ext.drew ?_ | refine Ext.drewN ?_ _ | refine Ext.alloc ?_ _ | refine Ext.trans ?_ (by assumption)))⟩
        · rw [hlost.out] at hl3; cases hl3
  · have hE := onE_len (ts := ts) (cs := cs) (x := x) (by rw [hxl]; exact hlen)
    replace hE := Lib.hid hE
    replace hncl := Lib.hid hncl
    replace hxl := Lib.hid hxl
    clear hpv hcall
    go_enter Tryd.func48, Tryd.ntmps48
    go_wp2_with fail
    refine (hlv _ (by repeat (first | exact Ext.refl _ | assumption | refine Ext.drew ?_ | refine Ext.drewN ?_ _ | refine Ext.alloc ?_ _ | refine Ext.trans ?_ (by assumption)))).mono ?_
    rintro e w1 ⟨al, nl, cl, hnl, rfl, hrl, hx1⟩
    have hd : ((l : Int) != (nl : Int)) = true := by rw [hnl]; simp; omega
    replace hnl := Lib.hid hnl
    go_wp2_with fail
    go_ret
    exact .inl ⟨by rw [hE.out]; simp, by rw [hE.out]; rfl, (by repeat (first | exact Ext.refl _ | assumption | refine Ext.drew ?_ | refine Ext.drewN ?_ _ | refine Ext.alloc ?_ _ | refine Ext.trans ?_ (by assumption)))⟩
set_option maxHeartbeats 2000000 in
theorem onN_any (p : Nat) (a : Option Addr) (n cap : Nat) (ts : List Nd) (ac : Option Addr) (nc cc : Nat) (cs : List Snd) (am : Option Addr) (capm : Nat) (ms : List (List Int)) (bm : Nat) (ax : Option Addr) (l cx : Nat) (x : List Cl) (B0 B1 B2 : Nat) (w : World) (Q : World → Prop)
    (hK : TskOk w p a n cap ts ac nc cc cs am capm ms bm) (hr : RdC w ax l cx x) (ht : treeB ts = true)
    (hcall : onE ts cs x = 0 → ∀ W az ls cps, Ext w W → OwnI w.heap.size 3 W (.slice az ls cps) (stL cs x) → ls = x.length → Calls Tryd.prog 58 #[.slice az ls cps, .pointer (some ⟨B0, 0, none⟩), .pointer (some ⟨B1, 0, none⟩), .pointer (some ⟨B2, 0, none⟩)] W fun e w' => e = .returned (.int .i64 0) ∧ Q w') :
    Calls Tryd.prog 48 #[.pointer (some ⟨p, 0, none⟩), .slice ax l cx, .func (.func 58) #[] #[.pointer (some ⟨B0, 0, none⟩), .pointer (some ⟨B1, 0, none⟩), .pointer (some ⟨B2, 0, none⟩)]] w (OnRet ts cs x w Q) := by
  have hncl := hK.rc.len
  have hxl := hr.len
  have hln63 : (leafL ts).length ≤ 63 := by
    have := leafTo_len ts ts.length
    have h2 := (tree_len ht).2
    unfold leafL; omega
  have hlv := fun W (hx : Ext w W) => RetIE.rd (tleaves_any a n cap ts W (hK.rd.ext hx)) (treeE_zero ht)
  rw [leavesR_ok ht] at hlv
  obtain ⟨hp0, hp1, hp2, hp3, hp4⟩ := hK.at
  have hpv := fun W (hx : Ext w W) => pvalid_any ax l cx x W (hr.ext hx)
  by_cases hlen : l = (leafL ts).length
  · have hok : cellsOk x = x.all Cl.ok := by unfold cellsOk; rw [decide_eq_true (by omega), Bool.true_and]
    rw [hok] at hpv
    have hst := fun W (hx : Ext w W) => pstates_any p a n cap ts ac nc cc cs am capm ms bm ax l cx x W (hK.ext hx) (hr.ext hx) (by omega)
    have hlen' : x.length = (leafL ts).length := by rw [hxl]; exact hlen
    cases hall : x.all Cl.ok
    · have hE := onE_bad (ts := ts) (cs := cs) hall
      have hpv0 := fun W hx => cbool (hpv W hx) hall
      replace hE := Lib.hid hE
      replace hncl := Lib.hid hncl
      replace hxl := Lib.hid hxl
      replace hlen := Lib.hid hlen
      replace hok := Lib.hid hok
      clear hlen' hall hpv hcall hst
      go_enter Tryd.func48, Tryd.ntmps48
      go_wp2_with fail
      refine (hlv _ (by repeat (first | exact Ext.refl _ | assumption | refine Ext.drew ?_ | refine Ext.drewN ?_ _ | refine Ext.alloc ?_ _ | refine Ext.trans ?_ (by assumption)))).mono ?_
      rintro e w1 ⟨al, nl, cl, hnl, rfl, hrl, hx1⟩
      have hd : ((l : Int) != (nl : Int)) = false := by simp [hlen.out, hnl]
      replace hnl := Lib.hid hnl
      go_wp2_with fail
      refine (hpv0 _ (by repeat (first | exact Ext.refl _ | assumption | refine Ext.drew ?_ | refine Ext.drewN ?_ _ | refine Ext.alloc ?_ _ | refine Ext.trans ?_ (by assumption)))).mono ?_
      rintro e w2 ⟨rfl, hx2⟩
      go_wp2_with fail
      go_ret
      exact .inl ⟨by rw [hE.out]; simp, by rw [hE.out]; rfl, (by repeat (first | exact Ext.refl _ | assumption | refine Ext.drew ?_ | refine Ext.drewN ?_ _ | refine Ext.alloc ?_ _ | refine Ext.trans ?_ (by assumption)))⟩
    · have hpv1 := fun W hx => cbool (hpv W hx) hall
      cases hlost : x.any (lostC cs)
      · have hE := onE_ok hlen' hall hlost
        cases hkn : knownB x
        all_goals
          replace hE := Lib.hid hE
          replace hncl := Lib.hid hncl
          replace hxl := Lib.hid hxl
          replace hlen := Lib.hid hlen
          replace hok := Lib.hid hok
          replace hkn := Lib.hid hkn
          replace hlost := Lib.hid hlost
          clear hlen' hall hpv
          go_enter Tryd.func48, Tryd.ntmps48
          go_wp2_with fail
          refine (hlv _ (by repeat (first | exact Ext.refl _ | assumption | refine Ext.drew ?_ | refine Ext.drewN ?_ _ | refine Ext.alloc ?_ _ | refine Ext.trans ?_ (by assumption)))).mono ?_
          rintro e w1 ⟨al, nl, cl, hnl, rfl, hrl, hx1⟩
          have hd : ((l : Int) != (nl : Int)) = false := by simp [hlen.out, hnl]
          replace hnl := Lib.hid hnl
          go_wp2_with fail
          refine (hpv1 _ (by repeat (first | exact Ext.refl _ | assumption | refine Ext.drew ?_ | refine Ext.drewN ?_ _ | refine Ext.alloc ?_ _ | refine Ext.trans ?_ (by assumption)))).mono ?_
          rintro e w2 ⟨rfl, hx2⟩
          go_wp2_with fail
          refine (hst _ (by repeat (first | exact Ext.refl _ | assumption | refine Ext.drew ?_ | refine Ext.drewN ?_ _ | refine Ext.alloc ?_ _ | refine Ext.trans ?_ (by assumption)))).mono ?_
          rintro e w3 ⟨hx3, ⟨hl3, rfl⟩ | ⟨_, v3, rfl, ho3⟩⟩
          · rw [hlost.out] at hl3; cases hl3
          obtain ⟨a3, n3, c3, hn3, rfl, hr3⟩ := OwnK.rdn I64.len ho3
          rw [hkn.out]
          have hx03 : Ext w w3 := (by repeat (first | exact Ext.refl _ | assumption | refine Ext.drew ?_ | refine Ext.drewN ?_ _ | refine Ext.alloc ?_ _ | refine Ext.trans ?_ (by assumption)))
          replace hn3 := Lib.hid hn3
          have ho3' := OwnK.base ho3 (show w.heap.size ≤ _ from Ext.le (show Ext w w2 from (by repeat (first | exact Ext.refl _ | assumption | refine Ext.drew ?_ | refine Ext.drewN ?_ _ | refine Ext.alloc ?_ _ | refine Ext.trans ?_ (by assumption)))))
          clear hr3
          go_wp2_with fail
          first
          | (go_ret; exact .inl ⟨by rw [hkn.out]; simp, by rw [hE.out]; rfl, hx03⟩)
          | (refine (hcall hE.out _ a3 n3 c3 hx03 ho3' (by rw [hn3.out]; simp [stL])).mono ?_
             rintro e w4 ⟨rfl, hq⟩
             go_wp2_with fail
             go_ret
             exact .inr ⟨hE.out, hkn.out, rfl, hq⟩)
      · have hE := onE_lost hlen' hall hlost
        replace hE := Lib.hid hE
        replace hncl := Lib.hid hncl
        replace hxl := Lib.hid hxl
        replace hlen := Lib.hid hlen
        replace hok := Lib.hid hok
        replace hlost := Lib.hid hlost
        clear hlen' hall hpv hcall
        go_enter Tryd.func48, Tryd.ntmps48
        go_wp2_with fail
        refine (hlv _ (by repeat (first | exact Ext.refl _ | assumption | refine Ext.drew ?_ | refine Ext.drewN ?_ _ | refine Ext.alloc ?_ _ | refine Ext.trans ?_ (by assumption)))).mono ?_
        rintro e w1 ⟨al, nl, cl, hnl, rfl, hrl, hx1⟩
        have hd : ((l : Int) != (nl : Int)) = false := by simp [hlen.out, hnl]
        replace hnl := Lib.hid hnl
        go_wp2_with fail
        refine (hpv1 _ (by repeat (first | exact Ext.refl _ | assumption | refine Ext.drew ?_ | refine Ext.drewN ?_ _ | refine Ext.alloc ?_ _ | refine Ext.trans ?_ (by assumption)))).mono ?_
        rintro e w2 ⟨rfl, hx2⟩
        go_wp2_with fail
        refine (hst _ (by repeat (first | exact Ext.refl _ | assumption | refine Ext.drew ?_ | refine Ext.drewN ?_ _ | refine Ext.alloc ?_ _ | refine Ext.trans ?_ (by assumption)))).mono ?_
        rintro e w3 ⟨hx3, ⟨_, rfl⟩ | ⟨hl3, _⟩⟩
        · go_wp2_with fail
          go_ret
          exact .inl ⟨by rw [hE.out]; simp, by rw [hE.out]; rfl, (by repeat (first | exact Ext.refl _ | assumption | refine Ext.drew ?_ | refine Ext.drewN ?_ _ | refine Ext.alloc ?_ _ | refine Ext.trans ?_ (by assumption)))⟩
        · rw [hlost.out] at hl3; cases hl3
  · have hE := onE_len (ts := ts) (cs := cs) (x := x) (by rw [hxl]; exact hlen)
    replace hE := Lib.hid hE
    replace hncl := Lib.hid hncl
    replace hxl := Lib.hid hxl
    clear hpv hcall
    go_enter Tryd.func48, Tryd.ntmps48
    go_wp2_with fail
    refine (hlv _ (by repeat (first | exact Ext.refl _ | assumption | refine Ext.drew ?_ | refine Ext.drewN ?_ _ | refine Ext.alloc ?_ _ | refine Ext.trans ?_ (by assumption)))).mono ?_
    rintro e w1 ⟨al, nl, cl, hnl, rfl, hrl, hx1⟩
    have hd : ((l : Int) != (nl : Int)) = true := by rw [hnl]; simp; omega
    replace hnl := Lib.hid hnl
    go_wp2_with fail
    go_ret
    exact .inl ⟨by rw [hE.out]; simp, by rw [hE.out]; rfl, (by repeat (first | exact Ext.refl _ | assumption | refine Ext.drew ?_ | refine Ext.drewN ?_ _ | refine Ext.alloc ?_ _ | refine Ext.trans ?_ (by assumption)))⟩
set_option maxHeartbeats 2000000 in
theorem onB_any (p : Nat) (a : Option Addr) (n cap : Nat) (ts : List Nd) (ac : Option Addr) (nc cc : Nat) (cs : List Snd) (am : Option Addr) (capm : Nat) (ms : List (List Int)) (bm : Nat) (ax : Option Addr) (l cx : Nat) (x : List Cl) (B0 B1 B2 : Nat) (w : World) (Q : World → Prop)
    (hK : TskOk w p a n cap ts ac nc cc cs am capm ms bm) (hr : RdC w ax l cx x) (ht : treeB ts = true)
    (hcall : onE ts cs x = 0 → ∀ W az ls cps, Ext w W → OwnI w.heap.size 3 W (.slice az ls cps) (stL cs x) → ls = x.length → Calls Tryd.prog 77 #[.slice az ls cps, .pointer (some ⟨B0, 0, none⟩), .pointer (some ⟨B1, 0, none⟩), .pointer (some ⟨B2, 0, none⟩)] W fun e w' => e = .returned (.int .i64 0) ∧ Q w') :
    Calls Tryd.prog 48 #[.pointer (some ⟨p, 0, none⟩), .slice ax l cx, .func (.func 77) #[] #[.pointer (some ⟨B0, 0, none⟩), .pointer (some ⟨B1, 0, none⟩), .pointer (some ⟨B2, 0, none⟩)]] w (OnRet ts cs x w Q) := by
  have hncl := hK.rc.len
  have hxl := hr.len
  have hln63 : (leafL ts).length ≤ 63 := by
    have := leafTo_len ts ts.length
    have h2 := (tree_len ht).2
    unfold leafL; omega
  have hlv := fun W (hx : Ext w W) => RetIE.rd (tleaves_any a n cap ts W (hK.rd.ext hx)) (treeE_zero ht)
  rw [leavesR_ok ht] at hlv
  obtain ⟨hp0, hp1, hp2, hp3, hp4⟩ := hK.at
  have hpv := fun W (hx : Ext w W) => pvalid_any ax l cx x W (hr.ext hx)
  by_cases hlen : l = (leafL ts).length
  · have hok : cellsOk x = x.all Cl.ok := by unfold cellsOk; rw [decide_eq_true (by omega), Bool.true_and]
    rw [hok] at hpv
    have hst := fun W (hx : Ext w W) => pstates_any p a n cap ts ac nc cc cs am capm ms bm ax l cx x W (hK.ext hx) (hr.ext hx) (by omega)
    have hlen' : x.length = (leafL ts).length := by rw [hxl]; exact hlen
    cases hall : x.all Cl.ok
    · have hE := onE_bad (ts := ts) (cs := cs) hall
      have hpv0 := fun W hx => cbool (hpv W hx) hall
      replace hE := Lib.hid hE
      replace hncl := Lib.hid hncl
      replace hxl := Lib.hid hxl
      replace hlen := Lib.hid hlen
      replace hok := Lib.hid hok
      clear hlen' hall hpv hcall hst
      go_enter Tryd.func48, Tryd.ntmps48
      go_wp2_with fail
      refine (hlv _ (by repeat (first | exact Ext.refl _ | assumption | refine Ext.drew ?_ | refine Ext.drewN ?_ _ | refine Ext.alloc ?_ _ | refine Ext.trans ?_ (by assumption)))).mono ?_
      rintro e w1 ⟨al, nl, cl, hnl, rfl, hrl, hx1⟩
      have hd : ((l : Int) != (nl : Int)) = false := by simp [hlen.out, hnl]
      replace hnl := Lib.hid hnl
      go_wp2_with fail
      refine (hpv0 _ (by repeat (first | exact Ext.refl _ | assumption | refine Ext.drew ?_ | refine Ext.drewN ?_ _ | refine Ext.alloc ?_ _ | refine Ext.trans ?_ (by assumption)))).mono ?_
      rintro e w2 ⟨rfl, hx2⟩
      go_wp2_with fail
      go_ret
      exact .inl ⟨by rw [hE.out]; simp, by rw [hE.out]; rfl, (by repeat (first | exact Ext.refl _ | assumption | refine Ext.drew ?_ | refine Ext.drewN ?_ _ | refine Ext.alloc ?_ _ | refine Ext.trans ?_ (by assumption)))⟩
    · have hpv1 := fun W hx => cbool (hpv W hx) hall
      cases hlost : x.any (lostC cs)
      · have hE := onE_ok hlen' hall hlost
        cases hkn : knownB x
        all_goals
          replace hE := Lib.hid hE
          replace hncl := Lib.hid hncl
          replace hxl := Lib.hid hxl
          replace hlen := Lib.hid hlen
          replace hok := Lib.hid hok
          replace hkn := Lib.hid hkn
          replace hlost := Lib.hid hlost
          clear hlen' hall hpv
          go_enter Tryd.func48, Tryd.ntmps48
          go_wp2_with fail
          refine (hlv _ (by repeat (first | exact Ext.refl _ | assumption | refine Ext.drew ?_ | refine Ext.drewN ?_ _ | refine Ext.alloc ?_ _ | refine Ext.trans ?_ (by assumption)))).mono ?_
          rintro e w1 ⟨al, nl, cl, hnl, rfl, hrl, hx1⟩
          have hd : ((l : Int) != (nl : Int)) = false := by simp [hlen.out, hnl]
          replace hnl := Lib.hid hnl
          go_wp2_with fail
          refine (hpv1 _ (by repeat (first | exact Ext.refl _ | assumption | refine Ext.drew ?_ | refine Ext.drewN ?_ _ | refine Ext.alloc ?_ _ | refine Ext.trans ?_ (by assumption)))).mono ?_
          rintro e w2 ⟨rfl, hx2⟩
          go_wp2_with fail
          refine (hst _ (by repeat (first | exact Ext.refl _ | assumption | refine Ext.drew ?_ | refine Ext.drewN ?_ _ | refine Ext.alloc ?_ _ | refine Ext.trans ?_ (by assumption)))).mono ?_
          rintro e w3 ⟨hx3, ⟨hl3, rfl⟩ | ⟨_, v3, rfl, ho3⟩⟩
          · rw [hlost.out] at hl3; cases hl3
          obtain ⟨a3, n3, c3, hn3, rfl, hr3⟩ := OwnK.rdn I64.len ho3
          rw [hkn.out]
          have hx03 : Ext w w3 := (by repeat (first | exact Ext.refl _ | assumption | refine Ext.drew ?_ | refine Ext.drewN ?_ _ | refine Ext.alloc ?_ _ | refine Ext.trans ?_ (by assumption)))
          replace hn3 := Lib.hid hn3
          have ho3' := OwnK.base ho3 (show w.heap.size ≤ _ from Ext.le (show Ext w w2 from (by repeat (first | exact Ext.refl _ | assumption | refine Ext.drew ?_ | refine Ext.drewN ?_ _ | refine Ext.alloc ?_ _ | refine Ext.trans ?_ (by assumption)))))
          clear hr3
          go_wp2_with fail
          first
          | (go_ret; exact .inl ⟨by rw [hkn.out]; simp, by rw [hE.out]; rfl, hx03⟩)
          | (refine (hcall hE.out _ a3 n3 c3 hx03 ho3' (by rw [hn3.out]; simp [stL])).mono ?_
             rintro e w4 ⟨rfl, hq⟩
             go_wp2_with fail
             go_ret
             exact .inr ⟨hE.out, hkn.out, rfl, hq⟩)
      · have hE := onE_lost hlen' hall hlost
        replace hE := Lib.hid hE
        replace hncl := Lib.hid hncl
        replace hxl := Lib.hid hxl
        replace hlen := Lib.hid hlen
        replace hok := Lib.hid hok
        replace hlost := Lib.hid hlost
        clear hlen' hall hpv hcall
        go_enter Tryd.func48, Tryd.ntmps48
        go_wp2_with fail
        refine (hlv _ (by repeat (first | exact Ext.refl _ | assumption | refine Ext.drew ?_ | refine Ext.drewN ?_ _ | refine Ext.alloc ?_ _ | refine Ext.trans ?_ (by assumption)))).mono ?_
        rintro e w1 ⟨al, nl, cl, hnl, rfl, hrl, hx1⟩
        have hd : ((l : Int) != (nl : Int)) = false := by simp [hlen.out, hnl]
        replace hnl := Lib.hid hnl
        go_wp2_with fail
        refine (hpv1 _ (by repeat (first | exact Ext.refl _ | assumption | refine Ext.drew ?_ | refine Ext.drewN ?_ _ | refine Ext.alloc ?_ _ | refine Ext.trans ?_ (by assumption)))).mono ?_
        rintro e w2 ⟨rfl, hx2⟩
        go_wp2_with fail
        refine (hst _ (by repeat (first | exact Ext.refl _ | assumption | refine Ext.drew ?_ | refine Ext.drewN ?_ _ | refine Ext.alloc ?_ _ | refine Ext.trans ?_ (by assumption)))).mono ?_
        rintro e w3 ⟨hx3, ⟨_, rfl⟩ | ⟨hl3, _⟩⟩
        · go_wp2_with fail
          go_ret
          exact .inl ⟨by rw [hE.out]; simp, by rw [hE.out]; rfl, (by repeat (first | exact Ext.refl _ | assumption | refine Ext.drew ?_ | refine Ext.drewN ?_ _ | refine Ext.alloc ?_ _ | refine Ext.trans ?_ (by assumption)))⟩
        · rw [hlost.out] at hl3; cases hl3
  · have hE := onE_len (ts := ts) (cs := cs) (x := x) (by rw [hxl]; exact hlen)
    replace hE := Lib.hid hE
    replace hncl := Lib.hid hncl
    replace hxl := Lib.hid hxl
    clear hpv hcall
    go_enter Tryd.func48, Tryd.ntmps48
    go_wp2_with fail
    refine (hlv _ (by repeat (first | exact Ext.refl _ | assumption | refine Ext.drew ?_ | refine Ext.drewN ?_ _ | refine Ext.alloc ?_ _ | refine Ext.trans ?_ (by assumption)))).mono ?_
    rintro e w1 ⟨al, nl, cl, hnl, rfl, hrl, hx1⟩
    have hd : ((l : Int) != (nl : Int)) = true := by rw [hnl]; simp; omega
    replace hnl := Lib.hid hnl
    go_wp2_with fail
    go_ret
    exact .inl ⟨by rw [hE.out]; simp, by rw [hE.out]; rfl, (by repeat (first | exact Ext.refl _ | assumption | refine Ext.drew ?_ | refine Ext.drewN ?_ _ | refine Ext.alloc ?_ _ | refine Ext.trans ?_ (by assumption)))⟩
/-! ### What is asked -/
theorem roots_bd {ts : List Nd} {ms : List (List Int)} {st : List Int} {k : Nat} (hk : ms.length = k + 1) : (∀ x ∈ rootsL ts ms st, 0 ≤ x ∧ x ≤ (k : Int)) ∧ (rootsL ts ms st).length ≤ k + 1 := by
  unfold rootsL
  split
  · refine ⟨fun x hx => ?_, ?_⟩
    · obtain ⟨s, rfl, h1, _⟩ := rootsTo_lt hx; omega
    · rw [← hk]; exact rootsTo_len _ _ _ _
  · exact ⟨fun x hx => (by cases hx), by simp⟩
theorem best_bd {ts : List Nd} {ms : List (List Int)} {st : List Int} {k : Nat} (hk : ms.length = k + 1) : (∀ x ∈ bestS ts ms st, 0 ≤ x ∧ x ≤ (k : Int)) ∧ (bestS ts ms st).length ≤ ts.length := by
  unfold bestS
  by_cases h : possE ts ms st = 0
  · rw [if_pos h]
    obtain ⟨r, h1, h2, h3, h4⟩ := root_at h
    rw [h2]
    refine ⟨fun x hx => ?_, by rw [bestTo_len]; exact Nat.le_refl _⟩
    obtain ⟨v, hv⟩ := List.getElem?_of_mem hx
    have hlt := (List.getElem?_eq_some_iff.1 hv).1
    rw [bestTo_len] at hlt
    obtain ⟨s, hs⟩ := best_at (possE_zero h).1 h1 (by omega) ts.length (Nat.le_refl _) v hlt
    rw [hs.at'] at hv
    have := Option.some.inj hv
    have := hs.lt
    omega
  · rw [if_neg h]; exact ⟨fun x hx => (by cases hx), by simp⟩
set_option maxHeartbeats 2000000 in
theorem ties1_any (p : Nat) (a : Option Addr) (n cap : Nat) (ts : List Nd) (ac : Option Addr) (nc cc : Nat) (cs : List Snd) (am : Option Addr) (capm : Nat) (ms : List (List Int)) (bm : Nat) (az : Option Addr) (ls cps : Nat) (st : List Int) (B0 B1 B2 : Nat) (v0 : Value) (w0 W : World)
    (hK : TskOk W p a n cap ts ac nc cc cs am capm ms bm) (hr : RdI W az ls cps st) (hp : possE ts ms st = 0) (hB0 : Boxed W B0 32 (.slice a n cap)) (hB1 : Boxed W B1 70 (.pointer (some ⟨p, 0, none⟩))) (hB2 : Boxed W B2 35 v0) (hx0 : Ext w0 W) (h2 : w0.heap.size ≤ B2) :
    Calls Tryd.prog 49 #[.slice az ls cps, .pointer (some ⟨B0, 0, none⟩), .pointer (some ⟨B1, 0, none⟩), .pointer (some ⟨B2, 0, none⟩)] W fun e w' => e = .returned (.int .i64 0) ∧ Ext w0 w' ∧ ∃ v, Boxed w' B2 35 v ∧ OwnC w0.heap.size 40 w' v ((rootsL ts ms st).map (cellS cs)) := by
  have hkl := RdV.len hK.rm
  have hb0 := hB0.cell
  have hb1 := hB1.cell
  have hl0 := hB0.lt
  have hl1 := hB1.lt
  have hl2 := hB2.lt
  obtain ⟨hp0, hp1, hp2, hp3, hp4⟩ := hK.at
  have hbd := roots_bd (ts := ts) (ms := ms) (st := st) (k := nc) hkl
  have hn63 : ts.length ≤ 63 := (tree_len (chkS_zero (possE_zero hp).1).1).2
  have hk12 : nc + 1 ≤ 12 := by rw [← hkl]; exact (smB_of (chkS_zero (possE_zero hp).1).2.1).2.1
  have hsr := fun W' (hx : Ext W W') => sroots_any a n cap ts am (nc + 1) capm ms az ls cps st W' (hK.rd.ext hx) (RdM.ext hK.rm hx) (hr.ext hx)
  rw [hp] at hsr
  replace hkl := Lib.hid hkl
  replace hp := Lib.hid hp
  generalize rootsL ts ms st = xs at *
  go_enter Tryd.func49, Tryd.ntmps49
  go_wp2_with fail
  go_region_held3 (fun w' => Ext W w' ∧ w'.cell? ⟨B0, 0, none⟩ = some (.slice a n cap) ∧ w'.cell? ⟨B1, 0, none⟩ = some (.pointer (some ⟨p, 0, none⟩)) ∧ w'.cell? ⟨p, 3, none⟩ = some (.slice am (nc + 1) capm))
    ((go_split_ands; refine (fun (h : Ext W _) => And.intro h (And.intro (h.cellv hb0) (And.intro (h.cellv hb1) (h.cellv hp4)))) ?_; first | exact (Ext.refl _).drew | exact hEq))
    ((go_at_call 50; refine (hsr _ (Ext.refl _).drew).mono ?_; rintro e wq ⟨v1, rfl, hown, hxq⟩; obtain ⟨a1, n1, c1, hn1, rfl, hr1⟩ := OwnK.rdn I64.len hown; replace hn1 := Lib.hid hn1; have hEq : Ext W wq := Ext.trans ((Ext.refl _).drew) hxq))
  have hb1q := hEq.cellv hb1
  have hl1q := Nat.lt_of_lt_of_le hl1 hEq.le
  have hn1' : n1 ≤ 60000 := by have := hbd.2; have := hn1.out; omega
  have hmap := mapped_any a1 n1 c1 xs p ac nc cc cs wq hr1 hn1' (hEq.cellv hp2) (hK.rc.ext hEq) hbd.1
  clear hsr hbd
  go_wp2_with fail
  refine hmap.mono ?_
  rintro e w3 ⟨v, rfl, hown3, hx3⟩
  have hB3 := Boxed.ext hB2 (hEq.trans hx3)
  have hl3 := hB3.lt
  have hcs := hB3.cell
  have hfs := hB3.frozen
  have hx03 := hx0.trans (hEq.trans hx3)
  have fin := Lib.hid (show Ext w0 (w3.setCell ⟨B2, 0, none⟩ v) ∧ ∃ v', Boxed (w3.setCell ⟨B2, 0, none⟩ v) B2 35 v' ∧ OwnC w0.heap.size 40 (w3.setCell ⟨B2, 0, none⟩ v) v' (xs.map (cellS cs)) from
    ⟨hx03.setCell (p := ⟨B2, 0, none⟩) h2 v, v, hB3.set v, OwnK.other (OwnK.base hown3 (Nat.le_trans hx0.le hEq.le)) (grown_set w3 B2 0 v) (fun g e => by cases e; exact ⟨_, _, hB3⟩) (show 40 ≠ 35 by decide)⟩)
  obtain ⟨av, nv, cv, hnv, rfl, _⟩ := OwnK.rdn Cl.len hown3
  replace hnv := Lib.hid hnv
  go_wp2_with fail
  go_ret
  exact ⟨rfl, fin.out⟩
set_option maxHeartbeats 2000000 in
theorem nodes1_any (p : Nat) (a : Option Addr) (n cap : Nat) (ts : List Nd) (ac : Option Addr) (nc cc : Nat) (cs : List Snd) (am : Option Addr) (capm : Nat) (ms : List (List Int)) (bm : Nat) (az : Option Addr) (ls cps : Nat) (st : List Int) (B0 B1 B2 : Nat) (v0 : Value) (w0 W : World)
    (hK : TskOk W p a n cap ts ac nc cc cs am capm ms bm) (hr : RdI W az ls cps st) (hp : possE ts ms st = 0) (hB0 : Boxed W B0 32 (.slice a n cap)) (hB1 : Boxed W B1 70 (.pointer (some ⟨p, 0, none⟩))) (hB2 : Boxed W B2 35 v0) (hx0 : Ext w0 W) (h2 : w0.heap.size ≤ B2) :
    Calls Tryd.prog 58 #[.slice az ls cps, .pointer (some ⟨B0, 0, none⟩), .pointer (some ⟨B1, 0, none⟩), .pointer (some ⟨B2, 0, none⟩)] W fun e w' => e = .returned (.int .i64 0) ∧ Ext w0 w' ∧ ∃ v, Boxed w' B2 35 v ∧ OwnC w0.heap.size 40 w' v ((bestS ts ms st).map (cellS cs)) := by
  have hkl := RdV.len hK.rm
  have hb0 := hB0.cell
  have hb1 := hB1.cell
  have hl0 := hB0.lt
  have hl1 := hB1.lt
  have hl2 := hB2.lt
  obtain ⟨hp0, hp1, hp2, hp3, hp4⟩ := hK.at
  have hbd := best_bd (ts := ts) (ms := ms) (st := st) (k := nc) hkl
  have hn63 : ts.length ≤ 63 := (tree_len (chkS_zero (possE_zero hp).1).1).2
  have hk12 : nc + 1 ≤ 12 := by rw [← hkl]; exact (smB_of (chkS_zero (possE_zero hp).1).2.1).2.1
  have hsr := fun W' (hx : Ext W W') => sbest_any a n cap ts am (nc + 1) capm ms az ls cps st W' (hK.rd.ext hx) (RdM.ext hK.rm hx) (hr.ext hx)
  rw [hp] at hsr
  replace hkl := Lib.hid hkl
  replace hp := Lib.hid hp
  generalize bestS ts ms st = xs at *
  go_enter Tryd.func58, Tryd.ntmps58
  go_wp2_with fail
  go_region_held3 (fun w' => Ext W w' ∧ w'.cell? ⟨B0, 0, none⟩ = some (.slice a n cap) ∧ w'.cell? ⟨B1, 0, none⟩ = some (.pointer (some ⟨p, 0, none⟩)) ∧ w'.cell? ⟨p, 3, none⟩ = some (.slice am (nc + 1) capm))
    ((go_split_ands; refine (fun (h : Ext W _) => And.intro h (And.intro (h.cellv hb0) (And.intro (h.cellv hb1) (h.cellv hp4)))) ?_; first | exact (Ext.refl _).drew | exact hEq))
    ((go_at_call 59; refine (hsr _ (Ext.refl _).drew).mono ?_; rintro e wq ⟨v1, rfl, hown, hxq⟩; obtain ⟨a1, n1, c1, hn1, rfl, hr1⟩ := OwnK.rdn I64.len hown; replace hn1 := Lib.hid hn1; have hEq : Ext W wq := Ext.trans ((Ext.refl _).drew) hxq))
  have hb1q := hEq.cellv hb1
  have hl1q := Nat.lt_of_lt_of_le hl1 hEq.le
  have hn1' : n1 ≤ 60000 := by have := hbd.2; have := hn1.out; omega
  have hmap := mapped_any a1 n1 c1 xs p ac nc cc cs wq hr1 hn1' (hEq.cellv hp2) (hK.rc.ext hEq) hbd.1
  clear hsr hbd
  go_wp2_with fail
  refine hmap.mono ?_
  rintro e w3 ⟨v, rfl, hown3, hx3⟩
  have hB3 := Boxed.ext hB2 (hEq.trans hx3)
  have hl3 := hB3.lt
  have hcs := hB3.cell
  have hfs := hB3.frozen
  have hx03 := hx0.trans (hEq.trans hx3)
  have fin := Lib.hid (show Ext w0 (w3.setCell ⟨B2, 0, none⟩ v) ∧ ∃ v', Boxed (w3.setCell ⟨B2, 0, none⟩ v) B2 35 v' ∧ OwnC w0.heap.size 40 (w3.setCell ⟨B2, 0, none⟩ v) v' (xs.map (cellS cs)) from
    ⟨hx03.setCell (p := ⟨B2, 0, none⟩) h2 v, v, hB3.set v, OwnK.other (OwnK.base hown3 (Nat.le_trans hx0.le hEq.le)) (grown_set w3 B2 0 v) (fun g e => by cases e; exact ⟨_, _, hB3⟩) (show 40 ≠ 35 by decide)⟩)
  obtain ⟨av, nv, cv, hnv, rfl, _⟩ := OwnK.rdn Cl.len hown3
  replace hnv := Lib.hid hnv
  go_wp2_with fail
  go_ret
  exact ⟨rfl, fin.out⟩
/-- The block of a cell. -/
def CellB (w : World) (B : Nat) (c : Cl) : Prop := w.heap[B]? = some (.cells #[.int .i64 c.kind, .int .u32 c.s.p.toNat, .int .u32 c.s.m.toNat] 40 (0, 0))
set_option maxHeartbeats 4000000 in
set_option maxRecDepth 20000 in
theorem best1_any (p : Nat) (a : Option Addr) (n cap : Nat) (ts : List Nd) (ac : Option Addr) (nc cc : Nat) (cs : List Snd) (am : Option Addr) (capm : Nat) (ms : List (List Int)) (bm : Nat) (az : Option Addr) (ls cps : Nat) (st : List Int) (B0 B1 B2 b0 : Nat) (c0 : Cl) (z0 : Int) (w0 W : World)
    (hK : TskOk w0 p a n cap ts ac nc cc cs am capm ms bm) (hr : OwnI b0 3 W (.slice az ls cps) st) (hp : possE ts ms st = 0) (hB0 : Boxed W B0 70 (.pointer (some ⟨p, 0, none⟩))) (hB1 : CellB W B1 c0) (hB2 : Boxed W B2 2 (.int .i64 z0)) (hx0 : Ext w0 W) (h1 : w0.heap.size ≤ B1) (h2 : w0.heap.size ≤ B2) (hne : B1 ≠ B2) (hne0 : B0 ≠ B1) (hne2 : B0 ≠ B2) :
    Calls Tryd.prog 77 #[.slice az ls cps, .pointer (some ⟨B0, 0, none⟩), .pointer (some ⟨B1, 0, none⟩), .pointer (some ⟨B2, 0, none⟩)] W fun e w' => e = .returned (.int .i64 0) ∧ Ext w0 w' ∧ CellB w' B1 (cellS cs (rootB ts ms st).2) ∧ Boxed w' B2 2 (.int .i64 (rootB ts ms st).1) := by
  have hkl := RdV.len hK.rm
  have hb0 := hB0.cell
  have hl0 := hB0.lt
  have hl1 := (Array.getElem?_eq_some_iff.1 hB1).1
  have hl2 := hB2.lt
  obtain ⟨hp0, hp1, hp2, hp3, hp4⟩ := hK.at
  have hhd := roots_head hp
  have hbd := roots_bd (ts := ts) (ms := ms) (st := st) (k := nc) hkl
  have hsr := fun W' (hx : Ext w0 W') (hr' : RdI W' az ls cps st) => sroots_any a n cap ts am (nc + 1) capm ms az ls cps st W' (hK.rd.ext hx) (RdM.ext hK.rm hx) hr'
  have hsm := fun W' (hx : Ext w0 W') (hr' : RdI W' az ls cps st) => smin_any a n cap ts am (nc + 1) capm ms az ls cps st W' (hK.rd.ext hx) (RdM.ext hK.rm hx) hr'
  rw [hp] at hsr hsm
  simp only [if_true] at hsm
  have hce := fun W' (hx : Ext w0 W') => pcell_any p ac nc cc cs (rootB ts ms st).2 W' (hx.cellv hp2) (Nat.lt_of_lt_of_le hp0 hx.le) (hK.rc.ext hx) (hbd.1 _ (List.mem_of_getElem? hhd)).1 (hbd.1 _ (List.mem_of_getElem? hhd)).2
  have hpW := Nat.lt_of_lt_of_le hp0 hx0.le
  have hp1W := hx0.cellv hp1
  have hp4W := hx0.cellv hp4
  have hrW := OwnK.rdc I64.len hr
  replace hkl := Lib.hid hkl
  replace hp := Lib.hid hp
  generalize (rootB ts ms st).1 = q1 at *
  generalize (rootB ts ms st).2 = q2 at *
  generalize rootsL ts ms st = xs at *
  generalize cellS cs q2 = c at *
  replace hhd := Lib.hid hhd
  clear hbd
  go_enter Tryd.func77, Tryd.ntmps77
  go_wp2_with fail
  go_region_held3 (fun w' => Ext W w' ∧ w'.cell? ⟨B0, 0, none⟩ = some (.pointer (some ⟨p, 0, none⟩)) ∧ w'.cell? ⟨p, 0, none⟩ = some (.slice a n cap) ∧ w'.cell? ⟨p, 3, none⟩ = some (.slice am (nc + 1) capm))
    ((go_split_ands; refine (fun (h : Ext W _) => And.intro h (And.intro (h.cellv hb0) (And.intro (h.cellv hp1W) (h.cellv hp4W)))) ?_; first | exact (Ext.refl _).drew | exact hEq))
    ((go_at_call 50; refine (hsr _ hx0.drew (hrW.ext (Ext.refl _).drew)).mono ?_; rintro e wa ⟨v1, rfl, hown, hxq⟩; obtain ⟨a1, n1, c1, hn1, rfl, hr1⟩ := OwnK.rdn I64.len hown; replace hn1 := Lib.hid hn1; have hEq : Ext W wa := Ext.trans ((Ext.refl _).drew) hxq))
  have hn10 : 0 < n1 := by rw [hn1.out]; exact (List.getElem?_eq_some_iff.1 hhd.out).1
  obtain ⟨br, ofr, y, rfl, hy, hbr, hcy⟩ := hr1.i64 hn10
  obtain rfl : y = q2 := by have := hy.out; rw [hhd.out] at this; exact (Option.some.inj this).symm
  rw [Nat.add_zero] at hcy
  have hxa := hx0.trans hEq
  have hb0a := hEq.cellv hb0
  have hl0a := Nat.lt_of_lt_of_le hl0 hEq.le
  have hB0a := Boxed.ext hB0 hEq
  have hB2a := Boxed.ext hB2 hEq
  have hra := hr.kept hEq
  have hB1a : CellB wa B1 c0 := (Below.block hEq.bel B1 hl1).trans hB1
  have hq := fun z : ExtOf wa => hce z.w (hxa.trans z.h)
  have hP0 := fun z : ExtOf wa => z.cell hb0a
  have hP1 := fun z : ExtOf wa => z.cell hcy
  clear hce hsr hEq hr1 hxq hown hcy hb0 hl0 hB0 hB2 hr hB1 hpW hp1W hp4W hrW
  go_wp2_with fail
  (refine wp_region_qxt 5 (by kernel_rfl) (by kernel_rfl) ?_
   simp only [List.take_succ_cons, List.take_zero, List.drop_succ_cons, List.drop_zero]
   repeat (go_big_quiet_step ((go_at_call 52; exact calls_ext (hq _))))
   refine wpQuiet_nil ?_
   intro wq hw'
   have hxq := ext_of_ex hw'
   clear hw')
  have hxq0 := hxa.trans hxq
  have hB1q : CellB wq B1 c0 := (Below.block hxq.bel B1 (Array.getElem?_eq_some_iff.1 hB1a).1).trans hB1a
  have hB0q := Boxed.ext hB0a hxq
  have hB2q := Boxed.ext hB2a hxq
  have hrq := hra.kept hxq
  obtain ⟨hf0, hf1, hf2⟩ := frz3 hB1q
  obtain ⟨hg0, hg1, hg2⟩ := cells3 hB1q
  have hl1q := (Array.getElem?_eq_some_iff.1 hB1q).1
  have h5 : Ext w0 (((wq.setCell ⟨B1, 0, none⟩ (.int .i64 c.kind)).setCell ⟨B1, 1, none⟩ (.int .u32 c.s.p.toNat)).setCell ⟨B1, 2, none⟩ (.int .u32 c.s.m.toNat)) := ((hxq0.setCell (p := ⟨B1, 0, none⟩) h1 _).setCell (p := ⟨B1, 1, none⟩) h1 _).setCell (p := ⟨B1, 2, none⟩) h1 _
  have c5 : CellB (((wq.setCell ⟨B1, 0, none⟩ (.int .i64 c.kind)).setCell ⟨B1, 1, none⟩ (.int .u32 c.s.p.toNat)).setCell ⟨B1, 2, none⟩ (.int .u32 c.s.m.toNat)) B1 c := heap_set (heap_set (heap_set hB1q _) _) _
  have b05 : Boxed (((wq.setCell ⟨B1, 0, none⟩ (.int .i64 c.kind)).setCell ⟨B1, 1, none⟩ (.int .u32 c.s.p.toNat)).setCell ⟨B1, 2, none⟩ (.int .u32 c.s.m.toNat)) B0 70 (.pointer (some ⟨p, 0, none⟩)) := by
    unfold Boxed; rw [heap_other _ _ hne0, heap_other _ _ hne0, heap_other _ _ hne0]; exact hB0q
  have b25 : Boxed (((wq.setCell ⟨B1, 0, none⟩ (.int .i64 c.kind)).setCell ⟨B1, 1, none⟩ (.int .u32 c.s.p.toNat)).setCell ⟨B1, 2, none⟩ (.int .u32 c.s.m.toNat)) B2 2 (.int .i64 z0) := by
    unfold Boxed; rw [heap_other _ _ (Ne.symm hne), heap_other _ _ (Ne.symm hne), heap_other _ _ (Ne.symm hne)]; exact hB2q
  have r5 : RdI (((wq.setCell ⟨B1, 0, none⟩ (.int .i64 c.kind)).setCell ⟨B1, 1, none⟩ (.int .u32 c.s.p.toNat)).setCell ⟨B1, 2, none⟩ (.int .u32 c.s.m.toNat)) az ls cps st :=
    OwnK.rdc I64.len (OwnK.other (OwnK.other (OwnK.other hrq (grown_set _ B1 0 _) (fun g e => by cases e; exact ⟨_, _, hB1q⟩) (show 3 ≠ 40 by decide)) (grown_set _ B1 1 _) (fun g e => by cases e; exact ⟨_, _, heap_set hB1q _⟩) (show 3 ≠ 40 by decide)) (grown_set _ B1 2 _) (fun g e => by cases e; exact ⟨_, _, heap_set (heap_set hB1q _) _⟩) (show 3 ≠ 40 by decide))
  clear hP0 hP1 hq hxq hB1a hB0a hB2a hra hxa hb0a hl0a
  go_wp2_with fail
  generalize (((wq.setCell ⟨B1, 0, none⟩ (.int .i64 c.kind)).setCell ⟨B1, 1, none⟩ (.int .u32 c.s.p.toNat)).setCell ⟨B1, 2, none⟩ (.int .u32 c.s.m.toNat)) = w5 at *
  clear hB1q hB0q hB2q hrq hf0 hf1 hf2 hg0 hg1 hg2 hxq0
  have k0 := b05.cell
  have k1 := b25.cell
  have k2 := b25.frozen
  have l0 := b05.lt
  have l1 := (Array.getElem?_eq_some_iff.1 c5).1
  have l2 := b25.lt
  have hpW := Nat.lt_of_lt_of_le hp0 h5.le
  have hp15 := h5.cellv hp1
  have hp45 := h5.cellv hp4
  go_region_held3 (fun w' => Ext w0 w' ∧ w'.cell? ⟨B0, 0, none⟩ = some (.pointer (some ⟨p, 0, none⟩)) ∧ w'.cell? ⟨p, 0, none⟩ = some (.slice a n cap) ∧ w'.cell? ⟨p, 3, none⟩ = some (.slice am (nc + 1) capm))
    ((go_split_ands; refine (fun (h : Ext w0 _) hb => And.intro h (And.intro hb (And.intro (h.cellv hp1) (h.cellv hp4)))) ?_ ?_; (first | exact h5.drew | exact h5q | exact h5q.setCell (p := ⟨B2, 0, none⟩) h2 _); (first | exact k0 | exact k0q | (rw [cell_other (.inl (Ne.symm hne2))]; exact k0q))))
    ((go_at_call 78; refine (hsm _ h5.drew (r5.ext (Ext.refl _).drew)).mono ?_; rintro e wm ⟨rfl, hxm⟩; have hEm : Ext w5 wm := Ext.trans ((Ext.refl _).drew) hxm; have h5q := h5.trans hEm; have k0q := hEm.cellv k0; have s1 := hEm.cellv k1; have s2 := (hEm.frozen 0 (cell_lt k1)).trans k2))
  have fin := Lib.hid (show Ext w0 (wm.setCell ⟨B2, 0, none⟩ (.int .i64 q1)) ∧ CellB (wm.setCell ⟨B2, 0, none⟩ (.int .i64 q1)) B1 c ∧ Boxed (wm.setCell ⟨B2, 0, none⟩ (.int .i64 q1)) B2 2 (.int .i64 q1) from
    ⟨h5q.setCell (p := ⟨B2, 0, none⟩) h2 _, (heap_other _ _ hne).trans ((Below.block hEm.bel B1 l1).trans c5), (Boxed.ext b25 hEm).set _⟩)
  clear s1 s2 k0q h5q
  go_wp2_with fail
  go_ret
  exact ⟨rfl, fin.out⟩
end Go.Proofs.YtdloabjnjnjacaaDoor
