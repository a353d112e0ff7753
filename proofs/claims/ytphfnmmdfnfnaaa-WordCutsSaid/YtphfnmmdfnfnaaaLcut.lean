/-
  The statement WordCuts: the walk.
-/
import Derived.Test.YtphfnmmdfnfnaaaWr
import Derived.Test.YtphfnmmdfnfnaaaWx
import Derived.Test.YtphfnmmdfnfnaaaBut
namespace Go.Proofs.Ytphfnmmdfnfnaaa
open Go.RowKit
theorem cutL_le (xs : List Snd) (a b : Int) : (cutL xs a b).length ≤ xs.length := by
  unfold cutL; split
  · simp; omega
  · simp
set_option maxHeartbeats 4000000 in
theorem wordCuts_small (a0 : Option Addr) (n0 c0 : Nat) (x0 : List Snd) (a1 : Option Addr) (n1 c1 : Nat) (x1 : List Snd) (a b : Int) (w : World) (h0 : RdS w a0 n0 c0 x0) (h1 : RdS w a1 n1 c1 x1) (l0 : n0 ≤ 300) (l1 : n1 ≤ 300) :
    Calls Try.prog 10 #[.slice a0 n0 c0, .slice a1 n1 c1, .int .i64 a, .int .i64 b] w fun e w' => e = .returned (.bool true) ∧ Ext w w' := by
  have e0 : decide ((300 : Int) < n0) = false := by simp; omega
  have e1 : decide ((300 : Int) < n1) = false := by simp; omega
  go_enter Try.func10, Try.ntmps10
  go_wp2_with fail
  refine (copy_any _ _ _ x0 _ h0 (by omega)).mono ?_
  rintro e w1 ⟨vw, rfl, ow, y1⟩
  obtain ⟨aw, nw, kw, hnw, rfl, rw'⟩ := OwnK.rdn Snd.len ow
  replace hnw := Lib.hid hnw
  go_wp2_with fail
  refine (copy_any _ _ _ x1 _ (h1.ext y1) (by omega)).mono ?_
  rintro e w2 ⟨vv, rfl, ov, y2⟩
  obtain ⟨av, nv, kv, hnv, rfl, rv'⟩ := OwnK.rdn Snd.len ov
  replace hnv := Lib.hid hnv
  have z2 : Ext w w2 := y1.trans y2
  go_wp2_with fail
  refine (cut_any _ _ _ x0 a b _ (h0.ext z2) (by omega)).mono ?_
  rintro e w3 ⟨vc, rfl, oc, y3⟩
  have z3 := z2.trans y3
  go_wp2_with fail
  refine (RetSE.rd (rcut_any _ _ _ x0 a b _ (h0.ext z3) (by omega)) rfl).mono ?_
  rintro e w4 ⟨ad, kd, rfl, rd, y4⟩
  have z4 := z3.trans y4
  go_wp2_with fail
  refine (splice_any _ _ _ _ _ _ x0 x1 a b _ (h0.ext z4) (h1.ext z4) (by omega) (by omega)).mono ?_
  rintro e w5 ⟨vx, rfl, ox, y5⟩
  have z5 := z4.trans y5
  go_wp2_with fail
  refine (rsplice_any _ _ _ _ _ _ x0 x1 a b _ (h0.ext z5) (h1.ext z5) (by omega) (by omega)).mono ?_
  rintro e w6 ⟨vy, rfl, oy, y6⟩
  have z6 := z5.trans y6
  go_wp2_with fail
  refine (wrev_any _ _ _ x0 _ (h0.ext z6) (by omega)).mono ?_
  rintro e w7 ⟨vp, rfl, op, y7⟩
  have z7 := z6.trans y7
  go_wp2_with fail
  refine (rrev_any _ _ _ x0 _ (h0.ext z7) (by omega)).mono ?_
  rintro e w8 ⟨vq, rfl, oq, y8⟩
  have z8 := z7.trans y8
  have z38 : Ext w3 w8 := y4.trans (y5.trans (y6.trans (y7.trans y8)))
  have oc8 := OwnK.kept oc z38
  rcases oc.2 with ⟨rfl, hz⟩ | ⟨g, cap, cur, rfl, hg, hh, _⟩
  · rw [hz] at rd ⊢
    have zf : Ext w w8 := z8
    have zf1 : Ext w1 w8 := y2.trans (y3.trans z38)
    have zf2 : Ext w2 w8 := y3.trans z38
    have ox' := OwnK.kept ox (y6.trans (y7.trans y8))
    have oy' := OwnK.kept oy (y7.trans y8)
    have op' := OwnK.kept op y8
    have oq' := oq
    go_wp2_with fail
    refine wp_loop_rounds 1 ?_
    rw [rounds_succ]
    go_wp2_with fail
    obtain ⟨ax, kx, hvx, rx⟩ := OwnK.rd Snd.len ox'
    obtain ⟨ay, ky, hvy, ry⟩ := OwnK.rd Snd.len oy'
    obtain ⟨ap, kp, hvp, rp⟩ := OwnK.rd Snd.len op'
    obtain ⟨aq, kq, hvq, rq⟩ := OwnK.rd Snd.len oq'
    subst hvx; subst hvy; subst hvp; subst hvq
    clear ox oy op oq ox' oy' op' oq' y1 y2 y3 y4 y5 y6 y7 y8 z2 z3 z4 z5 z6 z7 z8 z38
    refine (cbool (req_any _ _ _ _ _ _ _ _ _ (rx.ext (by repeat (first | exact Ext.refl _ | assumption | refine Ext.drew ?_ | refine Ext.drewN ?_ _ | refine Ext.alloc ?_ _ | refine Ext.trans ?_ (by assumption)))) (ry.ext (by repeat (first | exact Ext.refl _ | assumption | refine Ext.drew ?_ | refine Ext.drewN ?_ _ | refine Ext.alloc ?_ _ | refine Ext.trans ?_ (by assumption))))) (decide_eq_true rfl)).mono ?_
    rintro e w1 ⟨rfl, _⟩
    go_wp2_with fail
    refine (cbool (req_any _ _ _ _ _ _ _ _ _ (rp.ext (by repeat (first | exact Ext.refl _ | assumption | refine Ext.drew ?_ | refine Ext.drewN ?_ _ | refine Ext.alloc ?_ _ | refine Ext.trans ?_ (by assumption)))) (rq.ext (by repeat (first | exact Ext.refl _ | assumption | refine Ext.drew ?_ | refine Ext.drewN ?_ _ | refine Ext.alloc ?_ _ | refine Ext.trans ?_ (by assumption))))) (decide_eq_true rfl)).mono ?_
    rintro e w1 ⟨rfl, _⟩
    go_wp2_with fail
    refine (check_any _ _ _ x0 _ (h0.ext (by repeat (first | exact Ext.refl _ | assumption | refine Ext.drew ?_ | refine Ext.drewN ?_ _ | refine Ext.alloc ?_ _ | refine Ext.trans ?_ (by assumption))))).mono ?_
    rintro e w1 ⟨rfl, _⟩
    go_wp2_with fail
    refine (rcheck_any _ _ _ x0 _ (h0.ext (by repeat (first | exact Ext.refl _ | assumption | refine Ext.drew ?_ | refine Ext.drewN ?_ _ | refine Ext.alloc ?_ _ | refine Ext.trans ?_ (by assumption))))).mono ?_
    rintro e w1 ⟨rfl, _⟩
    go_wp2_with fail
    refine (check_any _ _ _ x1 _ (h1.ext (by repeat (first | exact Ext.refl _ | assumption | refine Ext.drew ?_ | refine Ext.drewN ?_ _ | refine Ext.alloc ?_ _ | refine Ext.trans ?_ (by assumption))))).mono ?_
    rintro e w1 ⟨rfl, _⟩
    go_wp2_with fail
    refine (rcheck_any _ _ _ x1 _ (h1.ext (by repeat (first | exact Ext.refl _ | assumption | refine Ext.drew ?_ | refine Ext.drewN ?_ _ | refine Ext.alloc ?_ _ | refine Ext.trans ?_ (by assumption))))).mono ?_
    rintro e w1 ⟨rfl, _⟩
    go_wp2_with fail
    refine (cbool (req_any _ _ _ _ _ _ _ _ _ (h0.ext (by repeat (first | exact Ext.refl _ | assumption | refine Ext.drew ?_ | refine Ext.drewN ?_ _ | refine Ext.alloc ?_ _ | refine Ext.trans ?_ (by assumption)))) (rw'.ext (by repeat (first | exact Ext.refl _ | assumption | refine Ext.drew ?_ | refine Ext.drewN ?_ _ | refine Ext.alloc ?_ _ | refine Ext.trans ?_ (by assumption))))) (decide_eq_true rfl)).mono ?_
    rintro e w1 ⟨rfl, _⟩
    go_wp2_with fail
    refine (cbool (req_any _ _ _ _ _ _ _ _ _ (h1.ext (by repeat (first | exact Ext.refl _ | assumption | refine Ext.drew ?_ | refine Ext.drewN ?_ _ | refine Ext.alloc ?_ _ | refine Ext.trans ?_ (by assumption)))) (rv'.ext (by repeat (first | exact Ext.refl _ | assumption | refine Ext.drew ?_ | refine Ext.drewN ?_ _ | refine Ext.alloc ?_ _ | refine Ext.trans ?_ (by assumption))))) (decide_eq_true rfl)).mono ?_
    rintro e w1 ⟨rfl, _⟩
    go_wp2_with fail
    refine (works_any _).mono ?_
    rintro e wz ⟨rfl, _⟩
    go_wp2_with fail
    go_ret
    exact ⟨rfl, (by repeat (first | exact Ext.refl _ | assumption | refine Ext.drew ?_ | refine Ext.drewN ?_ _ | refine Ext.alloc ?_ _ | refine Ext.trans ?_ (by assumption)))⟩
  · have hgl : g < w3.heap.size := (Array.getElem?_eq_some_iff.1 hh).1
    obtain ⟨m, hm⟩ : ∃ m, m = (cutL x0 a b).length := ⟨_, rfl⟩
    rw [← hm] at oc8 rd
    rw [← hm]
    have hm3 : m ≤ 300 := by have := cutL_le x0 a b; have := h0.len; omega
    clear hm
    go_wp2_with fail
    go_loopw [23] (fun i wr => ∃ (k : Nat) (cur : List Snd), k ≤ m ∧ i = .int .i64 k ∧ But g w8 wr ∧ OwnS w2.heap.size 39 wr (.slice (some ⟨g, 0, none⟩) m cap) cur) (fun i _ => m - (intOf i).toNat)
    case atStart => exact ⟨0, _, Nat.zero_le _, rfl, But.refl _ _, oc8⟩
    case round =>
      obtain ⟨k, cu, hk, rfl, hb, hown⟩ := hrel
      by_cases hlt : k < m
      · have hcl := (OwnS.ge hown).2.2.1
        obtain ⟨s, hs⟩ : ∃ s, cu[k]? = some s := ⟨cu[k]'(by omega), List.getElem?_eq_getElem _⟩
        obtain ⟨ha0, ha1⟩ := OwnS.at hown hs
        have hf0 := fun i => OwnS.free hown i
        have hown2 := OwnS.set hown k ⟨0, 0⟩
        go_wp2_with fail
        (first | exact ⟨⟨k + 1, _, by omega, by go_num, (hb.setCell _ _).setCell _ _, hown2⟩, (by simp [intOf]; omega)⟩ | (go_roundw; case rel => exact ⟨k + 1, _, by omega, by go_num, (hb.setCell _ _).setCell _ _, hown2⟩; case measure => exact (by simp [intOf]; omega)))
      · have zf : Ext w wr := hb.ext z8 (Nat.le_trans z2.le hg)
        have zf1 : Ext w1 wr := hb.ext (y2.trans (y3.trans z38)) (Nat.le_trans y2.le hg)
        have zf2 : Ext w2 wr := hb.ext (y3.trans z38) hg
        have ox' := hb.own (OwnK.kept ox (y6.trans (y7.trans y8))) (Nat.lt_of_lt_of_le hgl y4.le)
        have oy' := hb.own (OwnK.kept oy (y7.trans y8)) (Nat.lt_of_lt_of_le hgl (y4.trans y5).le)
        have op' := hb.own (OwnK.kept op y8) (Nat.lt_of_lt_of_le hgl (y4.trans (y5.trans y6)).le)
        have oq' := hb.own oq (Nat.lt_of_lt_of_le hgl (y4.trans (y5.trans (y6.trans y7))).le)
        clear hown hb
        go_wp2_with fail
        obtain ⟨ax, kx, hvx, rx⟩ := OwnK.rd Snd.len ox'
        obtain ⟨ay, ky, hvy, ry⟩ := OwnK.rd Snd.len oy'
        obtain ⟨ap, kp, hvp, rp⟩ := OwnK.rd Snd.len op'
        obtain ⟨aq, kq, hvq, rq⟩ := OwnK.rd Snd.len oq'
        subst hvx; subst hvy; subst hvp; subst hvq
        clear ox oy op oq ox' oy' op' oq' y1 y2 y3 y4 y5 y6 y7 y8 z2 z3 z4 z5 z6 z7 z8 z38
        refine (cbool (req_any _ _ _ _ _ _ _ _ _ (rx.ext (by repeat (first | exact Ext.refl _ | assumption | refine Ext.drew ?_ | refine Ext.drewN ?_ _ | refine Ext.alloc ?_ _ | refine Ext.trans ?_ (by assumption)))) (ry.ext (by repeat (first | exact Ext.refl _ | assumption | refine Ext.drew ?_ | refine Ext.drewN ?_ _ | refine Ext.alloc ?_ _ | refine Ext.trans ?_ (by assumption))))) (decide_eq_true rfl)).mono ?_
        rintro e w1 ⟨rfl, _⟩
        go_wp2_with fail
        refine (cbool (req_any _ _ _ _ _ _ _ _ _ (rp.ext (by repeat (first | exact Ext.refl _ | assumption | refine Ext.drew ?_ | refine Ext.drewN ?_ _ | refine Ext.alloc ?_ _ | refine Ext.trans ?_ (by assumption)))) (rq.ext (by repeat (first | exact Ext.refl _ | assumption | refine Ext.drew ?_ | refine Ext.drewN ?_ _ | refine Ext.alloc ?_ _ | refine Ext.trans ?_ (by assumption))))) (decide_eq_true rfl)).mono ?_
        rintro e w1 ⟨rfl, _⟩
        go_wp2_with fail
        refine (check_any _ _ _ x0 _ (h0.ext (by repeat (first | exact Ext.refl _ | assumption | refine Ext.drew ?_ | refine Ext.drewN ?_ _ | refine Ext.alloc ?_ _ | refine Ext.trans ?_ (by assumption))))).mono ?_
        rintro e w1 ⟨rfl, _⟩
        go_wp2_with fail
        refine (rcheck_any _ _ _ x0 _ (h0.ext (by repeat (first | exact Ext.refl _ | assumption | refine Ext.drew ?_ | refine Ext.drewN ?_ _ | refine Ext.alloc ?_ _ | refine Ext.trans ?_ (by assumption))))).mono ?_
        rintro e w1 ⟨rfl, _⟩
        go_wp2_with fail
        refine (check_any _ _ _ x1 _ (h1.ext (by repeat (first | exact Ext.refl _ | assumption | refine Ext.drew ?_ | refine Ext.drewN ?_ _ | refine Ext.alloc ?_ _ | refine Ext.trans ?_ (by assumption))))).mono ?_
        rintro e w1 ⟨rfl, _⟩
        go_wp2_with fail
        refine (rcheck_any _ _ _ x1 _ (h1.ext (by repeat (first | exact Ext.refl _ | assumption | refine Ext.drew ?_ | refine Ext.drewN ?_ _ | refine Ext.alloc ?_ _ | refine Ext.trans ?_ (by assumption))))).mono ?_
        rintro e w1 ⟨rfl, _⟩
        go_wp2_with fail
        refine (cbool (req_any _ _ _ _ _ _ _ _ _ (h0.ext (by repeat (first | exact Ext.refl _ | assumption | refine Ext.drew ?_ | refine Ext.drewN ?_ _ | refine Ext.alloc ?_ _ | refine Ext.trans ?_ (by assumption)))) (rw'.ext (by repeat (first | exact Ext.refl _ | assumption | refine Ext.drew ?_ | refine Ext.drewN ?_ _ | refine Ext.alloc ?_ _ | refine Ext.trans ?_ (by assumption))))) (decide_eq_true rfl)).mono ?_
        rintro e w1 ⟨rfl, _⟩
        go_wp2_with fail
        refine (cbool (req_any _ _ _ _ _ _ _ _ _ (h1.ext (by repeat (first | exact Ext.refl _ | assumption | refine Ext.drew ?_ | refine Ext.drewN ?_ _ | refine Ext.alloc ?_ _ | refine Ext.trans ?_ (by assumption)))) (rv'.ext (by repeat (first | exact Ext.refl _ | assumption | refine Ext.drew ?_ | refine Ext.drewN ?_ _ | refine Ext.alloc ?_ _ | refine Ext.trans ?_ (by assumption))))) (decide_eq_true rfl)).mono ?_
        rintro e w1 ⟨rfl, _⟩
        go_wp2_with fail
        refine (works_any _).mono ?_
        rintro e wz ⟨rfl, _⟩
        go_wp2_with fail
        go_ret
        exact ⟨rfl, (by repeat (first | exact Ext.refl _ | assumption | refine Ext.drew ?_ | refine Ext.drewN ?_ _ | refine Ext.alloc ?_ _ | refine Ext.trans ?_ (by assumption)))⟩
theorem wordCuts_any (a0 : Option Addr) (n0 c0 : Nat) (x0 : List Snd) (a1 : Option Addr) (n1 c1 : Nat) (x1 : List Snd) (a b : Int) (w : World) (h0 : RdS w a0 n0 c0 x0) (h1 : RdS w a1 n1 c1 x1) :
    Calls Try.prog 10 #[.slice a0 n0 c0, .slice a1 n1 c1, .int .i64 a, .int .i64 b] w fun e w' => e = .returned (.bool true) ∧ Ext w w' := by
  by_cases l0 : n0 ≤ 300
  · by_cases l1 : n1 ≤ 300
    · exact wordCuts_small a0 n0 c0 x0 a1 n1 c1 x1 a b w h0 h1 l0 l1
    · have e0 : decide ((300 : Int) < n0) = false := by simp; omega
      have e1 : decide ((300 : Int) < n1) = true := by simp; omega
      go_enter Try.func10, Try.ntmps10
      go_wp2_with fail
      refine (works_any _).mono ?_
      rintro e wz ⟨rfl, _⟩
      go_wp2_with fail
      go_ret
      exact ⟨rfl, (by repeat (first | exact Ext.refl _ | assumption | refine Ext.drew ?_ | refine Ext.drewN ?_ _ | refine Ext.alloc ?_ _ | refine Ext.trans ?_ (by assumption)))⟩
  · have e0 : decide ((300 : Int) < n0) = true := by simp; omega
    go_enter Try.func10, Try.ntmps10
    go_wp2_with fail
    refine (works_any _).mono ?_
    rintro e wz ⟨rfl, _⟩
    go_wp2_with fail
    go_ret
    exact ⟨rfl, (by repeat (first | exact Ext.refl _ | assumption | refine Ext.drew ?_ | refine Ext.drewN ?_ _ | refine Ext.alloc ?_ _ | refine Ext.trans ?_ (by assumption)))⟩
end Go.Proofs.Ytphfnmmdfnfnaaa
