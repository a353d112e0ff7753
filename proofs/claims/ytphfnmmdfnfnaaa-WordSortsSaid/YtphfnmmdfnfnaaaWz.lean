/-
  Walks of layer 2: the reference's Sort: the walk.
-/
import Derived.Test.YtphfnmmdfnfnaaaWy
import Derived.Deep.RegionWith
namespace Go.Proofs.Ytphfnmmdfnfnaaa
open Go.RowKit
def lenOf : Value → Nat
  | .slice _ m _ => m
  | _ => 0
theorem OwnWs.at {B m cv i : Nat} {w : World} {av : Option Addr} {L : List (List Snd)} {y : List Snd} (h : OwnWs B w (.slice av m cv) L) (hi : L[i]? = some y) :
    ∃ g a1 n1 c1, av = some ⟨g, 0, none⟩ ∧ w.cell? ⟨g, i, none⟩ = some (.slice a1 n1 c1) ∧ RdS w a1 n1 c1 y := by
  obtain ⟨hs, h1, rfl, h3⟩ := h
  rw [List.getElem?_map] at hi
  obtain ⟨z, hz, rfl⟩ := Option.map_eq_some_iff.1 hi
  have h1' := h1
  rcases h1.2 with ⟨h4, h5⟩ | ⟨g, cap, cur, h4, _⟩
  · have := List.eq_nil_of_length_eq_zero h5
    subst this; simp at hz
  · simp only [Value.slice.injEq] at h4
    obtain ⟨rfl, _, _⟩ := h4
    obtain ⟨a', c', hv, hr⟩ := OwnK.rd Snd.len (h3 z (List.mem_of_getElem? hz))
    simp only [WH.v, Value.slice.injEq] at hv
    exact ⟨g, z.a, z.n, z.cap, rfl, OwnH.at h1' hz, by rw [hv.1, hv.2.1, hv.2.2]; exact hr⟩
set_option maxHeartbeats 4000000 in
theorem rsort_any (a : Option Addr) (n cap : Nat) (ws : List (List Snd)) (w : World) (hr : RdWs w a n cap ws) :
    Calls Try.prog 30 #[.slice a n cap] w fun e w' => Ext w w' ∧
      ((256 < n ∧ e = .returned (.tuple #[.slice none 0 0, .int .i64 12])) ∨ (n ≤ 256 ∧ checkWs ws ≠ 0 ∧ e = .returned (.tuple #[.slice none 0 0, .int .i64 (checkWs ws)])) ∨
       (n ≤ 256 ∧ checkWs ws = 0 ∧ ∃ v L, e = .returned (.tuple #[v, .int .i64 0]) ∧ SortedOf ws L ∧ OwnWs w.heap.size w' v L)) := by
  by_cases hbig : 256 < n
  · have hd : decide ((256 : Int) < n) = true := by simp; omega
    go_enter Try.func30, Try.ntmps30
    go_wp2_with fail
    go_ret2
    exact ⟨Ext.refl _, .inl ⟨hbig, rfl⟩⟩
  have hd : decide ((256 : Int) < n) = false := by simp; omega
  have hwl := hr.len
  go_enter Try.func30, Try.ntmps30
  go_wp2_with fail
  clear hd
  go_loopw [4] (fun i wr => ∃ k : Nat, k ≤ n ∧ i = .int .i64 k ∧ Ext w wr ∧ Hid (checkWs ws = checkWs (ws.drop k))) (fun i _ => n - (intOf i).toNat)
  case atStart => exact ⟨0, Nat.zero_le _, rfl, Ext.refl _, rfl⟩
  case round =>
    obtain ⟨k, hk, rfl, hx, hall⟩ := hrel
    by_cases hlt : k < n
    · obtain ⟨b, off, v, x, rfl, hs, hb, hc0, a1, n1, cap1, rfl, hr1⟩ := (RdWs.ext hr hx).at hlt
      by_cases h0 : checkS x = 0
      · have hb0 : (checkS x != 0) = false := by simp [h0]
        have H0 := Lib.hid h0; clear h0
        go_wp2_with (go_at_call 40; refine (rcheck_any _ _ _ x _ hr1).mono ?_; rintro e w1 ⟨rfl, hx1⟩)
        (first | exact ⟨⟨k + 1, by omega, by go_num, (by repeat (first | exact Ext.refl _ | assumption | refine Ext.drew ?_ | refine Ext.drewN ?_ _ | refine Ext.alloc ?_ _ | refine Ext.trans ?_ (by assumption))), checkWs_ok hall hs H0.out⟩, (by simp [intOf]; omega)⟩ | (go_roundw; case rel => exact ⟨k + 1, by omega, by go_num, (by repeat (first | exact Ext.refl _ | assumption | refine Ext.drew ?_ | refine Ext.drewN ?_ _ | refine Ext.alloc ?_ _ | refine Ext.trans ?_ (by assumption))), checkWs_ok hall hs H0.out⟩; case measure => exact (by simp [intOf]; omega)))
      · have hb0 : (checkS x != 0) = true := by simpa using h0
        have H0 := Lib.hid h0; clear h0
        go_wp2_with (go_at_call 40; refine (rcheck_any _ _ _ x _ hr1).mono ?_; rintro e w1 ⟨rfl, hx1⟩)
        go_ret2
        have hcw := checkWs_bad hall hs H0.out
        exact ⟨(by repeat (first | exact Ext.refl _ | assumption | refine Ext.drew ?_ | refine Ext.drewN ?_ _ | refine Ext.alloc ?_ _ | refine Ext.trans ?_ (by assumption))), .inr (.inl ⟨by omega, by rw [hcw]; exact H0.out, by rw [hcw]; rfl⟩)⟩
    · have hcw : checkWs ws = 0 := by rw [hall.out, List.drop_of_length_le (by omega)]; rfl
      replace hcw := Lib.hid hcw
      clear hall
      go_wp2_with fail
      go_loopw [6] (fun v wq => ∃ (av : Option Addr) (m cv : Nat) (L : List (List Snd)), v = .slice av m cv ∧ L.length = m ∧ m ≤ n ∧ Ext w wq ∧ OwnWs w.heap.size wq (.slice av m cv) L ∧ Pre ws L) (fun v _ => n - lenOf v)
      case atStart => exact ⟨none, 0, 0, [], rfl, rfl, Nat.zero_le _, hx, OwnWs.nil _ _, Pre.nil _⟩
      case round =>
        obtain ⟨av, m, cv, L, rfl, hLm, hmn, hx2, hown, hpre⟩ := hrel
        by_cases hlt2 : m < n
        · obtain ⟨wo, hwo⟩ : ∃ x, x = wr := ⟨wr, rfl⟩
          subst hwo
          go_wp2_with fail
          go_loopw [7, 8] (fun bv i wi => ∃ (k2 : Nat) (bi : Int), k2 ≤ n ∧ i = .int .i64 k2 ∧ bv = .int .i64 bi ∧ Ext wo wi ∧ Hid (Best ws L k2 bi)) (fun _ i _ => n - (intOf i).toNat)
          case atStart => exact ⟨0, -1, Nat.zero_le _, rfl, rfl, Ext.refl _, Best.start _ _⟩
          case round =>
            obtain ⟨k2, bi, hk2, rfl, rfl, hx3, hbest⟩ := hrel
            by_cases hlt3 : k2 < n
            · obtain ⟨b, off, v, x, ha, hs, hb, hcx, a1, n1, cap1, rfl, hrx⟩ := (RdWs.ext hr (hx2.trans hx3)).at hlt3
              cases ha
              by_cases hm0 : m = 0
              · have hxL : x ∉ L := by rw [List.eq_nil_of_length_eq_zero (hLm.trans hm0)]; simp
                have hm0' : decide (0 < m) = false := by simp; omega
                go_wp2_with fail
                (refine wp_region_qx (by kernel_rfl) (by kernel_rfl) ?_
                 repeat (go_big_quiet_step ((fail)))
                 refine wpQuiet_nil ?_
                 intro wq hw'
                 have hxq := ext_of_ex hw'
                 clear hw')
                have hcx := hxq.cellv hcx
                have hrx := hrx.ext hxq
                have hx3 := hx3.trans hxq
                obtain ⟨wn, hwn⟩ : ∃ x, x = wq := ⟨wq, rfl⟩
                subst hwn
                clear hm0'
                go_wp2_with fail
                rcases hbest.out with ⟨rfl, hb0⟩ | ⟨j, xj, rfl, hjk, hxj, hjn, hjm⟩
                · have hnew := Lib.hid (Best.first hb0 hs.out hxL)
                  go_wp2_with fail
                  (refine wp_region_qx (by kernel_rfl) (by kernel_rfl) ?_
                   repeat (go_big_quiet_step ((fail)))
                   refine wpQuiet_nil ?_
                   intro wq hw'
                   have hxq := ext_of_ex hw'
                   clear hw')
                  go_wp2_with fail
                  (first | exact ⟨⟨k2 + 1, _, by omega, by go_num, rfl, (by repeat (first | exact Ext.refl _ | assumption | refine Ext.drew ?_ | refine Ext.drewN ?_ _ | refine Ext.alloc ?_ _ | refine Ext.trans ?_ (by assumption))), hnew⟩, (by simp [intOf]; omega)⟩ | (go_roundw; case rel => exact ⟨k2 + 1, _, by omega, by go_num, rfl, (by repeat (first | exact Ext.refl _ | assumption | refine Ext.drew ?_ | refine Ext.drewN ?_ _ | refine Ext.alloc ?_ _ | refine Ext.trans ?_ (by assumption))), hnew⟩; case measure => exact (by simp [intOf]; omega)))
                · obtain ⟨b2, off2, v2, x2, ha2, hs2, hb2, hc2, a2, n2, cap2, rfl, hr2⟩ := (RdWs.ext hr (show Ext w wn from (by repeat (first | exact Ext.refl _ | assumption | refine Ext.drew ?_ | refine Ext.drewN ?_ _ | refine Ext.alloc ?_ _ | refine Ext.trans ?_ (by assumption))))).at (show j < n by omega)
                  cases ha2
                  have hxx : x2 = xj := by have := hs2.out.symm.trans hxj; exact Option.some.inj this
                  subst hxx
                  have hj0 : decide ((j : Int) < 0) = false := by simp
                  have f0 := fun x : ExtOf wn => x.cell hcx
                  have f1 := fun x : ExtOf wn => x.cell hc2
                  by_cases hcj : cmpW x x2 < 0
                  · have hd : decide (cmpW x x2 < 0) = true := by simpa using hcj
                    have hnew := Lib.hid (Best.less hjm hs.out hxL hcj)
                    clear hcj
                    go_wp2_with fail
                    (refine wp_region_qx (by kernel_rfl) (by kernel_rfl) ?_
                     repeat (go_big_quiet_step ((go_at_call 23; exact calls_ext (rorder_any _ _ _ _ _ _ x x2 _ (hrx.ext (ExtOf.h _)) (hr2.ext (ExtOf.h _))))))
                     refine wpQuiet_nil ?_
                     intro wq hw'
                     have hxq := ext_of_ex hw'
                     clear hw')
                    go_wp2_with fail
                    (first | exact ⟨⟨k2 + 1, _, by omega, by go_num, rfl, (by repeat (first | exact Ext.refl _ | assumption | refine Ext.drew ?_ | refine Ext.drewN ?_ _ | refine Ext.alloc ?_ _ | refine Ext.trans ?_ (by assumption))), hnew⟩, (by simp [intOf]; omega)⟩ | (go_roundw; case rel => exact ⟨k2 + 1, _, by omega, by go_num, rfl, (by repeat (first | exact Ext.refl _ | assumption | refine Ext.drew ?_ | refine Ext.drewN ?_ _ | refine Ext.alloc ?_ _ | refine Ext.trans ?_ (by assumption))), hnew⟩; case measure => exact (by simp [intOf]; omega)))
                  · have hd : decide (cmpW x x2 < 0) = false := by simpa using hcj
                    have hnew := Lib.hid (Best.keep hjk hxj hjn hjm hs.out hcj)
                    clear hcj
                    go_wp2_with fail
                    (refine wp_region_qx (by kernel_rfl) (by kernel_rfl) ?_
                     repeat (go_big_quiet_step ((go_at_call 23; exact calls_ext (rorder_any _ _ _ _ _ _ x x2 _ (hrx.ext (ExtOf.h _)) (hr2.ext (ExtOf.h _))))))
                     refine wpQuiet_nil ?_
                     intro wq hw'
                     have hxq := ext_of_ex hw'
                     clear hw')
                    go_wp2_with fail
                    (first | exact ⟨⟨k2 + 1, _, by omega, by go_num, rfl, (by repeat (first | exact Ext.refl _ | assumption | refine Ext.drew ?_ | refine Ext.drewN ?_ _ | refine Ext.alloc ?_ _ | refine Ext.trans ?_ (by assumption))), hnew⟩, (by simp [intOf]; omega)⟩ | (go_roundw; case rel => exact ⟨k2 + 1, _, by omega, by go_num, rfl, (by repeat (first | exact Ext.refl _ | assumption | refine Ext.drew ?_ | refine Ext.drewN ?_ _ | refine Ext.alloc ?_ _ | refine Ext.trans ?_ (by assumption))), hnew⟩; case measure => exact (by simp [intOf]; omega)))
              · have hm0' : decide (0 < m) = true := by simp; omega
                obtain ⟨y, hy⟩ : ∃ y, L[m - 1]? = some y := ⟨L[m - 1]'(by omega), List.getElem?_eq_getElem _⟩
                obtain ⟨g, a3, n3, c3, hav, hcy, hry⟩ := OwnWs.at (hown.kept hx3) hy
                cases hav
                have hlast := hpre.last hLm hy (by omega) (List.mem_of_getElem? hs)
                have hw1 : IntKind.i64.wrap ((m : Int) - 1) = (m : Int) - 1 := IntWalk.i64_in _ (by omega)
                have ha1 : ((m : Int) - 1).toNat = m - 1 := by omega
                have f0 := fun x : ExtOf wr => x.cell hcx
                have f1 := fun x : ExtOf wr => x.cell hcy
                by_cases hcl : cmpW x y ≤ 0
                · have hd : decide (cmpW x y ≤ 0) = true := by simpa using hcl
                  have hnew := Lib.hid (hbest.out.skip hs.out (hlast.2 hcl))
                  clear hcl hlast
                  go_wp2_with fail
                  (refine wp_region_qx (by kernel_rfl) (by kernel_rfl) ?_
                   repeat (go_big_quiet_step ((go_at_call 23; exact calls_ext (rorder_any _ _ _ _ _ _ x y _ (hrx.ext (ExtOf.h _)) (hry.ext (ExtOf.h _))))))
                   refine wpQuiet_nil ?_
                   intro wq hw'
                   have hxq := ext_of_ex hw'
                   clear hw')
                  go_wp2_with fail
                  (first | exact ⟨⟨k2 + 1, _, by omega, by go_num, rfl, (by repeat (first | exact Ext.refl _ | assumption | refine Ext.drew ?_ | refine Ext.drewN ?_ _ | refine Ext.alloc ?_ _ | refine Ext.trans ?_ (by assumption))), hnew⟩, (by simp [intOf]; omega)⟩ | (go_roundw; case rel => exact ⟨k2 + 1, _, by omega, by go_num, rfl, (by repeat (first | exact Ext.refl _ | assumption | refine Ext.drew ?_ | refine Ext.drewN ?_ _ | refine Ext.alloc ?_ _ | refine Ext.trans ?_ (by assumption))), hnew⟩; case measure => exact (by simp [intOf]; omega)))
                · have hd : decide (cmpW x y ≤ 0) = false := by simpa using hcl
                  have hxL : x ∉ L := fun h => hcl (hlast.1 h)
                  clear hcl hlast
                  go_wp2_with fail
                  (refine wp_region_qx (by kernel_rfl) (by kernel_rfl) ?_
                   repeat (go_big_quiet_step ((go_at_call 23; exact calls_ext (rorder_any _ _ _ _ _ _ x y _ (hrx.ext (ExtOf.h _)) (hry.ext (ExtOf.h _))))))
                   refine wpQuiet_nil ?_
                   intro wq hw'
                   have hxq := ext_of_ex hw'
                   clear hw')
                  have hcx := hxq.cellv hcx
                  have hrx := hrx.ext hxq
                  have hx3 := hx3.trans hxq
                  obtain ⟨wn, hwn⟩ : ∃ x, x = wq := ⟨wq, rfl⟩
                  subst hwn
                  clear hm0' hd f0 f1 hw1 ha1
                  go_wp2_with fail
                  rcases hbest.out with ⟨rfl, hb0⟩ | ⟨j, xj, rfl, hjk, hxj, hjn, hjm⟩
                  · have hnew := Lib.hid (Best.first hb0 hs.out hxL)
                    go_wp2_with fail
                    (refine wp_region_qx (by kernel_rfl) (by kernel_rfl) ?_
                     repeat (go_big_quiet_step ((fail)))
                     refine wpQuiet_nil ?_
                     intro wq hw'
                     have hxq := ext_of_ex hw'
                     clear hw')
                    go_wp2_with fail
                    (first | exact ⟨⟨k2 + 1, _, by omega, by go_num, rfl, (by repeat (first | exact Ext.refl _ | assumption | refine Ext.drew ?_ | refine Ext.drewN ?_ _ | refine Ext.alloc ?_ _ | refine Ext.trans ?_ (by assumption))), hnew⟩, (by simp [intOf]; omega)⟩ | (go_roundw; case rel => exact ⟨k2 + 1, _, by omega, by go_num, rfl, (by repeat (first | exact Ext.refl _ | assumption | refine Ext.drew ?_ | refine Ext.drewN ?_ _ | refine Ext.alloc ?_ _ | refine Ext.trans ?_ (by assumption))), hnew⟩; case measure => exact (by simp [intOf]; omega)))
                  · obtain ⟨b2, off2, v2, x2, ha2, hs2, hb2, hc2, a2, n2, cap2, rfl, hr2⟩ := (RdWs.ext hr (show Ext w wn from (by repeat (first | exact Ext.refl _ | assumption | refine Ext.drew ?_ | refine Ext.drewN ?_ _ | refine Ext.alloc ?_ _ | refine Ext.trans ?_ (by assumption))))).at (show j < n by omega)
                    cases ha2
                    have hxx : x2 = xj := by have := hs2.out.symm.trans hxj; exact Option.some.inj this
                    subst hxx
                    have hj0 : decide ((j : Int) < 0) = false := by simp
                    have f0 := fun x : ExtOf wn => x.cell hcx
                    have f1 := fun x : ExtOf wn => x.cell hc2
                    by_cases hcj : cmpW x x2 < 0
                    · have hd : decide (cmpW x x2 < 0) = true := by simpa using hcj
                      have hnew := Lib.hid (Best.less hjm hs.out hxL hcj)
                      clear hcj
                      go_wp2_with fail
                      (refine wp_region_qx (by kernel_rfl) (by kernel_rfl) ?_
                       repeat (go_big_quiet_step ((go_at_call 23; exact calls_ext (rorder_any _ _ _ _ _ _ x x2 _ (hrx.ext (ExtOf.h _)) (hr2.ext (ExtOf.h _))))))
                       refine wpQuiet_nil ?_
                       intro wq hw'
                       have hxq := ext_of_ex hw'
                       clear hw')
                      go_wp2_with fail
                      (first | exact ⟨⟨k2 + 1, _, by omega, by go_num, rfl, (by repeat (first | exact Ext.refl _ | assumption | refine Ext.drew ?_ | refine Ext.drewN ?_ _ | refine Ext.alloc ?_ _ | refine Ext.trans ?_ (by assumption))), hnew⟩, (by simp [intOf]; omega)⟩ | (go_roundw; case rel => exact ⟨k2 + 1, _, by omega, by go_num, rfl, (by repeat (first | exact Ext.refl _ | assumption | refine Ext.drew ?_ | refine Ext.drewN ?_ _ | refine Ext.alloc ?_ _ | refine Ext.trans ?_ (by assumption))), hnew⟩; case measure => exact (by simp [intOf]; omega)))
                    · have hd : decide (cmpW x x2 < 0) = false := by simpa using hcj
                      have hnew := Lib.hid (Best.keep hjk hxj hjn hjm hs.out hcj)
                      clear hcj
                      go_wp2_with fail
                      (refine wp_region_qx (by kernel_rfl) (by kernel_rfl) ?_
                       repeat (go_big_quiet_step ((go_at_call 23; exact calls_ext (rorder_any _ _ _ _ _ _ x x2 _ (hrx.ext (ExtOf.h _)) (hr2.ext (ExtOf.h _))))))
                       refine wpQuiet_nil ?_
                       intro wq hw'
                       have hxq := ext_of_ex hw'
                       clear hw')
                      go_wp2_with fail
                      (first | exact ⟨⟨k2 + 1, _, by omega, by go_num, rfl, (by repeat (first | exact Ext.refl _ | assumption | refine Ext.drew ?_ | refine Ext.drewN ?_ _ | refine Ext.alloc ?_ _ | refine Ext.trans ?_ (by assumption))), hnew⟩, (by simp [intOf]; omega)⟩ | (go_roundw; case rel => exact ⟨k2 + 1, _, by omega, by go_num, rfl, (by repeat (first | exact Ext.refl _ | assumption | refine Ext.drew ?_ | refine Ext.drewN ?_ _ | refine Ext.alloc ?_ _ | refine Ext.trans ?_ (by assumption))), hnew⟩; case measure => exact (by simp [intOf]; omega)))
            · rcases hbest.out with ⟨rfl, hb0⟩ | ⟨j, xj, rfl, hjk, hxj, hjn, hjm⟩
              · have hfin := hpre.done hwl (fun j x hj => hb0 j x (by omega))
                go_wp2_with fail
                go_ret2
                exact ⟨hx2.trans hx3, .inr (.inr ⟨by omega, hcw.out, _, L, rfl, hfin, hown.kept hx3⟩)⟩
              · obtain ⟨b2, off2, v2, x2, ha2, hs2, hb2, hc2, a2, n2, cap2, rfl, hr2⟩ := (RdWs.ext hr (hx2.trans hx3)).at (show j < n by omega)
                cases ha2
                have hxx : x2 = xj := by have := hs2.out.symm.trans hxj; exact Option.some.inj this
                subst hxx
                have hj0 : decide ((j : Int) < 0) = false := by simp
                have hnew := hpre.snoc (List.mem_of_getElem? hxj) hjn (fun y hy hyn => by
                  obtain ⟨i, hi⟩ := List.getElem?_of_mem hy
                  exact hjm i y (by have := (List.getElem?_eq_some_iff.1 hi).1; omega) hi hyn)
                have hl2 : n2 ≤ 32 := by have := checkWs_all hcw.out _ (List.mem_of_getElem? hxj); have := hr2.len; omega
                go_wp2_with fail
                refine (copy_any _ _ _ x2 _ hr2 (by omega)).mono ?_
                rintro e w5 ⟨v5, rfl, ho5, hx5⟩
                have hx25 := hx2.trans (hx3.trans hx5)
                obtain ⟨a5, n5, c5, hn5, rfl, r5⟩ := OwnK.rdn Snd.len ho5
                replace hn5 := Lib.hid hn5
                go_wp2_with (at_builtin; refine wp_appW w w5 a5 n5 c5 x2 rfl _ _ rfl _ L rfl (hown.kept (hx3.trans hx5)) hx25 (OwnK.base ho5 (hx2.trans hx3).le) rfl (by omega) ?_; intro v6 w6 ho6 hx6)
                obtain ⟨a6, n6, c6, hn6, rfl, r6⟩ := OwnWs.rdn ho6
                have hn6' : n6 = m + 1 := by rw [hn6, ← hLm]; simp
                (first | exact ⟨⟨a6, n6, c6, L ++ [x2], rfl, hn6.symm, by omega, hx6, ho6, hnew⟩, (by simp [lenOf]; omega)⟩ | (go_roundw; case rel => exact ⟨a6, n6, c6, L ++ [x2], rfl, hn6.symm, by omega, hx6, ho6, hnew⟩; case measure => exact (by simp [lenOf]; omega)))
        · have hfin := hpre.full (by omega)
          go_wp2_with fail
          go_ret2
          exact ⟨hx2, .inr (.inr ⟨by omega, hcw.out, _, L, rfl, hfin, hown⟩)⟩
end Go.Proofs.Ytphfnmmdfnfnaaa
