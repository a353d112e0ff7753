/-
  The reference's check of lists of correspondences.
-/
import Derived.Test.YtkdancoffmhjhaaCa
import Derived.Test.YtkdancoffmhjhaaApp
namespace Go.Proofs.Ytkdancoffmhjhaa
open Go.RowKit
theorem info_corr : (Try.prog.info? 49).map (fun i => (i.zero, i.size, i.bytes)) = some (some (.agg #[.slice none 0 0, .int .i64 0]), 2, 32) := by kernel_rfl
theorem rmany_any (a : Option Addr) (n cap : Nat) (l : List HCo) (w : World) (hr : RdH w a n cap l) :
    Calls Try.prog 65 #[.slice a n cap] w fun e w' => e = .returned (.bool (manyB l)) ∧ w' = w := by
  have hl := hr.rd.len
  have hmax : n ≤ 9223372036854775807 := by have := hr.rd.le; have := hr.rd.most; unfold maxLen at this; omega
  replace hl := Lib.hid hl
  go_enter Try.func65, Try.ntmps65
  go_wp2_with fail
  go_loop [3] (fun i => ∃ k : Nat, k ≤ n ∧ i = .int .i64 k ∧ Hid (∀ (j : Nat) (y : HCo), j < k → l[j]? = some y → (!decide (64 < y.n)) = true)) (fun i => n - (intOf i).toNat)
  case atStart => exact ⟨0, Nat.zero_le _, rfl, Lib.hid fun j y h => absurd h (Nat.not_lt_zero _)⟩
  case round =>
    obtain ⟨k, hk, rfl, hall⟩ := hrel
    by_cases hlt : k < n
    · obtain ⟨b, off, y, rfl, hy, hb, hc0, hc1, hcy⟩ := hr.at hlt
      by_cases h64 : 64 < y.n
      · have hd : decide (64 < y.n) = true := by simpa using h64
        have hm : Hid (manyB l = true) := Lib.hid (by unfold manyB; rw [any_of_at hy.out (p := fun y => decide (64 < y.n)) hd, Bool.or_true])
        go_wp2_with fail
        go_ret
        exact ⟨ret_bool hm.out.symm, rfl⟩
      · have hd : decide (64 < y.n) = false := by simpa using h64
        have hall2 := Lib.hid (all_succ (p := fun y : HCo => !decide (64 < y.n)) hall.out hy.out (by rw [hd]; rfl))
        go_wp2_with fail
        go_round
        case rel => exact ⟨k + 1, by omega, by go_num, hall2⟩
        case measure => exact (by simp [intOf]; omega)
    · have hm : Hid (manyB l = decide ((4096 : Int) < (n : Int))) := Lib.hid (by unfold manyB; rw [any_none hl.out (p := fun y => decide (64 < y.n)) (fun i y hi => hall.out i y (by omega)), Bool.or_false, hl.out, Bool.eq_iff_iff]; simp; omega)
      go_wp2_with fail
      go_ret
      exact ⟨ret_bool hm.out.symm, rfl⟩
theorem len_int' {k : Nat} {α : Type} {enc : α → List Value} {w : World} {a : Option Addr} {n cap : Nat} {xs : List α} (h : RdK k enc w a n cap xs) : n ≤ 9223372036854775807 := by
  have := h.le; have := h.most; unfold maxLen at this; omega
theorem corB_head {l : List HCo} {y0 : HCo} (h : l[0]? = some y0) : widH l = y0.n := by
  cases l with
  | nil => simp at h
  | cons a t => simp at h; subst h; rfl
set_option maxHeartbeats 2000000 in
theorem rright_any (a : Option Addr) (n cap : Nat) (l : List HCo) (w : World) (hr : RdH w a n cap l) :
    Calls Try.prog 66 #[.slice a n cap] w fun e w' => e = .returned (.bool (l.all (corB (widH l)))) ∧ Ext w w' := by
  have hl := hr.rd.len
  have hmax : n ≤ 9223372036854775807 := by have := hr.rd.le; have := hr.rd.most; unfold maxLen at this; omega
  replace hl := Lib.hid hl
  go_enter Try.func66, Try.ntmps66
  go_wp2_with fail
  go_loopw [3, 4] (fun i _ wr => ∃ k : Nat, k ≤ n ∧ i = .int .i64 k ∧ Hid (∀ (j : Nat) (y : HCo), j < k → l[j]? = some y → corB (widH l) y = true) ∧ Ext w wr) (fun i _ _ => n - (intOf i).toNat)
  case atStart => exact ⟨0, Nat.zero_le _, rfl, Lib.hid (fun j y h => absurd h (Nat.not_lt_zero _)), Ext.refl _⟩
  case round =>
    obtain ⟨k, hk, rfl, hall, hx⟩ := hrel
    by_cases hlt : k < n
    · have hkn : (k : Int) < (n : Int) := by omega
      have h0n : (0 : Int) < (n : Int) := by omega
      have h0n2 : 0 < n := by omega
      obtain ⟨b, off, ⟨ya, yn, yc, ycnt, yx⟩, rfl, hy, hb, hc0, hc1, hcy⟩ := (hr.ext hx).at hlt
      simp only at hc0 hc1 hcy
      obtain ⟨_, _, y0, he0, hy0, _, hd0, hd1, _⟩ := (hr.ext hx).at h0n2
      cases he0
      have hW := Lib.hid (corB_head hy0.out)
      simp only [Nat.zero_mul, Nat.add_zero] at hd0 hd1
      have hyl := Lib.hid hcy.len
      have hym := len_int' hcy
      have r0 := fun z : ExtOf wr => z.cell hc0
      have r1 := fun z : ExtOf wr => z.cell hc1
      have r2 := fun z : ExtOf wr => z.cell hd0
      by_cases hw1 : yn = y0.n
      · have hd2 : ((yn : Int) != (y0.n : Int)) = false := by simp; omega
        have hd2' : (yn != y0.n) = false := by simp; omega
        replace hw1 := Lib.hid hw1
        by_cases hw2 : ycnt < 1
        · have hd3 : decide (ycnt < 1) = true := by simpa using hw2
          have hfin : Hid (l.all (corB (widH l)) = false) := Lib.hid (all_not hy.out (by unfold corB cntB; rw [show decide (1 ≤ ycnt) = false by simp; omega]; simp))
          go_wp2_with fail
          (refine wp_region_qx (by kernel_rfl) (by kernel_rfl) ?_
           repeat (go_big_quiet_step (fail))
           refine wpQuiet_nil ?_
           intro wq hw'
           have hxq := ext_of_ex hw'
           clear hw')
          go_wp2_with fail
          go_ret
          exact ⟨ret_bool hfin.out.symm, hx.trans hxq⟩
        have hd3 : decide (ycnt < 1) = false := by simpa using hw2
        by_cases hw3 : 2147483647 < ycnt
        · have hd4 : decide (2147483647 < ycnt) = true := by simpa using hw3
          have hfin : Hid (l.all (corB (widH l)) = false) := Lib.hid (all_not hy.out (by unfold corB cntB; rw [show decide (ycnt ≤ 2147483647) = false by simp; omega]; simp))
          go_wp2_with fail
          (refine wp_region_qx (by kernel_rfl) (by kernel_rfl) ?_
           repeat (go_big_quiet_step (fail))
           refine wpQuiet_nil ?_
           intro wq hw'
           have hxq := ext_of_ex hw'
           clear hw')
          go_wp2_with fail
          go_ret
          exact ⟨ret_bool hfin.out.symm, hx.trans hxq⟩
        have hd4 : decide (2147483647 < ycnt) = false := by simpa using hw3
        have hcn : Hid (corB (widH l) ⟨ya, yn, yc, ycnt, yx⟩ = yx.all Cl.ok) := Lib.hid (by
          unfold corB cntB
          rw [hW.out, show decide (yn = y0.n) = true by simpa using hw1.out, show decide (1 ≤ ycnt) = true by simp; omega, show decide (ycnt ≤ 2147483647) = true by simp; omega]; rfl)
        go_wp2_with fail
        (refine wp_region_qx (by kernel_rfl) (by kernel_rfl) ?_
         repeat (go_big_quiet_step (fail))
         refine wpQuiet_nil ?_
         intro wq hw'
         have hxq := ext_of_ex hw'
         clear hw')
        have hxx := hx.trans hxq
        clear r0 r1 r2 hd2 hd2' hd3 hd4
        have hc0' := hxq.cellv hc0
        go_wp2_with fail
        go_loopw [4] (fun i wi => ∃ q : Nat, q ≤ yn ∧ i = .int .i64 q ∧ Hid (∀ (j : Nat) (c : Cl), j < q → yx[j]? = some c → c.ok = true) ∧ Ext wq wi) (fun i _ => yn - (intOf i).toNat)
        case atStart => exact ⟨0, Nat.zero_le _, rfl, Lib.hid (fun j y h => absurd h (Nat.not_lt_zero _)), Ext.refl _⟩
        case round =>
          obtain ⟨q, hq, rfl, hin, hxi⟩ := hrel
          have hh0 := hxi.cellv hc0'
          by_cases hqn : q < yn
          · obtain ⟨bc, oc, c, rfl, hc, hbc, p0, p1, p2⟩ := (hcy.ext (hxq.trans hxi)).cl hqn
            have hqi : (q : Int) < (yn : Int) := by omega
            cases hok : c.ok
            · have hfin : Hid (l.all (corB (widH l)) = false) := Lib.hid (all_not hy.out (by rw [hcn.out]; exact all_not hc.out hok))
              go_wp2_with fail
              refine (cbool (rcvalid_any c _) hok).mono ?_
              rintro e w1 ⟨rfl, hx1⟩
              go_wp2_with fail
              go_ret
              exact ⟨ret_bool hfin.out.symm, (hxx.trans hxi).trans hx1⟩
            · have hin2 := Lib.hid (all_succ hin.out hc.out hok)
              go_wp2_with fail
              refine (cbool (rcvalid_any c _) hok).mono ?_
              rintro e w1 ⟨rfl, hx1⟩
              go_wp2_with fail
              (first | exact ⟨⟨q + 1, by omega, by go_num, hin2, hxi.trans hx1⟩, (by simp [intOf]; omega)⟩ | (go_roundw; case rel => exact ⟨q + 1, by omega, by go_num, hin2, hxi.trans hx1⟩; case measure => exact (by simp [intOf]; omega)))
          · have hc2 : corB (widH l) ⟨ya, yn, yc, ycnt, yx⟩ = true := by
              rw [hcn.out]
              exact all_of_each hyl.out (fun i c hi => hin.out i c (by omega))
            have hall2 := Lib.hid (all_succ hall.out hy.out hc2)
            go_wp2_with fail
            (first | exact ⟨⟨k + 1, by omega, by go_num, hall2, hxx.trans hxi⟩, (by simp [intOf]; omega)⟩ | (go_roundw; case rel => exact ⟨k + 1, by omega, by go_num, hall2, hxx.trans hxi⟩; case measure => exact (by simp [intOf]; omega)))
      · have hd2 : ((yn : Int) != (y0.n : Int)) = true := by simp; omega
        have hd2' : (yn != y0.n) = true := by simpa using hw1
        have hfin : Hid (l.all (corB (widH l)) = false) := Lib.hid (all_not hy.out (by unfold corB; rw [hW.out, show decide (yn = y0.n) = false by simpa using hw1]; rfl))
        replace hw1 := Lib.hid hw1
        go_wp2_with fail
        (refine wp_region_qx (by kernel_rfl) (by kernel_rfl) ?_
         repeat (go_big_quiet_step (fail))
         refine wpQuiet_nil ?_
         intro wq hw'
         have hxq := ext_of_ex hw'
         clear hw')
        go_wp2_with fail
        go_ret
        exact ⟨ret_bool hfin.out.symm, hx.trans hxq⟩
    · have hfin : Hid (l.all (corB (widH l)) = true) := Lib.hid (all_of_each hl.out (fun i y hi => hall.out i y (by omega)))
      go_wp2_with fail
      go_ret
      exact ⟨ret_bool hfin.out.symm, hx⟩
theorem manyB_len {l : List HCo} (h : manyB l = false) : l.length ≤ 4096 := by
  unfold manyB at h
  simp at h
  omega
/-- append of a list of correspondences, their cells elsewhere. -/
theorem RdH.app {w : World} {a : Option Addr} {n cap : Nat} {hs : List HCo} (h : RdK 2 HCo.enc w a n cap hs) (ho : ∀ y ∈ hs, RdC w y.a y.n y.cap y.x) : RdH w a n cap hs := ⟨h, ho⟩
set_option maxHeartbeats 2000000 in
theorem rcheck_any2 (a : Option Addr) (n cap : Nat) (l : List HCo) (b : Option Addr) (m cap2 : Nat) (l2 : List HCo) (w : World) (hr : RdH w a n cap l) (hs : RdH w b m cap2 l2) :
    Calls Try.prog 41 #[.slice a n cap, .slice b m cap2] w fun e w' => e = .returned (.int .i64 (chkE [l, l2])) ∧ Ext w w' := by
  have hl := hr.rd.len
  have hl2 := hs.rd.len
  have hm1 := fun W (z : Ext w W) => rmany_any a n cap l W (hr.ext z)
  have hm2 := fun W (z : Ext w W) => rmany_any b m cap2 l2 W (hs.ext z)
  have hany : [l, l2].any manyB = (manyB l || manyB l2) := by simp
  have hflat : [l, l2].flatten = l ++ l2 := by simp
  unfold chkE
  rw [hany, hflat]
  cases h1 : manyB l
  · cases h2 : manyB l2
    · have hn1 := manyB_len h1
      have hn2 := manyB_len h2
      rw [hl] at hn1
      rw [hl2] at hn2
      simp only [Bool.or_self, Bool.false_eq_true, if_false]
      rw [h1] at hm1
      rw [h2] at hm2
      replace h1 := Lib.hid h1
      replace h2 := Lib.hid h2
      replace hl := Lib.hid hl
      replace hl2 := Lib.hid hl2
      obtain ⟨V, hV⟩ : ∃ V : Int, V = if (l ++ l2).all (corB (widH (l ++ l2))) = true then 0 else 2 := ⟨_, rfl⟩
      rw [← hV]
      replace hV := Lib.hid hV
      have hrg := fun (a3 : Option Addr) (n3 c3 : Nat) W (hr3 : RdH W a3 n3 c3 (l ++ l2)) => rright_any a3 n3 c3 (l ++ l2) W hr3
      have hown : OwnK 2 HCo.enc w.heap.size 49 (w.alloc (.cells #[] 49)) (.slice (some ⟨w.heap.size, 0, none⟩) 0 0) [] := OwnK.base (World.ownsRow_lit w #[] 0 (Nat.le_refl _) (Nat.zero_le _) rfl) (Nat.le_refl _)
      clear hany hflat
      go_enter Try.func41, Try.ntmps41
      go_wp2_with fail
      refine (hm1 _ (Ext.refl _)).mono ?_
      rintro e w1 ⟨rfl, rfl⟩
      go_wp2_with fail
      refine (hm2 _ (Ext.refl _)).mono ?_
      rintro e w1 ⟨rfl, rfl⟩
      clear hm1 hm2
      go_wp2_with (first | (at_builtin; refine wp_appN w1 _ l rfl _ _ 24 rfl 49 Try.underlying24 info_corr rfl (by decide) _ _ rfl hown (Ext.alloc1 _ _) a n cap rfl (hr.rd.ext (Ext.alloc1 _ _)) HCo.len HCo.one (by simp; omega) (by unfold maxLen; simp; omega) ?_; intro v1 w2 ho1 hx1 _) | (at_builtin; refine wp_appN w1 _ l2 rfl _ _ 24 rfl 49 Try.underlying24 info_corr rfl (by decide) _ _ rfl ho1 hx1 b m cap2 rfl (hs.rd.ext hx1) HCo.len HCo.one (by rw [List.nil_append, hl.out]; omega) (by unfold maxLen; rw [List.nil_append, hl.out]; omega) ?_; intro v2 w3 ho2 hx2 _; obtain ⟨a3, n3, c3, hn3, rfl, hr3⟩ := OwnK.rdn HCo.len ho2; replace hn3 := Lib.hid hn3))
      rw [List.nil_append] at hr3
      have hr4 : RdH w3 a3 n3 c3 (l ++ l2) := ⟨hr3, fun y hy => by
        rcases List.mem_append.1 hy with h | h
        · exact (hr.ok y h).ext hx2
        · exact (hs.ok y h).ext hx2⟩
      have hcall := hrg a3 n3 c3 w3 hr4
      clear hrg hr3 hr4 ho1 ho2 hown hx1
      cases hall : (l ++ l2).all (corB (widH (l ++ l2)))
      · rw [hall] at hcall
        have hV2 : Hid (2 = V) := Lib.hid (by rw [hV.out, hall]; rfl)
        replace hall := Lib.hid hall
        refine hcall.mono ?_
        rintro e w4 ⟨rfl, hx4⟩
        go_wp2_with fail
        go_ret
        exact ⟨ret_int hV2.out, hx2.trans hx4⟩
      · rw [hall] at hcall
        have hV2 : Hid (0 = V) := Lib.hid (by rw [hV.out, hall]; rfl)
        replace hall := Lib.hid hall
        refine hcall.mono ?_
        rintro e w4 ⟨rfl, hx4⟩
        go_wp2_with fail
        go_ret
        exact ⟨ret_int hV2.out, hx2.trans hx4⟩
    · rw [Bool.or_true, if_pos rfl]
      rw [h1] at hm1
      rw [h2] at hm2
      replace h1 := Lib.hid h1
      replace h2 := Lib.hid h2
      replace hl := Lib.hid hl
      replace hl2 := Lib.hid hl2
      clear hany hflat
      go_enter Try.func41, Try.ntmps41
      go_wp2_with fail
      refine (hm1 _ (Ext.refl _)).mono ?_
      rintro e w1 ⟨rfl, rfl⟩
      go_wp2_with fail
      refine (hm2 _ (Ext.refl _)).mono ?_
      rintro e w1 ⟨rfl, rfl⟩
      go_wp2_with fail
      go_ret
      exact ⟨rfl, Ext.refl _⟩
  · rw [Bool.true_or, if_pos rfl]
    rw [h1] at hm1
    replace h1 := Lib.hid h1
    replace hl := Lib.hid hl
    replace hl2 := Lib.hid hl2
    clear hany hflat hm2
    go_enter Try.func41, Try.ntmps41
    go_wp2_with fail
    refine (hm1 _ (Ext.refl _)).mono ?_
    rintro e w1 ⟨rfl, rfl⟩
    go_wp2_with fail
    go_ret
    exact ⟨rfl, Ext.refl _⟩
end Go.Proofs.Ytkdancoffmhjhaa
