/-
  The law's own functions: the cells of the examples, equal, Same, few, works.
-/
import Derived.Test.YtkdancoffmhjhaaKx
import Derived.Test.YtkdancoffmhjhaaKc2
namespace Go.Proofs.Ytkdancoffmhjhaa
open Go.RowKit Go.Shelf
def gapC : Cl := ⟨1, ⟨0#32, 0#32⟩⟩
def cP : Cl := ⟨2, ⟨2#32, 5#32⟩⟩
def cB : Cl := ⟨2, ⟨3#32, 4#32⟩⟩
def cA : Cl := ⟨2, ⟨5#32, 2#32⟩⟩
theorem lp_any (w : World) : Calls Try.prog 37 #[] w fun e w' => e = .returned (clV cP) ∧ Ext w w' := by
  go_enter Try.func37, Try.ntmps37
  go_wp2_with fail
  exact bodyPost_ret (results_cell_row rfl _ _ w.heap.size _ _ (0, 0) _ rfl (World.alloc_heap_new w _) Try.underlying39 rfl (by kernel_rfl)) rfl ⟨rfl, (by repeat (first | exact Ext.refl _ | assumption | refine Ext.drew ?_ | refine Ext.drewN ?_ _ | refine Ext.alloc ?_ _ | refine Ext.trans ?_ (by assumption)))⟩
theorem lb_any (w : World) : Calls Try.prog 38 #[] w fun e w' => e = .returned (clV cB) ∧ Ext w w' := by
  go_enter Try.func38, Try.ntmps38
  go_wp2_with fail
  exact bodyPost_ret (results_cell_row rfl _ _ w.heap.size _ _ (0, 0) _ rfl (World.alloc_heap_new w _) Try.underlying39 rfl (by kernel_rfl)) rfl ⟨rfl, (by repeat (first | exact Ext.refl _ | assumption | refine Ext.drew ?_ | refine Ext.drewN ?_ _ | refine Ext.alloc ?_ _ | refine Ext.trans ?_ (by assumption)))⟩
theorem la_any (w : World) : Calls Try.prog 39 #[] w fun e w' => e = .returned (clV cA) ∧ Ext w w' := by
  go_enter Try.func39, Try.ntmps39
  go_wp2_with fail
  exact bodyPost_ret (results_cell_row rfl _ _ w.heap.size _ _ (0, 0) _ rfl (World.alloc_heap_new w _) Try.underlying39 rfl (by kernel_rfl)) rfl ⟨rfl, (by repeat (first | exact Ext.refl _ | assumption | refine Ext.drew ?_ | refine Ext.drewN ?_ _ | refine Ext.alloc ?_ _ | refine Ext.trans ?_ (by assumption)))⟩
theorem lgap_any (w : World) : Calls Try.prog 40 #[] w fun e w' => e = .returned (clV gapC) ∧ Ext w w' := by
  go_enter Try.func40, Try.ntmps40
  go_wp2_with fail
  exact bodyPost_ret (results_cell_row rfl _ _ w.heap.size _ _ (0, 0) _ rfl (World.alloc_heap_new w _) Try.underlying39 rfl (by kernel_rfl)) rfl ⟨rfl, (by repeat (first | exact Ext.refl _ | assumption | refine Ext.drew ?_ | refine Ext.drewN ?_ _ | refine Ext.alloc ?_ _ | refine Ext.trans ?_ (by assumption)))⟩
set_option maxHeartbeats 1000000 in
theorem lequal_any (a : Option Addr) (n cap : Nat) (xs : List Cl) (b : Option Addr) (m cap2 : Nat) (ys : List Cl) (w : World) (hr : RdC w a n cap xs) (hs : RdC w b m cap2 ys) :
    Calls Try.prog 36 #[.slice a n cap, .slice b m cap2] w fun e w' => e = .returned (.bool (decide (xs = ys))) ∧ Ext w w' := by
  have he := neq_cl
  have hl := hr.len
  have hl2 := hs.len
  have hmax : n ≤ 9223372036854775807 := by have := hr.le; have := hr.most; unfold maxLen at this; omega
  have hmax2 : m ≤ 9223372036854775807 := by have := hs.le; have := hs.most; unfold maxLen at this; omega
  by_cases hnm : n = m
  · have hd : ((n : Int) != (m : Int)) = false := by simp [hnm]
    subst hnm
    replace hl := Lib.hid hl
    replace hl2 := Lib.hid hl2
    go_enter Try.func36, Try.ntmps36
    go_wp2_with fail
    go_loopw [5] (fun i wr => ∃ j : Nat, j ≤ n ∧ i = .int .i64 j ∧ Ext w wr ∧ Hid (xs.take j = ys.take j)) (fun i _ => n - (intOf i).toNat)
    case atStart => exact ⟨0, Nat.zero_le _, rfl, Ext.refl _, rfl⟩
    case round =>
      obtain ⟨j, hj, rfl, hx, hall⟩ := hrel
      by_cases hlt : j < n
      · obtain ⟨b1, o1, c, rfl, hc, hb1, p0, p1, p2⟩ := (hr.ext hx).cl hlt
        obtain ⟨b2, o2, d, rfl, hd2, hb2, q0, q1, q2⟩ := (hs.ext hx).cl hlt
        have r0 := fun z : ExtOf wr => z.cell p0
        have r1 := fun z : ExtOf wr => z.cell p1
        have r2 := fun z : ExtOf wr => z.cell p2
        have r3 := fun z : ExtOf wr => z.cell q0
        have r4 := fun z : ExtOf wr => z.cell q1
        have r5 := fun z : ExtOf wr => z.cell q2
        by_cases hcd : c = d
        · have hdd : decide (c = d) = true := by simpa using hcd
          have hnew := Lib.hid (eq_succ hall.out hc.out (by rw [hcd]; exact hd2.out))
          replace hcd := Lib.hid hcd
          go_wp2_with fail
          (refine wp_region_qx (by kernel_rfl) (by kernel_rfl) ?_
           repeat (go_big_quiet_step (fail))
           refine wpQuiet_nil ?_
           intro wq hw'
           have hxq := ext_of_ex hw'
           clear hw')
          go_wp2_with fail
          (first | exact ⟨⟨j + 1, by omega, by go_num, hx.trans hxq, hnew⟩, (by simp [intOf]; omega)⟩ | (go_roundw; case rel => exact ⟨j + 1, by omega, by go_num, hx.trans hxq, hnew⟩; case measure => exact (by simp [intOf]; omega)))
        · have hdd : decide (c = d) = false := by simpa using hcd
          have hne := Lib.hid (ne_at hc.out hd2.out hcd)
          replace hcd := Lib.hid hcd
          go_wp2_with fail
          (refine wp_region_qx (by kernel_rfl) (by kernel_rfl) ?_
           repeat (go_big_quiet_step (fail))
           refine wpQuiet_nil ?_
           intro wq hw'
           have hxq := ext_of_ex hw'
           clear hw')
          go_wp2_with fail
          go_ret
          exact ⟨ret_bool (by simpa using hne.out), hx.trans hxq⟩
      · have heq := Lib.hid (eq_end hl.out hl2.out hlt hall.out)
        go_wp2_with fail
        go_ret
        exact ⟨ret_bool (by simpa using heq.out), hx⟩
  · have hd : ((n : Int) != (m : Int)) = true := by simp; omega
    have hne := Lib.hid (ne_len hl hl2 hnm)
    replace hl := Lib.hid hl
    replace hl2 := Lib.hid hl2
    go_enter Try.func36, Try.ntmps36
    go_wp2_with fail
    go_ret
    exact ⟨ret_bool (by simpa using hne.out), Ext.refl _⟩
theorem few_any (a : Option Addr) (n cap : Nat) (w : World) (hn : n ≤ 9223372036854775807) :
    Calls Try.prog 21 #[.slice a n cap] w fun e w' => e = .returned (.bool (decide (n ≤ 60 ∨ 4096 < n ∧ n ≤ 5000))) ∧ w' = w := by
  by_cases h1 : n ≤ 60
  · have d1 : decide ((n : Int) ≤ 60) = true := by simp; omega
    go_enter Try.func21, Try.ntmps21
    go_wp2_with fail
    go_ret
    exact ⟨ret_bool (by simp; omega), rfl⟩
  · have d1 : decide ((n : Int) ≤ 60) = false := by simp; omega
    by_cases h2 : 4096 < n
    · have d2 : decide ((4096 : Int) < (n : Int)) = true := by simp; omega
      go_enter Try.func21, Try.ntmps21
      go_wp2_with fail
      go_ret
      exact ⟨ret_bool (by rw [Bool.eq_iff_iff]; simp; omega), rfl⟩
    · have d2 : decide ((4096 : Int) < (n : Int)) = false := by simp; omega
      go_enter Try.func21, Try.ntmps21
      go_wp2_with fail
      go_ret
      exact ⟨ret_bool (by rw [Bool.eq_iff_iff]; simp; omega), rfl⟩
theorem kp_succ {l m : List HCo} {j : Nat} {y z : HCo} (h : (l.take j).map kp = (m.take j).map kp) (hy : l[j]? = some y) (hz : m[j]? = some z) (hc : y.cnt = z.cnt) (hx : y.x = z.x) : (l.take (j + 1)).map kp = (m.take (j + 1)).map kp := by
  rw [take_succ_at hy, take_succ_at hz, List.map_append, List.map_append, h]
  simp [kp, hc, hx]
theorem kp_ne {l m : List HCo} {j : Nat} {y z : HCo} (hy : l[j]? = some y) (hz : m[j]? = some z) (h : ¬ (y.cnt = z.cnt ∧ y.x = z.x)) : l.map kp ≠ m.map kp := fun e => by
  have h1 : (l.map kp)[j]? = some (kp y) := by rw [List.getElem?_map, hy]; rfl
  have h2 : (m.map kp)[j]? = some (kp z) := by rw [List.getElem?_map, hz]; rfl
  rw [e, h2] at h1
  have := Option.some.inj h1
  simp only [kp, Prod.mk.injEq] at this
  exact h ⟨this.2.symm, this.1.symm⟩
set_option maxHeartbeats 1000000 in
theorem same_any (a : Option Addr) (n cap : Nat) (l : List HCo) (b : Option Addr) (m cap2 : Nat) (l2 : List HCo) (w : World) (hr : RdH w a n cap l) (hs : RdH w b m cap2 l2) :
    Calls Try.prog 20 #[.slice a n cap, .slice b m cap2] w fun e w' => e = .returned (.bool (decide (l.map kp = l2.map kp))) ∧ Ext w w' := by
  have hl := hr.rd.len
  have hl2 := hs.rd.len
  have hmax : n ≤ 9223372036854775807 := by have := hr.rd.le; have := hr.rd.most; unfold maxLen at this; omega
  have hmax2 : m ≤ 9223372036854775807 := by have := hs.rd.le; have := hs.rd.most; unfold maxLen at this; omega
  by_cases hnm : n = m
  · have hd : ((n : Int) != (m : Int)) = false := by simp [hnm]
    subst hnm
    replace hl := Lib.hid hl
    replace hl2 := Lib.hid hl2
    go_enter Try.func20, Try.ntmps20
    go_wp2_with fail
    go_loopw [5] (fun i wr => ∃ j : Nat, j ≤ n ∧ i = .int .i64 j ∧ Ext w wr ∧ Hid ((l.take j).map kp = (l2.take j).map kp)) (fun i _ => n - (intOf i).toNat)
    case atStart => exact ⟨0, Nat.zero_le _, rfl, Ext.refl _, rfl⟩
    case round =>
      obtain ⟨j, hj, rfl, hx, hall⟩ := hrel
      by_cases hlt : j < n
      · obtain ⟨b1, o1, y, rfl, hy, hb1, p0, p1, pr⟩ := (hr.ext hx).at hlt
        obtain ⟨b2, o2, z, rfl, hz, hb2, q0, q1, qr⟩ := (hs.ext hx).at hlt
        have hji : (j : Int) < (n : Int) := by omega
        have r0 := fun z : ExtOf wr => z.cell p0
        have r1 := fun z : ExtOf wr => z.cell p1
        have r2 := fun z : ExtOf wr => z.cell q0
        have r3 := fun z : ExtOf wr => z.cell q1
        by_cases hcd : y.cnt = z.cnt
        · have hdd : (y.cnt != z.cnt) = false := by simpa using hcd
          have hce := fun u : ExtOf wr => lequal_any y.a y.n y.cap y.x z.a z.n z.cap z.x u.w (pr.ext u.h) (qr.ext u.h)
          by_cases hxe : y.x = z.x
          · have hxd : decide (y.x = z.x) = true := by simpa using hxe
            have hnew := Lib.hid (kp_succ hall.out hy.out hz.out hcd hxe)
            rw [hxd] at hce
            replace hcd := Lib.hid hcd
            replace hxe := Lib.hid hxe
            go_wp2_with fail
            (refine wp_region_qx (by kernel_rfl) (by kernel_rfl) ?_
             repeat (go_big_quiet_step (exact calls_ext (hce _)))
             refine wpQuiet_nil ?_
             intro wq hw'
             have hxq := ext_of_ex hw'
             clear hw')
            go_wp2_with fail
            (first | exact ⟨⟨j + 1, by omega, by go_num, hx.trans hxq, hnew⟩, (by simp [intOf]; omega)⟩ | (go_roundw; case rel => exact ⟨j + 1, by omega, by go_num, hx.trans hxq, hnew⟩; case measure => exact (by simp [intOf]; omega)))
          · have hxd : decide (y.x = z.x) = false := by simpa using hxe
            have hne := Lib.hid (kp_ne hy.out hz.out (fun h => hxe h.2))
            rw [hxd] at hce
            replace hcd := Lib.hid hcd
            replace hxe := Lib.hid hxe
            go_wp2_with fail
            (refine wp_region_qx (by kernel_rfl) (by kernel_rfl) ?_
             repeat (go_big_quiet_step (exact calls_ext (hce _)))
             refine wpQuiet_nil ?_
             intro wq hw'
             have hxq := ext_of_ex hw'
             clear hw')
            go_wp2_with fail
            go_ret
            exact ⟨ret_bool (by simpa using hne.out), hx.trans hxq⟩
        · have hdd : (y.cnt != z.cnt) = true := by simpa using hcd
          have hne := Lib.hid (kp_ne hy.out hz.out (fun h => hcd h.1))
          replace hcd := Lib.hid hcd
          go_wp2_with fail
          (refine wp_region_qx (by kernel_rfl) (by kernel_rfl) ?_
           repeat (go_big_quiet_step (fail))
           refine wpQuiet_nil ?_
           intro wq hw'
           have hxq := ext_of_ex hw'
           clear hw')
          go_wp2_with fail
          go_ret
          exact ⟨ret_bool (by simpa using hne.out), hx.trans hxq⟩
      · have heq : Hid (l.map kp = l2.map kp) := Lib.hid (by
          have := hall.out
          rwa [List.take_of_length_le (by rw [hl.out]; omega), List.take_of_length_le (by rw [hl2.out]; omega)] at this)
        go_wp2_with fail
        go_ret
        exact ⟨ret_bool (by simpa using heq.out), hx⟩
  · have hd : ((n : Int) != (m : Int)) = true := by simp; omega
    have hne : Hid (l.map kp ≠ l2.map kp) := Lib.hid (fun e => hnm (by rw [← hl, ← hl2, ← List.length_map (f := kp), e, List.length_map]))
    replace hl := Lib.hid hl
    replace hl2 := Lib.hid hl2
    go_enter Try.func20, Try.ntmps20
    go_wp2_with fail
    go_ret
    exact ⟨ret_bool (by simpa using hne.out), Ext.refl _⟩
end Go.Proofs.Ytkdancoffmhjhaa
