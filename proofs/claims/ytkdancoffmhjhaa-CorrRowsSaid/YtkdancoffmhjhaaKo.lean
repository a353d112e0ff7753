/-
  The order of correspondences: the reference's.
-/
import Derived.Test.YtkdancoffmhjhaaSo
import Derived.Test.YtkdancoffmhjhaaCk
namespace Go.Proofs.Ytkdancoffmhjhaa
open Go.RowKit
section
variable {x y : List Cl} {k : Nat} {c d : Cl}
theorem drop_cons {α : Type} {l : List α} {k : Nat} {y : α} (h : l[k]? = some y) : l.drop k = y :: l.drop (k + 1) := by
  obtain ⟨h1, h2⟩ := List.getElem?_eq_some_iff.1 h
  rw [List.drop_eq_getElem_cons h1, h2]
theorem cmpCs_step (h : cmpCs x y = cmpCs (x.drop k) (y.drop k)) (hx : x[k]? = some c) (hy : y[k]? = some d) : cmpCs x y = if cmpC c d = 0 then cmpCs (x.drop (k + 1)) (y.drop (k + 1)) else cmpC c d := by
  rw [h, drop_cons hx, drop_cons hy]; rfl
theorem cmpC_kind (h : ¬ c.kind = d.kind) : cmpC c d = cmpI c.kind d.kind ∧ cmpC c d ≠ 0 := by
  have h0 : ¬ cmpI c.kind d.kind = 0 := fun e => h (cmpI_tot.zero e)
  have : cmpC c d = cmpI c.kind d.kind := by unfold cmpC; rw [if_neg h0]
  exact ⟨this, by rw [this]; exact h0⟩
theorem cmpC_same (h : c.kind = d.kind) : cmpC c d = cmpS c.s d.s := by unfold cmpC; rw [cmpI_eq h, if_pos rfl]
end
set_option maxHeartbeats 2000000 in
theorem rcord_any (a : Option Addr) (n cap : Nat) (x : List Cl) (b : Option Addr) (m cap2 : Nat) (y : List Cl) (w : World) (hr : RdC w a n cap x) (hs : RdC w b m cap2 y) :
    Calls Try.prog 19 #[.slice a n cap, .slice b m cap2] w fun e w' => e = .returned (.int .i64 (cmpCs x y)) ∧ Ext w w' := by
  have hl := hr.len
  have hl2 := hs.len
  have hm1 := len_int' hr
  have hm2 := len_int' hs
  replace hl := Lib.hid hl
  replace hl2 := Lib.hid hl2
  go_enter Try.func19, Try.ntmps19
  go_wp2_with fail
  go_loopw [5, 6] (fun i _ wr => ∃ k : Nat, k ≤ n ∧ k ≤ m ∧ i = .int .i64 k ∧ Hid (cmpCs x y = cmpCs (x.drop k) (y.drop k)) ∧ Ext w wr) (fun i _ _ => n - (intOf i).toNat)
  case atStart => exact ⟨0, Nat.zero_le _, Nat.zero_le _, rfl, Lib.hid rfl, Ext.refl _⟩
  case round =>
    obtain ⟨k, hk, hk2, rfl, hc, hx⟩ := hrel
    by_cases h1 : k < n
    · have e1 : decide (k < n) = true := by simpa using h1
      have i1 : (k : Int) < (n : Int) := by omega
      by_cases h2 : k < m
      · have e2 : decide (k < m) = true := by simpa using h2
        have i2 : (k : Int) < (m : Int) := by omega
        obtain ⟨b1, o1, c, rfl, hcc, hb1, p0, p1, p2⟩ := (hr.ext hx).cl h1
        obtain ⟨b2, o2, d, rfl, hdd, hb2, q0, q1, q2⟩ := (hs.ext hx).cl h2
        have hst := Lib.hid (cmpCs_step hc.out hcc.out hdd.out)
        have r0 := fun z : ExtOf wr => z.cell p0
        have r1 := fun z : ExtOf wr => z.cell q0
        by_cases hkd : c.kind = d.kind
        · have e3 : (c.kind != d.kind) = false := by simpa using hkd
          have hsm := Lib.hid (cmpC_same hkd)
          replace hkd := Lib.hid hkd
          go_wp2_with fail
          (refine wp_region_qx (by kernel_rfl) (by kernel_rfl) ?_
           repeat (go_big_quiet_step (fail))
           refine wpQuiet_nil ?_
           intro wq hw'
           have hxq := ext_of_ex hw'
           clear hw')
          have p1' := hxq.cellv p1
          have p2' := hxq.cellv p2
          have q1' := hxq.cellv q1
          have q2' := hxq.cellv q2
          have hxq1 := hx.trans hxq
          clear r0 r1 p0 p1 p2 q0 q1 q2 hxq
          have r0 := fun z : ExtOf wq => z.cell p1'
          have r1 := fun z : ExtOf wq => z.cell p2'
          have r2 := fun z : ExtOf wq => z.cell q1'
          have r3 := fun z : ExtOf wq => z.cell q2'
          obtain ⟨wo, hwo⟩ : ∃ wo : World, wo = wq := ⟨_, rfl⟩
          by_cases hz : cmpS c.s d.s = 0
          · have e4 : (cmpS c.s d.s != 0) = false := by simp [hz]
            have hnew : Hid (cmpCs x y = cmpCs (x.drop (k + 1)) (y.drop (k + 1))) := Lib.hid (by rw [hst.out, hsm.out, if_pos hz])
            replace hz := Lib.hid hz
            replace hwo := Lib.hid hwo
            go_wp2_with fail
            (refine wp_region_qx (by kernel_rfl) (by kernel_rfl) ?_
             repeat (go_big_quiet_step ((go_at_call 47; exact calls_ext (rorder_any _ _ _))))
             refine wpQuiet_nil ?_
             intro wq hw'
             have hxq := ext_of_ex hw'
             clear hw')
            go_wp2_with fail
            (first | exact ⟨⟨k + 1, by omega, by omega, by go_num, hnew, hxq1.trans (by rw [hwo.out] at *; exact hxq)⟩, (by simp [intOf]; omega)⟩ | (go_roundw; case rel => exact ⟨k + 1, by omega, by omega, by go_num, hnew, hxq1.trans (by rw [hwo.out] at *; exact hxq)⟩; case measure => exact (by simp [intOf]; omega)))
          · have e4 : (cmpS c.s d.s != 0) = true := by simp [hz]
            have hfin : Hid (cmpS c.s d.s = cmpCs x y) := Lib.hid (by rw [hst.out, hsm.out, if_neg hz])
            replace hz := Lib.hid hz
            replace hwo := Lib.hid hwo
            go_wp2_with fail
            (refine wp_region_qx (by kernel_rfl) (by kernel_rfl) ?_
             repeat (go_big_quiet_step ((go_at_call 47; exact calls_ext (rorder_any _ _ _))))
             refine wpQuiet_nil ?_
             intro wq hw'
             have hxq := ext_of_ex hw'
             clear hw')
            go_wp2_with fail
            go_ret
            exact ⟨ret_int hfin.out, hxq1.trans hxq⟩
        · have e3 : (c.kind != d.kind) = true := by simpa using hkd
          obtain ⟨hkc, hkn⟩ := cmpC_kind hkd
          have hfin : Hid (cmpCs x y = cmpI c.kind d.kind) := Lib.hid (by rw [hst.out, if_neg hkn, hkc])
          replace hkd := Lib.hid hkd
          clear hkc hkn
          by_cases hlt : c.kind < d.kind
          · have e4 : decide (c.kind < d.kind) = true := by simpa using hlt
            have hfin2 : Hid (-1 = cmpCs x y) := Lib.hid (by rw [hfin.out, cmpI_lt hlt])
            replace hlt := Lib.hid hlt
            go_wp2_with fail
            (refine wp_region_qx (by kernel_rfl) (by kernel_rfl) ?_
             repeat (go_big_quiet_step (fail))
             refine wpQuiet_nil ?_
             intro wq hw'
             have hxq := ext_of_ex hw'
             clear hw')
            have hxq1 := hx.trans hxq
            have p0' := hxq.cellv p0
            have q0' := hxq.cellv q0
            clear r0 r1 hxq
            have r0 := fun z : ExtOf wq => z.cell p0'
            have r1 := fun z : ExtOf wq => z.cell q0'
            obtain ⟨wo, hwo⟩ : ∃ wo : World, wo = wq := ⟨_, rfl⟩
            replace hwo := Lib.hid hwo
            go_wp2_with fail
            (refine wp_region_qx (by kernel_rfl) (by kernel_rfl) ?_
             repeat (go_big_quiet_step (fail))
             refine wpQuiet_nil ?_
             intro wq hw'
             have hxq := ext_of_ex hw'
             clear hw')
            go_wp2_with fail
            go_ret
            exact ⟨ret_int hfin2.out, hxq1.trans hxq⟩
          · have e4 : decide (c.kind < d.kind) = false := by simpa using hlt
            have hfin2 : Hid (1 = cmpCs x y) := Lib.hid (by rw [hfin.out, cmpI_gt (by have := hkd.out; omega)])
            replace hlt := Lib.hid hlt
            go_wp2_with fail
            (refine wp_region_qx (by kernel_rfl) (by kernel_rfl) ?_
             repeat (go_big_quiet_step (fail))
             refine wpQuiet_nil ?_
             intro wq hw'
             have hxq := ext_of_ex hw'
             clear hw')
            have hxq1 := hx.trans hxq
            have p0' := hxq.cellv p0
            have q0' := hxq.cellv q0
            clear r0 r1 hxq
            have r0 := fun z : ExtOf wq => z.cell p0'
            have r1 := fun z : ExtOf wq => z.cell q0'
            obtain ⟨wo, hwo⟩ : ∃ wo : World, wo = wq := ⟨_, rfl⟩
            replace hwo := Lib.hid hwo
            go_wp2_with fail
            (refine wp_region_qx (by kernel_rfl) (by kernel_rfl) ?_
             repeat (go_big_quiet_step (fail))
             refine wpQuiet_nil ?_
             intro wq hw'
             have hxq := ext_of_ex hw'
             clear hw')
            go_wp2_with fail
            go_ret
            exact ⟨ret_int hfin2.out, hxq1.trans hxq⟩
      · have e2 : decide (k < m) = false := by simpa using h2
        have e5 : decide (n < m) = false := by simp; omega
        have e6 : decide (m < n) = true := by simp; omega
        have hfin : Hid (1 = cmpCs x y) := Lib.hid (by
          obtain ⟨c, hcc⟩ : ∃ c, x[k]? = some c := ⟨x[k]'(by rw [hl.out]; omega), List.getElem?_eq_getElem _⟩
          rw [hc.out, drop_cons hcc, List.drop_of_length_le (l := y) (by rw [hl2.out]; omega)]; rfl)
        go_wp2_with fail
        go_ret
        exact ⟨ret_int hfin.out, hx⟩
    · have e1 : decide (k < n) = false := by simpa using h1
      by_cases h2 : k < m
      · have e5 : decide (n < m) = true := by simp; omega
        have hfin : Hid (-1 = cmpCs x y) := Lib.hid (by
          obtain ⟨d, hdd⟩ : ∃ c, y[k]? = some c := ⟨y[k]'(by rw [hl2.out]; omega), List.getElem?_eq_getElem _⟩
          rw [hc.out, drop_cons hdd, List.drop_of_length_le (l := x) (by rw [hl.out]; omega)]; rfl)
        go_wp2_with fail
        go_ret
        exact ⟨ret_int hfin.out, hx⟩
      · have e5 : decide (n < m) = false := by simp; omega
        have e6 : decide (m < n) = false := by simp; omega
        have hfin : Hid (0 = cmpCs x y) := Lib.hid (by
          rw [hc.out, List.drop_of_length_le (l := x) (by rw [hl.out]; omega), List.drop_of_length_le (l := y) (by rw [hl2.out]; omega)]; rfl)
        go_wp2_with fail
        go_ret
        exact ⟨ret_int hfin.out, hx⟩
end Go.Proofs.Ytkdancoffmhjhaa
