/-
  The law ProtoCands: the walk.
-/
import Derived.Test.YtdloabjnjnjacaaDoorLx
import Derived.Test.YtdloabjnjnjacaaDoorCw
namespace Go.Proofs.YtdloabjnjnjacaaDoor
open Go.RowKit Go.Shelf
set_option maxHeartbeats 4000000 in
set_option maxRecDepth 20000 in
theorem protoCands_any (a : Option Addr) (m cap : Nat) (l : List HCo) (w : World) (hr : RdH w a m cap l) (hT : TabOk w) :
    Calls Tryd.prog 13 #[.slice a m cap] w fun e w' => e = .returned (.bool true) ∧ Ext w w' := by
  have hmm := len_int' hr.rd
  have hp := pcands_any a m cap l w hr
  have hq := fun W (z : Ext w W) => rcands_any a m cap l W (hr.ext z)
  unfold CandRet at hp hq
  by_cases h1 : 60 < m ∧ m ≤ 4096
  · have d1 : decide (60 < m) = true := by simpa using h1.1
    have d2 : decide (m ≤ 4096) = true := by simpa using h1.2
    have d3 : decide ((60 : Int) < (m : Int)) = true := by simp; omega
    have d4 : decide ((m : Int) ≤ 4096) = true := by simp; omega
    clear hp hq
    go_enter Tryd.func13, Tryd.ntmps13
    go_wp2_with fail
    refine (works_any _ (hT.ext (by repeat (first | exact Ext.refl _ | assumption | refine Ext.drew ?_ | refine Ext.drewN ?_ _ | refine Ext.alloc ?_ _ | refine Ext.trans ?_ (by assumption))))).mono ?_
    rintro e wz ⟨rfl, hxz⟩
    go_wp2_with fail
    go_ret
    exact ⟨rfl, (by repeat (first | exact Ext.refl _ | assumption | refine Ext.drew ?_ | refine Ext.drewN ?_ _ | refine Ext.alloc ?_ _ | refine Ext.trans ?_ (by assumption)))⟩
  by_cases h2 : 5000 < m
  · have d1 : decide (60 < m) = true := by simp; omega
    have d2 : decide (m ≤ 4096) = false := by simp; omega
    have d3 : decide ((60 : Int) < (m : Int)) = true := by simp; omega
    have d4 : decide ((m : Int) ≤ 4096) = false := by simp; omega
    have d5 : decide (5000 < m) = true := by simpa using h2
    have d6 : decide ((5000 : Int) < (m : Int)) = true := by simp; omega
    clear hp hq
    go_enter Tryd.func13, Tryd.ntmps13
    go_wp2_with fail
    refine (works_any _ (hT.ext (by repeat (first | exact Ext.refl _ | assumption | refine Ext.drew ?_ | refine Ext.drewN ?_ _ | refine Ext.alloc ?_ _ | refine Ext.trans ?_ (by assumption))))).mono ?_
    rintro e wz ⟨rfl, hxz⟩
    go_wp2_with fail
    go_ret
    exact ⟨rfl, (by repeat (first | exact Ext.refl _ | assumption | refine Ext.drew ?_ | refine Ext.drewN ?_ _ | refine Ext.alloc ?_ _ | refine Ext.trans ?_ (by assumption)))⟩
  have d5 : decide (5000 < m) = false := by simpa using h2
  have d6 : decide ((5000 : Int) < (m : Int)) = false := by simp; omega
  have hnes := neq_snd
  by_cases h3 : m ≤ 60
  · have d1 : decide (60 < m) = false := by simp; omega
    have d3 : decide ((60 : Int) < (m : Int)) = false := by simp; omega
    clear h1 h2 h3
    go_enter Tryd.func13, Tryd.ntmps13
    go_wp2_with fail
    refine hp.mono ?_
    rintro e w1 ⟨v1, L1, rfl, ho1, hs1, hn1, hx1⟩
    obtain ⟨a1, n1, c1, e1, rfl, hr1⟩ := OwnK.rdn Snd.len ho1
    replace e1 := Lib.hid e1
    replace hs1 := Lib.hid hs1
    replace hn1 := Lib.hid hn1
    have hq1 := hq _ hx1
    clear hp hq ho1
    go_wp2_with fail
    refine hq1.mono ?_
    rintro e w2 ⟨v2, L2, rfl, ho2, hs2, hn2, hx2⟩
    have hL : L2 = L1 := by
      by_cases h0 : chkE [l] = 0
      · exact SrtOf.uniq cmpS_tot (hs2 h0) (hs1.out h0)
      · rw [hn2 h0, hn1.out h0]
    subst hL
    obtain ⟨a2, n2, c2, e2, rfl, hr2⟩ := OwnK.rdn Snd.len ho2
    obtain rfl : n1 = n2 := by rw [e1.out, e2]
    have hr1' := hr1.ext hx2
    have hxw2 := hx1.trans hx2
    have hm1 := len_int' hr2
    generalize chkE [l] = er at *
    clear hq1 hs1 hn1 hs2 hn2 ho2 e1 e2 hr1 hx1 hx2
    go_wp2_with fail
    go_loopw [7] (fun i wr => ∃ j : Nat, j ≤ n1 ∧ i = .int .i64 j ∧ Ext w2 wr) (fun i _ => n1 - (intOf i).toNat)
    case atStart => exact ⟨0, Nat.zero_le _, rfl, Ext.refl _⟩
    case round =>
      obtain ⟨j, hj, rfl, hxr⟩ := hrel
      by_cases hlt : j < n1
      · obtain ⟨b1, o1, s1, rfl, hs1, hb1, p0, p1⟩ := (hr1'.ext hxr).snd hlt
        obtain ⟨b2, o2, s2, rfl, hs2, hb2, q0, q1⟩ := (hr2.ext hxr).snd hlt
        obtain rfl : s1 = s2 := by have := hs1.out; rw [hs2.out] at this; exact (Option.some.inj this).symm
        have hji : (j : Int) < (n1 : Int) := by omega
        have hdd : decide (s1 = s1) = true := by simp
        have r0 := fun z : ExtOf wr => z.cell p0
        have r1 := fun z : ExtOf wr => z.cell p1
        have r2 := fun z : ExtOf wr => z.cell q0
        have r3 := fun z : ExtOf wr => z.cell q1
        go_wp2_with fail
        (refine wp_region_qx (by kernel_rfl) (by kernel_rfl) ?_
         repeat (go_big_quiet_step (fail))
         refine wpQuiet_nil ?_
         intro wq hw'
         have hxq := ext_of_ex hw'
         clear hw')
        go_wp2_with fail
        (first | exact ⟨⟨j + 1, by omega, by go_num, hxr.trans hxq⟩, (by simp [intOf]; omega)⟩ | (go_roundw; case rel => exact ⟨j + 1, by omega, by go_num, hxr.trans hxq⟩; case measure => exact (by simp [intOf]; omega)))
      · obtain rfl : n1 = j := by omega
        have hxw := hxw2.trans hxr
        go_wp2_with fail
        refine (works_any _ (hT.ext hxw)).mono ?_
        rintro e wz ⟨rfl, hxz⟩
        go_wp2_with fail
        go_ret
        exact ⟨rfl, hxw.trans hxz⟩
  · have d1 : decide (60 < m) = true := by simp; omega
    have d3 : decide ((60 : Int) < (m : Int)) = true := by simp; omega
    have d2 : decide (m ≤ 4096) = false := by simp; omega
    have d4 : decide ((m : Int) ≤ 4096) = false := by simp; omega
    clear h1 h2 h3
    go_enter Tryd.func13, Tryd.ntmps13
    go_wp2_with fail
    refine hp.mono ?_
    rintro e w1 ⟨v1, L1, rfl, ho1, hs1, hn1, hx1⟩
    obtain ⟨a1, n1, c1, e1, rfl, hr1⟩ := OwnK.rdn Snd.len ho1
    replace e1 := Lib.hid e1
    replace hs1 := Lib.hid hs1
    replace hn1 := Lib.hid hn1
    have hq1 := hq _ hx1
    clear hp hq ho1
    go_wp2_with fail
    refine hq1.mono ?_
    rintro e w2 ⟨v2, L2, rfl, ho2, hs2, hn2, hx2⟩
    have hL : L2 = L1 := by
      by_cases h0 : chkE [l] = 0
      · exact SrtOf.uniq cmpS_tot (hs2 h0) (hs1.out h0)
      · rw [hn2 h0, hn1.out h0]
    subst hL
    obtain ⟨a2, n2, c2, e2, rfl, hr2⟩ := OwnK.rdn Snd.len ho2
    obtain rfl : n1 = n2 := by rw [e1.out, e2]
    have hr1' := hr1.ext hx2
    have hxw2 := hx1.trans hx2
    have hm1 := len_int' hr2
    generalize chkE [l] = er at *
    clear hq1 hs1 hn1 hs2 hn2 ho2 e1 e2 hr1 hx1 hx2
    go_wp2_with fail
    go_loopw [7] (fun i wr => ∃ j : Nat, j ≤ n1 ∧ i = .int .i64 j ∧ Ext w2 wr) (fun i _ => n1 - (intOf i).toNat)
    case atStart => exact ⟨0, Nat.zero_le _, rfl, Ext.refl _⟩
    case round =>
      obtain ⟨j, hj, rfl, hxr⟩ := hrel
      by_cases hlt : j < n1
      · obtain ⟨b1, o1, s1, rfl, hs1, hb1, p0, p1⟩ := (hr1'.ext hxr).snd hlt
        obtain ⟨b2, o2, s2, rfl, hs2, hb2, q0, q1⟩ := (hr2.ext hxr).snd hlt
        obtain rfl : s1 = s2 := by have := hs1.out; rw [hs2.out] at this; exact (Option.some.inj this).symm
        have hji : (j : Int) < (n1 : Int) := by omega
        have hdd : decide (s1 = s1) = true := by simp
        have r0 := fun z : ExtOf wr => z.cell p0
        have r1 := fun z : ExtOf wr => z.cell p1
        have r2 := fun z : ExtOf wr => z.cell q0
        have r3 := fun z : ExtOf wr => z.cell q1
        go_wp2_with fail
        (refine wp_region_qx (by kernel_rfl) (by kernel_rfl) ?_
         repeat (go_big_quiet_step (fail))
         refine wpQuiet_nil ?_
         intro wq hw'
         have hxq := ext_of_ex hw'
         clear hw')
        go_wp2_with fail
        (first | exact ⟨⟨j + 1, by omega, by go_num, hxr.trans hxq⟩, (by simp [intOf]; omega)⟩ | (go_roundw; case rel => exact ⟨j + 1, by omega, by go_num, hxr.trans hxq⟩; case measure => exact (by simp [intOf]; omega)))
      · obtain rfl : n1 = j := by omega
        have hxw := hxw2.trans hxr
        go_wp2_with fail
        refine (works_any _ (hT.ext hxw)).mono ?_
        rintro e wz ⟨rfl, hxz⟩
        go_wp2_with fail
        go_ret
        exact ⟨rfl, hxw.trans hxz⟩
end Go.Proofs.YtdloabjnjnjacaaDoor
