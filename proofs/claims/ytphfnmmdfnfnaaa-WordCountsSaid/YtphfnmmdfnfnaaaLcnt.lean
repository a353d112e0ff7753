/-
  The statement WordCounts: the walk.
-/
import Derived.Test.YtphfnmmdfnfnaaaRd
import Derived.Test.YtphfnmmdfnfnaaaWu
namespace Go.Proofs.Ytphfnmmdfnfnaaa
open Go.RowKit
set_option maxRecDepth 20000 in
set_option maxHeartbeats 4000000 in
theorem wordCounts_any (a0 : Option Addr) (n0 c0 : Nat) (x0 : List Snd) (c : Snd) (w : World) (h0 : RdS w a0 n0 c0 x0) :
    Calls Try.prog 13 #[.slice a0 n0 c0, .agg #[.int .u32 c.p.toNat, .int .u32 c.m.toNat]] w fun e w' => e = .returned (.bool true) ∧ Below w.heap.size w w' := by
  by_cases l0 : n0 ≤ 300
  · have e0 : decide ((300 : Int) < n0) = false := by simp; omega
    go_enter Try.func13, Try.ntmps13
    go_wp2_with fail
    have xb : Ext w (w.alloc (.cells #[.int .u32 c.p.toNat, .int .u32 c.m.toNat] 39)) := Ext.alloc1 _ _
    have hq0 : (w.alloc (.cells #[.int .u32 c.p.toNat, .int .u32 c.m.toNat] 39)).cell? ⟨w.heap.size, 0, none⟩ = some (.int .u32 c.p.toNat) := by go_simp
    have hq1 : (w.alloc (.cells #[.int .u32 c.p.toNat, .int .u32 c.m.toNat] 39)).cell? ⟨w.heap.size, 1, none⟩ = some (.int .u32 c.m.toNat) := by go_simp
    refine (runs_any a0 n0 c0 x0 _ (h0.ext xb) (by omega)).mono ?_
    rintro e w1 ⟨vl, rfl, ol, y1⟩
    obtain ⟨al, nl, cl, hnl, rfl, rl⟩ := OwnK.rdn runEnc_len ol
    have hg0 := (y1.cell (p := ⟨w.heap.size, 0, none⟩) (cell_lt hq0)).trans hq0
    have hg1 := (y1.cell (p := ⟨w.heap.size, 1, none⟩) (cell_lt hq1)).trans hq1
    have b1 := ext_bel xb y1
    have h1 := h0.bel b1
    clear xb y1 hq0 hq1 ol
    replace hnl := Lib.hid hnl
    go_wp2_with fail
    refine (rruns_any a0 n0 c0 x0 _ h1 (by omega)).mono ?_
    rintro e w2 ⟨vm, rfl, om, y2⟩
    obtain ⟨am, nm, cm, hnm, rfl, rm⟩ := OwnK.rdn runEnc_len om
    have hnn : nm = nl := by rw [hnl.out]; exact hnm
    subst hnn
    have rl2 := rl.ext y2
    have hk0 := y2.cellv hg0
    have hk1 := y2.cellv hg1
    have b2 := bel_ext b1 y2
    have h2 := h1.ext y2
    have hnl2 : nm ≤ 300 := by have := runsL_le x0 n0; omega
    clear om rl y2 b1 h1 hg0 hg1 hnl
    replace hnm := Lib.hid hnm
    go_wp2_with fail
    go_loopw [7] (fun i wr => ∃ k : Nat, k ≤ nm ∧ i = .int .i64 k ∧ Ext w2 wr) (fun i _ => nm - (intOf i).toNat)
    case atStart => exact ⟨0, Nat.zero_le _, rfl, Ext.refl _⟩
    case round =>
      obtain ⟨k, hk, rfl, hx⟩ := hrel
      by_cases hlt : k < nm
      · obtain ⟨b1, f1, r1, ha1, hs1, hb1, hc1, hd1⟩ := (rl2.ext hx).run hlt
        obtain ⟨b2', f2, r2, ha2, hs2, hb2, hc2, hd2⟩ := (rm.ext hx).run hlt
        cases ha1
        cases ha2
        have hrr : r2 = r1 := by have := hs2.out.symm.trans hs1.out; exact Option.some.inj this
        subst hrr
        have he := neq_run
        go_wp2_with fail
        go_quiet (fail)
        go_wp2_with fail
        (first | exact ⟨⟨k + 1, by omega, by go_num, (by repeat (first | exact Ext.refl _ | assumption | refine Ext.drew ?_ | refine Ext.drewN ?_ _ | refine Ext.alloc ?_ _ | refine Ext.trans ?_ (by assumption)))⟩, (by simp [intOf]; omega)⟩ | (go_roundw; case rel => exact ⟨k + 1, by omega, by go_num, (by repeat (first | exact Ext.refl _ | assumption | refine Ext.drew ?_ | refine Ext.drewN ?_ _ | refine Ext.alloc ?_ _ | refine Ext.trans ?_ (by assumption)))⟩; case measure => exact (by simp [intOf]; omega)))
      · have f0 := fun x : ExtOf wr => x.cell (hx.cellv hk0)
        have f1 := fun x : ExtOf wr => x.cell (hx.cellv hk1)
        have h3 := h2.ext hx
        go_wp2_with fail
        (refine wp_region_qx (by kernel_rfl) (by kernel_rfl) ?_
         repeat (go_big_quiet_step ((first | (go_at_call 43; exact calls_ext (count_any _ _ _ x0 c _ (h3.ext (ExtOf.h _)))) | (go_at_call 44; exact calls_ext (rcount_any _ _ _ x0 c _ (h3.ext (ExtOf.h _)))) | (go_at_call 15; exact calls_ext (works_any _)))))
         refine wpQuiet_nil ?_
         intro wq hw'
         have hxq := ext_of_ex hw'
         clear hw')
        go_wp2_with fail
        go_ret
        exact ⟨rfl, bel_ext b2 (hx.trans hxq)⟩
  · have e0 : decide ((300 : Int) < n0) = true := by simp; omega
    go_enter Try.func13, Try.ntmps13
    go_wp2_with fail
    refine (works_any _).mono ?_
    rintro e wz ⟨rfl, hxz⟩
    go_wp2_with fail
    go_ret
    exact ⟨rfl, (show Ext w wz from (by repeat (first | exact Ext.refl _ | assumption | refine Ext.drew ?_ | refine Ext.drewN ?_ _ | refine Ext.alloc ?_ _ | refine Ext.trans ?_ (by assumption)))).bel⟩
end Go.Proofs.Ytphfnmmdfnfnaaa
