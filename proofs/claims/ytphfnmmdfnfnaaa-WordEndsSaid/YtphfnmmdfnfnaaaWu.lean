/-
  Walks of layer 2: Count of the program and of the reference.
-/
import Derived.Test.YtphfnmmdfnfnaaaWd
import Derived.Test.YtphfnmmdfnfnaaaQt
import Derived.Deep.QuietTactic
import Derived.Deep.RegionWith
namespace Go.Proofs.Ytphfnmmdfnfnaaa
open Go.RowKit
theorem andnot_zero (x y : BitVec 32) : (x &&& ~~~y == 0#32) = (y &&& x == x) := by
  rw [Bool.eq_iff_iff, beq_iff_eq, beq_iff_eq]
  constructor
  · intro h
    apply BitVec.eq_of_getLsbD_eq
    intro i hi
    have := congrArg (fun b => b.getLsbD i) h
    simp [hi] at this ⊢
    exact this
  · intro h
    apply BitVec.eq_of_getLsbD_eq
    intro i hi
    have := congrArg (fun b => b.getLsbD i) h
    simp [hi] at this ⊢
    exact this
theorem nat_andnot (x y : BitVec 32) : (x &&& ~~~y == 0#32) = decide (x.toNat &&& 4294967295 - y.toNat = 0) := by
  rw [Bool.eq_iff_iff, beq_iff_eq, decide_eq_true_eq, ← BitVec.toNat_inj]
  simp
theorem nat_andnot_no {x y : BitVec 32} (h : (x &&& ~~~y == 0#32) = false) : ¬ (x.toNat &&& 4294967295 - y.toNat = 0) := by
  rw [nat_andnot] at h; exact of_decide_eq_false h
theorem nat_andnot_yes {x y : BitVec 32} (h : (x &&& ~~~y == 0#32) = true) : x.toNat &&& 4294967295 - y.toNat = 0 := by
  rw [nat_andnot] at h; exact of_decide_eq_true h
theorem u32_beq (x y : BitVec 32) : ((x.toNat : Int) == (y.toNat : Int)) = (x == y) := by
  rw [Bool.eq_iff_iff, beq_iff_eq, beq_iff_eq]; exact u32_eq x y
/-- A sound that is counted. -/
def satS (c s : Snd) : Bool := s.ok && (c.p &&& ~~~s.p == 0#32) && (c.m &&& ~~~s.m == 0#32)
def countW (c : Snd) (xs : List Snd) : Nat := if c.ok then xs.countP (satS c) else 0
theorem count_yes {c s : Snd} {xs : List Snd} {k m : Nat} (h : m = (xs.take k).countP (satS c)) (hs : xs[k]? = some s) (hp : satS c s = true) : m + 1 = (xs.take (k + 1)).countP (satS c) := by
  rw [← take_snoc_at hs, List.countP_append, ← h]; simp [hp]
theorem count_no {c s : Snd} {xs : List Snd} {k m : Nat} (h : m = (xs.take k).countP (satS c)) (hs : xs[k]? = some s) (hp : satS c s = false) : m = (xs.take (k + 1)).countP (satS c) := by
  rw [← take_snoc_at hs, List.countP_append, ← h]; simp [hp]
theorem count_any (a : Option Addr) (n cap : Nat) (xs : List Snd) (c : Snd) (w : World) (hr : RdS w a n cap xs) :
    Calls Try.prog 43 #[.slice a n cap, .agg #[.int .u32 c.p.toNat, .int .u32 c.m.toNat]] w fun e w' => e = .returned (.int .i64 (countW c xs)) ∧ Ext w w' := by
  have hmax : n ≤ 9223372036854775807 := by have := hr.le; have := hr.most; unfold maxLen at this; omega
  cases hc : c.ok
  · have hfin := Lib.hid (show countW c xs = 0 by simp [countW, hc])
    go_enter Try.func43, Try.ntmps43
    go_wp2_with (go_at_call 55; refine (cbool (valid_any c _) hc).mono ?_; rintro e w1 ⟨rfl, hx1⟩)
    go_ret
    exact ⟨ret_int (by rw [hfin.out]; rfl), (by repeat (first | exact Ext.refl _ | assumption | refine Ext.drew ?_ | refine Ext.drewN ?_ _ | refine Ext.alloc ?_ _ | refine Ext.trans ?_ (by assumption)))⟩
  · have hfin := Lib.hid (show countW c xs = xs.countP (satS c) by simp [countW, hc])
    go_enter Try.func43, Try.ntmps43
    go_wp2_with (go_at_call 55; refine (cbool (valid_any c _) hc).mono ?_; rintro e w1 ⟨rfl, hx1⟩)
    have hx1' : Ext w w1 := (by repeat (first | exact Ext.refl _ | assumption | refine Ext.drew ?_ | refine Ext.drewN ?_ _ | refine Ext.alloc ?_ _ | refine Ext.trans ?_ (by assumption)))
    have hq0 : w1.cell? ⟨w.heap.size, 0, none⟩ = some (.int .u32 c.p.toNat) := hx1.cellv (by go_simp)
    have hq1 : w1.cell? ⟨w.heap.size, 1, none⟩ = some (.int .u32 c.m.toNat) := hx1.cellv (by go_simp)
    go_loopw [5, 13] (fun m i wr => ∃ k q : Nat, k ≤ n ∧ q ≤ k ∧ i = .int .i64 k ∧ m = .int .i64 q ∧ Ext w wr ∧ Ext w1 wr ∧ Hid (q = (xs.take k).countP (satS c))) (fun _ i _ => n - (intOf i).toNat)
    case atStart => exact ⟨0, 0, Nat.zero_le _, Nat.zero_le _, rfl, rfl, hx1', Ext.refl _, by simp [Hid]⟩
    case round =>
      obtain ⟨k, q, hk, hqk, rfl, rfl, hx, hxw, hall⟩ := hrel
      by_cases hlt : k < n
      · obtain ⟨b, off, s, rfl, hs, hb, hc0, hc1⟩ := (hr.ext hx).snd hlt
        have hr0 := hxw.cellv hq0
        have hr1 := hxw.cellv hq1
        cases hok : s.ok
        · have hsat := Lib.hid (count_no hall hs (show satS c s = false by simp [satS, hok]))
          go_wp2_with (go_at_call 55; refine (cbool (valid_any s _) hok).mono ?_; rintro e w2 ⟨rfl, hx2⟩; have hx3 : Ext wr w2 := (by repeat (first | exact Ext.refl _ | assumption | refine Ext.drew ?_ | refine Ext.drewN ?_ _ | refine Ext.alloc ?_ _ | refine Ext.trans ?_ (by assumption))); have g0 := hx2.cellv (b := wr.heap.size) (o := 0) (v := .int .u32 s.p.toNat) (by go_simp); have g1 := hx2.cellv (b := wr.heap.size) (o := 1) (v := .int .u32 s.m.toNat) (by go_simp); have g2 := hx3.cellv hr0; have g3 := hx3.cellv hr1)
          (first | exact ⟨⟨k + 1, q, by omega, by omega, by go_num, rfl, (by repeat (first | exact Ext.refl _ | assumption | refine Ext.drew ?_ | refine Ext.drewN ?_ _ | refine Ext.alloc ?_ _ | refine Ext.trans ?_ (by assumption))), hxw.trans hx3, hsat⟩, (by simp [intOf]; omega)⟩ | (go_roundw; case rel => exact ⟨k + 1, q, by omega, by omega, by go_num, rfl, (by repeat (first | exact Ext.refl _ | assumption | refine Ext.drew ?_ | refine Ext.drewN ?_ _ | refine Ext.alloc ?_ _ | refine Ext.trans ?_ (by assumption))), hxw.trans hx3, hsat⟩; case measure => exact (by simp [intOf]; omega)))
        · cases h1 : (c.p &&& ~~~s.p == 0#32)
          · have hsat := Lib.hid (count_no hall hs (show satS c s = false by simp only [satS, hok, h1]; rfl))
            have e1 := nat_andnot_no h1
            clear h1
            go_wp2_with (go_at_call 55; refine (cbool (valid_any s _) hok).mono ?_; rintro e w2 ⟨rfl, hx2⟩; have hx3 : Ext wr w2 := (by repeat (first | exact Ext.refl _ | assumption | refine Ext.drew ?_ | refine Ext.drewN ?_ _ | refine Ext.alloc ?_ _ | refine Ext.trans ?_ (by assumption))); have g0 := hx2.cellv (b := wr.heap.size) (o := 0) (v := .int .u32 s.p.toNat) (by go_simp); have g1 := hx2.cellv (b := wr.heap.size) (o := 1) (v := .int .u32 s.m.toNat) (by go_simp); have g2 := hx3.cellv hr0; have g3 := hx3.cellv hr1)
            (first | exact ⟨⟨k + 1, q, by omega, by omega, by go_num, rfl, (by repeat (first | exact Ext.refl _ | assumption | refine Ext.drew ?_ | refine Ext.drewN ?_ _ | refine Ext.alloc ?_ _ | refine Ext.trans ?_ (by assumption))), hxw.trans hx3, hsat⟩, (by simp [intOf]; omega)⟩ | (go_roundw; case rel => exact ⟨k + 1, q, by omega, by omega, by go_num, rfl, (by repeat (first | exact Ext.refl _ | assumption | refine Ext.drew ?_ | refine Ext.drewN ?_ _ | refine Ext.alloc ?_ _ | refine Ext.trans ?_ (by assumption))), hxw.trans hx3, hsat⟩; case measure => exact (by simp [intOf]; omega)))
          · have e1 := nat_andnot_yes h1
            cases h2 : (c.m &&& ~~~s.m == 0#32)
            · have hsat := Lib.hid (count_no hall hs (show satS c s = false by simp only [satS, hok, h1, h2]; rfl))
              have e2 := nat_andnot_no h2
              clear h1 h2
              go_wp2_with (go_at_call 55; refine (cbool (valid_any s _) hok).mono ?_; rintro e w2 ⟨rfl, hx2⟩; have hx3 : Ext wr w2 := (by repeat (first | exact Ext.refl _ | assumption | refine Ext.drew ?_ | refine Ext.drewN ?_ _ | refine Ext.alloc ?_ _ | refine Ext.trans ?_ (by assumption))); have g0 := hx2.cellv (b := wr.heap.size) (o := 0) (v := .int .u32 s.p.toNat) (by go_simp); have g1 := hx2.cellv (b := wr.heap.size) (o := 1) (v := .int .u32 s.m.toNat) (by go_simp); have g2 := hx3.cellv hr0; have g3 := hx3.cellv hr1)
              (first | exact ⟨⟨k + 1, q, by omega, by omega, by go_num, rfl, (by repeat (first | exact Ext.refl _ | assumption | refine Ext.drew ?_ | refine Ext.drewN ?_ _ | refine Ext.alloc ?_ _ | refine Ext.trans ?_ (by assumption))), hxw.trans hx3, hsat⟩, (by simp [intOf]; omega)⟩ | (go_roundw; case rel => exact ⟨k + 1, q, by omega, by omega, by go_num, rfl, (by repeat (first | exact Ext.refl _ | assumption | refine Ext.drew ?_ | refine Ext.drewN ?_ _ | refine Ext.alloc ?_ _ | refine Ext.trans ?_ (by assumption))), hxw.trans hx3, hsat⟩; case measure => exact (by simp [intOf]; omega)))
            · have hsat := Lib.hid (count_yes hall hs (show satS c s = true by simp only [satS, hok, h1, h2]; rfl))
              have e2 := nat_andnot_yes h2
              clear h1 h2
              go_wp2_with (go_at_call 55; refine (cbool (valid_any s _) hok).mono ?_; rintro e w2 ⟨rfl, hx2⟩; have hx3 : Ext wr w2 := (by repeat (first | exact Ext.refl _ | assumption | refine Ext.drew ?_ | refine Ext.drewN ?_ _ | refine Ext.alloc ?_ _ | refine Ext.trans ?_ (by assumption))); have g0 := hx2.cellv (b := wr.heap.size) (o := 0) (v := .int .u32 s.p.toNat) (by go_simp); have g1 := hx2.cellv (b := wr.heap.size) (o := 1) (v := .int .u32 s.m.toNat) (by go_simp); have g2 := hx3.cellv hr0; have g3 := hx3.cellv hr1)
              (first | exact ⟨⟨k + 1, q + 1, by omega, by omega, by go_num, by go_num, (by repeat (first | exact Ext.refl _ | assumption | refine Ext.drew ?_ | refine Ext.drewN ?_ _ | refine Ext.alloc ?_ _ | refine Ext.trans ?_ (by assumption))), hxw.trans hx3, hsat⟩, (by simp [intOf]; omega)⟩ | (go_roundw; case rel => exact ⟨k + 1, q + 1, by omega, by omega, by go_num, by go_num, (by repeat (first | exact Ext.refl _ | assumption | refine Ext.drew ?_ | refine Ext.drewN ?_ _ | refine Ext.alloc ?_ _ | refine Ext.trans ?_ (by assumption))), hxw.trans hx3, hsat⟩; case measure => exact (by simp [intOf]; omega)))
      · go_wp2_with fail
        go_ret
        exact ⟨ret_int (by rw [hfin.out, hall.out, List.take_of_length_le (by rw [hr.len]; omega)]), hx⟩
theorem nat_and_yes {x y : BitVec 32} (h : (x &&& ~~~y == 0#32) = true) : y.toNat &&& x.toNat = x.toNat := by
  rw [andnot_zero, beq_iff_eq, ← BitVec.toNat_inj] at h; simpa using h
theorem nat_and_no {x y : BitVec 32} (h : (x &&& ~~~y == 0#32) = false) : ¬ (y.toNat &&& x.toNat = x.toNat) := by
  rw [andnot_zero, beq_eq_false_iff_ne, ne_eq, ← BitVec.toNat_inj] at h; simpa using h
theorem nat_and_yesB {x y : BitVec 32} (h : (x &&& ~~~y == 0#32) = true) : (((y.toNat &&& x.toNat : Nat) : Int) == (x.toNat : Int)) = true := by
  rw [beq_iff_eq, nat_and_yes h]
theorem nat_and_noB {x y : BitVec 32} (h : (x &&& ~~~y == 0#32) = false) : (((y.toNat &&& x.toNat : Nat) : Int) == (x.toNat : Int)) = false := by
  have := nat_and_no h
  rw [beq_eq_false_iff_ne]; omega
def cntW (c : Snd) (xs : List Snd) (k : Nat) : Nat := if c.ok then (xs.take k).countP (satS c) else 0
theorem rcount_any (a : Option Addr) (n cap : Nat) (xs : List Snd) (c : Snd) (w : World) (hr : RdS w a n cap xs) :
    Calls Try.prog 44 #[.slice a n cap, .agg #[.int .u32 c.p.toNat, .int .u32 c.m.toNat]] w fun e w' => e = .returned (.int .i64 (countW c xs)) ∧ Ext w w' := by
  have hmax : n ≤ 9223372036854775807 := by have := hr.le; have := hr.most; unfold maxLen at this; omega
  have hfin := Lib.hid (show countW c xs = if c.ok then xs.countP (satS c) else 0 from rfl)
  go_enter Try.func44, Try.ntmps44
  go_wp2_with fail
  have hx1' : Ext w (w.alloc (.cells #[.int .u32 c.p.toNat, .int .u32 c.m.toNat] 39)) := Ext.alloc1 _ _
  have hq0 : (w.alloc (.cells #[.int .u32 c.p.toNat, .int .u32 c.m.toNat] 39)).cell? ⟨w.heap.size, 0, none⟩ = some (.int .u32 c.p.toNat) := by go_simp
  have hq1 : (w.alloc (.cells #[.int .u32 c.p.toNat, .int .u32 c.m.toNat] 39)).cell? ⟨w.heap.size, 1, none⟩ = some (.int .u32 c.m.toNat) := by go_simp
  generalize w.alloc (.cells #[.int .u32 c.p.toNat, .int .u32 c.m.toNat] 39) = w1 at *
  go_loopw [5, 6] (fun m i wr => ∃ k q : Nat, k ≤ n ∧ q ≤ k ∧ i = .int .i64 k ∧ m = .int .i64 q ∧ Ext w wr ∧ Ext w1 wr ∧ Hid (q = cntW c xs k)) (fun _ i _ => n - (intOf i).toNat)
  case atStart => exact ⟨0, 0, Nat.zero_le _, Nat.zero_le _, rfl, rfl, hx1', Ext.refl _, by simp [Hid, cntW]⟩
  case round =>
    obtain ⟨k, q, hk, hqk, rfl, rfl, hx, hxw, hall⟩ := hrel
    by_cases hlt : k < n
    · obtain ⟨b, off, s, rfl, hs, hb, hc0, hc1⟩ := (hr.ext hx).snd hlt
      have hr0 := hxw.cellv hq0
      have hr1 := hxw.cellv hq1
      cases hc : c.ok
      · have hsat : Hid (q = cntW c xs (k + 1)) := by have := hall.out; rw [this]; show _ = _; simp [cntW, hc]
        have f0 := fun x : ExtOf wr => x.cell hc0
        have f1 := fun x : ExtOf wr => x.cell hc1
        have f2 := fun x : ExtOf wr => x.cell hr0
        have f3 := fun x : ExtOf wr => x.cell hr1
        go_wp2_with fail
        (refine wp_region_qx (by kernel_rfl) (by kernel_rfl) ?_
         repeat (go_big_quiet_step ((go_at_call 58; exact calls_ext (cbool (rvalid_any c _) hc))))
         refine wpQuiet_nil ?_
         intro wq hw'
         have hxq := ext_of_ex hw'
         clear hw')
        go_wp2_with fail
        (first | exact ⟨⟨k + 1, q, by omega, by omega, by go_num, rfl, (by repeat (first | exact Ext.refl _ | assumption | refine Ext.drew ?_ | refine Ext.drewN ?_ _ | refine Ext.alloc ?_ _ | refine Ext.trans ?_ (by assumption))), hxw.trans hxq, hsat⟩, (by simp [intOf]; omega)⟩ | (go_roundw; case rel => exact ⟨k + 1, q, by omega, by omega, by go_num, rfl, (by repeat (first | exact Ext.refl _ | assumption | refine Ext.drew ?_ | refine Ext.drewN ?_ _ | refine Ext.alloc ?_ _ | refine Ext.trans ?_ (by assumption))), hxw.trans hxq, hsat⟩; case measure => exact (by simp [intOf]; omega)))
      · have hall' : Hid (q = (xs.take k).countP (satS c)) := by have := hall.out; rw [cntW, hc, if_pos rfl] at this; exact this
        cases hok : s.ok
        · have hsat := count_no hall' hs (show satS c s = false by simp [satS, hok])
          have hsat' : Hid (q = cntW c xs (k + 1)) := by show _ = _; rw [cntW, hc, if_pos rfl]; exact hsat
          clear hsat
          have f0 := fun x : ExtOf wr => x.cell hc0
          have f1 := fun x : ExtOf wr => x.cell hc1
          have f2 := fun x : ExtOf wr => x.cell hr0
          have f3 := fun x : ExtOf wr => x.cell hr1
          go_wp2_with fail
          (refine wp_region_qx (by kernel_rfl) (by kernel_rfl) ?_
           repeat (go_big_quiet_step ((first | (go_at_call_of 58 c; exact calls_ext (cbool (rvalid_any c _) hc)) | (go_at_call_of 58 s; exact calls_ext (cbool (rvalid_any s _) hok)))))
           refine wpQuiet_nil ?_
           intro wq hw'
           have hxq := ext_of_ex hw'
           clear hw')
          go_wp2_with fail
          (first | exact ⟨⟨k + 1, q, by omega, by omega, by go_num, rfl, (by repeat (first | exact Ext.refl _ | assumption | refine Ext.drew ?_ | refine Ext.drewN ?_ _ | refine Ext.alloc ?_ _ | refine Ext.trans ?_ (by assumption))), hxw.trans hxq, hsat'⟩, (by simp [intOf]; omega)⟩ | (go_roundw; case rel => exact ⟨k + 1, q, by omega, by omega, by go_num, rfl, (by repeat (first | exact Ext.refl _ | assumption | refine Ext.drew ?_ | refine Ext.drewN ?_ _ | refine Ext.alloc ?_ _ | refine Ext.trans ?_ (by assumption))), hxw.trans hxq, hsat'⟩; case measure => exact (by simp [intOf]; omega)))
        · cases h1 : (c.p &&& ~~~s.p == 0#32)
          · have hsat := count_no hall' hs (show satS c s = false by simp only [satS, hok, h1]; rfl)
            have hsat' : Hid (q = cntW c xs (k + 1)) := by show _ = _; rw [cntW, hc, if_pos rfl]; exact hsat
            have e1 := nat_and_noB h1
            clear h1 hsat
            have f0 := fun x : ExtOf wr => x.cell hc0
            have f1 := fun x : ExtOf wr => x.cell hc1
            have f2 := fun x : ExtOf wr => x.cell hr0
            have f3 := fun x : ExtOf wr => x.cell hr1
            go_wp2_with fail
            (refine wp_region_qx (by kernel_rfl) (by kernel_rfl) ?_
             repeat (go_big_quiet_step ((first | (go_at_call_of 58 c; exact calls_ext (cbool (rvalid_any c _) hc)) | (go_at_call_of 58 s; exact calls_ext (cbool (rvalid_any s _) hok)))))
             refine wpQuiet_nil ?_
             intro wq hw'
             have hxq := ext_of_ex hw'
             clear hw')
            go_wp2_with fail
            (first | exact ⟨⟨k + 1, q, by omega, by omega, by go_num, rfl, (by repeat (first | exact Ext.refl _ | assumption | refine Ext.drew ?_ | refine Ext.drewN ?_ _ | refine Ext.alloc ?_ _ | refine Ext.trans ?_ (by assumption))), hxw.trans hxq, hsat'⟩, (by simp [intOf]; omega)⟩ | (go_roundw; case rel => exact ⟨k + 1, q, by omega, by omega, by go_num, rfl, (by repeat (first | exact Ext.refl _ | assumption | refine Ext.drew ?_ | refine Ext.drewN ?_ _ | refine Ext.alloc ?_ _ | refine Ext.trans ?_ (by assumption))), hxw.trans hxq, hsat'⟩; case measure => exact (by simp [intOf]; omega)))
          · have e1 := nat_and_yesB h1
            cases h2 : (c.m &&& ~~~s.m == 0#32)
            · have hsat := count_no hall' hs (show satS c s = false by simp only [satS, hok, h1, h2]; rfl)
              have hsat' : Hid (q = cntW c xs (k + 1)) := by show _ = _; rw [cntW, hc, if_pos rfl]; exact hsat
              have e2 := nat_and_noB h2
              clear h1 h2 hsat
              have f0 := fun x : ExtOf wr => x.cell hc0
              have f1 := fun x : ExtOf wr => x.cell hc1
              have f2 := fun x : ExtOf wr => x.cell hr0
              have f3 := fun x : ExtOf wr => x.cell hr1
              go_wp2_with fail
              (refine wp_region_qx (by kernel_rfl) (by kernel_rfl) ?_
               repeat (go_big_quiet_step ((first | (go_at_call_of 58 c; exact calls_ext (cbool (rvalid_any c _) hc)) | (go_at_call_of 58 s; exact calls_ext (cbool (rvalid_any s _) hok)))))
               refine wpQuiet_nil ?_
               intro wq hw'
               have hxq := ext_of_ex hw'
               clear hw')
              go_wp2_with fail
              (first | exact ⟨⟨k + 1, q, by omega, by omega, by go_num, rfl, (by repeat (first | exact Ext.refl _ | assumption | refine Ext.drew ?_ | refine Ext.drewN ?_ _ | refine Ext.alloc ?_ _ | refine Ext.trans ?_ (by assumption))), hxw.trans hxq, hsat'⟩, (by simp [intOf]; omega)⟩ | (go_roundw; case rel => exact ⟨k + 1, q, by omega, by omega, by go_num, rfl, (by repeat (first | exact Ext.refl _ | assumption | refine Ext.drew ?_ | refine Ext.drewN ?_ _ | refine Ext.alloc ?_ _ | refine Ext.trans ?_ (by assumption))), hxw.trans hxq, hsat'⟩; case measure => exact (by simp [intOf]; omega)))
            · have hsat := count_yes hall' hs (show satS c s = true by simp only [satS, hok, h1, h2]; rfl)
              have hsat' : Hid (q + 1 = cntW c xs (k + 1)) := by show _ = _; rw [cntW, hc, if_pos rfl]; exact hsat
              have e2 := nat_and_yesB h2
              clear h1 h2 hsat
              have f0 := fun x : ExtOf wr => x.cell hc0
              have f1 := fun x : ExtOf wr => x.cell hc1
              have f2 := fun x : ExtOf wr => x.cell hr0
              have f3 := fun x : ExtOf wr => x.cell hr1
              go_wp2_with fail
              (refine wp_region_qx (by kernel_rfl) (by kernel_rfl) ?_
               repeat (go_big_quiet_step ((first | (go_at_call_of 58 c; exact calls_ext (cbool (rvalid_any c _) hc)) | (go_at_call_of 58 s; exact calls_ext (cbool (rvalid_any s _) hok)))))
               refine wpQuiet_nil ?_
               intro wq hw'
               have hxq := ext_of_ex hw'
               clear hw')
              go_wp2_with fail
              (first | exact ⟨⟨k + 1, q + 1, by omega, by omega, by go_num, by go_num, (by repeat (first | exact Ext.refl _ | assumption | refine Ext.drew ?_ | refine Ext.drewN ?_ _ | refine Ext.alloc ?_ _ | refine Ext.trans ?_ (by assumption))), hxw.trans hxq, hsat'⟩, (by simp [intOf]; omega)⟩ | (go_roundw; case rel => exact ⟨k + 1, q + 1, by omega, by omega, by go_num, by go_num, (by repeat (first | exact Ext.refl _ | assumption | refine Ext.drew ?_ | refine Ext.drewN ?_ _ | refine Ext.alloc ?_ _ | refine Ext.trans ?_ (by assumption))), hxw.trans hxq, hsat'⟩; case measure => exact (by simp [intOf]; omega)))
    · go_wp2_with fail
      go_ret
      exact ⟨ret_int (by rw [hfin.out, hall.out, cntW, List.take_of_length_le (by rw [hr.len]; omega)]), hx⟩
end Go.Proofs.Ytphfnmmdfnfnaaa
