/-
  Sounds looked for in a list (slices.Index, slices.Contains; the reference's Has); the reference's Check; members.
-/
import Derived.Test.YtbnbfdbliokcaaaDoorJb
namespace Go.Proofs.YtbnbfdbliokcaaaDoor
open Go.RowKit
/-- The first place of x; -1: there is none. -/
def idxI {α : Type} [DecidableEq α] (xs : List α) (x : α) : Int := if x ∈ xs then (xs.idxOf x : Nat) else -1
theorem idxI_at {α : Type} [DecidableEq α] {xs : List α} {x : α} {k : Nat} (hk : xs[k]? = some x) (h : ∀ (i : Nat) (y : α), i < k → xs[i]? = some y → decide (x ≠ y) = true) : idxI xs x = k := by
  have hm := List.mem_of_getElem? hk
  have hlt := (List.getElem?_eq_some_iff.1 hk).1
  unfold idxI
  rw [if_pos hm]
  have hi : xs.idxOf x < xs.length := List.idxOf_lt_length_iff.2 hm
  have he : xs[xs.idxOf x]? = some x := by rw [List.getElem?_eq_getElem hi, List.getElem_idxOf]
  congr 1
  rcases Nat.lt_trichotomy (xs.idxOf x) k with hl | hl | hl
  · have := h _ _ hl he; simp at this
  · exact hl
  · have hle : xs.idxOf x ≤ k := by
      have h2 := List.getElem?_eq_some_iff.1 hk
      have : xs.idxOf x = (xs.take k ++ xs.drop k).idxOf x := by rw [List.take_append_drop]
      rw [this, List.idxOf_append]
      split
      · rename_i hin
        have := List.idxOf_lt_length_iff.2 hin
        simp at this; omega
      · have hd : xs.drop k = x :: xs.drop (k + 1) := by rw [List.drop_eq_getElem_cons hlt, h2.2]
        rw [hd]; simp; omega
    omega
theorem idxI_none {α : Type} [DecidableEq α] {xs : List α} {x : α} {n : Nat} (hl : xs.length = n) (h : ∀ (i : Nat) (y : α), i < n → xs[i]? = some y → decide (x ≠ y) = true) : idxI xs x = -1 := by
  unfold idxI
  rw [if_neg]
  intro hm
  obtain ⟨i, hi⟩ := List.getElem?_of_mem hm
  have := h i x (by have := (List.getElem?_eq_some_iff.1 hi).1; omega) hi
  simp at this
theorem indexS_any (a : Option Addr) (n cap : Nat) (xs : List Snd) (x : Snd) (w : World) (hr : RdS w a n cap xs) :
    Calls Tryd.prog 73 #[.slice a n cap, .agg #[.int .u32 x.p.toNat, .int .u32 x.m.toNat]] w fun e w' => e = .returned (.int .i64 (idxI xs x)) ∧ Ext w w' := by
  have he := eql_snd
  have hl := hr.len
  have hmax : n ≤ 9223372036854775807 := by have := hr.le; have := hr.most; unfold maxLen at this; omega
  replace hl := Lib.hid hl
  go_enter Tryd.func73, Tryd.ntmps73
  go_wp2_with fail
  go_loopw [8] (fun i wr => ∃ k : Nat, k ≤ n ∧ i = .int .i64 k ∧ Ext (w.alloc (.cells #[.int .u32 x.p.toNat, .int .u32 x.m.toNat] 27)) wr ∧ Hid (∀ (i : Nat) (y : _), i < k → xs[i]? = some y → decide (x ≠ y) = true)) (fun i _ => n - (intOf i).toNat)
  case atStart => exact ⟨0, Nat.zero_le _, rfl, Ext.refl _, fun i x hi => absurd hi (Nat.not_lt_zero _)⟩
  case round =>
    obtain ⟨k, hk, rfl, hx, hall⟩ := hrel
    have hx0 : Ext w wr := (Ext.alloc1 _ _).trans hx
    have hcl1 := fun b o (h : b < _) => Ext.cell hx (b := b) o h
    by_cases hlt : k < n
    · obtain ⟨b, off, s, rfl, hs, hb, hc0, hc1⟩ := (hr.ext hx0).snd hlt
      by_cases hst : x = s
      · have hd : decide (x = s) = true := by simpa using hst
        have hi := Lib.hid (idxI_at (by rw [hs.out, hst]) hall.out)
        clear hst
        go_wp2_with fail
        go_quiet (fail)
        go_wp2_with fail
        go_ret
        exact ⟨ret_int hi.out.symm, (by repeat (first | exact Ext.refl _ | assumption | refine Ext.drew ?_ | refine Ext.drewN ?_ _ | refine Ext.alloc ?_ _ | refine Ext.trans ?_ (by assumption)))⟩
      · have hd : decide (x = s) = false := by simpa using hst
        have hn := all_succ (p := fun y => decide (x ≠ y)) hall.out hs.out (by simpa using hst)
        replace hn := Lib.hid hn
        go_wp2_with fail
        go_quiet (fail)
        go_wp2_with fail
        (first | exact ⟨⟨k + 1, by omega, by go_num, hx.trans ((Ext.refl _).drewN _), hn⟩, (by simp [intOf]; omega)⟩ | (go_roundw; case rel => exact ⟨k + 1, by omega, by go_num, hx.trans ((Ext.refl _).drewN _), hn⟩; case measure => exact (by simp [intOf]; omega)))
    · go_wp2_with fail
      go_ret
      exact ⟨ret_int (idxI_none hl.out (fun i y hi => hall.out i y (by omega))).symm, hx0⟩
theorem containsS_any (a : Option Addr) (n cap : Nat) (xs : List Snd) (x : Snd) (w : World) (hr : RdS w a n cap xs) :
    Calls Tryd.prog 47 #[.slice a n cap, .agg #[.int .u32 x.p.toNat, .int .u32 x.m.toNat]] w fun e w' => e = .returned (.bool (decide (x ∈ xs))) ∧ Ext w w' := by
  have hi : decide (0 ≤ idxI xs x) = decide (x ∈ xs) := by
    unfold idxI
    by_cases h : x ∈ xs
    · rw [if_pos h]; simp [h]
    · rw [if_neg h]; simp [h]
  go_enter Tryd.func47, Tryd.ntmps47
  go_wp2_with fail
  refine (indexS_any a n cap xs x _ (hr.ext (Ext.alloc1 _ _))).mono ?_
  rintro e w1 ⟨rfl, hx1⟩
  go_wp2_with fail
  go_ret
  exact ⟨ret_bool (by first | exact hi | simp), (by repeat (first | exact Ext.refl _ | assumption | refine Ext.drew ?_ | refine Ext.drewN ?_ _ | refine Ext.alloc ?_ _ | refine Ext.trans ?_ (by assumption)))⟩

/-! ### Has, Check of the reference -/
theorem rhas_any (a : Option Addr) (n cap : Nat) (xs : List Snd) (x : Snd) (w : World) (hr : RdS w a n cap xs) :
    Calls Tryd.prog 51 #[.slice a n cap, sndV x] w fun e w' => e = .returned (.bool (decide (x ∈ xs))) ∧ Ext w w' := by
  have he := eql_snd
  have hl := hr.len
  have hmax : n ≤ 9223372036854775807 := by have := hr.le; have := hr.most; unfold maxLen at this; omega
  have q0 := SndB.new w x
  have hxB : Ext w (w.alloc (.cells #[.int .u32 x.p.toNat, .int .u32 x.m.toNat] 27)) := (by repeat (first | exact Ext.refl _ | refine Ext.drew ?_ | refine Ext.drewN ?_ _ | refine Ext.alloc ?_ _))
  replace hl := Lib.hid hl
  go_enter Tryd.func51, Tryd.ntmps51
  go_wp2_with fail
  generalize (w.alloc (.cells #[.int .u32 x.p.toNat, .int .u32 x.m.toNat] 27)) = wB at *
  go_loopw [5] (fun i wr => ∃ k : Nat, k ≤ n ∧ i = .int .i64 k ∧ Hid (∀ (i : Nat) (y : Snd), i < k → xs[i]? = some y → decide (y ≠ x) = true) ∧ Ext wB wr) (fun i _ => n - (intOf i).toNat)
  case atStart => exact ⟨0, Nat.zero_le _, rfl, Lib.hid (fun i y h => absurd h (Nat.not_lt_zero _)), Ext.refl _⟩
  case round =>
    obtain ⟨k, hk, rfl, hall, hx⟩ := hrel
    by_cases hlt : k < n
    · have hki : (k : Int) < (n : Int) := by omega
      obtain ⟨b, off, s, rfl, hs, hb, p0, p1⟩ := (hr.ext (hxB.trans hx)).snd hlt
      obtain ⟨c0, c1⟩ := (q0.ext hx).cells
      have r0 := fun z : ExtOf wr => z.cell p0
      have r1 := fun z : ExtOf wr => z.cell p1
      have r2 := fun z : ExtOf wr => z.cell c0
      have r3 := fun z : ExtOf wr => z.cell c1
      by_cases h1 : s = x
      · have hd : decide (s = x) = true := by simpa using h1
        have hm : decide (x ∈ xs) = true := by simpa using (h1 ▸ List.mem_of_getElem? hs : x ∈ xs)
        replace h1 := Lib.hid h1
        replace hs := Lib.hid hs
        replace hm := Lib.hid hm
        go_wp2_with fail
        (refine wp_region_qx (by kernel_rfl) (by kernel_rfl) ?_
         repeat (go_big_quiet_step (fail))
         refine wpQuiet_nil ?_
         intro wq hw'
         have hxq := ext_of_ex hw'
         clear hw')
        clear r0 r1 r2 r3
        go_wp2_with fail
        go_ret
        exact ⟨ret_bool hm.out.symm, (hxB.trans hx).trans hxq⟩
      · have hd : decide (s = x) = false := by simpa using h1
        have hall2 := Lib.hid (all_succ (p := fun y => decide (y ≠ x)) hall.out hs (by simpa using h1))
        replace h1 := Lib.hid h1
        replace hs := Lib.hid hs
        go_wp2_with fail
        (refine wp_region_qx (by kernel_rfl) (by kernel_rfl) ?_
         repeat (go_big_quiet_step (fail))
         refine wpQuiet_nil ?_
         intro wq hw'
         have hxq := ext_of_ex hw'
         clear hw')
        clear r0 r1 r2 r3
        go_wp2_with fail
        (first | exact ⟨⟨k + 1, by omega, by go_num, hall2, hx.trans hxq⟩, (by simp [intOf]; omega)⟩ | (go_roundw; case rel => exact ⟨k + 1, by omega, by go_num, hall2, hx.trans hxq⟩; case measure => exact (by simp [intOf]; omega)))
    · have hm : decide (x ∈ xs) = false := by
        simp only [decide_eq_false_iff_not]
        intro hm
        obtain ⟨i, hi⟩ := List.getElem?_of_mem hm
        have := hall.out i x (by have := (List.getElem?_eq_some_iff.1 hi).1; have := hl.out; omega) hi
        simp at this
      replace hm := Lib.hid hm
      go_wp2_with fail
      go_ret
      exact ⟨ret_bool hm.out.symm, hxB.trans hx⟩
theorem elem_sndsJ : Tryd.prog.underlying 22 = some (.slice (Tryd.prog.elem 22)) := by kernel_rfl
theorem size_sndsJ (w : World) : (sizeOf (Tryd.prog.elem 22)).run Tryd.prog w = .ok 2 w := by kernel_rfl
set_option maxHeartbeats 1000000 in
theorem rcheck_any (m : Nat) (a : Option Addr) (n cap : Nat) (xs : List Snd) (w : World) (hr : RdS w a n cap xs) :
    Calls Tryd.prog 50 #[.slice a n cap, .int .i64 m] w fun e w' => e = .returned (.int .i64 (chkI m xs)) ∧ Ext w w' := by
  have hl := hr.len
  have hmax : n ≤ 9223372036854775807 := by have := hr.le; have := hr.most; unfold maxLen at this; omega
  by_cases hbig : m < n
  · have d1 : decide ((m : Int) < (n : Int)) = true := by simp; omega
    have hE : chkI m xs = 12 := by unfold chkI; rw [if_pos (by omega)]
    replace hE := Lib.hid hE
    replace hl := Lib.hid hl
    go_enter Tryd.func50, Tryd.ntmps50
    go_wp2_with fail
    go_ret
    exact ⟨ret_int hE.out.symm, Ext.refl _⟩
  · have d1 : decide ((m : Int) < (n : Int)) = false := by simp; omega
    have hE1 : ¬ m < xs.length := by omega
    replace hl := Lib.hid hl
    replace hE1 := Lib.hid hE1
    go_enter Tryd.func50, Tryd.ntmps50
    go_wp2_with fail
    go_loopw [5] (fun i wr => ∃ k : Nat, k ≤ n ∧ i = .int .i64 k ∧ Hid (∀ (i : Nat) (x : Snd), i < k → xs[i]? = some x → x.ok = true) ∧ Ext w wr) (fun i _ => n - (intOf i).toNat)
    case atStart => exact ⟨0, Nat.zero_le _, rfl, Lib.hid (fun i x h => absurd h (Nat.not_lt_zero _)), Ext.refl _⟩
    case round =>
      obtain ⟨k, hk, rfl, hall, hx⟩ := hrel
      by_cases hlt : k < n
      · have hki : (k : Int) < (n : Int) := by omega
        obtain ⟨b, off, s, rfl, hs, hb, p0, p1⟩ := (hr.ext hx).snd hlt
        cases hok : s.ok
        · have hE : chkI m xs = 14 := by
            unfold chkI
            rw [if_neg hE1.out, if_pos]
            rw [List.all_eq_false]
            exact ⟨s, List.mem_of_getElem? hs, by rw [hok]; simp⟩
          replace hE := Lib.hid hE
          replace hs := Lib.hid hs
          go_wp2_with fail
          refine (cbool (rvalid1_any s _) hok).mono ?_
          rintro e w1 ⟨rfl, hx1⟩
          replace hok := Lib.hid hok
          go_wp2_with fail
          go_ret
          exact ⟨ret_int hE.out.symm, hx.trans hx1⟩
        · have hall2 := Lib.hid (all_succ hall.out hs hok)
          replace hs := Lib.hid hs
          go_wp2_with fail
          refine (cbool (rvalid1_any s _) hok).mono ?_
          rintro e w1 ⟨rfl, hx1⟩
          replace hok := Lib.hid hok
          go_wp2_with fail
          (first | exact ⟨⟨k + 1, by omega, by go_num, hall2, hx.trans hx1⟩, (by simp [intOf]; omega)⟩ | (go_roundw; case rel => exact ⟨k + 1, by omega, by go_num, hall2, hx.trans hx1⟩; case measure => exact (by simp [intOf]; omega)))
      · have hallB : Hid (xs.all Snd.ok = true) := Lib.hid (List.all_eq_true.2 fun x hx => by
          obtain ⟨i, hi⟩ := List.getElem?_of_mem hx
          exact hall.out i x (by have := (List.getElem?_eq_some_iff.1 hi).1; have := hl.out; omega) hi)
        obtain ⟨wo, rfl⟩ : ∃ wo : World, wo = wr := ⟨_, rfl⟩
        go_wp2_with fail
        go_loopw [6] (fun i wr => ∃ k : Nat, k ≤ n ∧ i = .int .i64 k ∧ Hid ((xs.take k).Nodup) ∧ Ext w wr) (fun i _ => n - (intOf i).toNat)
        case atStart => exact ⟨0, Nat.zero_le _, rfl, Lib.hid (by simp), hx⟩
        case round =>
          obtain ⟨q, hq, rfl, hnd, hx⟩ := hrel
          by_cases hlq : q < n
          · have hqi : (q : Int) < (n : Int) := by omega
            have hrx := hr.ext hx
            obtain ⟨b, off, s, rfl, hs, hb, p0, p1⟩ := hrx.snd hlq
            have hcap := hr.le
            have hsl := fun w => run_sub_h (P := Tryd.prog) elem_sndsJ size_sndsJ (some ⟨b, off, none⟩) n cap q (by omega) w
            have hrd : ∀ z : ExtOf wr, RdS z.w (subA 2 (some ⟨b, off, none⟩) cap 0) q cap (xs.take q) := fun z => by
              have := (hrx.ext z.h).sub (l := 0) (m := q) (Nat.zero_le _) (Nat.le_of_lt hlq)
              rwa [List.drop_zero, Nat.sub_zero, Nat.sub_zero] at this
            have r0 := fun z : ExtOf wr => z.cell p0
            have r1 := fun z : ExtOf wr => z.cell p1
            have hcall := fun z : ExtOf wr => rhas_any _ q cap (xs.take q) s z.w (hrd z)
            have hsu := take_succ_at hs
            by_cases hm : s ∈ xs.take q
            · have hd : decide (s ∈ xs.take q) = true := by simpa using hm
              have hE : chkI m xs = 6 := by
                unfold chkI
                rw [if_neg hE1.out, if_neg (by rw [hallB.out]; simp), if_pos]
                simp only [decide_eq_false_iff_not]
                intro h
                have h2 := h.sublist (List.take_sublist (q + 1) xs)
                rw [hsu, List.nodup_append] at h2
                exact h2.2.2 s hm s (by simp) rfl
              rw [hd] at hcall
              replace hE := Lib.hid hE
              replace hm := Lib.hid hm
              replace hs := Lib.hid hs
              replace hsu := Lib.hid hsu
              go_wp2_with fail
              (refine wp_region_qx (by kernel_rfl) (by kernel_rfl) ?_
               repeat (go_big_quiet_step (exact calls_ext (hcall _)))
               refine wpQuiet_nil ?_
               intro wq hw'
               have hxq := ext_of_ex hw'
               clear hw')
              clear r0 r1 hcall
              go_wp2_with fail
              go_ret
              exact ⟨ret_int hE.out.symm, hx.trans hxq⟩
            · have hd : decide (s ∈ xs.take q) = false := by simpa using hm
              have hnd2 : Hid ((xs.take (q + 1)).Nodup) := Lib.hid (by
                rw [hsu, List.nodup_append]
                exact ⟨hnd.out, by simp, fun a ha b hb e => by simp at hb; subst hb; subst e; exact hm ha⟩)
              rw [hd] at hcall
              replace hm := Lib.hid hm
              replace hs := Lib.hid hs
              replace hsu := Lib.hid hsu
              go_wp2_with fail
              (refine wp_region_qx (by kernel_rfl) (by kernel_rfl) ?_
               repeat (go_big_quiet_step (exact calls_ext (hcall _)))
               refine wpQuiet_nil ?_
               intro wq hw'
               have hxq := ext_of_ex hw'
               clear hw')
              clear r0 r1 hcall
              go_wp2_with fail
              (first | exact ⟨⟨q + 1, by omega, by go_num, hnd2, hx.trans hxq⟩, (by simp [intOf]; omega)⟩ | (go_roundw; case rel => exact ⟨q + 1, by omega, by go_num, hnd2, hx.trans hxq⟩; case measure => exact (by simp [intOf]; omega)))
          · have hE : chkI m xs = 0 := by
              have h1 := hnd.out
              rw [List.take_of_length_le (by rw [hl.out]; omega)] at h1
              unfold chkI
              rw [if_neg hE1.out, if_neg (by rw [hallB.out]; simp), if_neg (by simpa using h1)]
            replace hE := Lib.hid hE
            go_wp2_with fail
            go_ret
            exact ⟨ret_int hE.out.symm, hx⟩
end Go.Proofs.YtbnbfdbliokcaaaDoor
