/-
  ref23: under, smallest, may.
  ref23: may.
-/
import Derived.Test.YtdloabjnjnjacaaDoorSe
namespace Go.Proofs.YtdloabjnjnjacaaDoor
open Go.RowKit
theorem bstF_mn (c : Nat → Int) (j : Nat) : (bstF c (j + 1)).1 = if 0 ≤ c j ∧ ((bstF c j).1 < 0 ∨ c j < (bstF c j).1) then c j else (bstF c j).1 := by
  rw [bstF]; split <;> rfl
set_option maxHeartbeats 2000000 in
set_option maxRecDepth 20000 in
theorem under_any (am : Option Addr) (k capm : Nat) (ms : List (List Int)) (s : Nat) (ac : Option Addr) (capc : Nat) (ys : List Int) (w : World)
    (hm : RdM w am k capm ms) (hmb : smB ms = true) (hs : s < k) (hy : RdI w ac k capc ys) (hyb : ∀ y ∈ ys, -1 ≤ y ∧ y ≤ 1099511627776) :
    Calls Tryd.prog 89 #[.slice am k capm, .int .i64 s, .slice ac k capc] w fun e w' => e = .returned (.int .i64 (bstF (fun b => op (ent ms s b) (ys.getD b (-1))) k).1) ∧ Ext w w' := by
  have hl := RdV.len hm
  have hk12 : k ≤ 12 := by rw [← hl]; exact (smB_of hmb).2.1
  obtain ⟨bm, offm, _, r, rfl, hr1, hbm, hcm, ar, nr, cr, rfl, hrr⟩ := RdV.at hm hs
  have hent : ∀ b, b < k → r[b]? = some (ent ms s b) ∧ -1 ≤ ent ms s b ∧ ent ms s b ≤ 1073741824 := fun b hb => by
    obtain ⟨r0, h1, h2, h3, h4, h5⟩ := smB_ent hmb (show s < ms.length by omega) (show b < ms.length by omega)
    have : r = r0 := by have := hr1.out; rw [h1] at this; exact (Option.some.inj this).symm
    rw [this]; exact ⟨h2, h4, h5⟩
  have hnr : k = nr := by
    obtain ⟨r0, h1, h2, h3, h4, h5⟩ := smB_ent hmb (show s < ms.length by omega) (show s < ms.length by omega)
    have : r = r0 := by have := hr1.out; rw [h1] at this; exact (Option.some.inj this).symm
    have h6 := hrr.len
    rw [this] at h6; omega
  have hyl := hy.len
  replace hl := Lib.hid hl
  replace hyl := Lib.hid hyl
  generalize hc : (fun b => op (ent ms s b) (ys.getD b (-1))) = c
  replace hc := Lib.hid hc
  have hnr' : k ≤ nr := by omega
  replace hnr := Lib.hid hnr
  go_enter Tryd.func89, Tryd.ntmps89
  go_wp2_with fail
  go_loopw [7, 8] (fun lv i wr => ∃ j : Nat, j ≤ k ∧ i = .int .i64 j ∧ lv = .int .i64 (bstF c j).1 ∧ Ext w wr) (fun _ i _ => k - (intOf i).toNat)
  case atStart => exact ⟨0, Nat.zero_le _, rfl, rfl, Ext.refl _⟩
  case round =>
    obtain ⟨j, hj, rfl, rfl, hx⟩ := hrel
    by_cases hlt : j < k
    · obtain ⟨br, offr, x, rfl, hx1, hbr, hcr⟩ := (hrr.ext hx).i64 (show j < nr by omega)
      obtain ⟨by', offy, y, rfl, hy1, hby, hcy⟩ := (hy.ext hx).i64 hlt
      obtain ⟨he1, he2, he3⟩ := hent j hlt
      have hxe : x = ent ms s j := by have := hx1.out; rw [he1] at this; exact (Option.some.inj this).symm
      obtain ⟨hy2, hy3⟩ := hyb y (List.mem_of_getElem? hy1.out)
      rw [← hxe] at he2 he3
      have hcj : c j = op x y := by rw [← hc.out, hxe]; show op _ _ = op _ _; rw [List.getD_eq_getElem?_getD, hy1.out]; rfl
      have hsu := bstF_mn c j
      rw [hcj] at hsu
      have hge := bstF_ge (c := c) j
      have hm1 := hx.cellv hcm
      have hp1 := fun z : ExtOf wr => z.cell hm1
      have hp2 := fun z : ExtOf wr => z.cell hcr
      have hp3 := fun z : ExtOf wr => z.cell hcy
      have hjn : j < nr := by omega
      clear hcj hxe he1
      generalize (bstF c j).1 = q at *
      by_cases h1 : 0 ≤ x
      · have hd1 : decide (0 ≤ x) = true := by simpa using h1
        by_cases h2 : 0 ≤ y
        · have hd2 : decide (0 ≤ y) = true := by simpa using h2
          rw [op_pos h1 h2] at hsu
          have hwr : IntKind.i64.wrap (x + y) = x + y := IntWalk.i64_in _ (by omega)
          by_cases h3 : q < 0
          · have hd3 : decide (q < 0) = true := by simpa using h3
            rw [if_pos ⟨by omega, .inl h3⟩] at hsu
            replace hsu := Lib.hid hsu
            go_wp2_with fail
            (refine wp_region_qx (by kernel_rfl) (by kernel_rfl) ?_
             repeat (go_big_quiet_step (fail))
             refine wpQuiet_nil ?_
             intro wq hw'
             have hxq := ext_of_ex hw'
             clear hw')
            have g1 := hxq.cellv hm1
            have g2 := hxq.cellv hcr
            have g3 := hxq.cellv hcy
            have hxw := hx.trans hxq
            have hr1 := fun z : ExtOf wq => z.cell g1
            have hr2 := fun z : ExtOf wq => z.cell g2
            have hr3 := fun z : ExtOf wq => z.cell g3
            clear hxq
            go_wp2_with fail
            (refine wp_region_qx (by kernel_rfl) (by kernel_rfl) ?_
             repeat (go_big_quiet_step (fail))
             refine wpQuiet_nil ?_
             intro wq hw'
             have hxq := ext_of_ex hw'
             clear hw')
            go_wp2_with fail
            (first | exact ⟨⟨j + 1, by omega, by go_num, by rw [hsu.out], hxw.trans hxq⟩, (by simp [intOf]; omega)⟩ | (go_roundw; case rel => exact ⟨j + 1, by omega, by go_num, by rw [hsu.out], hxw.trans hxq⟩; case measure => exact (by simp [intOf]; omega)))
          · have hd3 : decide (q < 0) = false := by simpa using h3
            by_cases h4 : x + y < q
            · have hd4 : decide (x + y < q) = true := by simpa using h4
              rw [if_pos ⟨by omega, .inr h4⟩] at hsu
              replace hsu := Lib.hid hsu
              go_wp2_with fail
              (refine wp_region_qx (by kernel_rfl) (by kernel_rfl) ?_
               repeat (go_big_quiet_step (fail))
               refine wpQuiet_nil ?_
               intro wq hw'
               have hxq := ext_of_ex hw'
               clear hw')
              have g1 := hxq.cellv hm1
              have g2 := hxq.cellv hcr
              have g3 := hxq.cellv hcy
              have hxw := hx.trans hxq
              have hr1 := fun z : ExtOf wq => z.cell g1
              have hr2 := fun z : ExtOf wq => z.cell g2
              have hr3 := fun z : ExtOf wq => z.cell g3
              clear hxq
              go_wp2_with fail
              (refine wp_region_qx (by kernel_rfl) (by kernel_rfl) ?_
               repeat (go_big_quiet_step (fail))
               refine wpQuiet_nil ?_
               intro wq hw'
               have hxq := ext_of_ex hw'
               clear hw')
              go_wp2_with fail
              (first | exact ⟨⟨j + 1, by omega, by go_num, by rw [hsu.out], hxw.trans hxq⟩, (by simp [intOf]; omega)⟩ | (go_roundw; case rel => exact ⟨j + 1, by omega, by go_num, by rw [hsu.out], hxw.trans hxq⟩; case measure => exact (by simp [intOf]; omega)))
            · have hd4 : decide (x + y < q) = false := by simpa using h4
              rw [if_neg (by omega)] at hsu
              replace hsu := Lib.hid hsu
              go_wp2_with fail
              (refine wp_region_qx (by kernel_rfl) (by kernel_rfl) ?_
               repeat (go_big_quiet_step (fail))
               refine wpQuiet_nil ?_
               intro wq hw'
               have hxq := ext_of_ex hw'
               clear hw')
              go_wp2_with fail
              (first | exact ⟨⟨j + 1, by omega, by go_num, by rw [hsu.out], hx.trans hxq⟩, (by simp [intOf]; omega)⟩ | (go_roundw; case rel => exact ⟨j + 1, by omega, by go_num, by rw [hsu.out], hx.trans hxq⟩; case measure => exact (by simp [intOf]; omega)))
        · have hd2 : decide (0 ≤ y) = false := by simpa using h2
          rw [op_neg (.inr (by omega)), if_neg (by omega)] at hsu
          replace hsu := Lib.hid hsu
          go_wp2_with fail
          (refine wp_region_qx (by kernel_rfl) (by kernel_rfl) ?_
           repeat (go_big_quiet_step (fail))
           refine wpQuiet_nil ?_
           intro wq hw'
           have hxq := ext_of_ex hw'
           clear hw')
          go_wp2_with fail
          (first | exact ⟨⟨j + 1, by omega, by go_num, by rw [hsu.out], hx.trans hxq⟩, (by simp [intOf]; omega)⟩ | (go_roundw; case rel => exact ⟨j + 1, by omega, by go_num, by rw [hsu.out], hx.trans hxq⟩; case measure => exact (by simp [intOf]; omega)))
      · have hd1 : decide (0 ≤ x) = false := by simpa using h1
        rw [op_neg (.inl (by omega)), if_neg (by omega)] at hsu
        replace hsu := Lib.hid hsu
        go_wp2_with fail
        (refine wp_region_qx (by kernel_rfl) (by kernel_rfl) ?_
         repeat (go_big_quiet_step (fail))
         refine wpQuiet_nil ?_
         intro wq hw'
         have hxq := ext_of_ex hw'
         clear hw')
        go_wp2_with fail
        (first | exact ⟨⟨j + 1, by omega, by go_num, by rw [hsu.out], hx.trans hxq⟩, (by simp [intOf]; omega)⟩ | (go_roundw; case rel => exact ⟨j + 1, by omega, by go_num, by rw [hsu.out], hx.trans hxq⟩; case measure => exact (by simp [intOf]; omega)))
    · have hjk : j = k := by omega
      subst hjk
      go_wp2_with fail
      go_ret
      exact ⟨rfl, hx⟩
/-! ### The least of a row -/
theorem smallest_any (a : Option Addr) (n cap : Nat) (ys : List Int) (w : World) (hr : RdI w a n cap ys) (hyb : ∀ y ∈ ys, -1 ≤ y) :
    Calls Tryd.prog 81 #[.slice a n cap] w fun e w' => e = .returned (.int .i64 (bstF (fun b => ys.getD b (-1)) n).1) ∧ Ext w w' := by
  have hl := hr.len
  have hmax : n ≤ 9223372036854775807 := by have := hr.le; have := hr.most; unfold maxLen at this; omega
  replace hl := Lib.hid hl
  generalize hc : (fun b => ys.getD b (-1)) = c
  replace hc := Lib.hid hc
  go_enter Tryd.func81, Tryd.ntmps81
  go_wp2_with fail
  go_loopw [3, 4] (fun lv i wr => ∃ j : Nat, j ≤ n ∧ i = .int .i64 j ∧ lv = .int .i64 (bstF c j).1 ∧ Ext w wr) (fun _ i _ => n - (intOf i).toNat)
  case atStart => exact ⟨0, Nat.zero_le _, rfl, rfl, Ext.refl _⟩
  case round =>
    obtain ⟨j, hj, rfl, rfl, hx⟩ := hrel
    by_cases hlt : j < n
    · obtain ⟨b, off, y, rfl, hy1, hb, hcy⟩ := (hr.ext hx).i64 hlt
      have hy2 := hyb y (List.mem_of_getElem? hy1.out)
      have hcj : c j = y := by rw [← hc.out]; show ys.getD j (-1) = y; rw [List.getD_eq_getElem?_getD, hy1.out]; rfl
      have hsu := bstF_mn c j
      rw [hcj] at hsu
      have hge := bstF_ge (c := c) j
      have hp3 := fun z : ExtOf wr => z.cell hcy
      clear hcj
      generalize (bstF c j).1 = q at *
      by_cases h1 : 0 ≤ y
      · have hd1 : decide (0 ≤ y) = true := by simpa using h1
        by_cases h3 : q < 0
        · have hd3 : decide (q < 0) = true := by simpa using h3
          rw [if_pos ⟨h1, .inl h3⟩] at hsu
          replace hsu := Lib.hid hsu
          go_wp2_with fail
          (first | exact ⟨⟨j + 1, by omega, by go_num, by rw [hsu.out], hx⟩, (by simp [intOf]; omega)⟩ | (go_roundw; case rel => exact ⟨j + 1, by omega, by go_num, by rw [hsu.out], hx⟩; case measure => exact (by simp [intOf]; omega)))
        · have hd3 : decide (q < 0) = false := by simpa using h3
          by_cases h4 : y < q
          · have hd4 : decide (y < q) = true := by simpa using h4
            rw [if_pos ⟨h1, .inr h4⟩] at hsu
            replace hsu := Lib.hid hsu
            go_wp2_with fail
            (first | exact ⟨⟨j + 1, by omega, by go_num, by rw [hsu.out], hx⟩, (by simp [intOf]; omega)⟩ | (go_roundw; case rel => exact ⟨j + 1, by omega, by go_num, by rw [hsu.out], hx⟩; case measure => exact (by simp [intOf]; omega)))
          · have hd4 : decide (y < q) = false := by simpa using h4
            rw [if_neg (by omega)] at hsu
            replace hsu := Lib.hid hsu
            go_wp2_with fail
            (first | exact ⟨⟨j + 1, by omega, by go_num, by rw [hsu.out], hx⟩, (by simp [intOf]; omega)⟩ | (go_roundw; case rel => exact ⟨j + 1, by omega, by go_num, by rw [hsu.out], hx⟩; case measure => exact (by simp [intOf]; omega)))
      · have hd1 : decide (0 ≤ y) = false := by simpa using h1
        rw [if_neg (by omega)] at hsu
        replace hsu := Lib.hid hsu
        go_wp2_with fail
        (first | exact ⟨⟨j + 1, by omega, by go_num, by rw [hsu.out], hx⟩, (by simp [intOf]; omega)⟩ | (go_roundw; case rel => exact ⟨j + 1, by omega, by go_num, by rw [hsu.out], hx⟩; case measure => exact (by simp [intOf]; omega)))
    · have hjk : j = n := by omega
      subst hjk
      go_wp2_with fail
      go_ret
      exact ⟨rfl, hx⟩
end Go.Proofs.YtdloabjnjnjacaaDoor
namespace Go.Proofs.YtdloabjnjnjacaaDoor
open Go.RowKit
theorem leafL_nodup (ts : List Nd) : (leafL ts).Nodup := by
  unfold leafL leafTo
  refine List.Pairwise.map (R := fun a b : Nat => a ≠ b) _ (fun a b h e => h (Int.ofNat.inj e)) ?_
  exact List.Pairwise.filter _ List.nodup_range
theorem okS_at {L st : List Int} (hn : L.Nodup) {i u s : Nat} {t : Int} (h1 : L[i]? = some (u : Int)) (h2 : st[i]? = some t) : okS L st u s = (decide (t = -1) || decide (t = (s : Int))) := by
  have hz : (L.zip st)[i]? = some ((u : Int), t) := List.getElem?_zip_eq_some.2 ⟨h1, h2⟩
  rw [Bool.eq_iff_iff]
  unfold okS
  rw [List.all_eq_true]
  constructor
  · intro h
    have := h _ (List.mem_of_getElem? hz)
    simpa using this
  · intro h p hp
    obtain ⟨j, hj⟩ := List.getElem?_of_mem hp
    obtain ⟨j1, j2⟩ := List.getElem?_zip_eq_some.1 hj
    by_cases e : p.1 = (u : Int)
    · have hij : i = j := by
        obtain ⟨a1, a2⟩ := List.getElem?_eq_some_iff.1 h1
        obtain ⟨b1, b2⟩ := List.getElem?_eq_some_iff.1 j1
        have hp := List.pairwise_iff_getElem.1 hn
        rcases Nat.lt_trichotomy i j with h3 | h3 | h3
        · exact absurd (by rw [a2, b2, e]) (hp i j a1 b1 h3)
        · exact h3
        · exact absurd (by rw [a2, b2, e]) (hp j i b1 a1 h3)
      subst hij
      rw [h2] at j2
      rw [← Option.some.inj j2]
      simpa [e] using h
    · simp [e]
theorem okS_none {L st : List Int} {u s : Nat} (h : ∀ (i : Nat) (v : Int), L[i]? = some v → v ≠ (u : Int)) : okS L st u s = true := by
  unfold okS
  rw [List.all_eq_true]
  intro p hp
  obtain ⟨j, hj⟩ := List.getElem?_of_mem hp
  obtain ⟨j1, _⟩ := List.getElem?_zip_eq_some.1 hj
  simp [h j _ j1]
set_option maxHeartbeats 1000000 in
theorem may_any (a : Option Addr) (n cap : Nat) (ts : List Nd) (ast : Option Addr) (l caps : Nat) (st : List Int) (u s : Nat) (w : World)
    (hr : RdN w a n cap ts) (hs : RdI w ast l caps st) (ht : treeB ts = true) (hl : st.length = (leafL ts).length) :
    Calls Tryd.prog 106 #[.slice a n cap, .slice ast l caps, .int .i64 u, .int .i64 s] w fun e w' => e = .returned (.bool (okS (leafL ts) st u s)) ∧ Ext w w' := by
  have hcall := RetIE.rd (rleaves_any a n cap ts w hr) (treeE_zero ht)
  rw [leavesR_ok ht] at hcall
  have hll := hs.len
  have hnd := leafL_nodup ts
  generalize leafL ts = L at *
  replace hl := Lib.hid hl
  replace hll := Lib.hid hll
  clear ht
  go_enter Tryd.func106, Tryd.ntmps106
  go_wp2_with fail
  refine hcall.mono ?_
  rintro e w1 ⟨al, nl, cl, hnl, rfl, hrl, hx1⟩
  have hnll : nl = l := by rw [hnl, ← hl.out, hll.out]
  have hmax : nl ≤ 9223372036854775807 := by have := hrl.le; have := hrl.most; unfold maxLen at this; omega
  replace hnl := Lib.hid hnl
  replace hnll := Lib.hid hnll
  go_wp2_with fail
  go_loopw [11] (fun i wr => ∃ j : Nat, j ≤ nl ∧ i = .int .i64 j ∧ Ext w1 wr ∧ Hid (∀ (i : Nat) (v : Int), i < j → L[i]? = some v → v ≠ (u : Int))) (fun i _ => nl - (intOf i).toNat)
  case atStart => exact ⟨0, Nat.zero_le _, rfl, Ext.refl _, fun i v h => absurd h (Nat.not_lt_zero _)⟩
  case round =>
    obtain ⟨j, hj, rfl, hx, hno⟩ := hrel
    by_cases hlt : j < nl
    · obtain ⟨b, off, v, rfl, hv, hb, hc⟩ := (hrl.ext hx).i64 hlt
      have hlt2 : j < l := by rw [← hnll.out]; exact hlt
      obtain ⟨b2, off2, t, rfl, htt, hb2, hc2⟩ := ((hs.ext hx1).ext hx).i64 hlt2
      by_cases hvu : v = (u : Int)
      · have hd : (v == (u : Int)) = true := by simpa using hvu
        have hok := okS_at (s := s) hnd (by rw [← hvu]; exact hv.out) htt.out
        replace hvu := Lib.hid hvu
        by_cases h1 : t = -1
        · have hd1 : (t == -1) = true := by simpa using h1
          have hres : (decide (t = -1) || decide (t = (s : Int))) = true := by simp [h1]
          replace h1 := Lib.hid h1
          rw [hres] at hok
          replace hok := Lib.hid hok
          clear hres
          go_wp2_with fail
          go_ret
          exact ⟨ret_bool hok.out.symm, (by repeat (first | exact Ext.refl _ | assumption | refine Ext.drew ?_ | refine Ext.drewN ?_ _ | refine Ext.alloc ?_ _ | refine Ext.trans ?_ (by assumption)))⟩
        · have hd1 : (t == -1) = false := by simpa using h1
          have hres : (decide (t = -1) || decide (t = (s : Int))) = (t == (s : Int)) := by
            rw [decide_eq_false h1, Bool.false_or]
            by_cases e : t = (s : Int) <;> simp [e]
          replace h1 := Lib.hid h1
          rw [hres] at hok
          replace hok := Lib.hid hok
          clear hres
          cases hb3 : (t == (s : Int))
          · rw [hb3] at hok
            go_wp2_with fail
            go_ret
            exact ⟨ret_bool hok.out.symm, (by repeat (first | exact Ext.refl _ | assumption | refine Ext.drew ?_ | refine Ext.drewN ?_ _ | refine Ext.alloc ?_ _ | refine Ext.trans ?_ (by assumption)))⟩
          · rw [hb3] at hok
            go_wp2_with fail
            go_ret
            exact ⟨ret_bool hok.out.symm, (by repeat (first | exact Ext.refl _ | assumption | refine Ext.drew ?_ | refine Ext.drewN ?_ _ | refine Ext.alloc ?_ _ | refine Ext.trans ?_ (by assumption)))⟩
      · have hd : (v == (u : Int)) = false := by simpa using hvu
        have hnew : Hid (∀ (i : Nat) (v : Int), i < j + 1 → L[i]? = some v → v ≠ (u : Int)) := fun i v' hi hv' => by
          by_cases e : i = j
          · subst e; rw [hv.out] at hv'; rw [← Option.some.inj hv']; exact hvu
          · exact hno.out i v' (by omega) hv'
        replace hvu := Lib.hid hvu
        go_wp2_with fail
        (first | exact ⟨⟨j + 1, by omega, by go_num, hx, hnew⟩, (by simp [intOf]; omega)⟩ | (go_roundw; case rel => exact ⟨j + 1, by omega, by go_num, hx, hnew⟩; case measure => exact (by simp [intOf]; omega)))
    · have hfin : okS L st u s = true := okS_none fun i v hv => hno.out i v (by have := (List.getElem?_eq_some_iff.1 hv).1; rw [← hnl.out] at this; omega) hv
      replace hfin := Lib.hid hfin
      go_wp2_with fail
      go_ret
      exact ⟨ret_bool hfin.out.symm, hx1.trans hx⟩
end Go.Proofs.YtdloabjnjnjacaaDoor
