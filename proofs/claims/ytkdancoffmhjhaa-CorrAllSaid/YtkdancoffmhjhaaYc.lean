/-
  The reference's Only.
-/
import Derived.Test.YtkdancoffmhjhaaYb
import Derived.Test.YtkdancoffmhjhaaKh
namespace Go.Proofs.Ytkdancoffmhjhaa
open Go.RowKit Go.Shelf
set_option maxHeartbeats 400000 in
set_option maxRecDepth 20000 in
theorem ronly_any (a : Option Addr) (n cap : Nat) (l : List HCo) (ak : Option Addr) (nk ck : Nat) (ks : List Int) (w : World) (hr : RdH w a n cap l) (hk : RdI w ak nk ck ks) (hnk0 : nk ≤ 9223372036854775807) :
    Calls Try.prog 33 #[.slice a n cap, .slice ak nk ck] w (OrSum (onlyE l ks) (onlyL ks l) w) := by
  have hck := rcheck_one a n cap l w hr
  have hkl := hk.len
  have hl := hr.rd.len
  unfold OrSum
  by_cases h0 : chkE [l] = 0
  · obtain ⟨hlim, hcor⟩ := chkE_all h0
    have hfl : [l].flatten = l := by simp
    rw [hfl] at hcor
    obtain ⟨hlen, hn64⟩ := hlim l (by simp)
    have hW64 : widH l ≤ 64 := by
      cases hh : l with
      | nil => exact Nat.zero_le _
      | cons y r => exact hn64 y (by rw [hh]; simp)
    have hE : onlyE l ks = langE (widH l) [] ks := by unfold onlyE; rw [if_neg (by simp [h0])]
    rw [hE]
    have hyl : ∀ y ∈ l, y.x.length = widH l ∧ 1 ≤ y.cnt ∧ y.cnt ≤ 2147483647 ∧ y.x.all Cl.ok = true := fun y hy => ⟨by rw [(hr.ok y hy).len]; exact (hcor y hy).1, (hcor y hy).2⟩
    have hwid : ∀ y ∈ l, y.n = widH l := fun y hy => (hcor y hy).1
    have hrw := fun W (z : Ext w W) => rwidth_any a n cap l W (hr.ext z)
    replace hck := cint hck h0
    have hvl : langE (widH l) [] ks = 0 → nk ≤ widH l ∧ (∀ k ∈ ks, 0 ≤ k ∧ k < (widH l : Int)) ∧ ∀ p ∈ onlyL ks l, p.1.length ≤ 64 ∧ (∀ c ∈ p.1, 0 ≤ c.kind ∧ c.kind < 256) ∧ 0 ≤ p.2 ∧ p.2 ≤ 2147483647 := fun hz => by
      obtain ⟨r1, r2⟩ := langE_len hz
      exact ⟨by rw [← hkl]; exact r1, r2, onlyL_vals hW64 r1 r2 hyl⟩
    generalize widH l = Wd at *
    obtain ⟨V, hV⟩ : ∃ V, V = langE Wd [] ks := ⟨_, rfl⟩
    rw [← hV]
    rw [← hV] at hvl
    replace hV := Lib.hid hV
    replace h0 := Lib.hid h0
    replace hkl := Lib.hid hkl
    replace hl := Lib.hid hl
    replace hlen := Lib.hid hlen
    replace hW64 := Lib.hid hW64
    replace hwid := Lib.hid hwid
    replace hvl := Lib.hid hvl
    clear hE hlim hcor hfl hn64 hyl
    go_enter Try.func33, Try.ntmps33
    go_wp2_with fail
    refine hck.mono ?_
    rintro e w1 ⟨rfl, hx1⟩
    clear hck
    go_wp2_with fail
    go_loopw [7] (fun i wr => ∃ (j : Nat), j ≤ nk ∧ i = .int .i64 j ∧ Hid (langE Wd (ks.take j) (ks.drop j) = V) ∧ Ext w wr) (fun i _ => nk - (intOf i).toNat)
    case atStart => exact ⟨0, Nat.zero_le _, rfl, Lib.hid (by rw [hV.out]; rfl), hx1⟩
    case round =>
      obtain ⟨j, hj, rfl, hjV, hxr⟩ := hrel
      by_cases hlt : j < nk
      · obtain ⟨bk, ok, kv, rfl, hkq, hbk, k0⟩ := (hk.ext hxr).i64 hlt
        have hji : (j : Int) < (nk : Int) := by omega
        have hst := langE_at (W := Wd) hkq.out
        rw [hjV.out] at hst
        have r0 := fun z : ExtOf wr => z.cell k0
        have hrw1 := fun z : ExtOf wr => hrw z.w (hxr.trans z.h)
        by_cases h3 : kv < 0 ∨ (Wd : Int) ≤ kv
        · rw [if_pos h3] at hst
          replace hst := Lib.hid hst
          by_cases h4 : kv < 0
          · have d1 : decide (kv < 0) = true := by simpa using h4
            replace h3 := Lib.hid h3
            go_wp2_with fail
            (refine wp_region_qx (by kernel_rfl) (by kernel_rfl) ?_
             repeat (go_big_quiet_step (exact calls_ext_same (hrw1 _)))
             refine wpQuiet_nil ?_
             intro wq hw'
             have hxq := ext_of_ex hw'
             clear hw')
            clear r0 hrw1
            go_wp2_with fail
            go_ret2
            exact .inl ⟨by rw [hst.out]; decide, by rw [hst.out]; rfl, hxr.trans hxq⟩
          · have d1 : decide (kv < 0) = false := by simpa using h4
            have d2 : decide ((Wd : Int) ≤ kv) = true := by simp; omega
            replace h3 := Lib.hid h3
            go_wp2_with fail
            (refine wp_region_qx (by kernel_rfl) (by kernel_rfl) ?_
             repeat (go_big_quiet_step (exact calls_ext_same (hrw1 _)))
             refine wpQuiet_nil ?_
             intro wq hw'
             have hxq := ext_of_ex hw'
             clear hw')
            clear r0 hrw1
            go_wp2_with fail
            go_ret2
            exact .inl ⟨by rw [hst.out]; decide, by rw [hst.out]; rfl, hxr.trans hxq⟩
        · rw [if_neg h3] at hst
          have d1 : decide (kv < 0) = false := by simp; omega
          have d2 : decide ((Wd : Int) ≤ kv) = false := by simp; omega
          replace h3 := Lib.hid h3
          go_wp2_with fail
          (refine wp_region_qx (by kernel_rfl) (by kernel_rfl) ?_
           repeat (go_big_quiet_step (exact calls_ext_same (hrw1 _)))
           refine wpQuiet_nil ?_
           intro wq hw'
           have hxq := ext_of_ex hw'
           clear hw')
          have k1 := hxq.cellv k0
          have hxr := hxr.trans hxq
          clear r0 hrw1 hxq
          go_wp2_with fail
          go_loopw [8] (fun i wi => ∃ (q : Nat), q ≤ j ∧ i = .int .i64 q ∧ Hid (∀ (i : Nat) (y : Int), i < q → ks[i]? = some y → decide (y ≠ kv) = true) ∧ Ext wq wi) (fun i _ => j - (intOf i).toNat)
          case atStart => exact ⟨0, Nat.zero_le _, rfl, Lib.hid (fun i y hi => absurd hi (Nat.not_lt_zero _)), Ext.refl _⟩
          case round =>
            obtain ⟨q, hq, rfl, hall, hxi⟩ := hrel
            by_cases hql : q < j
            · obtain ⟨_, _, kq, he, hkq2, _, k2⟩ := ((hk.ext hxr).ext hxi).i64 (show q < nk by omega)
              cases he
              have k3 := hxi.cellv k1
              have hqi : (q : Int) < (nk : Int) := by omega
              have hqj : (q : Int) < (j : Int) := by omega
              have r0 := fun z : ExtOf wr => z.cell k2
              have r1 := fun z : ExtOf wr => z.cell k3
              by_cases he : kq = kv
              · have dd : (kq == kv) = true := by simpa using he
                have hmem : kv ∈ ks.take j := by
                  rw [← he]
                  exact List.mem_of_getElem? (by rw [List.getElem?_take_of_lt hql]; exact hkq2.out)
                rw [if_pos hmem] at hst
                replace hst := Lib.hid hst
                replace he := Lib.hid he
                clear hmem
                go_wp2_with fail
                (refine wp_region_qx (by kernel_rfl) (by kernel_rfl) ?_
                 repeat (go_big_quiet_step (fail))
                 refine wpQuiet_nil ?_
                 intro wq hw'
                 have hxq := ext_of_ex hw'
                 clear hw')
                clear r0 r1
                go_wp2_with fail
                go_ret2
                exact .inl ⟨by rw [hst.out]; decide, by rw [hst.out]; rfl, (hxr.trans hxi).trans hxq⟩
              · have dd : (kq == kv) = false := by simpa using he
                have hnew := Lib.hid (all_succ (p := fun y => decide (y ≠ kv)) hall.out hkq2.out (by simpa using he))
                replace he := Lib.hid he
                replace hst := Lib.hid hst
                go_wp2_with fail
                (refine wp_region_qx (by kernel_rfl) (by kernel_rfl) ?_
                 repeat (go_big_quiet_step (fail))
                 refine wpQuiet_nil ?_
                 intro wq hw'
                 have hxq := ext_of_ex hw'
                 clear hw')
                clear r0 r1
                go_wp2_with fail
                (first | exact ⟨⟨q + 1, by omega, by go_num, hnew, hxi.trans hxq⟩, (by simp [intOf]; omega)⟩ | (go_roundw; case rel => exact ⟨q + 1, by omega, by go_num, hnew, hxi.trans hxq⟩; case measure => exact (by simp [intOf]; omega)))
            · obtain rfl : q = j := by omega
              have hno : kv ∉ ks.take q := fun hm => by
                obtain ⟨i, hi⟩ := List.getElem?_of_mem hm
                have hil : i < q := by have := (List.getElem?_eq_some_iff.1 hi).1; rw [List.length_take] at this; omega
                rw [List.getElem?_take_of_lt hil] at hi
                have := hall.out i kv hil hi
                simp at this
              rw [if_neg hno] at hst
              replace hst := Lib.hid hst.symm
              clear hno
              go_wp2_with fail
              (first | exact ⟨⟨q + 1, by omega, by go_num, hst, hxr.trans hxi⟩, (by simp [intOf]; omega)⟩ | (go_roundw; case rel => exact ⟨q + 1, by omega, by go_num, hst, hxr.trans hxi⟩; case measure => exact (by simp [intOf]; omega)))
      · obtain rfl : j = nk := by omega
        have hV0 : V = 0 := by
          have := hjV.out
          rw [List.drop_of_length_le (by rw [hkl.out]; exact Nat.le_refl _)] at this
          rw [← this]; rfl
        subst hV0
        obtain ⟨hnW, hkin, hvals⟩ := hvl.out rfl
        replace hkin := Lib.hid hkin
        replace hvals := Lib.hid hvals
        have hn64 : j ≤ 64 := by have := hW64.out; omega
        have hnl : n ≤ 4096 := by rw [← hl.out]; exact hlen.out
        clear hvl hjV hV hrw
        go_wp2_with fail
        go_loopw [9, 10] (fun v i wi => ∃ (p : Nat) (hs : List HCo), p ≤ n ∧ i = .int .i64 p ∧ OwnLC w.heap.size wi v hs ∧ Hid (hs.map kp = onlyL ks (l.take p)) ∧ Hid (hs.length ≤ p) ∧ Ext w wi) (fun _ i _ => n - (intOf i).toNat)
        case atStart => exact ⟨0, [], Nat.zero_le _, rfl, ⟨OwnK.nil _ _ _, fun y hy => by cases hy⟩, Lib.hid rfl, Lib.hid (Nat.le_refl _), hxr⟩
        case round =>
          obtain ⟨p, hs, hp, rfl, hown, hk4, hk5, hx⟩ := hrel
          by_cases hpl : p < n
          · obtain ⟨b, off, ⟨ya, yn, yc, ycnt, yx⟩, rfl, hy, hb, hc0, hc1, hcy⟩ := (hr.ext hx).at hpl
            have hyn := hwid.out _ (List.mem_of_getElem? hy.out)
            have hsu := onlyL_succ (ks := ks) hy.out
            simp only at hc0 hc1 hcy hyn
            subst hyn
            have hpi : (p : Int) < (n : Int) := by omega
            obtain ⟨oC, hoC⟩ : ∃ oC : List Int → List Cl, oC = fun L => onlyC L ⟨ya, yn, yc, ycnt, yx⟩ := ⟨_, rfl⟩
            have hoK : ∀ L, onlyC L ⟨ya, yn, yc, ycnt, yx⟩ = oC L := fun L => by rw [hoC]
            have hoS : ∀ (q : Nat) (k : Int), ks[q]? = some k → oC (ks.take (q + 1)) = oC (ks.take q) ++ [yx.getD k.toNat nulC] := fun q k h => by rw [hoC]; exact onlyC_succ (y := ⟨ya, yn, yc, ycnt, yx⟩) h
            have hoN : ∀ L, (oC L).length = L.length := fun L => by rw [hoC]; unfold onlyC; rw [List.length_map]
            rw [hoK] at hsu
            clear hoK
            replace hoC := Lib.hid hoC
            replace hoS := Lib.hid hoS
            replace hoN := Lib.hid hoN
            simp only at hsu
            go_wp2_with fail
            generalize hwz : wr = wz at *
            go_loopw [11, 12, 13] (fun v kb i wi => ∃ (q : Nat), q ≤ j ∧ i = .int .i64 q ∧ kb = .bool ((oC (ks.take q)).any knwB) ∧ OwnK 3 Cl.enc wz.heap.size 39 wi v (oC (ks.take q)) ∧ Ext wz wi) (fun _ _ i _ => j - (intOf i).toNat)
            case atStart => exact ⟨0, Nat.zero_le _, rfl, by rw [show oC (ks.take 0) = [] from List.eq_nil_of_length_eq_zero (by rw [hoN.out]; rfl)]; rfl, by rw [show oC (ks.take 0) = [] from List.eq_nil_of_length_eq_zero (by rw [hoN.out]; rfl)]; exact OwnK.nil _ _ _, Ext.refl _⟩
            case round =>
              obtain ⟨q, hq, rfl, rfl, hownc, hxi⟩ := hrel
              by_cases hql : q < j
              · obtain ⟨bk, ok, kv, rfl, hkq, hbk, k0⟩ := (((hk.ext hx)).ext hxi).i64 hql
                obtain ⟨hk1, hk2⟩ := hkin.out kv (List.mem_of_getElem? hkq.out)
                obtain ⟨kn, rfl⟩ : ∃ kn : Nat, kv = kn := ⟨kv.toNat, by omega⟩
                obtain ⟨bc, oc, c, rfl, hcq, hbc, p0, p1, p2⟩ := (hcy.ext hxi).cl (i := kn) (by omega)
                have hc0 := hxi.cellv hc0
                have hcb := cell_lt hc0
                simp only at hcb
                have hqi : (q : Int) < (j : Int) := by omega
                have hki : (kn : Int) < (yn : Int) := by omega
                have hS0 : (fun w' : World => Ext wr w') wr.drew := (Ext.refl _).drew
                have hsq := hoS.out _ _ hkq.out
                rw [Int.toNat_natCast, List.getD_eq_getElem?_getD, hcq.out] at hsq
                replace hsq := Lib.hid hsq
                go_wp2_with fail
                refine wp_region_F (fun w' => Ext wr w') [0, 1, 2, 3, 4, 5, 6, 7, 8, 9, 10] (by kernel_rfl) ?_
                show wpF _ _ _ _ _ _ 13 _ _ _
                refine wpF_take (i := 0) (v := .slice (some ⟨b, off, none⟩) n cap) rfl (by kernel_rfl) (by kernel_rfl) (by kernel_rfl) (by kernel_rfl) (fun _ _ _ h => h) (.inl ⟨rfl, fun W' hW' => ?_⟩) hS0 ?_
                · have t0 := Ext.cellv hW' hc0
                  have t1 := Ext.cellv hW' k0
                  have t2 := Ext.cellv hW' p0
                  have t3 := Ext.cellv hW' p1
                  have t4 := Ext.cellv hW' p2
                  go_simp
                refine wpF_take (i := 1) (v := .int .i64 p) rfl (by kernel_rfl) (by kernel_rfl) (by kernel_rfl) (by kernel_rfl) (fun _ _ _ h => h) (.inl ⟨rfl, fun W' hW' => ?_⟩) hS0 ?_
                · have t0 := Ext.cellv hW' hc0
                  have t1 := Ext.cellv hW' k0
                  have t2 := Ext.cellv hW' p0
                  have t3 := Ext.cellv hW' p1
                  have t4 := Ext.cellv hW' p2
                  go_simp
                refine wpF_take (i := 2) (v := .pointer (some ⟨b, off + p * 2, none⟩)) rfl (by kernel_rfl) (by kernel_rfl) (by kernel_rfl) (by kernel_rfl) (fun _ _ _ h => h) (.inl ⟨rfl, fun W' hW' => ?_⟩) hS0 ?_
                · have t0 := Ext.cellv hW' hc0
                  have t1 := Ext.cellv hW' k0
                  have t2 := Ext.cellv hW' p0
                  have t3 := Ext.cellv hW' p1
                  have t4 := Ext.cellv hW' p2
                  go_simp
                refine wpF_take (i := 3) (v := .pointer (some ⟨b, off + p * 2, none⟩)) rfl (by kernel_rfl) (by kernel_rfl) (by kernel_rfl) (by kernel_rfl) (fun _ _ _ h => h) (.inl ⟨rfl, fun W' hW' => ?_⟩) hS0 ?_
                · have t0 := Ext.cellv hW' hc0
                  have t1 := Ext.cellv hW' k0
                  have t2 := Ext.cellv hW' p0
                  have t3 := Ext.cellv hW' p1
                  have t4 := Ext.cellv hW' p2
                  go_simp
                refine wpF_take (i := 4) (v := .slice (some ⟨bc, oc, none⟩) yn yc) rfl (by kernel_rfl) (by kernel_rfl) (by kernel_rfl) (by kernel_rfl) (fun _ _ _ h => h) (.inl ⟨rfl, fun W' hW' => ?_⟩) hS0 ?_
                · have t0 := Ext.cellv hW' hc0
                  have t1 := Ext.cellv hW' k0
                  have t2 := Ext.cellv hW' p0
                  have t3 := Ext.cellv hW' p1
                  have t4 := Ext.cellv hW' p2
                  go_simp
                refine wpF_take (i := 5) (v := .slice (some ⟨bk, ok, none⟩) j ck) rfl (by kernel_rfl) (by kernel_rfl) (by kernel_rfl) (by kernel_rfl) (fun _ _ _ h => h) (.inl ⟨rfl, fun W' hW' => ?_⟩) hS0 ?_
                · have t0 := Ext.cellv hW' hc0
                  have t1 := Ext.cellv hW' k0
                  have t2 := Ext.cellv hW' p0
                  have t3 := Ext.cellv hW' p1
                  have t4 := Ext.cellv hW' p2
                  go_simp
                refine wpF_take (i := 6) (v := .int .i64 q) rfl (by kernel_rfl) (by kernel_rfl) (by kernel_rfl) (by kernel_rfl) (fun _ _ _ h => h) (.inl ⟨rfl, fun W' hW' => ?_⟩) hS0 ?_
                · have t0 := Ext.cellv hW' hc0
                  have t1 := Ext.cellv hW' k0
                  have t2 := Ext.cellv hW' p0
                  have t3 := Ext.cellv hW' p1
                  have t4 := Ext.cellv hW' p2
                  go_simp
                refine wpF_take (i := 7) (v := .pointer (some ⟨bk, ok + q, none⟩)) rfl (by kernel_rfl) (by kernel_rfl) (by kernel_rfl) (by kernel_rfl) (fun _ _ _ h => h) (.inl ⟨rfl, fun W' hW' => ?_⟩) hS0 ?_
                · have t0 := Ext.cellv hW' hc0
                  have t1 := Ext.cellv hW' k0
                  have t2 := Ext.cellv hW' p0
                  have t3 := Ext.cellv hW' p1
                  have t4 := Ext.cellv hW' p2
                  go_simp
                refine wpF_take (i := 8) (v := .int .i64 kn) rfl (by kernel_rfl) (by kernel_rfl) (by kernel_rfl) (by kernel_rfl) (fun _ _ _ h => h) (.inl ⟨rfl, fun W' hW' => ?_⟩) hS0 ?_
                · have t0 := Ext.cellv hW' hc0
                  have t1 := Ext.cellv hW' k0
                  have t2 := Ext.cellv hW' p0
                  have t3 := Ext.cellv hW' p1
                  have t4 := Ext.cellv hW' p2
                  go_simp
                refine wpF_take (i := 9) (v := .pointer (some ⟨bc, oc + kn * 3, none⟩)) rfl (by kernel_rfl) (by kernel_rfl) (by kernel_rfl) (by kernel_rfl) (fun _ _ _ h => h) (.inl ⟨rfl, fun W' hW' => ?_⟩) hS0 ?_
                · have t0 := Ext.cellv hW' hc0
                  have t1 := Ext.cellv hW' k0
                  have t2 := Ext.cellv hW' p0
                  have t3 := Ext.cellv hW' p1
                  have t4 := Ext.cellv hW' p2
                  go_simp
                refine wpF_take (i := 10) (v := clV c) rfl (by kernel_rfl) (by kernel_rfl) (by kernel_rfl) (by kernel_rfl) (fun _ _ _ h => h) (.inl ⟨rfl, fun W' hW' => ?_⟩) hS0 ?_
                · have t0 := Ext.cellv hW' hc0
                  have t1 := Ext.cellv hW' k0
                  have t2 := Ext.cellv hW' p0
                  have t3 := Ext.cellv hW' p1
                  have t4 := Ext.cellv hW' p2
                  go_simp
                refine wpF_step (k := 11) rfl (by kernel_rfl) rfl fun K1 hK1 => ?_
                go_simp
                refine hK1 _ _ ((Ext.refl _).drew.alloc _) ?_
                refine wpF_step (k := 12) rfl (by kernel_rfl) rfl fun K2 hK2 => ?_
                go_simp
                refine hK2 _ _ (((Ext.refl _).alloc _).drew) ?_
                refine ⟨by kernel_rfl, ?_⟩
                have q0 : (wr.alloc (.cells #[.int .i64 c.kind, .int .u32 c.s.p.toNat, .int .u32 c.s.m.toNat] 39)).drew.cell? ⟨wr.heap.size, 0, none⟩ = some (.int .i64 c.kind) := by go_simp
                have q1 : (wr.alloc (.cells #[.int .i64 c.kind, .int .u32 c.s.p.toNat, .int .u32 c.s.m.toNat] 39)).drew.cell? ⟨wr.heap.size, 1, none⟩ = some (.int .u32 c.s.p.toNat) := by go_simp
                have q2 : (wr.alloc (.cells #[.int .i64 c.kind, .int .u32 c.s.p.toNat, .int .u32 c.s.m.toNat] 39)).drew.cell? ⟨wr.heap.size, 2, none⟩ = some (.int .u32 c.s.m.toNat) := by go_simp
                have hx5 : Ext wr (wr.alloc (.cells #[.int .i64 c.kind, .int .u32 c.s.p.toNat, .int .u32 c.s.m.toNat] 39)).drew := ((Ext.refl _).alloc _).drew
                have hB5 : wr.heap.size < (wr.alloc (.cells #[.int .i64 c.kind, .int .u32 c.s.p.toNat, .int .u32 c.s.m.toNat] 39)).drew.heap.size := cell_lt q0
                generalize (wr.alloc (.cells #[.int .i64 c.kind, .int .u32 c.s.p.toNat, .int .u32 c.s.m.toNat] 39)).drew = w5 at *
                have hne5 := OwnK.own_lt hownc (Nat.le_refl _)
                generalize hcB : wr.heap.size = B5 at *
                have hcl : Hid ((oC (ks.take q)).length = q) := Lib.hid (by rw [hoN.out, List.length_take, hkl.out]; omega)
                have hown5 := hownc.kept hx5
                have hxi5 := hxi.trans hx5
                clear hS0 hownc hx5 hcB
                obtain ⟨kB, hkB⟩ : ∃ kB, kB = (oC (ks.take q)).any knwB := ⟨_, rfl⟩
                rw [← hkB]
                have hnB : (oC (ks.take (q + 1))).any knwB = (kB || knwB c) := by rw [hsq.out, List.any_append, hkB]; simp
                have hcK : knwB c = (c.kind != 0) := by unfold knwB; rw [Bool.eq_iff_iff]; simp
                rw [hcK] at hnB
                replace hkB := Lib.hid hkB
                clear hcK
                cases kB
                all_goals
                  simp only [Bool.false_or, Bool.true_or] at hnB
                  replace hnB := Lib.hid hnB
                  go_wp2_with (at_builtin; refine wp_app1 wz w5 c rfl _ _ 29 rfl 39 Try.underlying29 info_cl rfl (by decide) _ _ rfl hown5 hxi5 rfl rfl (Cl.one _) (by rw [hcl.out]; omega) (by rw [hcl.out]; unfold maxLen; omega) ?_; intro v6 w6 ho6 hx6 hg6; have hbk6 := hg6.cell ((Ext.alloc1 w5 (.cells #[.int .i64 c.kind, .int .u32 c.s.p.toNat, .int .u32 c.s.m.toNat] 39)).cellv q0) hne5; have hbl6 := cell_lt hbk6; simp only at hbl6)
                  rw [show oC (ks.take q) ++ [c] = oC (ks.take (q + 1)) from hsq.out.symm] at ho6
                  (first | exact ⟨⟨q + 1, by omega, by go_num, by rw [hnB.out], ho6, hx6⟩, (by simp [intOf]; omega)⟩ | (go_roundw; case rel => exact ⟨q + 1, by omega, by go_num, by rw [hnB.out], ho6, hx6⟩; case measure => exact (by simp [intOf]; omega)))
              · obtain rfl : q = j := by omega
                rw [List.take_of_length_le (by rw [hkl.out]; exact Nat.le_refl _)] at hownc
                rw [List.take_of_length_le (by rw [hkl.out]; exact Nat.le_refl _)]
                obtain ⟨a3, n3, c3, hn3, rfl, hr3⟩ := OwnK.rdn Cl.len hownc
                have hxw := hx.trans hxi
                obtain ⟨kB, hkB⟩ : ∃ kB, kB = (oC ks).any knwB := ⟨_, rfl⟩
                rw [← hkB]
                rw [← hkB] at hsu
                replace hkB := Lib.hid hkB
                replace hn3 := Lib.hid hn3
                have hd0 := hxi.cellv hc0
                have hd1 := hxi.cellv hc1
                have hdl := cell_lt hd0
                simp only at hdl
                cases kB
                · rw [if_neg (by simp), List.append_nil] at hsu
                  have hnew : Hid (hs.map kp = onlyL ks (l.take (p + 1))) := Lib.hid (by rw [hsu]; exact hk4.out)
                  replace hsu := Lib.hid hsu
                  clear hr3
                  go_wp2_with fail
                  (first | exact ⟨⟨p + 1, hs, by omega, by go_num, hown.kept hxi, hnew, Lib.hid (by have := hk5.out; omega), hxw⟩, (by simp [intOf]; omega)⟩ | (go_roundw; case rel => exact ⟨p + 1, hs, by omega, by go_num, hown.kept hxi, hnew, Lib.hid (by have := hk5.out; omega), hxw⟩; case measure => exact (by simp [intOf]; omega)))
                · rw [if_pos rfl] at hsu
                  obtain ⟨ao, no, co, hno, rfl, hro⟩ := OwnK.rdn HCo.len hown.own
                  have hnl2 : hs.length ≤ 5000 := by have := hk5.out; omega
                  have hownw := hown.kept hxi
                  replace hno := Lib.hid hno
                  replace hsu := Lib.hid hsu
                  clear hro
                  go_wp2_with (at_builtin; refine wp_app1 w wr (⟨a3, n3, c3, ycnt, oC ks⟩ : HCo) rfl _ _ 24 rfl 49 Try.underlying24 info_corr rfl (by decide) _ _ rfl hownw.own hxw rfl rfl (HCo.one _) (by omega) (by unfold maxLen; omega) ?_; intro v9 w9 ho9 hx9 hg9)
                  have hsA := Ext.alloc1 wr (.cells #[.slice a3 n3 c3, .int .i64 ycnt] 49)
                  have hb4 := OwnK.blk' (hownw.own.kept hsA)
                  have oF : OwnLC w.heap.size w9 v9 (hs ++ [⟨a3, n3, c3, ycnt, oC ks⟩]) := ⟨ho9, fun u hu => by
                    rcases List.mem_append.1 hu with h | h
                    · exact ((hownw.ok u h).kept hsA).other hg9 hb4 (by decide)
                    · rw [List.mem_singleton.1 h]; exact ((OwnK.base hownc (by have := hx.le; omega)).kept hsA).other hg9 hb4 (by decide)⟩
                  have hnew : Hid ((hs ++ [(⟨a3, n3, c3, ycnt, oC ks⟩ : HCo)]).map kp = onlyL ks (l.take (p + 1))) := Lib.hid (by rw [hsu.out, List.map_append, hk4.out]; rfl)
                  (first | exact ⟨⟨p + 1, _, by omega, by go_num, oF, hnew, Lib.hid (by rw [List.length_append]; have := hk5.out; simp; omega), hx9⟩, (by simp [intOf]; omega)⟩ | (go_roundw; case rel => exact ⟨p + 1, _, by omega, by go_num, oF, hnew, Lib.hid (by rw [List.length_append]; have := hk5.out; simp; omega), hx9⟩; case measure => exact (by simp [intOf]; omega)))
          · obtain rfl : p = n := by omega
            rw [List.take_of_length_le (by rw [hl.out]; exact Nat.le_refl _)] at hk4
            obtain ⟨sa, ns, cs, hns, rfl, hrs⟩ := OwnK.rdn HCo.len hown.own
            have hsum := rsum_any sa ns cs hs wr ⟨hrs, hown.to.ok⟩ (by have := hk5.out; omega) (fun y hy => by
              have := hvals.out (kp y) (by rw [← hk4.out]; exact List.mem_map.2 ⟨y, hy, rfl⟩)
              rw [← (hown.to.ok y hy).len]; exact this.1) (fun y hy => by
              have := hvals.out (kp y) (by rw [← hk4.out]; exact List.mem_map.2 ⟨y, hy, rfl⟩)
              exact ⟨this.2.2.1, this.2.2.2⟩)
            rw [hk4.out] at hsum
            replace hns := Lib.hid hns
            clear hrs hown
            unfold SumRet at hsum
            go_wp2_with fail
            refine hsum.mono ?_
            rintro e w4 ⟨L, hL, v, hs', rfl, hown', hk', hx4⟩
            replace hk' := Lib.hid hk'
            go_wp2_with fail
            go_ret2
            exact ⟨L, hL, v, hs', rfl, OwnL.base hown' hx.le, hk'.out, hx.trans hx4⟩
  · have hE : onlyE l ks = chkE [l] := by unfold onlyE; rw [if_pos h0]
    rw [hE]
    generalize chkE [l] = er at *
    have hd : (er != 0) = true := by simpa using h0
    replace h0 := Lib.hid h0
    clear hE
    go_enter Try.func33, Try.ntmps33
    go_wp2_with fail
    refine hck.mono ?_
    rintro e w1 ⟨rfl, hx1⟩
    go_wp2_with fail
    go_ret2
    exact .inl ⟨h0.out, rfl, hx1⟩
end Go.Proofs.Ytkdancoffmhjhaa
