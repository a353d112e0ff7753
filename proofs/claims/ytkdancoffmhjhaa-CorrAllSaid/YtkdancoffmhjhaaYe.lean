/-
  The law CorrAll: the walk.
-/
import Derived.Test.YtkdancoffmhjhaaYd
import Derived.Test.YtkdancoffmhjhaaLq
import Derived.Test.YtkdancoffmhjhaaLr
namespace Go.Proofs.Ytkdancoffmhjhaa
open Go.RowKit Go.Shelf
theorem info_i64 : (Try.prog.info? 3).map (fun i => (i.zero, i.size, i.bytes)) = some (some (.int .i64 0), 1, 8) := by kernel_rfl
theorem filt_succ {α : Type} {p : α → Bool} {l : List α} {j : Nat} {y : α} (h : l[j]? = some y) : (l.take (j + 1)).filter p = (l.take j).filter p ++ if p y = true then [y] else [] := by
  rw [take_succ_at h, List.filter_append]
  congr 1
  by_cases hp : p y = true
  · rw [if_pos hp, List.filter_cons_of_pos hp]; rfl
  · rw [if_neg hp, List.filter_cons_of_neg hp]; rfl
theorem any_take_succ {α : Type} {p : α → Bool} {l : List α} {j : Nat} {y : α} (h : l[j]? = some y) : (l.take (j + 1)).any p = ((l.take j).any p || p y) := by
  rw [take_succ_at h, List.any_append]; simp
set_option maxHeartbeats 1000000 in
set_option maxRecDepth 20000 in
theorem corrAll_any (a : Option Addr) (n cap : Nat) (l : List HCo) (z : Int) (w : World) (hr : RdH w a n cap l) (hz : (Lit.int .u8 z).wf = true) :
    Calls Try.prog 12 #[.slice a n cap, .int .u8 z] w fun e w' => e = .returned (.bool true) ∧ Ext w w' := by
  have hm1 := hr.max
  have hl := hr.rd.len
  by_cases h1 : n ≤ 60
  · have d1 : decide ((60 : Int) < (n : Int)) = false := by simp; omega
    have hA := merge_v a n cap l none 0 0 [] w hr (rdh_none w)
    rw [chkE_nil, List.append_nil] at hA
    unfold ListRet at hA
    obtain ⟨V, hV⟩ : ∃ V, V = sumVa (chkE [l]) (l.map kp) := ⟨_, rfl⟩
    obtain ⟨E, hE⟩ : ∃ E, E = sumEr (chkE [l]) (l.map kp) := ⟨_, rfl⟩
    rw [← hV, ← hE] at hA
    by_cases h0 : E = 0
    · by_cases hn0 : n = 0
      · subst hn0
        subst h0
        replace hV := Lib.hid hV
        replace hE := Lib.hid hE
        replace hl := Lib.hid hl
        go_enter Try.func12, Try.ntmps12
        go_wp2_with fail
        refine hA.mono ?_
        rintro e w1 ⟨a1, n1, c1, hs1, rfl, hr1, hk1, hx1⟩
        go_wp2_with fail
        refine (works_any _).mono ?_
        rintro e wz ⟨rfl, hxz⟩
        go_wp2_with fail
        go_ret
        exact ⟨rfl, (by repeat (first | exact Ext.refl _ | assumption | refine Ext.drew ?_ | refine Ext.drewN ?_ _ | refine Ext.alloc ?_ _ | refine Ext.trans ?_ (by assumption)))⟩
      · have hn1 : 0 < n := by omega
        have dn : ((n : Int) == 0) = false := by simp; omega
        have dn2 : decide ((0 : Int) < (n : Int)) = true := by simp; omega
        obtain ⟨hc0, h7, hV2⟩ := sumEr_zero (hE.symm.trans h0)
        obtain ⟨hlim, hok⟩ := (chkE_iff _).1 hc0
        have hfl : [l].flatten = l := by simp
        rw [hfl] at hok
        obtain ⟨hlen, hn64⟩ := hlim l (by simp)
        have hxl : ∀ y ∈ l, y.x.length = widH l := fun y hy => by rw [(hr.ok y hy).len]; exact (hok y hy).1
        obtain ⟨b, off, ⟨ya, yn, yc, ycnt, yx⟩, rfl, hy, hb, p0, p1, hcy⟩ := hr.at hn1
        have hW := corB_head hy.out
        simp only [Nat.zero_mul, Nat.add_zero] at hW p0 hcy
        have hyn : yn ≤ 64 := hn64 _ (List.mem_of_getElem? hy.out)
        subst h0
        rw [hW] at hok hxl
        have hzb := bounds_u8 hz
        by_cases hW0 : yn = 0
        · subst hW0
          clear hok hxl hlim hlen hn64 hW hfl h7 hV2 hc0
          replace hV := Lib.hid hV
          replace hE := Lib.hid hE
          replace hl := Lib.hid hl
          go_enter Try.func12, Try.ntmps12
          go_wp2_with fail
          refine hA.mono ?_
          rintro e w1 ⟨a1, n1, c1, hs1, rfl, hr1, hk1, hx1⟩
          have p0 := hx1.cellv p0
          go_wp2_with fail
          refine (works_any _).mono ?_
          rintro e wz ⟨rfl, hxz⟩
          go_wp2_with fail
          go_ret
          exact ⟨rfl, (by repeat (first | exact Ext.refl _ | assumption | refine Ext.drew ?_ | refine Ext.drewN ?_ _ | refine Ext.alloc ?_ _ | refine Ext.trans ?_ (by assumption)))⟩
        · -- all languages, and one of them
          have dW : ((yn : Int) == 0) = false := by simp; omega
          obtain ⟨k, hkz⟩ : ∃ k : Nat, k = z.toNat % yn := ⟨_, rfl⟩
          have hkW : k < yn := by rw [hkz]; exact Nat.mod_lt _ (by omega)
          have hmod : z.tmod (yn : Int) = (k : Int) := by
            obtain ⟨zn, rfl⟩ : ∃ zn : Nat, z = zn := ⟨z.toNat, by omega⟩
            rw [hkz]; rfl
          have hAll := fun W (u : Ext w W) (ag : Option Addr) (cg : Nat) (hg : RdI W ag yn cg (rgI yn)) => (only_any (some ⟨b, off, none⟩) n cap l ag yn cg (rgI yn) W (hr.ext u) hg).mono (fun _ _ h => orSum_v h)
          have hOne := fun W (u : Ext w W) (ag : Option Addr) (cg : Nat) (hg : RdI W ag 1 cg [(k : Int)]) => (only_any (some ⟨b, off, none⟩) n cap l ag 1 cg [(k : Int)] W (hr.ext u) hg).mono (fun _ _ h => orSum_v h)
          have hE1 : onlyE l (rgI yn) = 0 := by unfold onlyE; rw [if_neg (by simp [hc0]), hW]; exact langE_range yn
          have hE2 : onlyE l [(k : Int)] = 0 := by unfold onlyE; rw [if_neg (by simp [hc0]), hW]; exact langE_one (by omega) (by omega)
          have hF : onlyL (rgI yn) l = (l.map kp).filter fun p => p.1.any knwB := onlyL_range hxl
          have hS1 : sumL (onlyL (rgI yn) l) = V.filter fun p => p.1.any knwB := by rw [hF, hV, hV2]; exact sumL_filter (fun x => x.any knwB) _
          have hs7 : sumE (V.filter fun p => p.1.any knwB) = 0 := sumE_filter (by rw [hV, hV2]; exact h7)
          have hVa1 : sumVa (onlyE l (rgI yn)) (onlyL (rgI yn) l) = V.filter fun p => p.1.any knwB := by unfold sumVa; rw [hE1, if_pos rfl, hS1, if_pos hs7]
          have hEr1 : sumEr (onlyE l (rgI yn)) (onlyL (rgI yn) l) = 0 := by unfold sumEr; rw [hE1, if_pos rfl, hS1, hs7]
          have hVa2 : sumVa (onlyE l [(k : Int)]) (onlyL [(k : Int)] l) = if sumE (sumL (onlyL [(k : Int)] l)) = 0 then sumL (onlyL [(k : Int)] l) else [] := by unfold sumVa; rw [hE2, if_pos rfl]
          have hEr2 : sumEr (onlyE l [(k : Int)]) (onlyL [(k : Int)] l) = sumE (sumL (onlyL [(k : Int)] l)) := by unfold sumEr; rw [hE2, if_pos rfl]
          rw [hVa1, hEr1] at hAll
          rw [hVa2, hEr2] at hOne
          unfold ListRet at hAll hOne
          have hl1 : ∀ y ∈ l, k < y.x.length ∧ 1 ≤ y.cnt ∧ y.cnt ≤ 2147483647 ∧ y.x.all Cl.ok = true := fun y hy => ⟨by rw [hxl y hy]; exact hkW, (hok y hy).2⟩
          have hTot : sumE (sumL (onlyL [(k : Int)] l)) = 0 → ∀ (W : World) a3 n3 c3 hs3, RdH W a3 n3 c3 hs3 → hs3.map kp = sumL (onlyL [(k : Int)] l) → Calls Try.prog 28 #[.slice a3 n3 c3] W fun e w' => e = .returned (.tuple #[.int .i64 (cntSel (knK k) l), .int .i64 0]) ∧ Ext W w' := by
            intro h7 W a3 n3 c3 hs3 hr3 hk3
            have h3 := total_any a3 n3 c3 hs3 W hr3
            obtain ⟨e1, e2⟩ := one_valid hl1 hlen hk3 (fun y hy => (hr3.ok y hy).len) h7
            rwa [e1, if_pos rfl, e2] at h3
          have hbd := fun j => cntSel_bd (p := knK k) (l := l.take j) (fun y hy => ⟨by have := (hok y (List.mem_of_mem_take hy)).2.1; omega, (hok y (List.mem_of_mem_take hy)).2.2.1⟩)
          obtain ⟨Q, hQ⟩ : ∃ Q, Q = sumE (sumL (onlyL [(k : Int)] l)) := ⟨_, rfl⟩
          have hQ7 := sumE_val (sumL (onlyL [(k : Int)] l))
          rw [← hQ] at hOne hTot hQ7
          have hwid : ∀ y ∈ l, y.n = yn := fun y hy => (hok y hy).1
          have hVl : V.length ≤ 60 := by rw [hV, hV2]; have := SumK.len_le (sumL_sum (l.map kp)); rw [List.length_map] at this; omega
          replace hVl := Lib.hid hVl
          generalize sumL (onlyL [(k : Int)] l) = U at *
          generalize hVF : V.filter (fun p => p.1.any knwB) = VF at *
          clear hVa1 hVa2 hEr1 hEr2 hE1 hE2 hF hS1 hs7 hl1 hkz hQ h7 hV2 hc0 hfl hlim hok hxl hn64 hW
          replace hVF := Lib.hid hVF
          replace hV := Lib.hid hV
          replace hE := Lib.hid hE
          replace hl := Lib.hid hl
          replace hbd := Lib.hid hbd
          replace hwid := Lib.hid hwid
          replace hTot := Lib.hid hTot
          replace hQ7 := Lib.hid hQ7
          go_enter Try.func12, Try.ntmps12
          go_wp2_with fail
          refine hA.mono ?_
          rintro e w1 ⟨a1, n1, c1, hs1, rfl, hr1, hk1, hx1⟩
          have p2 := hx1.cellv p0
          go_wp2_with fail
          go_loopw [7, 8] (fun v i wr => ∃ j : Nat, j ≤ yn ∧ i = .int .i64 j ∧ OwnK 1 I64.enc w1.heap.size 3 wr v (rgI j) ∧ Ext w1 wr) (fun _ i _ => yn - (intOf i).toNat)
          case atStart => exact ⟨0, Nat.zero_le _, rfl, OwnK.nil _ _ _, Ext.refl _⟩
          case round =>
            obtain ⟨j, hj, rfl, hown, hx⟩ := hrel
            have p3 := hx.cellv p2
            by_cases hjl : j < yn
            · have hji : (j : Int) < (yn : Int) := by omega
              go_wp2_with (at_builtin; refine wp_app1 w1 wr (j : Int) rfl _ _ 54 rfl 3 Try.underlying54 info_i64 rfl (by decide) _ _ rfl hown hx rfl rfl (I64.one _) (by rw [rgI_len]; omega) (by rw [rgI_len]; unfold maxLen; omega) ?_; intro v5 w5 ho5 hx5 _)
              rw [← rgI_succ] at ho5
              (first | exact ⟨⟨j + 1, by omega, by go_num, ho5, hx5⟩, (by simp [intOf]; omega)⟩ | (go_roundw; case rel => exact ⟨j + 1, by omega, by go_num, ho5, hx5⟩; case measure => exact (by simp [intOf]; omega)))
            · obtain rfl : j = yn := by omega
              obtain ⟨ag, ng, cg, hng, rfl, hrg⟩ := OwnK.rdn I64.len hown
              rw [rgI_len] at hng
              subst hng
              have hAll2 := hAll wr (hx1.trans hx) ag cg hrg
              have hr1 := hr1.ext hx
              have hxr := hx1.trans hx
              clear hown hAll
              go_wp2_with fail
              refine hAll2.mono ?_
              rintro e w2 ⟨a2, n2, c2, hs2, rfl, hr2, hk2, hx2⟩
              have hr1 := hr1.ext hx2
              have hxr2 := hxr.trans hx2
              have hl1 := hr1.rd.len
              have hm11 := hr1.max
              replace hl1 := Lib.hid hl1
              clear hAll2 hA
              go_wp2_with fail
              go_loopw [11, 12] (fun v i wi => ∃ j : Nat, j ≤ n1 ∧ i = .int .i64 j ∧ OwnK 2 HCo.enc w2.heap.size 49 wi v ((hs1.take j).filter fun y => y.x.any knwB) ∧ Ext w2 wi) (fun _ i _ => n1 - (intOf i).toNat)
              case atStart => exact ⟨0, Nat.zero_le _, rfl, OwnK.nil _ _ _, Ext.refl _⟩
              case round =>
                obtain ⟨q, hq, rfl, hown, hxi⟩ := hrel
                by_cases hql : q < n1
                · obtain ⟨b3, o3, ⟨ua, un, uc, ucnt, ux⟩, rfl, hu, hb3, s0, s1, hcu⟩ := (hr1.ext hxi).at hql
                  simp only at s0 s1 hcu
                  have hqi : (q : Int) < (n1 : Int) := by omega
                  have hsu := filt_succ (p := fun y : HCo => y.x.any knwB) hu.out
                  have hul := hcu.len
                  have hum : un ≤ 9223372036854775807 := by have := hcu.le; have := hcu.most; unfold maxLen at this; omega
                  replace hsu := Lib.hid hsu
                  replace hul := Lib.hid hul
                  go_wp2_with fail
                  generalize hwz : wr = wz at *
                  go_loopw [13, 14] (fun kb i wi => ∃ j : Nat, j ≤ un ∧ i = .int .i64 j ∧ kb = .bool ((ux.take j).any knwB) ∧ wi = wz) (fun _ i _ => un - (intOf i).toNat)
                  case atStart => exact ⟨0, Nat.zero_le _, rfl, rfl, rfl⟩
                  case round =>
                    obtain ⟨r, hrr, rfl, rfl, rfl⟩ := hrel
                    by_cases hrl : r < un
                    · obtain ⟨bc, oc, c, rfl, hc, hbc, t0, t1, t2⟩ := hcu.cl hrl
                      have hri : (r : Int) < (un : Int) := by omega
                      have hnB := any_take_succ (p := knwB) hc.out
                      have hcK : knwB c = (c.kind != 0) := by unfold knwB; rw [Bool.eq_iff_iff]; simp
                      rw [hcK] at hnB
                      obtain ⟨kB, hkB⟩ : ∃ kB, kB = (ux.take r).any knwB := ⟨_, rfl⟩
                      rw [← hkB] at hnB
                      rw [← hkB]
                      replace hkB := Lib.hid hkB
                      clear hcK
                      cases kB
                      all_goals
                        simp only [Bool.false_or, Bool.true_or] at hnB
                        replace hnB := Lib.hid hnB
                        go_wp2_with fail
                        (first | exact ⟨⟨r + 1, by omega, by go_num, by rw [hnB.out], trivial⟩, (by simp [intOf]; omega)⟩ | (go_roundw; case rel => exact ⟨r + 1, by omega, by go_num, by rw [hnB.out], trivial⟩; case measure => exact (by simp [intOf]; omega)))
                    · obtain rfl : r = un := by omega
                      rw [List.take_of_length_le (by rw [hul.out]; exact Nat.le_refl _)]
                      obtain ⟨kB, hkB⟩ : ∃ kB, kB = ux.any knwB := ⟨_, rfl⟩
                      rw [← hkB]
                      have hsu2 := hsu.out
                      rw [show (⟨ua, r, uc, ucnt, ux⟩ : HCo).x.any knwB = kB from hkB.symm] at hsu2
                      replace hkB := Lib.hid hkB
                      cases kB
                      · rw [if_neg (by simp), List.append_nil] at hsu2
                        rw [← hsu2] at hown
                        replace hsu2 := Lib.hid hsu2
                        go_wp2_with fail
                        (first | exact ⟨⟨q + 1, by omega, by go_num, hown, hxi⟩, (by simp [intOf]; omega)⟩ | (go_roundw; case rel => exact ⟨q + 1, by omega, by go_num, hown, hxi⟩; case measure => exact (by simp [intOf]; omega)))
                      · rw [if_pos rfl] at hsu2
                        have hfl : ((hs1.take q).filter fun y => y.x.any knwB).length ≤ q := by
                          refine Nat.le_trans (List.length_filter_le _ _) ?_
                          rw [List.length_take]; omega
                        have hn5 : n1 ≤ 60000 := by have := congrArg List.length hk1; rw [List.length_map, hl1.out] at this; have := hVl.out; omega
                        replace hsu2 := Lib.hid hsu2
                        go_wp2_with (at_builtin; refine wp_app1 w2 wr (⟨ua, r, uc, ucnt, ux⟩ : HCo) rfl _ _ 24 rfl 49 Try.underlying24 info_corr rfl (by decide) _ _ rfl hown hxi rfl rfl (HCo.one _) (by omega) (by unfold maxLen; omega) ?_; intro v5 w5 ho5 hx5 _)
                        rw [← hsu2.out] at ho5
                        (first | exact ⟨⟨q + 1, by omega, by go_num, ho5, hx5⟩, (by simp [intOf]; omega)⟩ | (go_roundw; case rel => exact ⟨q + 1, by omega, by go_num, ho5, hx5⟩; case measure => exact (by simp [intOf]; omega)))
                · obtain rfl : q = n1 := by omega
                  rw [List.take_of_length_le (by rw [hl1.out]; exact Nat.le_refl _)] at hown
                  obtain ⟨aw, nw, cw, hnw, rfl, hrw⟩ := OwnK.rdn HCo.len hown
                  have hrW : RdH wr aw nw cw (hs1.filter fun y => y.x.any knwB) := ⟨hrw, fun y hy => (hr1.ok y (List.mem_filter.1 hy).1).ext hxi⟩
                  have hkW : (hs1.filter fun y => y.x.any knwB).map kp = VF := by
                    rw [← hVF.out, ← hk1, List.filter_map]; rfl
                  have hsame := same_any a2 n2 c2 hs2 aw nw cw _ wr (hr2.ext hxi) hrW
                  rw [hk2, hkW, decide_eq_true rfl] at hsame
                  have hxr3 := hxr2.trans hxi
                  replace hnw := Lib.hid hnw
                  clear hown hrw hrW hkW hk2
                  go_wp2_with fail
                  refine hsame.mono ?_
                  rintro e w3 ⟨rfl, hx3⟩
                  have hxw3 := hxr3.trans hx3
                  clear hsame
                  have hrk := OwnK.rdc (k := 1) (enc := I64.enc) I64.len (lit_own I64.len w3 3 [(k : Int)] #[.int .i64 k] rfl (n := 1) rfl (by decide))
                  have hOne2 := hOne _ (hxw3.alloc (.cells #[.int .i64 k] 3)) _ _ hrk
                  have hx3a := hxw3.alloc (.cells #[.int .i64 k] 3)
                  clear hOne hrk
                  go_wp2_with fail
                  refine hOne2.mono ?_
                  rintro e w4 ⟨a4, n4, c4, hs4, rfl, hr4, hk4, hx4⟩
                  have hxw4 := hx3a.trans hx4
                  clear hOne2
                  rcases hQ7.out with hq | hq
                  · subst hq
                    rw [if_pos rfl] at hk4
                    have hT := fun W (u : Ext w4 W) => hTot.out rfl W a4 n4 c4 hs4 (hr4.ext u) hk4
                    clear hTot hQ7
                    go_wp2_with fail
                    go_loopw [18, 19] (fun s i wi => ∃ (j : Nat) (zs : Int), j ≤ n ∧ i = .int .i64 j ∧ s = .int .i64 zs ∧ Hid (zs = cntSel (knK k) (l.take j)) ∧ Ext w4 wi) (fun _ i _ => n - (intOf i).toNat)
                    case atStart => exact ⟨0, 0, Nat.zero_le _, rfl, rfl, Lib.hid rfl, Ext.refl _⟩
                    case round =>
                      obtain ⟨j, zs, hj, rfl, rfl, hzs, hxj⟩ := hrel
                      by_cases hjl : j < n
                      · obtain ⟨b5, o5, ⟨ua, un, uc, ucnt, ux⟩, he5, hu, hb5, s0, s1, hcu⟩ := (hr.ext (hxw4.trans hxj)).at hjl
                        cases he5
                        have hun := hwid.out _ (List.mem_of_getElem? hu.out)
                        simp only at s0 s1 hcu hun
                        subst hun
                        obtain ⟨bc, oc, c, rfl, hc, hbc, t0, t1, t2⟩ := hcu.cl hkW
                        have hji : (j : Int) < (n : Int) := by omega
                        have hki : (k : Int) < (un : Int) := by omega
                        have hsS := cntSel_succ (p := knK k) hu.out
                        have hkn : knK k ⟨some ⟨bc, oc, none⟩, un, uc, ucnt, ux⟩ = (c.kind != 0) := by
                          unfold knK knwB; simp only
                          rw [List.getD_eq_getElem?_getD, hc.out, Bool.eq_iff_iff]; simp
                        rw [hkn, ← hzs.out] at hsS
                        have hb1 := hbd.out (j + 1)
                        have hll : (l.take (j + 1)).length ≤ 60 := by rw [List.length_take, hl.out]; omega
                        simp only at hsS
                        by_cases hk0 : c.kind = 0
                        · have dk : (c.kind != 0) = false := by simp [hk0]
                          rw [if_neg (by rw [dk]; simp), Int.add_zero] at hsS
                          replace hsS := Lib.hid hsS.symm
                          replace hk0 := Lib.hid hk0
                          clear hb1 hll
                          go_wp2_with fail
                          (first | exact ⟨⟨j + 1, zs, by omega, by go_num, rfl, hsS, hxj⟩, (by simp [intOf]; omega)⟩ | (go_roundw; case rel => exact ⟨j + 1, zs, by omega, by go_num, rfl, hsS, hxj⟩; case measure => exact (by simp [intOf]; omega)))
                        · have dk : (c.kind != 0) = true := by simpa using hk0
                          rw [if_pos dk] at hsS
                          rw [hsS] at hb1
                          have hwr : IntKind.i64.wrap (zs + ucnt) = zs + ucnt := IntWalk.i64_in _ (by omega)
                          have hwr2 : -9223372036854775808 ≤ zs + ucnt ∧ zs + ucnt ≤ 9223372036854775807 := by omega
                          replace hsS := Lib.hid hsS.symm
                          replace hk0 := Lib.hid hk0
                          clear hb1 hll
                          go_wp2_with fail
                          (first | exact ⟨⟨j + 1, zs + ucnt, by omega, by go_num, rfl, hsS, hxj⟩, (by simp [intOf]; omega)⟩ | (go_roundw; case rel => exact ⟨j + 1, zs + ucnt, by omega, by go_num, rfl, hsS, hxj⟩; case measure => exact (by simp [intOf]; omega)))
                      · obtain rfl : j = n := by omega
                        have hfz : zs = cntSel (knK k) l := by
                          have := hzs.out
                          rwa [List.take_of_length_le (by rw [hl.out]; exact Nat.le_refl _)] at this
                        have hT2 := hT wr hxj
                        rw [← hfz] at hT2
                        replace hfz := Lib.hid hfz
                        have hxf := hxw4.trans hxj
                        clear hT
                        go_wp2_with fail
                        refine hT2.mono ?_
                        rintro e w5 ⟨rfl, hx5⟩
                        go_wp2_with fail
                        refine (works_any _).mono ?_
                        rintro e wz ⟨rfl, hxz⟩
                        go_wp2_with fail
                        go_ret
                        exact ⟨rfl, (by repeat (first | exact Ext.refl _ | assumption | refine Ext.drew ?_ | refine Ext.drewN ?_ _ | refine Ext.alloc ?_ _ | refine Ext.trans ?_ (by assumption)))⟩
                  · subst hq
                    go_wp2_with fail
                    refine (works_any _).mono ?_
                    rintro e wz ⟨rfl, hxz⟩
                    go_wp2_with fail
                    go_ret
                    exact ⟨rfl, (by repeat (first | exact Ext.refl _ | assumption | refine Ext.drew ?_ | refine Ext.drewN ?_ _ | refine Ext.alloc ?_ _ | refine Ext.trans ?_ (by assumption)))⟩
    · have hd : (E != 0) = true := by simpa using h0
      replace hV := Lib.hid hV
      replace hE := Lib.hid hE
      replace hl := Lib.hid hl
      replace h0 := Lib.hid h0
      go_enter Try.func12, Try.ntmps12
      go_wp2_with fail
      refine hA.mono ?_
      rintro e w1 ⟨a1, n1, c1, hs1, rfl, hr1, hk1, hx1⟩
      go_wp2_with fail
      refine (works_any _).mono ?_
      rintro e wz ⟨rfl, hxz⟩
      go_wp2_with fail
      go_ret
      exact ⟨rfl, (by repeat (first | exact Ext.refl _ | assumption | refine Ext.drew ?_ | refine Ext.drewN ?_ _ | refine Ext.alloc ?_ _ | refine Ext.trans ?_ (by assumption)))⟩
  · have d1 : decide ((60 : Int) < (n : Int)) = true := by simp; omega
    replace h1 := Lib.hid h1
    go_enter Try.func12, Try.ntmps12
    go_wp2_with fail
    refine (works_any _).mono ?_
    rintro e wz ⟨rfl, hxz⟩
    go_wp2_with fail
    go_ret
    exact ⟨rfl, (by repeat (first | exact Ext.refl _ | assumption | refine Ext.drew ?_ | refine Ext.drewN ?_ _ | refine Ext.alloc ?_ _ | refine Ext.trans ?_ (by assumption)))⟩
end Go.Proofs.Ytkdancoffmhjhaa
