/-
  The law ProtoMatrices: the walk.
-/
import Derived.Test.YtdloabjnjnjacaaDoorLx
import Derived.Test.YtdloabjnjnjacaaDoorMq
namespace Go.Proofs.YtdloabjnjnjacaaDoor
open Go.RowKit Go.Shelf
set_option maxHeartbeats 2000000 in
set_option maxRecDepth 20000 in
theorem protoMatrices_any (ac : Option Addr) (nc cc : Nat) (cs : List Snd) (aw : Option Addr) (nw cw : Nat) (ws : List Int) (g : Int) (w : World) (hc : RdS w ac nc cc cs) (hw : RdI w aw nw cw ws) (hT : TabOk w) :
    Calls Tryd.prog 3 #[.slice ac nc cc, cstV aw nw cw g] w fun e w' => e = .returned (.bool true) ∧ Ext w w' := by
  have hncl := hc.len
  have hm1 : nc ≤ 9223372036854775807 := by have := hc.le; have := hc.most; unfold maxLen at this; omega
  have hm2 : nw ≤ 9223372036854775807 := by have := hw.le; have := hw.most; unfold maxLen at this; omega
  by_cases h20 : 20 < nc
  · have hd1 : decide (20 < nc) = true := by simpa using h20
    replace hncl := Lib.hid hncl
    go_enter Tryd.func3, Tryd.ntmps3
    go_wp2_with fail
    refine (works_any _ (hT.ext (by repeat (first | exact Ext.refl _ | assumption | refine Ext.drew ?_ | refine Ext.drewN ?_ _ | refine Ext.alloc ?_ _ | refine Ext.trans ?_ (by assumption))))).mono ?_
    rintro e wz ⟨rfl, hxz⟩
    go_wp2_with fail
    go_ret
    exact ⟨rfl, (by repeat (first | exact Ext.refl _ | assumption | refine Ext.drew ?_ | refine Ext.drewN ?_ _ | refine Ext.alloc ?_ _ | refine Ext.trans ?_ (by assumption)))⟩
  · have hd1 : decide (20 < nc) = false := by simpa using h20
    by_cases h30 : 30 < nw
    · have hd2 : decide (30 < nw) = true := by simpa using h30
      replace hncl := Lib.hid hncl
      go_enter Tryd.func3, Tryd.ntmps3
      go_wp2_with fail
      refine (works_any _ (hT.ext (by repeat (first | exact Ext.refl _ | assumption | refine Ext.drew ?_ | refine Ext.drewN ?_ _ | refine Ext.alloc ?_ _ | refine Ext.trans ?_ (by assumption))))).mono ?_
      rintro e wz ⟨rfl, hxz⟩
      go_wp2_with fail
      go_ret
      exact ⟨rfl, (by repeat (first | exact Ext.refl _ | assumption | refine Ext.drew ?_ | refine Ext.drewN ?_ _ | refine Ext.alloc ?_ _ | refine Ext.trans ?_ (by assumption)))⟩
    · have hd2 : decide (30 < nw) = false := by simpa using h30
      have hmt := fun W (hx : Ext w W) => matrix_any ac nc cc cs aw nw cw ws g W (hc.ext hx) (hw.ext hx) (hT.ext hx)
      have hrt := fun W (hx : Ext w W) => rmatrix_any ac nc cc cs aw nw cw ws g W (hc.ext hx) (hw.ext hx)
      replace hncl := Lib.hid hncl
      go_enter Tryd.func3, Tryd.ntmps3
      go_wp2_with fail
      refine (hmt _ (Ext.alloc1 _ _)).mono ?_
      rintro e w1 ⟨hx1, ⟨hne, rfl⟩ | ⟨heq, am, capm, rfl, hrm⟩⟩
      · have hb0 := hx1.cellv (cell_new_list w [.slice aw nw cw, .int .i64 g] 25 0 _ rfl)
        have hb1 := hx1.cellv (cell_new_list w [.slice aw nw cw, .int .i64 g] 25 1 _ rfl)
        have hlt : w.heap.size < w1.heap.size := by have := hx1.le; simp at this; omega
        have hxw1 : Ext w w1 := (by repeat (first | exact Ext.refl _ | assumption | refine Ext.drew ?_ | refine Ext.drewN ?_ _ | refine Ext.alloc ?_ _ | refine Ext.trans ?_ (by assumption)))
        clear hmt
        go_wp2_with fail
        refine (hrt _ hxw1).mono ?_
        rintro e w2 ⟨hx2, ⟨_, rfl⟩ | ⟨heq, _⟩⟩
        · have hxw2 := hxw1.trans hx2
          generalize matE cs ws g = er at *
          replace hne := Lib.hid hne
          clear hx1 hx2 hxw1 hrt
          go_wp2_with fail
          go_loopw [9] (fun i wr => i = .int .i64 0 ∧ Ext w2 wr) (fun _ _ => 0)
          case atStart => exact ⟨rfl, Ext.refl _⟩
          case round =>
            obtain ⟨rfl, hx⟩ := hrel
            have hxw := hxw2.trans hx
            go_wp2_with fail
            refine (works_any _ (hT.ext hxw)).mono ?_
            rintro e wz ⟨rfl, hxz⟩
            go_wp2_with fail
            go_ret
            exact ⟨rfl, hxw.trans hxz⟩
        · exact absurd heq hne
      · have hb0 := hx1.cellv (cell_new_list w [.slice aw nw cw, .int .i64 g] 25 0 _ rfl)
        have hb1 := hx1.cellv (cell_new_list w [.slice aw nw cw, .int .i64 g] 25 1 _ rfl)
        have hlt : w.heap.size < w1.heap.size := by have := hx1.le; simp at this; omega
        have hxw1 : Ext w w1 := (by repeat (first | exact Ext.refl _ | assumption | refine Ext.drew ?_ | refine Ext.drewN ?_ _ | refine Ext.alloc ?_ _ | refine Ext.trans ?_ (by assumption)))
        have hnc11 := (matE_zero heq).1
        clear hmt
        go_wp2_with fail
        refine (hrt _ hxw1).mono ?_
        rintro e w2 ⟨hx2, ⟨hne, rfl⟩ | ⟨_, am2, capm2, rfl, hrm2⟩⟩
        · exact absurd heq hne
        have hrm1 := RdM.ext hrm hx2
        have hxw2 := hxw1.trans hx2
        have hrows : ∀ (i : Nat) (r : List Int), (matL cs ws g)[i]? = some r → r.length = cs.length + 1 := fun i r h => by
          have hlt := (List.getElem?_eq_some_iff.1 h).1
          rw [matL_len] at hlt
          unfold matL at h
          rw [List.getElem?_map, List.getElem?_range hlt] at h
          rw [← Option.some.inj h]; simp [matRow]
        generalize matL cs ws g = ms at *
        obtain ⟨K, hK⟩ : ∃ K, K = cs.length + 1 := ⟨_, rfl⟩
        have hK12 : K ≤ 12 := by omega
        rw [← hK] at hrm1 hrm2 hrows ⊢
        replace hK := Lib.hid hK
        replace heq := Lib.hid heq
        replace hrows := Lib.hid hrows
        clear hrm hx1 hx2 hxw1 hrt hb0 hb1 hlt
        go_wp2_with fail
        go_loopw [9] (fun i wr => ∃ j : Nat, j ≤ K ∧ i = .int .i64 j ∧ Ext w2 wr) (fun i _ => K - (intOf i).toNat)
        case atStart => exact ⟨0, Nat.zero_le _, rfl, Ext.refl _⟩
        case round =>
          obtain ⟨j, hj, rfl, hx⟩ := hrel
          by_cases hlt : j < K
          · obtain ⟨b1, o1, _, r1, rfl, hr1, hb1, hc1, a1, n1, c1, rfl, hi1⟩ := RdV.at (RdM.ext hrm1 hx) hlt
            obtain ⟨b2, o2, _, r2, rfl, hr2, hb2, hc2, a2, n2, c2, rfl, hi2⟩ := RdV.at (RdM.ext hrm2 hx) hlt
            have hrr : r1 = r2 := by have := hr1.out; rw [hr2.out] at this; exact (Option.some.inj this).symm
            subst hrr
            have hn1 : n1 = K := by rw [← hi1.len]; exact hrows.out j r1 hr1.out
            have hn2 : n2 = K := by rw [← hi2.len]; exact hrows.out j r1 hr1.out
            obtain rfl : K = n1 := hn1.symm
            obtain rfl : K = n2 := hn2.symm
            have p1 := fun z : ExtOf wr => z.cell hc1
            have p2 := fun z : ExtOf wr => z.cell hc2
            go_wp2_with fail
            (refine wp_region_qx (by kernel_rfl) (by kernel_rfl) ?_
             repeat (go_big_quiet_step (fail))
             refine wpQuiet_nil ?_
             intro wq hw'
             have hxq := ext_of_ex hw'
             clear hw')
            have hc1q := hxq.cellv hc1
            have hc2q := hxq.cellv hc2
            have hi1q := hi1.ext hxq
            have hi2q := hi2.ext hxq
            have hx2q := hx.trans hxq
            clear p1 p2 hxq hx hc1 hc2 hi1 hi2 hr1 hr2
            have hb1q : b1 < wq.heap.size := cell_lt hc1q
            have hb2q : b2 < wq.heap.size := cell_lt hc2q
            clear hb1 hb2
            go_wp2_with fail
            go_loopw [10] (fun i wr => ∃ k : Nat, k ≤ K ∧ i = .int .i64 k ∧ Ext wq wr) (fun i _ => K - (intOf i).toNat)
            case atStart => exact ⟨0, Nat.zero_le _, rfl, Ext.refl _⟩
            case round =>
              obtain ⟨k, hk, rfl, hxk⟩ := hrel
              have hc1k := hxk.cellv hc1q
              have hc2k := hxk.cellv hc2q
              have hb1k := cell_lt hc1k
              have hb2k := cell_lt hc2k
              by_cases hltk : k < K
              · obtain ⟨b3, o3, x3, rfl, hx3, hb3, hc3⟩ := (hi1q.ext hxk).i64 hltk
                obtain ⟨b4, o4, x4, rfl, hx4, hb4, hc4⟩ := (hi2q.ext hxk).i64 hltk
                have hxx : x3 = x4 := by have := hx3.out; rw [hx4.out] at this; exact (Option.some.inj this).symm
                subst hxx
                have hdd : (x3 != x3) = false := by simp
                have p1 := fun z : ExtOf wr => z.cell hc1k
                have p2 := fun z : ExtOf wr => z.cell hc2k
                have p3 := fun z : ExtOf wr => z.cell hc3
                have p4 := fun z : ExtOf wr => z.cell hc4
                go_wp2_with fail
                (refine wp_region_qx (by kernel_rfl) (by kernel_rfl) ?_
                 repeat (go_big_quiet_step (fail))
                 refine wpQuiet_nil ?_
                 intro wq hw'
                 have hxq := ext_of_ex hw'
                 clear hw')
                go_wp2_with fail
                (first | exact ⟨⟨k + 1, by omega, by go_num, hxk.trans hxq⟩, (by simp [intOf]; omega)⟩ | (go_roundw; case rel => exact ⟨k + 1, by omega, by go_num, hxk.trans hxq⟩; case measure => exact (by simp [intOf]; omega)))
              · go_wp2_with fail
                (first | exact ⟨⟨j + 1, by omega, by go_num, hx2q.trans hxk⟩, (by simp [intOf]; omega)⟩ | (go_roundw; case rel => exact ⟨j + 1, by omega, by go_num, hx2q.trans hxk⟩; case measure => exact (by simp [intOf]; omega)))
          · have hxw := hxw2.trans hx
            go_wp2_with fail
            refine (works_any _ (hT.ext hxw)).mono ?_
            rintro e wz ⟨rfl, hxz⟩
            go_wp2_with fail
            go_ret
            exact ⟨rfl, hxw.trans hxz⟩
end Go.Proofs.YtdloabjnjnjacaaDoor
