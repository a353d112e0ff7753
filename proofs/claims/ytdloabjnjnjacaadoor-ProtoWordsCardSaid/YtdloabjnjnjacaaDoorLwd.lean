/-
  The law ProtoWords: the walk.
-/
import Derived.Test.YtdloabjnjnjacaaDoorLs
import Derived.Test.YtdloabjnjnjacaaDoorPt
namespace Go.Proofs.YtdloabjnjnjacaaDoor
open Go.RowKit Go.Shelf
set_option maxHeartbeats 4000000 in
set_option maxRecDepth 20000 in
theorem protoWords_any (a : Option Addr) (n cap : Nat) (ts : List Nd) (ac : Option Addr) (nc cc : Nat) (cs : List Snd) (aw : Option Addr) (nw cw : Nat) (ws : List Int) (g : Int) (ao : Option Addr) (m co : Nat) (cols : List (List Cl)) (w : World)
    (hr : RdN w a n cap ts) (hc : RdS w ac nc cc cs) (hw : RdI w aw nw cw ws) (hx : RdCs w ao m co cols) (hT : TabOk w) :
    Calls Tryd.prog 5 #[caseV a n cap ac nc cc aw nw cw g, .slice ao m co] w fun e w' => e = .returned (.bool true) ∧ Ext w w' := by
  have hm : m ≤ 9223372036854775807 := by have := hx.le; have := hx.most; unfold maxLen at this; omega
  have hs := fun W => small_any a n cap ac nc cc aw nw cw g W (len_int hr.rd) (len_int hc) (len_int hw)
  generalize smallB n nc nw = s at *
  have hp := fun W (z : Ext w W) => pword_any a n cap ts ao m co cols ac nc cc cs aw nw cw ws g W (hr.ext z) (hx.ext z) (hc.ext z) (hw.ext z) (hT.ext z)
  have hq := fun W (z : Ext w W) => rword_any a n cap ts ao m co cols ac nc cc cs aw nw cw ws g W (hr.ext z) (hx.ext z) (hc.ext z) (hw.ext z)
  unfold WordRet at hp hq
  generalize wordC ts cs ws g cols = wc at *
  generalize wordE ts cs ws g cols = we at *
  generalize wordL ts cs ws g cols = wl at *
  cases s
  · go_enter Tryd.func5, Tryd.ntmps5
    go_wp2_with fail
    refine (hs _).mono ?_
    rintro e w1 ⟨rfl, hx1⟩
    have hb0 := (hx1).cellv (cell_new_list w [.slice a n cap, .slice ac nc cc, .slice aw nw cw, .int .i64 g] 34 0 _ rfl)
    have hb1 := (hx1).cellv (cell_new_list w [.slice a n cap, .slice ac nc cc, .slice aw nw cw, .int .i64 g] 34 1 _ rfl)
    have hb2 := (hx1).cellv (cell_new_list w [.slice a n cap, .slice ac nc cc, .slice aw nw cw, .int .i64 g] 34 2 _ rfl)
    have hb3 := (hx1).cellv (cell_new_list w [.slice a n cap, .slice ac nc cc, .slice aw nw cw, .int .i64 g] 34 3 _ rfl)
    have hlt : w.heap.size < w1.heap.size := by have := hx1.le; simp at this; omega
    have hxw1 : Ext w w1 := (by repeat (first | exact Ext.refl _ | assumption | refine Ext.drew ?_ | refine Ext.drewN ?_ _ | refine Ext.alloc ?_ _ | refine Ext.trans ?_ (by assumption)))
    have hp1 := hp _ hxw1
    clear hp hs hx1
    go_wp2_with fail
    refine (works_any _ (hT.ext (by repeat (first | exact Ext.refl _ | assumption | refine Ext.drew ?_ | refine Ext.drewN ?_ _ | refine Ext.alloc ?_ _ | refine Ext.trans ?_ (by assumption))))).mono ?_
    rintro e wz ⟨rfl, hxz⟩
    go_wp2_with fail
    go_ret
    exact ⟨rfl, (by repeat (first | exact Ext.refl _ | assumption | refine Ext.drew ?_ | refine Ext.drewN ?_ _ | refine Ext.alloc ?_ _ | refine Ext.trans ?_ (by assumption)))⟩
  by_cases h12 : 12 < m
  · have d1 : decide (12 < m) = true := by simpa using h12
    by_cases h64 : m ≤ 64
    · have d2 : decide (m ≤ 64) = true := by simpa using h64
      go_enter Tryd.func5, Tryd.ntmps5
      go_wp2_with fail
      refine (hs _).mono ?_
      rintro e w1 ⟨rfl, hx1⟩
      have hb0 := (hx1).cellv (cell_new_list w [.slice a n cap, .slice ac nc cc, .slice aw nw cw, .int .i64 g] 34 0 _ rfl)
      have hb1 := (hx1).cellv (cell_new_list w [.slice a n cap, .slice ac nc cc, .slice aw nw cw, .int .i64 g] 34 1 _ rfl)
      have hb2 := (hx1).cellv (cell_new_list w [.slice a n cap, .slice ac nc cc, .slice aw nw cw, .int .i64 g] 34 2 _ rfl)
      have hb3 := (hx1).cellv (cell_new_list w [.slice a n cap, .slice ac nc cc, .slice aw nw cw, .int .i64 g] 34 3 _ rfl)
      have hlt : w.heap.size < w1.heap.size := by have := hx1.le; simp at this; omega
      have hxw1 : Ext w w1 := (by repeat (first | exact Ext.refl _ | assumption | refine Ext.drew ?_ | refine Ext.drewN ?_ _ | refine Ext.alloc ?_ _ | refine Ext.trans ?_ (by assumption)))
      have hp1 := hp _ hxw1
      clear hp hs hx1
      go_wp2_with fail
      refine (works_any _ (hT.ext (by repeat (first | exact Ext.refl _ | assumption | refine Ext.drew ?_ | refine Ext.drewN ?_ _ | refine Ext.alloc ?_ _ | refine Ext.trans ?_ (by assumption))))).mono ?_
      rintro e wz ⟨rfl, hxz⟩
      go_wp2_with fail
      go_ret
      exact ⟨rfl, (by repeat (first | exact Ext.refl _ | assumption | refine Ext.drew ?_ | refine Ext.drewN ?_ _ | refine Ext.alloc ?_ _ | refine Ext.trans ?_ (by assumption)))⟩
    · have d2 : decide (m ≤ 64) = false := by simpa using h64
      by_cases h70 : 70 < m
      · have d3 : decide (70 < m) = true := by simpa using h70
        go_enter Tryd.func5, Tryd.ntmps5
        go_wp2_with fail
        refine (hs _).mono ?_
        rintro e w1 ⟨rfl, hx1⟩
        have hb0 := (hx1).cellv (cell_new_list w [.slice a n cap, .slice ac nc cc, .slice aw nw cw, .int .i64 g] 34 0 _ rfl)
        have hb1 := (hx1).cellv (cell_new_list w [.slice a n cap, .slice ac nc cc, .slice aw nw cw, .int .i64 g] 34 1 _ rfl)
        have hb2 := (hx1).cellv (cell_new_list w [.slice a n cap, .slice ac nc cc, .slice aw nw cw, .int .i64 g] 34 2 _ rfl)
        have hb3 := (hx1).cellv (cell_new_list w [.slice a n cap, .slice ac nc cc, .slice aw nw cw, .int .i64 g] 34 3 _ rfl)
        have hlt : w.heap.size < w1.heap.size := by have := hx1.le; simp at this; omega
        have hxw1 : Ext w w1 := (by repeat (first | exact Ext.refl _ | assumption | refine Ext.drew ?_ | refine Ext.drewN ?_ _ | refine Ext.alloc ?_ _ | refine Ext.trans ?_ (by assumption)))
        have hp1 := hp _ hxw1
        clear hp hs hx1
        go_wp2_with fail
        refine (works_any _ (hT.ext (by repeat (first | exact Ext.refl _ | assumption | refine Ext.drew ?_ | refine Ext.drewN ?_ _ | refine Ext.alloc ?_ _ | refine Ext.trans ?_ (by assumption))))).mono ?_
        rintro e wz ⟨rfl, hxz⟩
        go_wp2_with fail
        go_ret
        exact ⟨rfl, (by repeat (first | exact Ext.refl _ | assumption | refine Ext.drew ?_ | refine Ext.drewN ?_ _ | refine Ext.alloc ?_ _ | refine Ext.trans ?_ (by assumption)))⟩
      · have d3 : decide (70 < m) = false := by simpa using h70
        go_enter Tryd.func5, Tryd.ntmps5
        go_wp2_with fail
        refine (hs _).mono ?_
        rintro e w1 ⟨rfl, hx1⟩
        have hb0 := (hx1).cellv (cell_new_list w [.slice a n cap, .slice ac nc cc, .slice aw nw cw, .int .i64 g] 34 0 _ rfl)
        have hb1 := (hx1).cellv (cell_new_list w [.slice a n cap, .slice ac nc cc, .slice aw nw cw, .int .i64 g] 34 1 _ rfl)
        have hb2 := (hx1).cellv (cell_new_list w [.slice a n cap, .slice ac nc cc, .slice aw nw cw, .int .i64 g] 34 2 _ rfl)
        have hb3 := (hx1).cellv (cell_new_list w [.slice a n cap, .slice ac nc cc, .slice aw nw cw, .int .i64 g] 34 3 _ rfl)
        have hlt : w.heap.size < w1.heap.size := by have := hx1.le; simp at this; omega
        have hxw1 : Ext w w1 := (by repeat (first | exact Ext.refl _ | assumption | refine Ext.drew ?_ | refine Ext.drewN ?_ _ | refine Ext.alloc ?_ _ | refine Ext.trans ?_ (by assumption)))
        have hp1 := hp _ hxw1
        clear hp hs hx1
        go_wp2_with fail
        refine hp1.mono ?_
        rintro e w2 ⟨v1, rfl, ho1, hx2⟩
        have hb0' := hx2.cellv hb0
        have hb1' := hx2.cellv hb1
        have hb2' := hx2.cellv hb2
        have hb3' := hx2.cellv hb3
        have hlt2 : w.heap.size < w2.heap.size := cell_lt hb0'
        have hxw2 := hxw1.trans hx2
        have hq2 := hq _ hxw2
        obtain ⟨a1, m1, k1, e1, rfl, hr1⟩ := OwnK.rdn Snd.len ho1
        replace e1 := Lib.hid e1
        clear hq hp1 hb0 hb1 hb2 hb3 hlt hxw1 hx2 ho1
        go_wp2_with fail
        refine hq2.mono ?_
        rintro e w3 ⟨v2, rfl, ho2, hx3⟩
        obtain ⟨a2, m2, k2, e2, rfl, hr2⟩ := OwnK.rdn Snd.len ho2
        obtain rfl : m2 = m1 := e2.trans e1.out.symm
        have hxw3 := hxw2.trans hx3
        have hr1' := hr1.ext hx3
        have hm1 := len_int hr2
        have hne := neq_snd
        clear e2 hq2 hb0' hb1' hb2' hb3' hlt2 hxw2 hx3 ho2 hr1
        go_wp2_with fail
        go_loopw [11] (fun i wr => ∃ j : Nat, j ≤ m2 ∧ i = .int .i64 j ∧ Ext w3 wr) (fun i _ => m2 - (intOf i).toNat)
        case atStart => exact ⟨0, Nat.zero_le _, rfl, Ext.refl _⟩
        case round =>
          obtain ⟨j, hj, rfl, hx⟩ := hrel
          by_cases hlt : j < m2
          · obtain ⟨b1, o1, s1, rfl, hs1, hb1, hc1⟩ := (hr1'.ext hx).get hlt
            obtain ⟨b2, o2, s2, rfl, hs2, hb2, hc2⟩ := (hr2.ext hx).get hlt
            have hss : s1 = s2 := by have := hs1.out; rw [hs2.out] at this; exact (Option.some.inj this).symm
            subst hss
            have q0 : wr.cell? ⟨b1, o1 + j * 2, none⟩ = some (.int .u32 s1.p.toNat) := by simpa using hc1 0 _ rfl
            have q1 : wr.cell? ⟨b1, o1 + j * 2 + 1, none⟩ = some (.int .u32 s1.m.toNat) := hc1 1 _ rfl
            have q2 : wr.cell? ⟨b2, o2 + j * 2, none⟩ = some (.int .u32 s1.p.toNat) := by simpa using hc2 0 _ rfl
            have q3 : wr.cell? ⟨b2, o2 + j * 2 + 1, none⟩ = some (.int .u32 s1.m.toNat) := hc2 1 _ rfl
            clear hc1 hc2
            have r0 := fun z : ExtOf wr => z.cell q0
            have r1 := fun z : ExtOf wr => z.cell q1
            have r2 := fun z : ExtOf wr => z.cell q2
            have r3 := fun z : ExtOf wr => z.cell q3
            have hdd : decide (s1 = s1) = true := by simp
            go_wp2_with fail
            (refine wp_region_qx (by kernel_rfl) (by kernel_rfl) ?_
             repeat (go_big_quiet_step (fail))
             refine wpQuiet_nil ?_
             intro wq hw'
             have hxq := ext_of_ex hw'
             clear hw')
            go_wp2_with fail
            (first | exact ⟨⟨j + 1, by omega, by go_num, hx.trans hxq⟩, (by simp [intOf]; omega)⟩ | (go_roundw; case rel => exact ⟨j + 1, by omega, by go_num, hx.trans hxq⟩; case measure => exact (by simp [intOf]; omega)))
          · have hxw := hxw3.trans hx
            go_wp2_with fail
            refine (works_any _ (hT.ext hxw)).mono ?_
            rintro e wz ⟨rfl, hxz⟩
            go_wp2_with fail
            go_ret
            exact ⟨rfl, hxw.trans hxz⟩
  · have d1 : decide (12 < m) = false := by simpa using h12
    have d3 : decide (70 < m) = false := by have : ¬ 70 < m := by omega
                                            simpa using this
    go_enter Tryd.func5, Tryd.ntmps5
    go_wp2_with fail
    refine (hs _).mono ?_
    rintro e w1 ⟨rfl, hx1⟩
    have hb0 := (hx1).cellv (cell_new_list w [.slice a n cap, .slice ac nc cc, .slice aw nw cw, .int .i64 g] 34 0 _ rfl)
    have hb1 := (hx1).cellv (cell_new_list w [.slice a n cap, .slice ac nc cc, .slice aw nw cw, .int .i64 g] 34 1 _ rfl)
    have hb2 := (hx1).cellv (cell_new_list w [.slice a n cap, .slice ac nc cc, .slice aw nw cw, .int .i64 g] 34 2 _ rfl)
    have hb3 := (hx1).cellv (cell_new_list w [.slice a n cap, .slice ac nc cc, .slice aw nw cw, .int .i64 g] 34 3 _ rfl)
    have hlt : w.heap.size < w1.heap.size := by have := hx1.le; simp at this; omega
    have hxw1 : Ext w w1 := (by repeat (first | exact Ext.refl _ | assumption | refine Ext.drew ?_ | refine Ext.drewN ?_ _ | refine Ext.alloc ?_ _ | refine Ext.trans ?_ (by assumption)))
    have hp1 := hp _ hxw1
    clear hp hs hx1
    go_wp2_with fail
    refine hp1.mono ?_
    rintro e w2 ⟨v1, rfl, ho1, hx2⟩
    have hb0' := hx2.cellv hb0
    have hb1' := hx2.cellv hb1
    have hb2' := hx2.cellv hb2
    have hb3' := hx2.cellv hb3
    have hlt2 : w.heap.size < w2.heap.size := cell_lt hb0'
    have hxw2 := hxw1.trans hx2
    have hq2 := hq _ hxw2
    obtain ⟨a1, m1, k1, e1, rfl, hr1⟩ := OwnK.rdn Snd.len ho1
    replace e1 := Lib.hid e1
    clear hq hp1 hb0 hb1 hb2 hb3 hlt hxw1 hx2 ho1
    go_wp2_with fail
    refine hq2.mono ?_
    rintro e w3 ⟨v2, rfl, ho2, hx3⟩
    obtain ⟨a2, m2, k2, e2, rfl, hr2⟩ := OwnK.rdn Snd.len ho2
    obtain rfl : m2 = m1 := e2.trans e1.out.symm
    have hxw3 := hxw2.trans hx3
    have hr1' := hr1.ext hx3
    have hm1 := len_int hr2
    have hne := neq_snd
    clear e2 hq2 hb0' hb1' hb2' hb3' hlt2 hxw2 hx3 ho2 hr1
    go_wp2_with fail
    go_loopw [11] (fun i wr => ∃ j : Nat, j ≤ m2 ∧ i = .int .i64 j ∧ Ext w3 wr) (fun i _ => m2 - (intOf i).toNat)
    case atStart => exact ⟨0, Nat.zero_le _, rfl, Ext.refl _⟩
    case round =>
      obtain ⟨j, hj, rfl, hx⟩ := hrel
      by_cases hlt : j < m2
      · obtain ⟨b1, o1, s1, rfl, hs1, hb1, hc1⟩ := (hr1'.ext hx).get hlt
        obtain ⟨b2, o2, s2, rfl, hs2, hb2, hc2⟩ := (hr2.ext hx).get hlt
        have hss : s1 = s2 := by have := hs1.out; rw [hs2.out] at this; exact (Option.some.inj this).symm
        subst hss
        have q0 : wr.cell? ⟨b1, o1 + j * 2, none⟩ = some (.int .u32 s1.p.toNat) := by simpa using hc1 0 _ rfl
        have q1 : wr.cell? ⟨b1, o1 + j * 2 + 1, none⟩ = some (.int .u32 s1.m.toNat) := hc1 1 _ rfl
        have q2 : wr.cell? ⟨b2, o2 + j * 2, none⟩ = some (.int .u32 s1.p.toNat) := by simpa using hc2 0 _ rfl
        have q3 : wr.cell? ⟨b2, o2 + j * 2 + 1, none⟩ = some (.int .u32 s1.m.toNat) := hc2 1 _ rfl
        clear hc1 hc2
        have r0 := fun z : ExtOf wr => z.cell q0
        have r1 := fun z : ExtOf wr => z.cell q1
        have r2 := fun z : ExtOf wr => z.cell q2
        have r3 := fun z : ExtOf wr => z.cell q3
        have hdd : decide (s1 = s1) = true := by simp
        go_wp2_with fail
        (refine wp_region_qx (by kernel_rfl) (by kernel_rfl) ?_
         repeat (go_big_quiet_step (fail))
         refine wpQuiet_nil ?_
         intro wq hw'
         have hxq := ext_of_ex hw'
         clear hw')
        go_wp2_with fail
        (first | exact ⟨⟨j + 1, by omega, by go_num, hx.trans hxq⟩, (by simp [intOf]; omega)⟩ | (go_roundw; case rel => exact ⟨j + 1, by omega, by go_num, hx.trans hxq⟩; case measure => exact (by simp [intOf]; omega)))
      · have hxw := hxw3.trans hx
        go_wp2_with fail
        refine (works_any _ (hT.ext hxw)).mono ?_
        rintro e wz ⟨rfl, hxz⟩
        go_wp2_with fail
        go_ret
        exact ⟨rfl, hxw.trans hxz⟩
end Go.Proofs.YtdloabjnjnjacaaDoor
