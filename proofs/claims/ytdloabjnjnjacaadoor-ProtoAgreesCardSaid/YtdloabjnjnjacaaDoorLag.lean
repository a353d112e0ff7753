/-
  The law ProtoAgrees: the walk (under way).
-/
import Derived.Test.YtdloabjnjnjacaaDoorLs
import Derived.Test.YtdloabjnjnjacaaDoorAg
namespace Go.Proofs.YtdloabjnjnjacaaDoor
open Go.RowKit Go.Shelf
theorem cell_err {ts : List Nd} {cs : List Snd} {ws : List Int} {g : Int} {x : List Cl} (h : tieE ts cs ws g x ≠ 0) : cellX ts cs ws g x = (zerC, 0) ∧ nodeL ts cs ws g x = [] ∧ tieL ts cs ws g x = [] := by
  unfold tieE at h
  by_cases h1 : begE ts cs ws g = 0
  · rw [if_neg (by simp [h1])] at h
    exact ⟨by unfold cellX bestX; rw [if_pos h1, if_neg (fun hh => h hh.1)], by unfold nodeL; rw [if_neg (fun hh => h hh.2)], by unfold tieL; rw [if_neg (fun hh => h hh.2.1)]⟩
  · exact ⟨by unfold cellX; rw [if_neg h1], by unfold nodeL; rw [if_neg (fun hh => h1 hh.1)], by unfold tieL; rw [if_neg (fun hh => h1 hh.1)]⟩
theorem tieE_zero {ts : List Nd} {cs : List Snd} {ws : List Int} {g : Int} {x : List Cl} (h : tieE ts cs ws g x = 0) : begE ts cs ws g = 0 ∧ onE ts cs x = 0 := by
  unfold tieE at h
  by_cases h1 : begE ts cs ws g = 0
  · rw [if_neg (by simp [h1])] at h; exact ⟨h1, h⟩
  · rw [if_pos h1] at h; exact absurd h h1
set_option maxHeartbeats 8000000 in
set_option maxRecDepth 20000 in
theorem protoAgrees_any (a : Option Addr) (n cap : Nat) (ts : List Nd) (ac : Option Addr) (nc cc : Nat) (cs : List Snd) (aw : Option Addr) (nw cw : Nat) (ws : List Int) (g : Int) (ax : Option Addr) (l cx : Nat) (x : List Cl) (w : World)
    (hr : RdN w a n cap ts) (hc : RdS w ac nc cc cs) (hw : RdI w aw nw cw ws) (hx : RdC w ax l cx x) (hT : TabOk w) :
    Calls Tryd.prog 12 #[caseV a n cap ac nc cc aw nw cw g, .slice ax l cx] w fun e w' => e = .returned (.bool true) ∧ Ext w w' := by
  have hs := fun W => small_any a n cap ac nc cc aw nw cw g W (len_int hr.rd) (len_int hc) (len_int hw)
  generalize smallB n nc nw = s at *
  have hp := fun W (z : Ext w W) => pcellX_any a n cap ts ax l cx x ac nc cc cs aw nw cw ws g W (hr.ext z) (hx.ext z) (hc.ext z) (hw.ext z) (hT.ext z)
  have hn := fun W (z : Ext w W) => pnodes_any a n cap ts ax l cx x ac nc cc cs aw nw cw ws g W (hr.ext z) (hx.ext z) (hc.ext z) (hw.ext z) (hT.ext z)
  have ht := fun W (z : Ext w W) => pties_any a n cap ts ax l cx x ac nc cc cs aw nw cw ws g W (hr.ext z) (hx.ext z) (hc.ext z) (hw.ext z) (hT.ext z)
  unfold CellRet at hp
  unfold RetCE at hn ht
  cases s
  · clear hn ht
    go_enter Tryd.func12, Tryd.ntmps12
    go_wp2_with fail
    refine (hs _).mono ?_
    rintro e w1 ⟨rfl, hx1⟩
    have hb0 := (hx1).cellv (cell_new_list w [.slice a n cap, .slice ac nc cc, .slice aw nw cw, .int .i64 g] 34 0 _ rfl)
    have hb1 := (hx1).cellv (cell_new_list w [.slice a n cap, .slice ac nc cc, .slice aw nw cw, .int .i64 g] 34 1 _ rfl)
    have hb2 := (hx1).cellv (cell_new_list w [.slice a n cap, .slice ac nc cc, .slice aw nw cw, .int .i64 g] 34 2 _ rfl)
    have hb3 := (hx1).cellv (cell_new_list w [.slice a n cap, .slice ac nc cc, .slice aw nw cw, .int .i64 g] 34 3 _ rfl)
    have hlt : w.heap.size < w1.heap.size := by have := hx1.le; simp at this; omega
    have hxw1 : Ext w w1 := (by repeat (first | exact Ext.refl _ | assumption | refine Ext.drew ?_ | refine Ext.drewN ?_ _ | refine Ext.alloc ?_ _ | refine Ext.trans ?_ (by assumption)))
    have hp1 := hp _ hxw1
    clear hp hs hx1
    go_wp2_with fail
    refine (works_any _ (hT.ext (by repeat (first | exact Ext.refl _ | assumption | refine Ext.drew ?_ | refine Ext.drewN ?_ _ | refine Ext.alloc ?_ _ | refine Ext.trans ?_ (by assumption))))).mono ?_
    rintro e wz ⟨rfl, hxz⟩
    go_wp2_with fail
    go_ret
    exact ⟨rfl, (by repeat (first | exact Ext.refl _ | assumption | refine Ext.drew ?_ | refine Ext.drewN ?_ _ | refine Ext.alloc ?_ _ | refine Ext.trans ?_ (by assumption)))⟩
  by_cases hE : tieE ts cs ws g x = 0
  · obtain ⟨hB, hO⟩ := tieE_zero hE
    have htn := (tree_len (begE_zero hB).1).1
    have hrl := hr.rd.len
    have hxl := hx.len
    have hl1 := len_int hx
    cases hk : knownB x
    · obtain ⟨n1, n2, n3, n4⟩ := agree_none hB hO hk
      rw [n3, hE] at hp
      rw [n1, hE] at hn
      rw [n2, hE] at ht
      simp only at hp
      obtain ⟨c1, hc1⟩ : ∃ c, c = zerC := ⟨_, rfl⟩
      have hdc : decide (c1 = zerC) = true := by simp [hc1]
      have hez : ∀ W, (binOp .eql 40 (clV c1) (.agg #[.int .i64 0, .int .u32 0, .int .u32 0])).run Tryd.prog W = .ok (.bool (decide (c1 = zerC))) W := fun W => eql_cl c1 zerC W
      have hec := eql_cl
      have hdd : decide (c1 = c1) = true := by simp
      rw [← hc1] at hp hn
      rw [hrl] at hn htn
      replace hc1 := Lib.hid hc1
      replace n4 := Lib.hid n4
      replace hrl := Lib.hid hrl
      replace hxl := Lib.hid hxl
      replace hE := Lib.hid hE
      clear hB hO hk n1 n2 n3
      go_enter Tryd.func12, Tryd.ntmps12
      go_wp2_with fail
      refine (hs _).mono ?_
      rintro e w1 ⟨rfl, hx1⟩
      have hb0 := (hx1).cellv (cell_new_list w [.slice a n cap, .slice ac nc cc, .slice aw nw cw, .int .i64 g] 34 0 _ rfl)
      have hb1 := (hx1).cellv (cell_new_list w [.slice a n cap, .slice ac nc cc, .slice aw nw cw, .int .i64 g] 34 1 _ rfl)
      have hb2 := (hx1).cellv (cell_new_list w [.slice a n cap, .slice ac nc cc, .slice aw nw cw, .int .i64 g] 34 2 _ rfl)
      have hb3 := (hx1).cellv (cell_new_list w [.slice a n cap, .slice ac nc cc, .slice aw nw cw, .int .i64 g] 34 3 _ rfl)
      have hlt : w.heap.size < w1.heap.size := by have := hx1.le; simp at this; omega
      have hxw1 : Ext w w1 := (by repeat (first | exact Ext.refl _ | assumption | refine Ext.drew ?_ | refine Ext.drewN ?_ _ | refine Ext.alloc ?_ _ | refine Ext.trans ?_ (by assumption)))
      have hp1 := hp _ hxw1
      clear hp hs hx1
      go_wp2_with fail
      refine hp1.mono ?_
      rintro e w2 ⟨rfl, hx2⟩
      have hb0' := hx2.cellv hb0
      have hb1' := hx2.cellv hb1
      have hb2' := hx2.cellv hb2
      have hb3' := hx2.cellv hb3
      have hlt2 : w.heap.size < w2.heap.size := cell_lt hb0'
      have hxw2 := hxw1.trans hx2
      clear hp1 hb0 hb1 hb2 hb3 hlt hxw1 hx2
      go_wp2_with fail
      have hblk := World.alloc_heap_new w2 (.cells #[.int .i64 c1.kind, .int .u32 c1.s.p.toNat, .int .u32 c1.s.m.toNat] 40)
      have hxa : Ext w2 (w2.alloc (.cells #[.int .i64 c1.kind, .int .u32 c1.s.p.toNat, .int .u32 c1.s.m.toNat] 40)) := Ext.alloc1 _ _
      generalize (w2.alloc (.cells #[.int .i64 c1.kind, .int .u32 c1.s.p.toNat, .int .u32 c1.s.m.toNat] 40)) = wa at *
      generalize w2.heap.size = q2 at *
      have hxwa := hxw2.trans hxa
      refine (hn _ hxwa).mono ?_
      rintro e w3 ⟨v1, rfl, ho1, hx3⟩
      obtain ⟨a1, m1, j1, e1, rfl, hr1⟩ := OwnK.rdn Cl.len ho1
      replace e1 := Lib.hid e1
      have hxa3 := hxa.trans hx3
      have hb0 := hxa3.cellv hb0'
      have hb1 := hxa3.cellv hb1'
      have hb2 := hxa3.cellv hb2'
      have hb3 := hxa3.cellv hb3'
      have hlt3 : w.heap.size < w3.heap.size := cell_lt hb0
      have hxw3 := hxwa.trans hx3
      obtain ⟨g0', g1', g2'⟩ := cells3 hblk
      have g0 := hx3.cellv g0'
      have g1 := hx3.cellv g1'
      have g2 := hx3.cellv g2'
      have hlq : q2 < w3.heap.size := cell_lt g0
      clear hn hb0' hb1' hb2' hb3' hlt2 hxw2 hxa hx3 hxwa hblk g0' g1' g2' hxa3 ho1
      go_wp2_with fail
      refine (ht _ hxw3).mono ?_
      rintro e w4 ⟨v2, rfl, ho2, hx4⟩
      obtain ⟨a2, m2, j2, e2, rfl, hr2⟩ := OwnK.rdn Cl.len ho2
      replace e2 := Lib.hid e2
      have hr1' := hr1.ext hx4
      have kb0 := hx4.cellv hb0
      have kb1 := hx4.cellv hb1
      have kb2 := hx4.cellv hb2
      have kb3 := hx4.cellv hb3
      have kg0 := hx4.cellv g0
      have kg1 := hx4.cellv g1
      have kg2 := hx4.cellv g2
      have hlt4 : w.heap.size < w4.heap.size := cell_lt kb0
      have hlq4 : q2 < w4.heap.size := cell_lt kg0
      have hxw4 := hxw3.trans hx4
      have hm1 := len_int hr1
      have hm2 := len_int hr2
      clear ht hb0 hb1 hb2 hb3 hlt3 hlq g0 g1 g2 hx4 hxw3 ho2 hr1
      have z1 : m1 = n := by rw [e1.out, List.length_replicate]
      have z2 : m2 = 0 := by rw [e2.out]; rfl
      subst z2
      obtain rfl : n = m1 := z1.symm
      have hd5 : ((n : Int) == 0) = false := by simp; omega
      go_wp2_with fail
      go_loopw [12] (fun i wr => ∃ j : Nat, j ≤ l ∧ i = .int .i64 j ∧ Ext w4 wr) (fun i _ => l - (intOf i).toNat)
      case atStart => exact ⟨0, Nat.zero_le _, rfl, Ext.refl _⟩
      case round =>
        obtain ⟨j, hj, rfl, hxr⟩ := hrel
        by_cases hlt : j < l
        · obtain ⟨b1, o1, c, rfl, hcc, hb1, p0, p1, p2⟩ := (hx.ext (hxw4.trans hxr)).cl hlt
          have hk0 : c.kind = 0 := n4.out c (List.mem_of_getElem? hcc.out)
          rw [hk0] at p0
          go_wp2_with fail
          (first | exact ⟨⟨j + 1, by omega, by go_num, hxr⟩, (by simp [intOf]; omega)⟩ | (go_roundw; case rel => exact ⟨j + 1, by omega, by go_num, hxr⟩; case measure => exact (by simp [intOf]; omega)))
        · have hxw := hxw4.trans hxr
          obtain ⟨b1, o1, c, rfl, hcc, hb1, p0, p1, p2⟩ := (hr1'.ext hxr).cl (show 0 < n by omega)
          have hcz : c = c1 := by
            have := hcc.out
            rw [List.getElem?_replicate, if_pos (by omega)] at this
            exact (Option.some.inj this).symm
          subst hcz
          have l0 := hxr.cellv kg0
          have l1 := hxr.cellv kg1
          have l2 := hxr.cellv kg2
          have r0 := fun z : ExtOf wr => z.cell p0
          have r1 := fun z : ExtOf wr => z.cell p1
          have r2 := fun z : ExtOf wr => z.cell p2
          have r3 := fun z : ExtOf wr => z.cell l0
          have r4 := fun z : ExtOf wr => z.cell l1
          have r5 := fun z : ExtOf wr => z.cell l2
          simp only [Nat.zero_mul, Nat.add_zero] at p0 p1 p2 r0 r1 r2
          go_wp2_with fail
          (refine wp_region_qx (by kernel_rfl) (by kernel_rfl) ?_
           repeat (go_big_quiet_step ((go_at_call 14; exact calls_ext (works_any _ (hT.ext (hxw.trans (ExtOf.h _)))))))
           refine wpQuiet_nil ?_
           intro wq hw'
           have hxq := ext_of_ex hw'
           clear hw')
          go_wp2_with fail
          go_ret
          exact ⟨rfl, hxw.trans hxq⟩
    · obtain ⟨k1, k2, k3, k4, k5, k6⟩ := agree_all hB hO hk
      have hlv := fun W (z : Ext w W) => tleaves_any a n cap ts W (hr.ext z)
      have hR : leavesR ts = leafL ts := by unfold leavesR; rw [if_pos (begE_zero hB).1]
      rw [hR, treeE_zero (begE_zero hB).1] at hlv
      have hcst := fun W (z : Ext w W) (av : Option Addr) (mv cv : Nat) (hv : RdC W av mv cv (nodeL ts cs ws g x)) => pcost_any a n cap ts av mv cv (nodeL ts cs ws g x) ac nc cc cs aw nw cw ws g W (hr.ext z) hv (hc.ext z) (hw.ext z) (hT.ext z)
      unfold CostRet at hcst
      rw [k4, k5] at hcst
      rw [hE] at hp hn ht
      have hll := (onE_zero hO).1
      have hleaf := fun (i : Nat) (v : Int) (h : (leafL ts)[i]? = some v) => leafL_at h
      generalize nodeL ts cs ws g x = NL at *
      generalize tieL ts cs ws g x = TL at *
      generalize cellX ts cs ws g x = cl at *
      generalize leafL ts = LL at *
      obtain ⟨c1, z1⟩ := cl
      simp only at hp hcst k2 k3
      have hec := eql_cl
      have hne := neq_cl
      have hdd : decide (c1 = c1) = true := by simp
      replace k1 := Lib.hid (k1.trans hrl)
      replace k2 := Lib.hid k2
      replace k3 := Lib.hid k3
      replace k6 := Lib.hid k6
      replace hleaf := Lib.hid hleaf
      replace hll := Lib.hid (hll.symm.trans hxl)
      replace hrl := Lib.hid hrl
      replace hxl := Lib.hid hxl
      replace hE := Lib.hid hE
      clear hB hO hk k4 k5 hR
      go_enter Tryd.func12, Tryd.ntmps12
      go_wp2_with fail
      refine (hs _).mono ?_
      rintro e w1 ⟨rfl, hx1⟩
      have hb0 := (hx1).cellv (cell_new_list w [.slice a n cap, .slice ac nc cc, .slice aw nw cw, .int .i64 g] 34 0 _ rfl)
      have hb1 := (hx1).cellv (cell_new_list w [.slice a n cap, .slice ac nc cc, .slice aw nw cw, .int .i64 g] 34 1 _ rfl)
      have hb2 := (hx1).cellv (cell_new_list w [.slice a n cap, .slice ac nc cc, .slice aw nw cw, .int .i64 g] 34 2 _ rfl)
      have hb3 := (hx1).cellv (cell_new_list w [.slice a n cap, .slice ac nc cc, .slice aw nw cw, .int .i64 g] 34 3 _ rfl)
      have hlt : w.heap.size < w1.heap.size := by have := hx1.le; simp at this; omega
      have hxw1 : Ext w w1 := (by repeat (first | exact Ext.refl _ | assumption | refine Ext.drew ?_ | refine Ext.drewN ?_ _ | refine Ext.alloc ?_ _ | refine Ext.trans ?_ (by assumption)))
      have hp1 := hp _ hxw1
      clear hp hs hx1
      go_wp2_with fail
      refine hp1.mono ?_
      rintro e w2 ⟨rfl, hx2⟩
      have hb0' := hx2.cellv hb0
      have hb1' := hx2.cellv hb1
      have hb2' := hx2.cellv hb2
      have hb3' := hx2.cellv hb3
      have hlt2 : w.heap.size < w2.heap.size := cell_lt hb0'
      have hxw2 := hxw1.trans hx2
      clear hp1 hb0 hb1 hb2 hb3 hlt hxw1 hx2
      go_wp2_with fail
      have hblk := World.alloc_heap_new w2 (.cells #[.int .i64 c1.kind, .int .u32 c1.s.p.toNat, .int .u32 c1.s.m.toNat] 40)
      have hxa : Ext w2 (w2.alloc (.cells #[.int .i64 c1.kind, .int .u32 c1.s.p.toNat, .int .u32 c1.s.m.toNat] 40)) := Ext.alloc1 _ _
      generalize (w2.alloc (.cells #[.int .i64 c1.kind, .int .u32 c1.s.p.toNat, .int .u32 c1.s.m.toNat] 40)) = wa at *
      generalize w2.heap.size = q2 at *
      have hxwa := hxw2.trans hxa
      refine (hn _ hxwa).mono ?_
      rintro e w3 ⟨v1, rfl, ho1, hx3⟩
      obtain ⟨a1, m1, j1, e1, rfl, hr1⟩ := OwnK.rdn Cl.len ho1
      replace e1 := Lib.hid e1
      have hxa3 := hxa.trans hx3
      have hb0 := hxa3.cellv hb0'
      have hb1 := hxa3.cellv hb1'
      have hb2 := hxa3.cellv hb2'
      have hb3 := hxa3.cellv hb3'
      have hlt3 : w.heap.size < w3.heap.size := cell_lt hb0
      have hxw3 := hxwa.trans hx3
      obtain ⟨g0', g1', g2'⟩ := cells3 hblk
      have g0 := hx3.cellv g0'
      have g1 := hx3.cellv g1'
      have g2 := hx3.cellv g2'
      have hlq : q2 < w3.heap.size := cell_lt g0
      clear hn hb0' hb1' hb2' hb3' hlt2 hxw2 hxa hx3 hxwa hblk g0' g1' g2' hxa3 ho1
      go_wp2_with fail
      refine (ht _ hxw3).mono ?_
      rintro e w4 ⟨v2, rfl, ho2, hx4⟩
      obtain ⟨a2, m2, j2, e2, rfl, hr2⟩ := OwnK.rdn Cl.len ho2
      replace e2 := Lib.hid e2
      have hr1' := hr1.ext hx4
      have kb0 := hx4.cellv hb0
      have kb1 := hx4.cellv hb1
      have kb2 := hx4.cellv hb2
      have kb3 := hx4.cellv hb3
      have kg0 := hx4.cellv g0
      have kg1 := hx4.cellv g1
      have kg2 := hx4.cellv g2
      have hlt4 : w.heap.size < w4.heap.size := cell_lt kb0
      have hlq4 : q2 < w4.heap.size := cell_lt kg0
      have hxw4 := hxw3.trans hx4
      have hm1 := len_int hr1
      have hm2 := len_int hr2
      clear ht hb0 hb1 hb2 hb3 hlt3 hlq g0 g1 g2 hx4 hxw3 ho2 hr1
      have y1 : m1 = n := by rw [e1.out]; exact k1.out
      have y2 : 0 < m2 := by have := (List.getElem?_eq_some_iff.1 k3.out).1; rw [← e2.out] at this; exact this
      obtain rfl : n = m1 := y1.symm
      have hn0 : 0 < n := by have := hrl.out; omega
      have hd5 : ((n : Int) == 0) = false := by simp; omega
      have hd6 : ((m2 : Int) == 0) = false := by simp; omega
      go_wp2_with fail
      refine (hlv _ hxw4).mono ?_
      rintro e w5 ⟨v3, rfl, ho3, hx5⟩
      obtain ⟨a3, m3, j3, e3, rfl, hr3⟩ := OwnK.rdn I64.len ho3
      obtain rfl : l = m3 := by rw [e3]; exact hll.out.symm
      have hxw5 := hxw4.trans hx5
      have hr1 := hr1'.ext hx5
      have lb0 := hx5.cellv kb0
      have lb1 := hx5.cellv kb1
      have lb2 := hx5.cellv kb2
      have lb3 := hx5.cellv kb3
      have hlt5 : w.heap.size < w5.heap.size := cell_lt lb0
      clear kb0 kb1 kb2 kb3 hlt4 ho3 hlv e3 hll
      go_wp2_with fail
      refine (hcst _ hxw5 a1 n j1 hr1).mono ?_
      rintro e w6 ⟨rfl, hx6⟩
      have hxw6 := hxw5.trans hx6
      have hx56 := hx5.trans hx6
      obtain ⟨b2, o2, c2, rfl, hc2, hb2, p0, p1, p2⟩ := (hr2.ext hx56).cl y2
      obtain rfl : c1 = c2 := by have := hc2.out; rw [k3.out] at this; exact Option.some.inj this
      obtain ⟨b1, o1, c3, rfl, hc3, hb1, q0, q1, q2⟩ := (hr1.ext hx6).cl hn0
      obtain rfl : c1 = c3 := by have := hc3.out; rw [k2.out] at this; exact Option.some.inj this
      have l0 := hx56.cellv kg0
      have l1 := hx56.cellv kg1
      have l2 := hx56.cellv kg2
      simp only [Nat.zero_mul, Nat.add_zero] at p0 p1 p2 q0 q1 q2
      have r0 := fun z : ExtOf w6 => z.cell p0
      have r1 := fun z : ExtOf w6 => z.cell p1
      have r2 := fun z : ExtOf w6 => z.cell p2
      have r3 := fun z : ExtOf w6 => z.cell l0
      have r4 := fun z : ExtOf w6 => z.cell l1
      have r5 := fun z : ExtOf w6 => z.cell l2
      have r6 := fun z : ExtOf w6 => z.cell q0
      have r7 := fun z : ExtOf w6 => z.cell q1
      have r8 := fun z : ExtOf w6 => z.cell q2
      have y2i : (0 : Int) < (m2 : Int) := by omega
      have hn0i : (0 : Int) < (n : Int) := by omega
      have hra := hr1.ext hx6
      have hrl3 := hr3.ext hx6
      clear hcst lb0 lb1 lb2 lb3 hlt5 kg0 kg1 kg2 hlq4 hc2 hc3 hr1'
      go_wp2_with fail
      (refine wp_region_qx (by kernel_rfl) (by kernel_rfl) ?_
       repeat (go_big_quiet_step (fail))
       refine wpQuiet_nil ?_
       intro wq hw'
       have hxq := ext_of_ex hw'
       clear hw')
      have hxwq := hxw6.trans hxq
      clear r0 r1 r2 r3 r4 r5 r6 r7 r8 l0 l1 l2 p0 p1 p2 q0 q1 q2
      go_wp2_with fail
      go_loopw [17] (fun i wr => ∃ j : Nat, j ≤ l ∧ i = .int .i64 j ∧ Ext wq wr) (fun i _ => l - (intOf i).toNat)
      case atStart => exact ⟨0, Nat.zero_le _, rfl, Ext.refl _⟩
      case round =>
        obtain ⟨j, hj, rfl, hxr⟩ := hrel
        have hxwr := hxwq.trans hxr
        have hx6r := hxq.trans hxr
        by_cases hlt : j < l
        · obtain ⟨b4, o4, c, rfl, hcc, hb4, p0, p1, p2⟩ := (hx.ext hxwr).cl hlt
          obtain ⟨b3, o3, lv, rfl, hlvv, hb3, q0⟩ := (hrl3.ext hx6r).i64 hlt
          obtain ⟨u, rfl, hut⟩ := hleaf.out j lv hlvv.out
          have hun : u < n := by have := hrl.out; omega
          have hd7 : decide (n ≤ u) = false := by simpa using hun
          have hd9 : decide ((u : Int) < 0) = false := by simp
          have hjli : (j : Int) < (l : Int) := by omega
          have huni : (u : Int) < (n : Int) := by omega
          have r0 := fun z : ExtOf wr => z.cell p0
          have r1 := fun z : ExtOf wr => z.cell p1
          have r2 := fun z : ExtOf wr => z.cell p2
          have r3 := fun z : ExtOf wr => z.cell q0
          by_cases hk0 : c.kind = 0
          · have hd8 : (c.kind != 0) = false := by simpa using hk0
            replace hk0 := Lib.hid hk0
            go_wp2_with fail
            (refine wp_region_qx (by kernel_rfl) (by kernel_rfl) ?_
             repeat (go_big_quiet_step (fail))
             refine wpQuiet_nil ?_
             intro wq hw'
             have hxq := ext_of_ex hw'
             clear hw')
            go_wp2_with fail
            (first | exact ⟨⟨j + 1, by omega, by go_num, hxr.trans hxq⟩, (by simp [intOf]; omega)⟩ | (go_roundw; case rel => exact ⟨j + 1, by omega, by go_num, hxr.trans hxq⟩; case measure => exact (by simp [intOf]; omega)))
          · have hd8 : (c.kind != 0) = true := by simpa using hk0
            have hN := k6.out j c u hcc.out (by simpa [knownC] using hk0) hlvv.out
            obtain ⟨_, _, c4, he4, hc4, _, s0, s1, s2⟩ := (hra.ext hx6r).cl hun
            cases he4
            obtain rfl : c = c4 := by have := hc4.out; rw [hN] at this; exact Option.some.inj this
            have r4 := fun z : ExtOf wr => z.cell s0
            have r5 := fun z : ExtOf wr => z.cell s1
            have r6 := fun z : ExtOf wr => z.cell s2
            have hdc : decide (c = c) = true := by simp
            replace hk0 := Lib.hid hk0
            replace hN := Lib.hid hN
            go_wp2_with fail
            (refine wp_region_qx (by kernel_rfl) (by kernel_rfl) ?_
             repeat (go_big_quiet_step (fail))
             refine wpQuiet_nil ?_
             intro wq hw'
             have hxq := ext_of_ex hw'
             clear hw')
            go_wp2_with fail
            (first | exact ⟨⟨j + 1, by omega, by go_num, hxr.trans hxq⟩, (by simp [intOf]; omega)⟩ | (go_roundw; case rel => exact ⟨j + 1, by omega, by go_num, hxr.trans hxq⟩; case measure => exact (by simp [intOf]; omega)))
        · have hjl : j = l := by omega
          subst hjl
          go_wp2_with fail
          refine (works_any _ (hT.ext hxwr)).mono ?_
          rintro e wz ⟨rfl, hxz⟩
          go_wp2_with fail
          go_ret
          exact ⟨rfl, hxwr.trans hxz⟩
  · obtain ⟨e1, e2, e3⟩ := cell_err hE
    rw [e1] at hp
    rw [e2] at hn
    rw [e3] at ht
    simp only at hp
    have hez := fun W => eql_cl zerC zerC W
    have hz : clV zerC = .agg #[.int .i64 0, .int .u32 0, .int .u32 0] := rfl
    generalize hte : tieE ts cs ws g x = te at *
    have hd0 : (te != 0) = true := by simp [hE]
    replace hE := Lib.hid hE
    clear hte e1 e2 e3
    obtain ⟨c1, hc1⟩ : ∃ c, c = zerC := ⟨_, rfl⟩
    have hdc : decide (c1 = zerC) = true := by simp [hc1]
    have hez : ∀ W, (binOp .eql 40 (clV c1) (.agg #[.int .i64 0, .int .u32 0, .int .u32 0])).run Tryd.prog W = .ok (.bool (decide (c1 = zerC))) W := fun W => eql_cl c1 zerC W
    rw [← hc1] at hp
    replace hc1 := Lib.hid hc1
    clear hz
    go_enter Tryd.func12, Tryd.ntmps12
    go_wp2_with fail
    refine (hs _).mono ?_
    rintro e w1 ⟨rfl, hx1⟩
    have hb0 := (hx1).cellv (cell_new_list w [.slice a n cap, .slice ac nc cc, .slice aw nw cw, .int .i64 g] 34 0 _ rfl)
    have hb1 := (hx1).cellv (cell_new_list w [.slice a n cap, .slice ac nc cc, .slice aw nw cw, .int .i64 g] 34 1 _ rfl)
    have hb2 := (hx1).cellv (cell_new_list w [.slice a n cap, .slice ac nc cc, .slice aw nw cw, .int .i64 g] 34 2 _ rfl)
    have hb3 := (hx1).cellv (cell_new_list w [.slice a n cap, .slice ac nc cc, .slice aw nw cw, .int .i64 g] 34 3 _ rfl)
    have hlt : w.heap.size < w1.heap.size := by have := hx1.le; simp at this; omega
    have hxw1 : Ext w w1 := (by repeat (first | exact Ext.refl _ | assumption | refine Ext.drew ?_ | refine Ext.drewN ?_ _ | refine Ext.alloc ?_ _ | refine Ext.trans ?_ (by assumption)))
    have hp1 := hp _ hxw1
    clear hp hs hx1
    go_wp2_with fail
    refine hp1.mono ?_
    rintro e w2 ⟨rfl, hx2⟩
    have hb0' := hx2.cellv hb0
    have hb1' := hx2.cellv hb1
    have hb2' := hx2.cellv hb2
    have hb3' := hx2.cellv hb3
    have hlt2 : w.heap.size < w2.heap.size := cell_lt hb0'
    have hxw2 := hxw1.trans hx2
    clear hp1 hb0 hb1 hb2 hb3 hlt hxw1 hx2
    go_wp2_with fail
    have hblk := World.alloc_heap_new w2 (.cells #[.int .i64 c1.kind, .int .u32 c1.s.p.toNat, .int .u32 c1.s.m.toNat] 40)
    have hxa : Ext w2 (w2.alloc (.cells #[.int .i64 c1.kind, .int .u32 c1.s.p.toNat, .int .u32 c1.s.m.toNat] 40)) := Ext.alloc1 _ _
    generalize (w2.alloc (.cells #[.int .i64 c1.kind, .int .u32 c1.s.p.toNat, .int .u32 c1.s.m.toNat] 40)) = wa at *
    generalize w2.heap.size = q2 at *
    have hxwa := hxw2.trans hxa
    refine (hn _ hxwa).mono ?_
    rintro e w3 ⟨v1, rfl, ho1, hx3⟩
    obtain ⟨a1, m1, j1, e1, rfl, hr1⟩ := OwnK.rdn Cl.len ho1
    replace e1 := Lib.hid e1
    have hxa3 := hxa.trans hx3
    have hb0 := hxa3.cellv hb0'
    have hb1 := hxa3.cellv hb1'
    have hb2 := hxa3.cellv hb2'
    have hb3 := hxa3.cellv hb3'
    have hlt3 : w.heap.size < w3.heap.size := cell_lt hb0
    have hxw3 := hxwa.trans hx3
    obtain ⟨g0', g1', g2'⟩ := cells3 hblk
    have g0 := hx3.cellv g0'
    have g1 := hx3.cellv g1'
    have g2 := hx3.cellv g2'
    have hlq : q2 < w3.heap.size := cell_lt g0
    clear hn hb0' hb1' hb2' hb3' hlt2 hxw2 hxa hx3 hxwa hblk g0' g1' g2' hxa3 ho1
    go_wp2_with fail
    refine (ht _ hxw3).mono ?_
    rintro e w4 ⟨v2, rfl, ho2, hx4⟩
    obtain ⟨a2, m2, j2, e2, rfl, hr2⟩ := OwnK.rdn Cl.len ho2
    replace e2 := Lib.hid e2
    have hr1' := hr1.ext hx4
    have kb0 := hx4.cellv hb0
    have kb1 := hx4.cellv hb1
    have kb2 := hx4.cellv hb2
    have kb3 := hx4.cellv hb3
    have kg0 := hx4.cellv g0
    have kg1 := hx4.cellv g1
    have kg2 := hx4.cellv g2
    have hlt4 : w.heap.size < w4.heap.size := cell_lt kb0
    have hlq4 : q2 < w4.heap.size := cell_lt kg0
    have hxw4 := hxw3.trans hx4
    have hm1 := len_int hr1
    have hm2 := len_int hr2
    clear ht hb0 hb1 hb2 hb3 hlt3 hlq g0 g1 g2 hx4 hxw3 ho2 hr1
    have z1 : m1 = 0 := by rw [e1.out]; rfl
    have z2 : m2 = 0 := by rw [e2.out]; rfl
    subst z1 z2
    clear kb0 kb1 kb2 kb3 hlt4 hr1' hr2 e1 e2
    go_wp2_with fail
    refine (works_any _ (hT.ext (by repeat (first | exact Ext.refl _ | assumption | refine Ext.drew ?_ | refine Ext.drewN ?_ _ | refine Ext.alloc ?_ _ | refine Ext.trans ?_ (by assumption))))).mono ?_
    rintro e wz ⟨rfl, hxz⟩
    go_wp2_with fail
    go_ret
    exact ⟨rfl, (by repeat (first | exact Ext.refl _ | assumption | refine Ext.drew ?_ | refine Ext.drewN ?_ _ | refine Ext.alloc ?_ _ | refine Ext.trans ?_ (by assumption)))⟩
end Go.Proofs.YtdloabjnjnjacaaDoor
