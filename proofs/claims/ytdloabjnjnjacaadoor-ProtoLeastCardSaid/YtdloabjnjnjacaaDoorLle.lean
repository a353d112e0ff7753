/-
  The law ProtoLeast: the walk.
-/
import Derived.Test.YtdloabjnjnjacaaDoorLs
import Derived.Test.YtdloabjnjnjacaaDoorAt
import Derived.Test.YtdloabjnjnjacaaDoorSt
import Derived.Test.YtdloabjnjnjacaaDoorOc
namespace Go.Proofs.YtdloabjnjnjacaaDoor
open Go.RowKit Go.Shelf
set_option maxHeartbeats 8000000 in
set_option maxRecDepth 20000 in
theorem protoLeast_any (a : Option Addr) (n cap : Nat) (ts : List Nd) (ac : Option Addr) (nc cc : Nat) (cs : List Snd) (aw : Option Addr) (nw cw : Nat) (ws : List Int) (g : Int) (ax : Option Addr) (l cx : Nat) (x : List Cl) (ap : Option Addr) (np cp : Nat) (pk : List Nat) (w : World)
    (hr : RdN w a n cap ts) (hc : RdS w ac nc cc cs) (hw : RdI w aw nw cw ws) (hx : RdC w ax l cx x) (hpk : RdK 1 U8.enc w ap np cp pk ∧ ∀ y ∈ pk, y < 256) (hT : TabOk w) :
    Calls Tryd.prog 11 #[caseV a n cap ac nc cc aw nw cw g, .slice ax l cx, .slice ap np cp] w fun e w' => e = .returned (.bool true) ∧ Ext w w' := by
  have hs := fun W => small_any a n cap ac nc cc aw nw cw g W (len_int hr.rd) (len_int hc) (len_int hw)
  obtain ⟨s, hsm⟩ : ∃ s, s = smallB n nc nw := ⟨_, rfl⟩
  rw [← hsm] at hs
  cases s
  · clear hsm
    go_enter Tryd.func11, Tryd.ntmps11
    go_wp2_with fail
    refine (hs _).mono ?_
    rintro e w1 ⟨rfl, hx1⟩
    have hb0 := (hx1).cellv (cell_new_list w [.slice a n cap, .slice ac nc cc, .slice aw nw cw, .int .i64 g] 34 0 _ rfl)
    have hb1 := (hx1).cellv (cell_new_list w [.slice a n cap, .slice ac nc cc, .slice aw nw cw, .int .i64 g] 34 1 _ rfl)
    have hb2 := (hx1).cellv (cell_new_list w [.slice a n cap, .slice ac nc cc, .slice aw nw cw, .int .i64 g] 34 2 _ rfl)
    have hb3 := (hx1).cellv (cell_new_list w [.slice a n cap, .slice ac nc cc, .slice aw nw cw, .int .i64 g] 34 3 _ rfl)
    have hlt : w.heap.size < w1.heap.size := by have := hx1.le; simp at this; omega
    have hxw1 : Ext w w1 := (by repeat (first | exact Ext.refl _ | assumption | refine Ext.drew ?_ | refine Ext.drewN ?_ _ | refine Ext.alloc ?_ _ | refine Ext.trans ?_ (by assumption)))
    clear hs hx1
    go_wp2_with fail
    refine (works_any _ (hT.ext (by repeat (first | exact Ext.refl _ | assumption | refine Ext.drew ?_ | refine Ext.drewN ?_ _ | refine Ext.alloc ?_ _ | refine Ext.trans ?_ (by assumption))))).mono ?_
    rintro e wz ⟨rfl, hxz⟩
    go_wp2_with fail
    go_ret
    exact ⟨rfl, (by repeat (first | exact Ext.refl _ | assumption | refine Ext.drew ?_ | refine Ext.drewN ?_ _ | refine Ext.alloc ?_ _ | refine Ext.trans ?_ (by assumption)))⟩
  have hsz : nc < 20 ∧ n ≤ 8 := by
    unfold smallB at hsm
    simp at hsm; omega
  obtain ⟨hnc, hn8⟩ := hsz
  clear hsm
  have hcl := hc.len
  have hrl := hr.rd.len
  have hxl := hx.len
  have hl1 := len_int hx
  have hp1 := len_int hpk.1
  have hp := fun W (z : Ext w W) => pcellX_any a n cap ts ax l cx x ac nc cc cs aw nw cw ws g W (hr.ext z) (hx.ext z) (hc.ext z) (hw.ext z) (hT.ext z)
  have ht := fun W (z : Ext w W) => pties_any a n cap ts ax l cx x ac nc cc cs aw nw cw ws g W (hr.ext z) (hx.ext z) (hc.ext z) (hw.ext z) (hT.ext z)
  have hlv := fun W (z : Ext w W) => tleaves_any a n cap ts W (hr.ext z)
  unfold CellRet at hp
  unfold RetCE at ht
  unfold RetIE at hlv
  by_cases hE : tieE ts cs ws g x = 0
  · have htt : begE ts cs ws g = 0 ∧ onE ts cs x = 0 := by
      unfold tieE at hE
      by_cases h1 : begE ts cs ws g = 0
      · rw [if_neg (by simp [h1])] at hE; exact ⟨h1, hE⟩
      · rw [if_pos h1] at hE; exact absurd hE h1
    obtain ⟨hB, hO⟩ := htt
    have hR : leavesR ts = leafL ts := by unfold leavesR; rw [if_pos (begE_zero hB).1]
    rw [hR, treeE_zero (begE_zero hB).1] at hlv
    rw [hE] at hp ht
    cases hk : knownB x
    · have hX : cellX ts cs ws g x = (zerC, 0) := by unfold cellX bestX; rw [if_pos hB, if_neg (by simp [hk])]
      rw [hX] at hp
      simp only at hp
      obtain ⟨c1, hc1⟩ : ∃ c, c = zerC := ⟨_, rfl⟩
      rw [← hc1] at hp
      have hk0 : (c1.kind == 0) = true := by rw [hc1]; rfl
      replace hc1 := Lib.hid hc1
      generalize leafL ts = LL at *
      replace hE := Lib.hid hE
      replace hcl := Lib.hid hcl
      replace hrl := Lib.hid hrl
      replace hxl := Lib.hid hxl
      clear hR hX hk ht hB hO
      go_enter Tryd.func11, Tryd.ntmps11
      go_wp2_with fail
      refine (hs _).mono ?_
      rintro e w1 ⟨rfl, hx1⟩
      have hb0 := (hx1).cellv (cell_new_list w [.slice a n cap, .slice ac nc cc, .slice aw nw cw, .int .i64 g] 34 0 _ rfl)
      have hb1 := (hx1).cellv (cell_new_list w [.slice a n cap, .slice ac nc cc, .slice aw nw cw, .int .i64 g] 34 1 _ rfl)
      have hb2 := (hx1).cellv (cell_new_list w [.slice a n cap, .slice ac nc cc, .slice aw nw cw, .int .i64 g] 34 2 _ rfl)
      have hb3 := (hx1).cellv (cell_new_list w [.slice a n cap, .slice ac nc cc, .slice aw nw cw, .int .i64 g] 34 3 _ rfl)
      have hlt : w.heap.size < w1.heap.size := by have := hx1.le; simp at this; omega
      have hxw1 : Ext w w1 := (by repeat (first | exact Ext.refl _ | assumption | refine Ext.drew ?_ | refine Ext.drewN ?_ _ | refine Ext.alloc ?_ _ | refine Ext.trans ?_ (by assumption)))
      clear hs hx1
      go_wp2_with fail
      refine (hp _ hxw1).mono ?_
      rintro e w2 ⟨rfl, hx2⟩
      have kb0 := (hx2).cellv hb0
      have kb1 := (hx2).cellv hb1
      have kb2 := (hx2).cellv hb2
      have kb3 := (hx2).cellv hb3
      have kbl : w.heap.size < _ := cell_lt kb0
      clear hb0 hb1 hb2 hb3
      have hxw2 := hxw1.trans hx2
      clear hp hxw1 hx2
      go_wp2_with fail
      have hblk := World.alloc_heap_new w2 (.cells #[.int .i64 c1.kind, .int .u32 c1.s.p.toNat, .int .u32 c1.s.m.toNat] 40)
      have hxa : Ext w2 (w2.alloc (.cells #[.int .i64 c1.kind, .int .u32 c1.s.p.toNat, .int .u32 c1.s.m.toNat] 40)) := Ext.alloc1 _ _
      generalize (w2.alloc (.cells #[.int .i64 c1.kind, .int .u32 c1.s.p.toNat, .int .u32 c1.s.m.toNat] 40)) = wa at *
      generalize w2.heap.size = q2 at *
      have hb0 := (hxa).cellv kb0
      have hb1 := (hxa).cellv kb1
      have hb2 := (hxa).cellv kb2
      have hb3 := (hxa).cellv kb3
      have hbl : w.heap.size < _ := cell_lt hb0
      clear kb0 kb1 kb2 kb3
      have hxwa := hxw2.trans hxa
      refine (hlv _ hxwa).mono ?_
      rintro e w3 ⟨v1, rfl, ho1, hx3⟩
      obtain ⟨a3, m3, j3, e3, rfl, hr3⟩ := OwnK.rdn I64.len ho1
      replace e3 := Lib.hid e3
      obtain ⟨g0', g1', g2'⟩ := cells3 hblk
      have g0 := hx3.cellv g0'
      have g1 := hx3.cellv g1'
      have g2 := hx3.cellv g2'
      have hlq : q2 < w3.heap.size := cell_lt g0
      have kb0 := (hx3).cellv hb0
      have kb1 := (hx3).cellv hb1
      have kb2 := (hx3).cellv hb2
      have kb3 := (hx3).cellv hb3
      have kbl : w.heap.size < _ := cell_lt kb0
      clear hb0 hb1 hb2 hb3
      have hxw3 := hxwa.trans hx3
      have hm3 := len_int hr3
      clear hlv hxw2 hxa hxwa hx3 hblk g0' g1' g2' ho1
      go_wp2_with fail
      refine (works_any _ (hT.ext (by repeat (first | exact Ext.refl _ | assumption | refine Ext.drew ?_ | refine Ext.drewN ?_ _ | refine Ext.alloc ?_ _ | refine Ext.trans ?_ (by assumption))))).mono ?_
      rintro e wz ⟨rfl, hxz⟩
      go_wp2_with fail
      go_ret
      exact ⟨rfl, (by repeat (first | exact Ext.refl _ | assumption | refine Ext.drew ?_ | refine Ext.drewN ?_ _ | refine Ext.alloc ?_ _ | refine Ext.trans ?_ (by assumption)))⟩
    · have hkd := cellX_kind hB hO hk
      have hk0 : ((cellX ts cs ws g x).1.kind == 0) = false := by simpa using hkd
      have hll := (onE_zero hO).1
      have hleaf := fun (i : Nat) (v : Int) (h : (leafL ts)[i]? = some v) => leafL_at h
      have hnd := leafL_nodup ts
      have hcst := fun W (z : Ext w W) (av : Option Addr) (mv cv : Nat) (ys : List Cl) (hv : RdC W av mv cv ys) => pcost_any a n cap ts av mv cv ys ac nc cc cs aw nw cw ws g W (hr.ext z) hv (hc.ext z) (hw.ext z) (hT.ext z)
      unfold CostRet at hcst
      have hlst := fun (ys : List Cl) => least_cells (y := ys) hB hO hk
      have hcand := fun (i : Nat) (s : Snd) (h : cs[i]? = some s) => good_cand (ws := ws) (g := g) (begE_zero hB).2 h
      have hgx := fun (c : Cl) (h : c ∈ x) (h2 : knownC c = true) => good_x hO h h2
      have htn := (tree_len (begE_zero hB).1).1
      have hnc0 := (matE_zero (begE_zero hB).2).2.1
      rw [hcl] at hnc0
      rw [hrl] at htn
      generalize tieL ts cs ws g x = TL at *
      generalize cellX ts cs ws g x = cl at *
      generalize leafL ts = LL at *
      obtain ⟨c1, z1⟩ := cl
      simp only at hp hk0 hlst
      replace hll := Lib.hid (hll.symm.trans hxl)
      replace hleaf := Lib.hid hleaf
      replace hnd := Lib.hid hnd
      replace hlst := Lib.hid hlst
      replace hcand := Lib.hid hcand
      replace hgx := Lib.hid hgx
      replace hcl := Lib.hid hcl
      replace hrl := Lib.hid hrl
      replace hxl := Lib.hid hxl
      replace hE := Lib.hid hE
      replace hnc0 := Lib.hid hnc0
      clear hB hO hk hkd hR
      have hmk := mk_cells n (by omega)
      go_enter Tryd.func11, Tryd.ntmps11
      go_wp2_with fail
      refine (hs _).mono ?_
      rintro e w1 ⟨rfl, hx1⟩
      have hb0 := (hx1).cellv (cell_new_list w [.slice a n cap, .slice ac nc cc, .slice aw nw cw, .int .i64 g] 34 0 _ rfl)
      have hb1 := (hx1).cellv (cell_new_list w [.slice a n cap, .slice ac nc cc, .slice aw nw cw, .int .i64 g] 34 1 _ rfl)
      have hb2 := (hx1).cellv (cell_new_list w [.slice a n cap, .slice ac nc cc, .slice aw nw cw, .int .i64 g] 34 2 _ rfl)
      have hb3 := (hx1).cellv (cell_new_list w [.slice a n cap, .slice ac nc cc, .slice aw nw cw, .int .i64 g] 34 3 _ rfl)
      have hlt : w.heap.size < w1.heap.size := by have := hx1.le; simp at this; omega
      have hxw1 : Ext w w1 := (by repeat (first | exact Ext.refl _ | assumption | refine Ext.drew ?_ | refine Ext.drewN ?_ _ | refine Ext.alloc ?_ _ | refine Ext.trans ?_ (by assumption)))
      clear hs hx1
      go_wp2_with fail
      refine (hp _ hxw1).mono ?_
      rintro e w2 ⟨rfl, hx2⟩
      have kb0 := (hx2).cellv hb0
      have kb1 := (hx2).cellv hb1
      have kb2 := (hx2).cellv hb2
      have kb3 := (hx2).cellv hb3
      have kbl : w.heap.size < _ := cell_lt kb0
      clear hb0 hb1 hb2 hb3
      have hxw2 := hxw1.trans hx2
      clear hp hxw1 hx2
      go_wp2_with fail
      have hblk := World.alloc_heap_new w2 (.cells #[.int .i64 c1.kind, .int .u32 c1.s.p.toNat, .int .u32 c1.s.m.toNat] 40)
      have hxa : Ext w2 (w2.alloc (.cells #[.int .i64 c1.kind, .int .u32 c1.s.p.toNat, .int .u32 c1.s.m.toNat] 40)) := Ext.alloc1 _ _
      generalize (w2.alloc (.cells #[.int .i64 c1.kind, .int .u32 c1.s.p.toNat, .int .u32 c1.s.m.toNat] 40)) = wa at *
      generalize w2.heap.size = q2 at *
      have hb0 := (hxa).cellv kb0
      have hb1 := (hxa).cellv kb1
      have hb2 := (hxa).cellv kb2
      have hb3 := (hxa).cellv kb3
      have hbl : w.heap.size < _ := cell_lt hb0
      clear kb0 kb1 kb2 kb3
      have hxwa := hxw2.trans hxa
      refine (hlv _ hxwa).mono ?_
      rintro e w3 ⟨v1, rfl, ho1, hx3⟩
      obtain ⟨a3, m3, j3, e3, rfl, hr3⟩ := OwnK.rdn I64.len ho1
      replace e3 := Lib.hid e3
      obtain ⟨g0', g1', g2'⟩ := cells3 hblk
      have g0 := hx3.cellv g0'
      have g1 := hx3.cellv g1'
      have g2 := hx3.cellv g2'
      have hlq : q2 < w3.heap.size := cell_lt g0
      have kb0 := (hx3).cellv hb0
      have kb1 := (hx3).cellv hb1
      have kb2 := (hx3).cellv hb2
      have kb3 := (hx3).cellv hb3
      have kbl : w.heap.size < _ := cell_lt kb0
      clear hb0 hb1 hb2 hb3
      have hxw3 := hxwa.trans hx3
      have hm3 := len_int hr3
      clear hlv hxw2 hxa hxwa hx3 hblk g0' g1' g2' ho1
      obtain rfl : l = m3 := by rw [e3.out]; exact hll.out.symm
      clear e3 hll
      go_wp2_with fail
      have hrow : RowC (w3.alloc (.cells (madeCells #[.int .i64 0, .int .u32 0, .int .u32 0] (n * 3)) 40)) w3.heap.size n (List.replicate n zerC) := RowC.start w3 n
      have hx34 : Ext w3 (w3.alloc (.cells (madeCells #[.int .i64 0, .int .u32 0, .int .u32 0] (n * 3)) 40)) := Ext.alloc1 _ _
      obtain ⟨G, hG⟩ : ∃ G, G = w3.heap.size := ⟨_, rfl⟩
      rw [← hG] at hrow ⊢
      have hGle : w3.heap.size ≤ G := by omega
      have hGw : w.heap.size < G := by omega
      have hGq : q2 < G := by omega
      replace hG := Lib.hid hG
      generalize (w3.alloc (.cells (madeCells #[.int .i64 0, .int .u32 0, .int .u32 0] (n * 3)) 40)) = w4 at *
      go_loopw [13, 14] (fun i _ wr => ∃ (j : Nat) (ys : List Cl), j ≤ n ∧ i = .int .i64 j ∧ RowC wr G n ys ∧ Hid (∀ (i : Nat) (d : Cl), i < j → ys[i]? = some d → goodC cs d) ∧ Ext w3 wr) (fun i _ _ => n - (intOf i).toNat)
      case atStart => exact ⟨0, _, Nat.zero_le _, rfl, hrow, Lib.hid (fun i d h => absurd h (Nat.not_lt_zero _)), hx34⟩
      case round =>
        obtain ⟨j, ys, hj, rfl, hrowj, hgood, hxr⟩ := hrel
        by_cases hlt : j < n
        · have hjn : (j : Int) < (n : Int) := by omega
          have hb0 := (hxr).cellv kb0
          have hb1 := (hxr).cellv kb1
          have hb2 := (hxr).cellv kb2
          have hb3 := (hxr).cellv kb3
          have hbl : w.heap.size < _ := cell_lt hb0
          have hxwr := hxw3.trans hxr
          by_cases hjp : j < np
          · obtain ⟨b4, o4, pv, rfl, hpv, hb4, hcl4⟩ := (hpk.1.ext hxwr).get hjp
            have p0 : wr.cell? ⟨b4, o4 + j, none⟩ = some (.int .u8 (pv : Int)) := by simpa using hcl4 0 _ rfl
            have hpv2 := hpk.2 pv (List.mem_of_getElem? hpv.out)
            have hw1 : IntKind.i64.wrap ((nc : Int) + 1) = nc + 1 := IntWalk.i64_in _ (by omega)
            have hw2 : IntKind.i64.wrap (pv : Int) = pv := IntWalk.i64_in _ (by omega)
            have hjpi : (j : Int) < (np : Int) := by omega
            obtain ⟨kk, hkk⟩ : ∃ kk, kk = pv % (nc + 1) := ⟨_, rfl⟩
            have hkl : kk < nc + 1 := by rw [hkk]; exact Nat.mod_lt _ (by omega)
            have hmod : (pv : Int).tmod ((nc : Int) + 1) = kk := by rw [hkk]; rfl
            replace hkk := Lib.hid hkk
            have r0 := fun z : ExtOf wr => z.cell p0
            have r1 := fun z : ExtOf wr => z.cell hb1
            clear hcl4
            go_wp2_with fail
            (refine wp_region_qx (by kernel_rfl) (by kernel_rfl) ?_
             repeat (go_big_quiet_step (fail))
             refine wpQuiet_nil ?_
             intro wq hw'
             have hxq := ext_of_ex hw'
             clear hw')
            have hrowq := hrowj.ext hxq
            have hx3q := hxr.trans hxq
            have kb0 := (hxq).cellv hb0
            have kb1 := (hxq).cellv hb1
            have kb2 := (hxq).cellv hb2
            have kb3 := (hxq).cellv hb3
            have kbl : w.heap.size < _ := cell_lt kb0
            clear hb0 hb1 hb2 hb3
            obtain ⟨hb0, hb1, hb2, hb3, hbl⟩ := And.intro kb0 (And.intro kb1 (And.intro kb2 (And.intro kb3 kbl)))
            clear kb0 kb1 kb2 kb3 kbl r0 r1 p0 hmod hw1 hw2 hrowj hxr hxq hpv hpv2
            go_wp2_with fail
            by_cases hkn : kk < nc
            · have hd7 : decide (kk < nc) = true := by simpa using hkn
              have hkni : (kk : Int) < (nc : Int) := by omega
              obtain ⟨bc, oc, sk, rfl, hsk, hbc, qq0, qq1⟩ := hc.snd hkn
              have hbG : bc < G := by omega
              have hbG1 : bc ≠ G := by omega
              have hbG2 : G ≠ bc := by omega
              have yy0 := ((hxw3.trans hx3q).cellv qq0)
              have yy1 := ((hxw3.trans hx3q).cellv qq1)
              refine (lgap_any _).mono ?_
              rintro e w5 ⟨rfl, hx5⟩
              have ya := hx5.cellv yy0
              have yb := hx5.cellv yy1
              clear yy0 yy1
              have kb0 := (hx5).cellv hb0
              have kb1 := (hx5).cellv hb1
              have kb2 := (hx5).cellv hb2
              have kb3 := (hx5).cellv hb3
              have kbl : w.heap.size < _ := cell_lt kb0
              clear hb0 hb1 hb2 hb3
              have hrow5 := hrowq.ext hx5
              have hxw5 := hx3q.trans hx5
              clear hrowq hx3q hx5
              obtain ⟨cOld, _, s0, s1, s2⟩ := hrow5.cells hlt
              obtain ⟨z0, zz1, z2⟩ := hrow5.frz
              have hGlt := hrow5.lt
              have hset := hrow5.set hlt gapC
              have hgood1 := Lib.hid (good_set hgood.out good_gap)
              have hxs : Ext w3 (((w5.setCell ⟨G, j * 3, none⟩ (.int .i64 gapC.kind)).setCell ⟨G, j * 3 + 1, none⟩ (.int .u32 gapC.s.p.toNat)).setCell ⟨G, j * 3 + 2, none⟩ (.int .u32 gapC.s.m.toNat)) := ((hxw5.setCell (p := ⟨G, j * 3, none⟩) hGle _).setCell (p := ⟨G, j * 3 + 1, none⟩) hGle _).setCell (p := ⟨G, j * 3 + 2, none⟩) hGle _
              go_wp2_with fail
              have hset2 := hset.set hlt (⟨2, sk⟩ : Cl)
              have hgood2 := Lib.hid (good_set2 (e := gapC) hgood.out (hcand.out _ _ hsk.out))
              have hxs2 := ((hxs.setCell (p := ⟨G, j * 3, none⟩) hGle (.int .i64 2)).setCell (p := ⟨G, j * 3 + 1, none⟩) hGle (.int .u32 sk.p.toNat)).setCell (p := ⟨G, j * 3 + 2, none⟩) hGle (.int .u32 sk.m.toNat)
              (first | exact ⟨⟨j + 1, _, by omega, by go_num, hset2, hgood2, hxs2⟩, (by simp [intOf]; omega)⟩ | (go_roundw; case rel => exact ⟨j + 1, _, by omega, by go_num, hset2, hgood2, hxs2⟩; case measure => exact (by simp [intOf]; omega)))
            · have hd7 : decide (kk < nc) = false := by simpa using hkn
              have yy0 := hb0
              have yy1 := hb1
              refine (lgap_any _).mono ?_
              rintro e w5 ⟨rfl, hx5⟩
              have ya := hx5.cellv yy0
              have yb := hx5.cellv yy1
              clear yy0 yy1
              have kb0 := (hx5).cellv hb0
              have kb1 := (hx5).cellv hb1
              have kb2 := (hx5).cellv hb2
              have kb3 := (hx5).cellv hb3
              have kbl : w.heap.size < _ := cell_lt kb0
              clear hb0 hb1 hb2 hb3
              have hrow5 := hrowq.ext hx5
              have hxw5 := hx3q.trans hx5
              clear hrowq hx3q hx5
              obtain ⟨cOld, _, s0, s1, s2⟩ := hrow5.cells hlt
              obtain ⟨z0, zz1, z2⟩ := hrow5.frz
              have hGlt := hrow5.lt
              have hset := hrow5.set hlt gapC
              have hgood1 := Lib.hid (good_set hgood.out good_gap)
              have hxs : Ext w3 (((w5.setCell ⟨G, j * 3, none⟩ (.int .i64 gapC.kind)).setCell ⟨G, j * 3 + 1, none⟩ (.int .u32 gapC.s.p.toNat)).setCell ⟨G, j * 3 + 2, none⟩ (.int .u32 gapC.s.m.toNat)) := ((hxw5.setCell (p := ⟨G, j * 3, none⟩) hGle _).setCell (p := ⟨G, j * 3 + 1, none⟩) hGle _).setCell (p := ⟨G, j * 3 + 2, none⟩) hGle _
              go_wp2_with fail
              (first | exact ⟨⟨j + 1, _, by omega, by go_num, hset, hgood1, hxs⟩, (by simp [intOf]; omega)⟩ | (go_roundw; case rel => exact ⟨j + 1, _, by omega, by go_num, hset, hgood1, hxs⟩; case measure => exact (by simp [intOf]; omega)))
          · have hjp2 : decide (j < np) = false := by simpa using hjp
            have hn0 : 0 < nc := by have := hnc0.out; omega
            have hd7 : decide (0 < nc) = true := by simpa using hn0
            have hd8 : decide ((0 : Int) < (nc : Int)) = true := by simpa using hn0
            have hkni : (0 : Int) < (nc : Int) := by omega
            have hxwr := hxw3.trans hxr
            obtain ⟨bc, oc, sk, rfl, hsk, hbc, qq0, qq1⟩ := hc.snd hn0
            simp only [Nat.zero_mul, Nat.add_zero] at qq0 qq1
            have hbG : bc < G := by omega
            have hbG1 : bc ≠ G := by omega
            have hbG2 : G ≠ bc := by omega
            have hrowq := hrowj
            have hx3q := hxr
            clear hrowj hxr
            go_wp2_with fail
            have yy0 := (hxwr.cellv qq0)
            have yy1 := (hxwr.cellv qq1)
            refine (lgap_any _).mono ?_
            rintro e w5 ⟨rfl, hx5⟩
            have ya := hx5.cellv yy0
            have yb := hx5.cellv yy1
            clear yy0 yy1
            have kb0 := (hx5).cellv hb0
            have kb1 := (hx5).cellv hb1
            have kb2 := (hx5).cellv hb2
            have kb3 := (hx5).cellv hb3
            have kbl : w.heap.size < _ := cell_lt kb0
            clear hb0 hb1 hb2 hb3
            have hrow5 := hrowq.ext hx5
            have hxw5 := hx3q.trans hx5
            clear hrowq hx3q hx5
            obtain ⟨cOld, _, s0, s1, s2⟩ := hrow5.cells hlt
            obtain ⟨z0, zz1, z2⟩ := hrow5.frz
            have hGlt := hrow5.lt
            have hset := hrow5.set hlt gapC
            have hgood1 := Lib.hid (good_set hgood.out good_gap)
            have hxs : Ext w3 (((w5.setCell ⟨G, j * 3, none⟩ (.int .i64 gapC.kind)).setCell ⟨G, j * 3 + 1, none⟩ (.int .u32 gapC.s.p.toNat)).setCell ⟨G, j * 3 + 2, none⟩ (.int .u32 gapC.s.m.toNat)) := ((hxw5.setCell (p := ⟨G, j * 3, none⟩) hGle _).setCell (p := ⟨G, j * 3 + 1, none⟩) hGle _).setCell (p := ⟨G, j * 3 + 2, none⟩) hGle _
            go_wp2_with fail
            have hset2 := hset.set hlt (⟨2, sk⟩ : Cl)
            have hgood2 := Lib.hid (good_set2 (e := gapC) hgood.out (hcand.out _ _ hsk.out))
            have hxs2 := ((hxs.setCell (p := ⟨G, j * 3, none⟩) hGle (.int .i64 2)).setCell (p := ⟨G, j * 3 + 1, none⟩) hGle (.int .u32 sk.p.toNat)).setCell (p := ⟨G, j * 3 + 2, none⟩) hGle (.int .u32 sk.m.toNat)
            (first | exact ⟨⟨j + 1, _, by omega, by go_num, hset2, hgood2, hxs2⟩, (by simp [intOf]; omega)⟩ | (go_roundw; case rel => exact ⟨j + 1, _, by omega, by go_num, hset2, hgood2, hxs2⟩; case measure => exact (by simp [intOf]; omega)))
        · obtain rfl : n = j := by omega
          have hgood2 : ∀ d ∈ ys, goodC cs d := fun d hd => by
            obtain ⟨i, hi⟩ := List.getElem?_of_mem hd
            exact hgood.out i d (by rw [← hrowj.len]; exact (List.getElem?_eq_some_iff.1 hi).1) hi
          replace hgood2 := Lib.hid hgood2
          clear hgood hrow
          go_wp2_with fail
          obtain ⟨wo, hwo⟩ : ∃ wo : World, wo = wr := ⟨_, rfl⟩
          clear hwo
          go_loopw [15] (fun i wr => ∃ (k : Nat) (zs : List Cl), k ≤ l ∧ i = .int .i64 k ∧ RowC wr G n zs ∧ Hid (∀ d ∈ zs, goodC cs d) ∧ Hid (KnL LL x zs k) ∧ Ext w3 wr) (fun i _ => l - (intOf i).toNat)
          case atStart => exact ⟨0, ys, Nat.zero_le _, rfl, hrowj, hgood2, Lib.hid (fun k c u hk => absurd hk (Nat.not_lt_zero _)), hxr⟩
          clear hrowj hgood2 hxr
          case round =>
            obtain ⟨k, zs, hk, rfl, hrowk, hgood, hkn, hxr⟩ := hrel
            have hxwr := hxw3.trans hxr
            by_cases hlt : k < l
            · have hkli : (k : Int) < (l : Int) := by omega
              obtain ⟨b4, o4, c, rfl, hcc, hb4, p0, p1, p2⟩ := (hx.ext hxwr).cl hlt
              obtain ⟨b3, o3, lv, rfl, hlvv, hb3, q0⟩ := (hr3.ext hxr).i64 hlt
              obtain ⟨u, rfl, hut⟩ := hleaf.out k lv hlvv.out
              have hun : u < n := by have := hrl.out; omega
              have hd7 : decide (n ≤ u) = false := by simpa using hun
              have hd9 : decide ((u : Int) < 0) = false := by simp
              have huni : (u : Int) < (n : Int) := by omega
              by_cases hk0 : c.kind = 0
              · have hd8 : (c.kind != 0) = false := by simpa using hk0
                have hkn2 := Lib.hid (hkn.out.skip hcc.out (by simp [knownC, hk0]))
                replace hk0 := Lib.hid hk0
                go_wp2_with fail
                (first | exact ⟨⟨k + 1, zs, by omega, by go_num, hrowk, hgood, hkn2, hxr⟩, (by simp [intOf]; omega)⟩ | (go_roundw; case rel => exact ⟨k + 1, zs, by omega, by go_num, hrowk, hgood, hkn2, hxr⟩; case measure => exact (by simp [intOf]; omega)))
              · have hd8 : (c.kind != 0) = true := by simpa using hk0
                have hkc : knownC c = true := by simpa [knownC] using hk0
                have hgood2 := Lib.hid (good_mem_set (u := u) hgood.out (hgx.out c (List.mem_of_getElem? hcc.out) hkc))
                have hkn2 := Lib.hid (hkn.out.set hnd.out hcc.out hlvv.out (by rw [hrowk.len]; exact hun))
                replace hk0 := Lib.hid hk0
                replace hkc := Lib.hid hkc
                have r0 := fun z : ExtOf wr => z.cell p0
                have r1 := fun z : ExtOf wr => z.cell p1
                have r2 := fun z : ExtOf wr => z.cell p2
                have r3 := fun z : ExtOf wr => z.cell q0
                go_wp2_with fail
                (refine wp_region_qxt 10 (by kernel_rfl) (by kernel_rfl) ?_
                 simp only [List.take_succ_cons, List.take_zero, List.drop_succ_cons, List.drop_zero]
                 repeat (go_big_quiet_step (fail))
                 refine wpQuiet_nil ?_
                 intro wq hw'
                 have hxq := ext_of_ex hw'
                 clear hw')
                have hrowq := hrowk.ext hxq
                have hx3q := hxr.trans hxq
                obtain ⟨cOld, _, s0, s1, s2⟩ := hrowq.cells hun
                obtain ⟨z0, zz1, z2⟩ := hrowq.frz
                have hGlt := hrowq.lt
                have hset := hrowq.set hun c
                have hxs := ((hx3q.setCell (p := ⟨G, u * 3, none⟩) hGle (.int .i64 c.kind)).setCell (p := ⟨G, u * 3 + 1, none⟩) hGle (.int .u32 c.s.p.toNat)).setCell (p := ⟨G, u * 3 + 2, none⟩) hGle (.int .u32 c.s.m.toNat)
                clear r0 r1 r2 r3 p0 p1 p2 q0
                go_wp2_with fail
                (first | exact ⟨⟨k + 1, _, by omega, by go_num, hset, hgood2, hkn2, hxs⟩, (by simp [intOf]; omega)⟩ | (go_roundw; case rel => exact ⟨k + 1, _, by omega, by go_num, hset, hgood2, hkn2, hxs⟩; case measure => exact (by simp [intOf]; omega)))
            · obtain rfl : l = k := by omega
              have hb0 := (hxr).cellv kb0
              have hb1 := (hxr).cellv kb1
              have hb2 := (hxr).cellv kb2
              have hb3 := (hxr).cellv kb3
              have hbl : w.heap.size < _ := cell_lt hb0
              have lg0 := hxr.cellv g0
              have lg1 := hxr.cellv g1
              have lg2 := hxr.cellv g2
              have hlq2 : q2 < wr.heap.size := cell_lt lg0
              have hrd := hrowk.rd (by unfold maxLen; omega)
              have hl3 := hlst.out zs (by rw [hrowk.len]; exact hrl.out.symm) hgood.out (fun k c u hc hkc hu => hkn.out k c u (by have := (List.getElem?_eq_some_iff.1 hc).1; rw [hxl.out] at this; exact this) hc hkc hu)
              obtain ⟨hE2, hle, hti⟩ := hl3
              have hcs := hcst _ hxwr (some ⟨G, 0, Option.none⟩) n n zs hrd
              rw [hE2] at hcs
              generalize allC ts cs ws g zs = c2 at *
              replace hti := Lib.hid hti
              have hd10 : decide (c2 < z1) = false := by simpa using hle
              clear hcst hlst hE2 hrd hk hlt g0 g1 g2 hlq kb0 kb1 kb2 kb3 kbl
              go_wp2_with fail
              refine hcs.mono ?_
              rintro e w6 ⟨rfl, hx6⟩
              have kb0 := (hx6).cellv hb0
              have kb1 := (hx6).cellv hb1
              have kb2 := (hx6).cellv hb2
              have kb3 := (hx6).cellv hb3
              have kbl : w.heap.size < _ := cell_lt kb0
              clear hb0 hb1 hb2 hb3
              have hxw6 := hxwr.trans hx6
              go_wp2_with fail
              refine (ht _ hxw6).mono ?_
              rintro e w7 ⟨v2, rfl, ho2, hx7⟩
              obtain ⟨a2, m2, j2, e2, rfl, hr2⟩ := OwnK.rdn Cl.len ho2
              replace e2 := Lib.hid e2
              have hm2 := len_int hr2
              have hxw7 := hxw6.trans hx7
              obtain ⟨c0, hc0, s0, s1, s2⟩ := (hrowk.ext (hx6.trans hx7)).cells (show 0 < n by omega)
              simp only [Nat.zero_mul] at s0 s1 s2
              have hn0i : (0 : Int) < (n : Int) := by omega
              have hec := eql_cl
              clear hcs ht kb0 kb1 kb2 kb3 kbl ho2 lg0 lg1 lg2 hlq2 hxw6 hx6 hx7 hxwr hrowk
              go_wp2_with fail
              go_loopw [20, 21] (fun t k wr => ∃ (q : Nat) (tb : Bool), q ≤ m2 ∧ k = .int .i64 q ∧ t = .bool tb ∧ Hid (tb = decide (c0 ∈ TL.take q)) ∧ Ext w7 wr) (fun _ k _ => m2 - (intOf k).toNat)
              case atStart => exact ⟨0, false, Nat.zero_le _, rfl, rfl, Lib.hid (by simp), Ext.refl _⟩
              case round =>
                obtain ⟨q, tb, hq, rfl, rfl, htq, hxi⟩ := hrel
                have hxw := hxw7.trans hxi
                by_cases hqm : q < m2
                · obtain ⟨b3, o3, d, rfl, hdd, hbb3, p0, p1, p2⟩ := (hr2.ext hxi).cl hqm
                  have hqmi : (q : Int) < (m2 : Int) := by omega
                  have r0 := fun z : ExtOf wr => z.cell (hxi.cellv s0)
                  have r1 := fun z : ExtOf wr => z.cell (hxi.cellv s1)
                  have r2 := fun z : ExtOf wr => z.cell (hxi.cellv s2)
                  have r3 := fun z : ExtOf wr => z.cell p0
                  have r4 := fun z : ExtOf wr => z.cell p1
                  have r5 := fun z : ExtOf wr => z.cell p2
                  have hts := Lib.hid (take_succ_at hdd.out)
                  cases tb
                  · have htq' : Hid (decide (d = c0) = decide (c0 ∈ TL.take (q + 1))) := Lib.hid (by
                      have := htq.out
                      rw [hts.out, Bool.eq_iff_iff, decide_eq_true_eq, decide_eq_true_eq, List.mem_append, List.mem_singleton]
                      have h0 : ¬ c0 ∈ TL.take q := of_decide_eq_false this.symm
                      simp only [h0, false_or]
                      exact eq_comm)
                    go_wp2_with fail
                    (refine wp_region_qx (by kernel_rfl) (by kernel_rfl) ?_
                     repeat (go_big_quiet_step (fail))
                     refine wpQuiet_nil ?_
                     intro wq hw'
                     have hxq := ext_of_ex hw'
                     clear hw')
                    go_wp2_with fail
                    (first | exact ⟨⟨q + 1, _, by omega, by go_num, rfl, htq', hxi.trans hxq⟩, (by simp [intOf]; omega)⟩ | (go_roundw; case rel => exact ⟨q + 1, _, by omega, by go_num, rfl, htq', hxi.trans hxq⟩; case measure => exact (by simp [intOf]; omega)))
                  · have htq' : Hid (true = decide (c0 ∈ TL.take (q + 1))) := Lib.hid (by
                      have := htq.out
                      have h0 : c0 ∈ TL.take q := of_decide_eq_true this.symm
                      rw [hts.out]; symm
                      exact decide_eq_true (List.mem_append_left _ h0))
                    go_wp2_with fail
                    (refine wp_region_qx (by kernel_rfl) (by kernel_rfl) ?_
                     repeat (go_big_quiet_step (fail))
                     refine wpQuiet_nil ?_
                     intro wq hw'
                     have hxq := ext_of_ex hw'
                     clear hw')
                    go_wp2_with fail
                    (first | exact ⟨⟨q + 1, _, by omega, by go_num, rfl, htq', hxi.trans hxq⟩, (by simp [intOf]; omega)⟩ | (go_roundw; case rel => exact ⟨q + 1, _, by omega, by go_num, rfl, htq', hxi.trans hxq⟩; case measure => exact (by simp [intOf]; omega)))
                · obtain rfl : m2 = q := by omega
                  by_cases hlt2 : z1 < c2
                  · have hd11 : decide (z1 < c2) = true := by simpa using hlt2
                    go_wp2_with fail
                    refine (works_any _ (hT.ext hxw)).mono ?_
                    rintro e wz ⟨rfl, hxz⟩
                    go_wp2_with fail
                    go_ret
                    exact ⟨rfl, hxw.trans hxz⟩
                  · have hd11 : decide (z1 < c2) = false := by simpa using hlt2
                    obtain rfl : true = tb := by
                      have := htq.out
                      rw [List.take_of_length_le (by rw [← e2.out]; exact Nat.le_refl _)] at this
                      rw [this]; exact (decide_eq_true (hti.out (by omega) c0 hc0.out)).symm
                    go_wp2_with fail
                    refine (works_any _ (hT.ext hxw)).mono ?_
                    rintro e wz ⟨rfl, hxz⟩
                    go_wp2_with fail
                    go_ret
                    exact ⟨rfl, hxw.trans hxz⟩
  · generalize hte : tieE ts cs ws g x = te at *
    have hd0 : (te != 0) = true := by simp [hE]
    generalize cellX ts cs ws g x = cl at *
    obtain ⟨c1, z1⟩ := cl
    simp only at hp
    generalize leavesR ts = LL at *
    generalize treeE ts = tE at *
    replace hE := Lib.hid hE
    replace hcl := Lib.hid hcl
    replace hrl := Lib.hid hrl
    replace hxl := Lib.hid hxl
    clear hte ht
    go_enter Tryd.func11, Tryd.ntmps11
    go_wp2_with fail
    refine (hs _).mono ?_
    rintro e w1 ⟨rfl, hx1⟩
    have hb0 := (hx1).cellv (cell_new_list w [.slice a n cap, .slice ac nc cc, .slice aw nw cw, .int .i64 g] 34 0 _ rfl)
    have hb1 := (hx1).cellv (cell_new_list w [.slice a n cap, .slice ac nc cc, .slice aw nw cw, .int .i64 g] 34 1 _ rfl)
    have hb2 := (hx1).cellv (cell_new_list w [.slice a n cap, .slice ac nc cc, .slice aw nw cw, .int .i64 g] 34 2 _ rfl)
    have hb3 := (hx1).cellv (cell_new_list w [.slice a n cap, .slice ac nc cc, .slice aw nw cw, .int .i64 g] 34 3 _ rfl)
    have hlt : w.heap.size < w1.heap.size := by have := hx1.le; simp at this; omega
    have hxw1 : Ext w w1 := (by repeat (first | exact Ext.refl _ | assumption | refine Ext.drew ?_ | refine Ext.drewN ?_ _ | refine Ext.alloc ?_ _ | refine Ext.trans ?_ (by assumption)))
    clear hs hx1
    go_wp2_with fail
    refine (hp _ hxw1).mono ?_
    rintro e w2 ⟨rfl, hx2⟩
    have kb0 := (hx2).cellv hb0
    have kb1 := (hx2).cellv hb1
    have kb2 := (hx2).cellv hb2
    have kb3 := (hx2).cellv hb3
    have kbl : w.heap.size < _ := cell_lt kb0
    clear hb0 hb1 hb2 hb3
    have hxw2 := hxw1.trans hx2
    clear hp hxw1 hx2
    go_wp2_with fail
    have hblk := World.alloc_heap_new w2 (.cells #[.int .i64 c1.kind, .int .u32 c1.s.p.toNat, .int .u32 c1.s.m.toNat] 40)
    have hxa : Ext w2 (w2.alloc (.cells #[.int .i64 c1.kind, .int .u32 c1.s.p.toNat, .int .u32 c1.s.m.toNat] 40)) := Ext.alloc1 _ _
    generalize (w2.alloc (.cells #[.int .i64 c1.kind, .int .u32 c1.s.p.toNat, .int .u32 c1.s.m.toNat] 40)) = wa at *
    generalize w2.heap.size = q2 at *
    have hb0 := (hxa).cellv kb0
    have hb1 := (hxa).cellv kb1
    have hb2 := (hxa).cellv kb2
    have hb3 := (hxa).cellv kb3
    have hbl : w.heap.size < _ := cell_lt hb0
    clear kb0 kb1 kb2 kb3
    have hxwa := hxw2.trans hxa
    refine (hlv _ hxwa).mono ?_
    rintro e w3 ⟨v1, rfl, ho1, hx3⟩
    obtain ⟨a3, m3, j3, e3, rfl, hr3⟩ := OwnK.rdn I64.len ho1
    replace e3 := Lib.hid e3
    obtain ⟨g0', g1', g2'⟩ := cells3 hblk
    have g0 := hx3.cellv g0'
    have g1 := hx3.cellv g1'
    have g2 := hx3.cellv g2'
    have hlq : q2 < w3.heap.size := cell_lt g0
    have kb0 := (hx3).cellv hb0
    have kb1 := (hx3).cellv hb1
    have kb2 := (hx3).cellv hb2
    have kb3 := (hx3).cellv hb3
    have kbl : w.heap.size < _ := cell_lt kb0
    clear hb0 hb1 hb2 hb3
    have hxw3 := hxwa.trans hx3
    have hm3 := len_int hr3
    clear hlv hxw2 hxa hxwa hx3 hblk g0' g1' g2' ho1
    go_wp2_with fail
    refine (works_any _ (hT.ext (by repeat (first | exact Ext.refl _ | assumption | refine Ext.drew ?_ | refine Ext.drewN ?_ _ | refine Ext.alloc ?_ _ | refine Ext.trans ?_ (by assumption))))).mono ?_
    rintro e wz ⟨rfl, hxz⟩
    go_wp2_with fail
    go_ret
    exact ⟨rfl, (by repeat (first | exact Ext.refl _ | assumption | refine Ext.drew ?_ | refine Ext.drewN ?_ _ | refine Ext.alloc ?_ _ | refine Ext.trans ?_ (by assumption)))⟩
end Go.Proofs.YtdloabjnjnjacaaDoor
