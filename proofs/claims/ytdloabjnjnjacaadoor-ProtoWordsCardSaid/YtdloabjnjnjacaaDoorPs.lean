/-
  ref24: Ties, Cell.
-/
import Derived.Test.YtdloabjnjnjacaaDoorPr
namespace Go.Proofs.YtdloabjnjnjacaaDoor
open Go.RowKit Go.Shelf
set_option maxHeartbeats 2000000 in
set_option maxRecDepth 20000 in
theorem rties_any (a : Option Addr) (n cap : Nat) (ts : List Nd) (ax : Option Addr) (l cx : Nat) (x : List Cl) (ac : Option Addr) (nc cc : Nat) (cs : List Snd) (aw : Option Addr) (nw cw : Nat) (ws : List Int) (g : Int) (w : World)
    (hr : RdN w a n cap ts) (hx : RdC w ax l cx x) (hc : RdS w ac nc cc cs) (hw : RdI w aw nw cw ws) :
    Calls Tryd.prog 21 #[.slice a n cap, .slice ax l cx, .slice ac nc cc, cstV aw nw cw g] w (RetCE (tieL ts cs ws g x) (tieE ts cs ws g x) w) := by
  have hbeg := fun W (hx : Ext w W) => rbeg_any a n cap ts ac nc cc cs aw nw cw ws g W (hr.ext hx) (hc.ext hx) (hw.ext hx)
  have hncl := hc.len
  go_enter Tryd.func21, Tryd.ntmps21
  go_wp2_with fail
  refine (hbeg _ (Ext.alloc1 _ _)).mono ?_
  rintro e w2 ⟨hx2, ⟨hne, rfl⟩ | ⟨heq, am, capm, rfl, hrm⟩⟩
  · have hB : tieL ts cs ws g x = [] := by unfold tieL; rw [if_neg (fun h => hne h.1)]
    have hEe : tieE ts cs ws g x = begE ts cs ws g := by unfold tieE; rw [if_pos hne]
    have hd : (begE ts cs ws g != 0) = true := by simpa using hne
    have hxw : Ext w w2 := (by repeat (first | exact Ext.refl _ | assumption | refine Ext.drew ?_ | refine Ext.drewN ?_ _ | refine Ext.alloc ?_ _ | refine Ext.trans ?_ (by assumption)))
    generalize begE ts cs ws g = er at *
    replace hB := Lib.hid hB
    replace hEe := Lib.hid hEe
    replace hncl := Lib.hid hncl
    clear hbeg hx2 hne
    go_wp2_with fail
    go_ret2
    exact ⟨_, by rw [hEe.out]; rfl, by rw [hB.out]; exact OwnK.nil _ _ _, hxw⟩
  · have hEe : tieE ts cs ws g x = onE ts cs x := by unfold tieE; rw [if_neg (by simp [heq])]
    obtain ⟨ht, _⟩ := begE_zero heq
    have hx02 : Ext w w2 := (by repeat (first | exact Ext.refl _ | assumption | refine Ext.drew ?_ | refine Ext.drewN ?_ _ | refine Ext.alloc ?_ _ | refine Ext.trans ?_ (by assumption)))
    have hst := fun W (hx' : Ext w W) => rstates_any a n cap ts ax l cx x ac nc cc cs W (hr.ext hx') (hx.ext hx') (hc.ext hx') ht
    have hL : tieL ts cs ws g x = if onE ts cs x = 0 ∧ knownB x = true then (rootsL ts (matL cs ws g) (stL cs x)).map (cellS cs) else [] := by
      unfold tieL; by_cases h : onE ts cs x = 0 ∧ knownB x = true
      · rw [if_pos h, if_pos ⟨heq, h⟩]
      · rw [if_neg h, if_neg (fun h2 => h h2.2)]
    have hpo := fun h => poss_of (x := x) heq h
    have hbd := roots_bd (ts := ts) (ms := matL cs ws g) (st := stL cs x) (k := nc) (by rw [matL_len, hncl])
    have hroot := fun W (hx' : Ext w2 W) az ls cps (hs : RdI W az ls cps (stL cs x)) => rroots_any a n cap ts am (nc + 1) capm (matL cs ws g) az ls cps (stL cs x) W (hr.ext (hx02.trans hx')) (RdM.ext hrm hx') hs
    replace hncl := Lib.hid hncl
    replace hEe := Lib.hid hEe
    replace hL := Lib.hid hL
    replace heq := Lib.hid heq
    clear hbeg hx2
    go_wp2_with fail
    refine (hst _ hx02).mono ?_
    rintro e w3 ⟨hx3, ⟨hne, rfl⟩ | ⟨hE, v, rfl, hown⟩⟩
    · have hB : tieL ts cs ws g x = [] := by rw [hL.out, if_neg (fun h => hne h.1)]
      have hd : (onE ts cs x != 0) = true := by simpa using hne
      generalize hEr : onE ts cs x = er at *
      replace hEr := Lib.hid hEr
      replace hB := Lib.hid hB
      replace hne := Lib.hid hne
      clear hst hpo hbd hroot
      go_wp2_with fail
      go_ret2
      exact ⟨_, by rw [hEe.out]; rfl, by rw [hB.out]; exact OwnK.nil _ _ _, hx02.trans hx3⟩
    · obtain ⟨a3, n3, c3, hn3, rfl, hr3⟩ := OwnK.rdn I64.len hown
      have hp := hpo hE
      rw [hp] at hroot
      have hro := hroot w3 hx3 a3 n3 c3 hr3
      have hx03 := hx02.trans hx3
      clear hst hroot hpo
      replace hn3 := Lib.hid hn3
      cases hkn : knownB x
      · have hB : tieL ts cs ws g x = [] := by rw [hL.out, if_neg (fun h => by rw [hkn] at h; cases h.2)]
        replace hB := Lib.hid hB
        replace hkn := Lib.hid hkn
        replace hE := Lib.hid hE
        replace hp := Lib.hid hp
        clear hro
        go_wp2_with fail
        go_ret2
        exact ⟨_, by rw [hEe.out, hE.out]; rfl, by rw [hB.out]; exact OwnK.nil _ _ _, hx03⟩
      · have hB : tieL ts cs ws g x = (rootsL ts (matL cs ws g) (stL cs x)).map (cellS cs) := by rw [hL.out, if_pos ⟨hE, hkn⟩]
        have hmz := (begE_zero heq.out).2
        have hnc11 : nc ≤ 11 := by rw [← hncl.out]; exact (matE_zero hmz).1
        generalize rootsL ts (matL cs ws g) (stL cs x) = xs at *
        obtain ⟨hbd1, hbd2⟩ := hbd
        replace hB := Lib.hid hB
        replace hkn := Lib.hid hkn
        replace hE := Lib.hid hE
        replace hp := Lib.hid hp
        replace hmz := Lib.hid hmz
        go_wp2_with fail
        refine hro.mono ?_
        rintro e w4 ⟨v4, rfl, hown4, hx4⟩
        obtain ⟨a4, n4, c4, hn4, rfl, hr4⟩ := OwnK.rdn I64.len hown4
        have hn412 : n4 ≤ 60000 := by omega
        have hl4 := hr4.len
        have hx04 := hx03.trans hx4
        replace hn4 := Lib.hid hn4
        replace hl4 := Lib.hid hl4
        clear hro hbd2
        go_wp2_with fail
        go_loopw [15, 16] (fun ov i wr => ∃ j : Nat, j ≤ n4 ∧ i = .int .i64 j ∧ Ext w4 wr ∧ OwnC w4.heap.size 40 wr ov ((xs.take j).map (cellS cs))) (fun _ i _ => n4 - (intOf i).toNat)
        case atStart => exact ⟨0, Nat.zero_le _, rfl, Ext.refl _, OwnK.nil _ _ _⟩
        case round =>
          obtain ⟨j, hj, rfl, hxr, hown⟩ := hrel
          by_cases hlt : j < n4
          · obtain ⟨b, off, y, rfl, hy, hb', hcy⟩ := (hr4.ext hxr).i64 hlt
            obtain ⟨h0, h1⟩ := hbd1 y (List.mem_of_getElem? hy.out)
            have hlen : ((xs.take j).map (cellS cs)).length ≤ 60000 := by rw [List.length_map, List.length_take]; omega
            have hnew : (xs.take (j + 1)).map (cellS cs) = (xs.take j).map (cellS cs) ++ [cellS cs y] := by rw [take_succ_at hy.out, List.map_append]; rfl
            have hcall := fun W (hx' : Ext wr W) => rcell_any ac nc cc cs y W (hc.ext (hx04.trans (hxr.trans hx'))) h0 h1
            replace hnew := Lib.hid hnew
            generalize cellS cs y = c at *
            go_wp2_with fail
            refine (hcall _ (by repeat (first | exact Ext.refl _ | assumption | refine Ext.drew ?_ | refine Ext.drewN ?_ _ | refine Ext.alloc ?_ _ | refine Ext.trans ?_ (by assumption)))).mono ?_
            rintro e w5 ⟨rfl, hx5⟩
            have hown5 := hown.kept hx5
            have hx45 := hxr.trans hx5
            clear hx5 hcall
            go_wp2_with (at_builtin; refine wp_appC w4 w5 c #[.int .i64 c.kind, .int .u32 c.s.p.toNat, .int .u32 c.s.m.toNat] rfl rfl _ _ 35 rfl 40 Tryd.underlying35 info_cl rfl (by decide) _ _ rfl hown5 hx45 rfl (Cl.len _) (Cl.one _) (by omega) (by unfold maxLen; omega) ?_; intro v6 w6 o6 x6)
            (first | exact ⟨⟨j + 1, by omega, by go_num, x6, by rw [hnew.out]; exact o6⟩, (by simp [intOf]; omega)⟩ | (go_roundw; case rel => exact ⟨j + 1, by omega, by go_num, x6, by rw [hnew.out]; exact o6⟩; case measure => exact (by simp [intOf]; omega)))
          · have hjn : j = n4 := by omega
            rw [List.take_of_length_le (by rw [hl4.out]; omega)] at hown
            replace hjn := Lib.hid hjn
            go_wp2_with fail
            go_ret2
            exact ⟨_, by rw [hEe.out, hE.out]; rfl, by rw [hB.out]; exact OwnK.base hown (Ext.le hx04), hx04.trans hxr⟩
/-! ### Cell -/
theorem tie_nil {ts : List Nd} {cs : List Snd} {ws : List Int} {g : Int} {x : List Cl} (hb : begE ts cs ws g = 0) (ho : onE ts cs x = 0) (hk : knownB x = true) : (tieL ts cs ws g x)[0]? = some (bestX ts cs ws g x).1 := by
  unfold tieL bestX
  rw [if_pos ⟨hb, ho, hk⟩, if_pos ⟨ho, hk⟩, List.getElem?_map, roots_head (poss_of hb ho)]; rfl
set_option maxHeartbeats 2000000 in
set_option maxRecDepth 20000 in
theorem rcellX_any (a : Option Addr) (n cap : Nat) (ts : List Nd) (ax : Option Addr) (l cx : Nat) (x : List Cl) (ac : Option Addr) (nc cc : Nat) (cs : List Snd) (aw : Option Addr) (nw cw : Nat) (ws : List Int) (g : Int) (w : World)
    (hr : RdN w a n cap ts) (hx : RdC w ax l cx x) (hc : RdS w ac nc cc cs) (hw : RdI w aw nw cw ws) :
    Calls Tryd.prog 19 #[.slice a n cap, .slice ax l cx, .slice ac nc cc, cstV aw nw cw g] w (CellRet ts cs ws g x w) := by
  have htie := fun W (hx' : Ext w W) => rties_any a n cap ts ax l cx x ac nc cc cs aw nw cw ws g W (hr.ext hx') (hx.ext hx') (hc.ext hx') (hw.ext hx')
  have hncl := hc.len
  go_enter Tryd.func19, Tryd.ntmps19
  go_wp2_with fail
  have hc1 : CellB ((w.alloc (.cells #[.slice aw nw cw, .int .i64 g] 25)).alloc (.cells #[.int .i64 0, .int .u32 0, .int .u32 0] 40)) (w.heap.size + 1) zerC := by have := World.alloc_heap_new (w.alloc (.cells #[.slice aw nw cw, .int .i64 g] 25)) (.cells #[.int .i64 0, .int .u32 0, .int .u32 0] 40); rwa [World.size_alloc] at this
  have hcb : ((w.alloc (.cells #[.slice aw nw cw, .int .i64 g] 25)).alloc (.cells #[.int .i64 0, .int .u32 0, .int .u32 0] 40)).heap[w.heap.size]? = some (.cells #[.slice aw nw cw, .int .i64 g] 25 (0, 0)) := (Below.heap_alloc _ _ _ (by simp)).trans (World.alloc_heap_new w _)
  have hx0 : Ext w ((w.alloc (.cells #[.slice aw nw cw, .int .i64 g] 25)).alloc (.cells #[.int .i64 0, .int .u32 0, .int .u32 0] 40)) := (by repeat (first | exact Ext.refl _ | assumption | refine Ext.drew ?_ | refine Ext.drewN ?_ _ | refine Ext.alloc ?_ _ | refine Ext.trans ?_ (by assumption)))
  generalize ((w.alloc (.cells #[.slice aw nw cw, .int .i64 g] 25)).alloc (.cells #[.int .i64 0, .int .u32 0, .int .u32 0] 40)) = wb at *
  have hl1 := (Array.getElem?_eq_some_iff.1 hc1).1
  have hcb0 : wb.cell? ⟨w.heap.size, 0, none⟩ = some (.slice aw nw cw) := by simp only [World.cell?]; rw [hcb]; rfl
  have hcb1 : wb.cell? ⟨w.heap.size, 1, none⟩ = some (.int .i64 g) := by simp only [World.cell?]; rw [hcb]; rfl
  clear hcb
  refine (htie wb hx0).mono ?_
  rintro e w2 ⟨vl, rfl, hol, hx2⟩
  obtain ⟨al, nl, cl, hnl, rfl, hrl⟩ := OwnK.rdn Cl.len hol
  have hxw := hx0.trans hx2
  have hc2 : CellB w2 (w.heap.size + 1) zerC := (Below.block hx2.bel _ hl1).trans hc1
  by_cases htz : tieE ts cs ws g x = 0
  · have heq : begE ts cs ws g = 0 := by unfold tieE at htz; by_cases h : begE ts cs ws g = 0; exact h; rw [if_pos h] at htz; exact htz
    have hE : onE ts cs x = 0 := by unfold tieE at htz; rw [if_neg (by simp [heq])] at htz; exact htz
    have hcX : cellX ts cs ws g x = bestX ts cs ws g x := by unfold cellX; rw [if_pos heq]
    cases hkn : knownB x
    · have hB : cellX ts cs ws g x = (zerC, 0) := by rw [hcX]; unfold bestX; rw [if_neg (by simp [hkn])]
      have hL0 : tieL ts cs ws g x = [] := by unfold tieL; rw [if_neg (by simp [hkn])]
      rw [hL0] at hnl
      have hnl0 : nl = 0 := hnl
      have hdn : ((nl : Int) == 0) = true := by simp [hnl0]
      have hEe := Lib.hid htz
      rw [htz]
      replace hB := Lib.hid hB
      replace hnl := Lib.hid hnl
      replace hnl0 := Lib.hid hnl0
      clear htie hx0 hx2 hc1 hcb0 hcb1 hl1 hol hrl hkn hE heq hcX hL0 htz
      have hz1 : Ext w (((w2.setCell ⟨w.heap.size + 1, 0, none⟩ (.int .i64 0)).setCell ⟨w.heap.size + 1, 1, none⟩ (.int .u32 0)).setCell ⟨w.heap.size + 1, 2, none⟩ (.int .u32 0)) ∧ CellB (((w2.setCell ⟨w.heap.size + 1, 0, none⟩ (.int .i64 0)).setCell ⟨w.heap.size + 1, 1, none⟩ (.int .u32 0)).setCell ⟨w.heap.size + 1, 2, none⟩ (.int .u32 0)) (w.heap.size + 1) zerC := by
        exact ⟨((hxw.setCell (p := ⟨w.heap.size + 1, 0, none⟩) (by simp only; omega) _).setCell (p := ⟨w.heap.size + 1, 1, none⟩) (by simp only; omega) _).setCell (p := ⟨w.heap.size + 1, 2, none⟩) (by simp only; omega) _, heap_set (heap_set (heap_set hc2 _) _) _⟩
      have fin := Lib.hid hz1
      clear hz1
      obtain ⟨f0, f1, f2⟩ := frz3 hc2
      obtain ⟨g0, g1, g2⟩ := cells3 hc2
      have l1 := (Array.getElem?_eq_some_iff.1 hc2).1
      go_wp2_with fail
      exact bodyPost_ret (res_cell_t2 rfl _ _ (w.heap.size + 1) _ _ (0, 0) _ rfl fin.out.2 Tryd.underlying40 rfl (by kernel_rfl)) rfl ⟨by rw [hB.out, hEe.out]; rfl, fin.out.1⟩
    · obtain ⟨ht, hmz⟩ := begE_zero heq
      have hp := poss_of heq hE
      have hhd := tie_nil heq hE hkn
      have hnl0 : 0 < nl := by rw [hnl]; exact (List.getElem?_eq_some_iff.1 hhd).1
      have hdn : ((nl : Int) == 0) = false := by simp; omega
      have hbX : (bestX ts cs ws g x).2 = (rootB ts (matL cs ws g) (stL cs x)).1 := by unfold bestX; rw [if_pos ⟨hE, hkn⟩]
      have hmt := fun W (hx' : Ext w W) => rmatrix_any ac nc cc cs aw nw cw ws g W (hc.ext hx') (hw.ext hx')
      have hst := fun W (hx' : Ext w W) => rstates_any a n cap ts ax l cx x ac nc cc cs W (hr.ext hx') (hx.ext hx') (hc.ext hx') ht
      have hmin := fun W am capm az ls cps (hx' : Ext w W) (hrm : RdM W am (nc + 1) capm (matL cs ws g)) (hs : RdI W az ls cps (stL cs x)) => rmin_any a n cap ts am (nc + 1) capm (matL cs ws g) az ls cps (stL cs x) W (hr.ext hx') hrm hs
      rw [hp] at hmin
      simp only [if_true] at hmin
      rw [← hbX] at hmin
      have hl1' := (Array.getElem?_eq_some_iff.1 hc2).1
      have hcb0' := hx2.cellv hcb0
      have hcb1' := hx2.cellv hcb1
      have hB := hcX
      have hEe := Lib.hid htz
      rw [htz]
      generalize bestX ts cs ws g x = q at *
      obtain ⟨c, z⟩ := q
      simp only at hmin hhd
      replace hB := Lib.hid hB
      replace hcX := Lib.hid hcX
      replace hnl := Lib.hid hnl
      replace htz := Lib.hid htz
      replace heq := Lib.hid heq
      replace hE := Lib.hid hE
      replace hkn := Lib.hid hkn
      replace hp := Lib.hid hp
      replace hbX := Lib.hid hbX
      replace hhd := Lib.hid hhd
      replace hmz := Lib.hid hmz
      replace hncl := Lib.hid hncl
      clear htie hx0 hx2 hc1 hl1 hol hcb0 hcb1
      go_wp2_with fail
      refine (hmt _ hxw).mono ?_
      rintro e w3 ⟨hx3, ⟨hne, rfl⟩ | ⟨_, am, capm, rfl, hrm⟩⟩
      · exact absurd hmz.out hne
      have hx03 := hxw.trans hx3
      rw [hncl.out] at hrm
      rw [hncl.out]
      clear hmt
      go_wp2_with fail
      refine (hst _ hx03).mono ?_
      rintro e w4 ⟨hx4, ⟨hne, rfl⟩ | ⟨_, v4, rfl, hown4⟩⟩
      · exact absurd hE.out hne
      obtain ⟨a4, n4, c4, hn4, rfl, hr4⟩ := OwnK.rdn I64.len hown4
      have hx04 := hx03.trans hx4
      replace hn4 := Lib.hid hn4
      have hm := hmin w4 am capm a4 n4 c4 hx04 (RdM.ext hrm hx4) hr4
      clear hst hmin
      go_wp2_with fail
      refine hm.mono ?_
      rintro e w5 ⟨rfl, hx5⟩
      have hx25 := hx3.trans (hx4.trans hx5)
      have hc5 : CellB w5 (w.heap.size + 1) zerC := (Below.block hx25.bel _ hl1').trans hc2
      obtain ⟨bl, ol, y, rfl, hy, hbl, hk0, hk1, hk2⟩ := (hrl.ext hx25).cl hnl0
      obtain rfl : y = c := by have := hy.out; rw [hhd.out] at this; exact (Option.some.inj this).symm
      simp only [Nat.zero_mul, Nat.add_zero] at hk0 hk1 hk2
      have hxw5 := hxw.trans hx25
      clear hm hxw hc2 hl1' hx25 hx3 hx4 hx5 hx03 hx04
      have hxw := hxw5
      have hc2 := hc5
      clear hxw5 hc5
      have fin : Ext w (((w5.setCell ⟨w.heap.size + 1, 0, none⟩ (.int .i64 y.kind)).setCell ⟨w.heap.size + 1, 1, none⟩ (.int .u32 y.s.p.toNat)).setCell ⟨w.heap.size + 1, 2, none⟩ (.int .u32 y.s.m.toNat)) ∧ CellB (((w5.setCell ⟨w.heap.size + 1, 0, none⟩ (.int .i64 y.kind)).setCell ⟨w.heap.size + 1, 1, none⟩ (.int .u32 y.s.p.toNat)).setCell ⟨w.heap.size + 1, 2, none⟩ (.int .u32 y.s.m.toNat)) (w.heap.size + 1) y := by
        exact ⟨((hxw.setCell (p := ⟨w.heap.size + 1, 0, none⟩) (by simp only; omega) _).setCell (p := ⟨w.heap.size + 1, 1, none⟩) (by simp only; omega) _).setCell (p := ⟨w.heap.size + 1, 2, none⟩) (by simp only; omega) _, heap_set (heap_set (heap_set hc2 _) _) _⟩
      replace fin := Lib.hid fin
      obtain ⟨f0, f1, f2⟩ := frz3 hc2
      obtain ⟨g0, g1, g2⟩ := cells3 hc2
      have l1 := (Array.getElem?_eq_some_iff.1 hc2).1
      go_wp2_with fail
      exact bodyPost_ret (res_cell_t2 rfl _ _ (w.heap.size + 1) _ _ (0, 0) _ rfl fin.out.2 Tryd.underlying40 rfl (by kernel_rfl)) rfl ⟨by rw [hB.out, hEe.out]; rfl, fin.out.1⟩
  · have hB : cellX ts cs ws g x = (zerC, 0) := by
      unfold cellX
      by_cases h : begE ts cs ws g = 0
      · rw [if_pos h]; unfold bestX
        rw [if_neg (fun h2 => htz (by unfold tieE; rw [if_neg (by simp [h])]; exact h2.1))]
      · rw [if_neg h]
    have hd : (tieE ts cs ws g x != 0) = true := by simpa using htz
    generalize hEe : tieE ts cs ws g x = er at *
    replace hEe := Lib.hid hEe
    replace hB := Lib.hid hB
    replace hnl := Lib.hid hnl
    replace htz := Lib.hid htz
    clear htie hx0 hx2 hc1 hcb0 hcb1 hl1 hol hrl
    have hz1 : Ext w (((w2.setCell ⟨w.heap.size + 1, 0, none⟩ (.int .i64 0)).setCell ⟨w.heap.size + 1, 1, none⟩ (.int .u32 0)).setCell ⟨w.heap.size + 1, 2, none⟩ (.int .u32 0)) ∧ CellB (((w2.setCell ⟨w.heap.size + 1, 0, none⟩ (.int .i64 0)).setCell ⟨w.heap.size + 1, 1, none⟩ (.int .u32 0)).setCell ⟨w.heap.size + 1, 2, none⟩ (.int .u32 0)) (w.heap.size + 1) zerC := by
      exact ⟨((hxw.setCell (p := ⟨w.heap.size + 1, 0, none⟩) (by simp only; omega) _).setCell (p := ⟨w.heap.size + 1, 1, none⟩) (by simp only; omega) _).setCell (p := ⟨w.heap.size + 1, 2, none⟩) (by simp only; omega) _, heap_set (heap_set (heap_set hc2 _) _) _⟩
    have fin := Lib.hid hz1
    clear hz1
    obtain ⟨f0, f1, f2⟩ := frz3 hc2
    obtain ⟨g0, g1, g2⟩ := cells3 hc2
    have l1 := (Array.getElem?_eq_some_iff.1 hc2).1
    go_wp2_with fail
    exact bodyPost_ret (res_cell_t2 rfl _ _ (w.heap.size + 1) _ _ (0, 0) _ rfl fin.out.2 Tryd.underlying40 rfl (by kernel_rfl)) rfl ⟨by rw [hB.out, hEe.out]; rfl, fin.out.1⟩
end Go.Proofs.YtdloabjnjnjacaaDoor
