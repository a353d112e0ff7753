/-
  ref24: Nodes, Cost.
-/
import Derived.Test.YtdloabjnjnjacaaDoorPs
namespace Go.Proofs.YtdloabjnjnjacaaDoor
open Go.RowKit Go.Shelf
set_option maxHeartbeats 2000000 in
set_option maxRecDepth 20000 in
theorem rnodes_any (a : Option Addr) (n cap : Nat) (ts : List Nd) (ax : Option Addr) (l cx : Nat) (x : List Cl) (ac : Option Addr) (nc cc : Nat) (cs : List Snd) (aw : Option Addr) (nw cw : Nat) (ws : List Int) (g : Int) (w : World)
    (hr : RdN w a n cap ts) (hx : RdC w ax l cx x) (hc : RdS w ac nc cc cs) (hw : RdI w aw nw cw ws) :
    Calls Tryd.prog 28 #[.slice a n cap, .slice ax l cx, .slice ac nc cc, cstV aw nw cw g] w (RetCE (nodeL ts cs ws g x) (tieE ts cs ws g x) w) := by
  have hbeg := fun W (hx : Ext w W) => rbeg_any a n cap ts ac nc cc cs aw nw cw ws g W (hr.ext hx) (hc.ext hx) (hw.ext hx)
  have hncl := hc.len
  have hnl := hr.rd.len
  go_enter Tryd.func28, Tryd.ntmps28
  go_wp2_with fail
  refine (hbeg _ (Ext.alloc1 _ _)).mono ?_
  rintro e w2 ⟨hx2, ⟨hne, rfl⟩ | ⟨heq, am, capm, rfl, hrm⟩⟩
  · have hB : nodeL ts cs ws g x = [] := by unfold nodeL; rw [if_neg (fun h => hne h.1)]
    have hEe : tieE ts cs ws g x = begE ts cs ws g := by unfold tieE; rw [if_pos hne]
    have hd : (begE ts cs ws g != 0) = true := by simpa using hne
    have hxw : Ext w w2 := (by repeat (first | exact Ext.refl _ | assumption | refine Ext.drew ?_ | refine Ext.drewN ?_ _ | refine Ext.alloc ?_ _ | refine Ext.trans ?_ (by assumption)))
    generalize begE ts cs ws g = er at *
    replace hB := Lib.hid hB
    replace hEe := Lib.hid hEe
    replace hncl := Lib.hid hncl
    replace hnl := Lib.hid hnl
    clear hbeg hx2 hne
    go_wp2_with fail
    go_ret2
    exact ⟨_, by rw [hEe.out]; rfl, by rw [hB.out]; exact OwnK.nil _ _ _, hxw⟩
  · have hEe : tieE ts cs ws g x = onE ts cs x := by unfold tieE; rw [if_neg (by simp [heq])]
    obtain ⟨ht, _⟩ := begE_zero heq
    have hn63 : n ≤ 63 := by rw [← hnl]; exact (tree_len ht).2
    have hmk := fun W => mk_cells n (by omega) W
    have hx02 : Ext w w2 := (by repeat (first | exact Ext.refl _ | assumption | refine Ext.drew ?_ | refine Ext.drewN ?_ _ | refine Ext.alloc ?_ _ | refine Ext.trans ?_ (by assumption)))
    have hst := fun W (hx' : Ext w W) => rstates_any a n cap ts ax l cx x ac nc cc cs W (hr.ext hx') (hx.ext hx') (hc.ext hx') ht
    have hL : nodeL ts cs ws g x = if onE ts cs x = 0 then (if knownB x = true then (bestS ts (matL cs ws g) (stL cs x)).map (cellS cs) else List.replicate n zerC) else [] := by
      unfold nodeL; by_cases h : onE ts cs x = 0
      · rw [if_pos h, if_pos ⟨heq, h⟩, hnl]
      · rw [if_neg h, if_neg (fun h2 => h h2.2)]
    have hpo := fun h => poss_of (x := x) heq h
    have hbd := best_bd (ts := ts) (ms := matL cs ws g) (st := stL cs x) (k := nc) (by rw [matL_len, hncl])
    have hbest := fun W (hx' : Ext w2 W) az ls cps (hs : RdI W az ls cps (stL cs x)) => rbest_any a n cap ts am (nc + 1) capm (matL cs ws g) az ls cps (stL cs x) W (hr.ext (hx02.trans hx')) (RdM.ext hrm hx') hs
    replace hncl := Lib.hid hncl
    replace hEe := Lib.hid hEe
    replace hL := Lib.hid hL
    replace heq := Lib.hid heq
    replace hnl := Lib.hid hnl
    clear hbeg hx2
    go_wp2_with fail
    refine (hst _ hx02).mono ?_
    rintro e w3 ⟨hx3, ⟨hne, rfl⟩ | ⟨hE, v, rfl, hown⟩⟩
    · have hB : nodeL ts cs ws g x = [] := by rw [hL.out, if_neg hne]
      have hd : (onE ts cs x != 0) = true := by simpa using hne
      generalize hEr : onE ts cs x = er at *
      replace hEr := Lib.hid hEr
      replace hB := Lib.hid hB
      replace hne := Lib.hid hne
      clear hst hpo hbd hbest
      go_wp2_with fail
      go_ret2
      exact ⟨_, by rw [hEe.out]; rfl, by rw [hB.out]; exact OwnK.nil _ _ _, hx02.trans hx3⟩
    · obtain ⟨a3, n3, c3, hn3, rfl, hr3⟩ := OwnK.rdn I64.len hown
      have hp := hpo hE
      rw [hp] at hbest
      have hro := hbest w3 hx3 a3 n3 c3 hr3
      have hx03 := hx02.trans hx3
      clear hst hbest hpo
      replace hn3 := Lib.hid hn3
      cases hkn : knownB x
      · have hB : nodeL ts cs ws g x = List.replicate n zerC := by rw [hL.out, if_pos hE, if_neg (by simp [hkn])]
        replace hB := Lib.hid hB
        replace hkn := Lib.hid hkn
        replace hE := Lib.hid hE
        replace hp := Lib.hid hp
        have hz := zcells_own w3 n (by omega)
        have hzz := Lib.hid hz
        clear hro hz
        go_wp2_with fail
        go_ret2
        exact ⟨_, by rw [hEe.out, hE.out]; rfl, by rw [hB.out]; exact OwnK.base hzz.out (Ext.le hx03), hx03.alloc _⟩
      · have hB : nodeL ts cs ws g x = (bestS ts (matL cs ws g) (stL cs x)).map (cellS cs) := by rw [hL.out, if_pos hE, if_pos hkn]
        rw [hnl.out] at hbd
        generalize bestS ts (matL cs ws g) (stL cs x) = xs at *
        obtain ⟨hbd1, hbd2⟩ := hbd
        replace hB := Lib.hid hB
        replace hkn := Lib.hid hkn
        replace hE := Lib.hid hE
        replace hp := Lib.hid hp
        go_wp2_with fail
        refine hro.mono ?_
        rintro e w4 ⟨v4, rfl, hown4, hx4⟩
        obtain ⟨a4, n4, c4, hn4, rfl, hr4⟩ := OwnK.rdn I64.len hown4
        have hn412 : n4 ≤ 60000 := by omega
        have hl4 := hr4.len
        have hx04 := hx03.trans hx4
        replace hn4 := Lib.hid hn4
        replace hl4 := Lib.hid hl4
        clear hro hbd2
        go_wp2_with fail
        go_loopw [15, 16] (fun ov i wr => ∃ j : Nat, j ≤ n4 ∧ i = .int .i64 j ∧ Ext w4 wr ∧ OwnC w4.heap.size 40 wr ov ((xs.take j).map (cellS cs))) (fun _ i _ => n4 - (intOf i).toNat)
        case atStart => exact ⟨0, Nat.zero_le _, rfl, Ext.refl _, OwnK.nil _ _ _⟩
        case round =>
          obtain ⟨j, hj, rfl, hxr, hown⟩ := hrel
          by_cases hlt : j < n4
          · obtain ⟨b, off, y, rfl, hy, hb', hcy⟩ := (hr4.ext hxr).i64 hlt
            obtain ⟨h0, h1⟩ := hbd1 y (List.mem_of_getElem? hy.out)
            have hlen : ((xs.take j).map (cellS cs)).length ≤ 60000 := by rw [List.length_map, List.length_take]; omega
            have hnew : (xs.take (j + 1)).map (cellS cs) = (xs.take j).map (cellS cs) ++ [cellS cs y] := by rw [take_succ_at hy.out, List.map_append]; rfl
            have hcall := fun W (hx' : Ext wr W) => rcell_any ac nc cc cs y W (hc.ext (hx04.trans (hxr.trans hx'))) h0 h1
            replace hnew := Lib.hid hnew
            generalize cellS cs y = c at *
            go_wp2_with fail
            refine (hcall _ (by repeat (first | exact Ext.refl _ | assumption | refine Ext.drew ?_ | refine Ext.drewN ?_ _ | refine Ext.alloc ?_ _ | refine Ext.trans ?_ (by assumption)))).mono ?_
            rintro e w5 ⟨rfl, hx5⟩
            have hown5 := hown.kept hx5
            have hx45 := hxr.trans hx5
            clear hx5 hcall
            go_wp2_with (at_builtin; refine wp_appC w4 w5 c #[.int .i64 c.kind, .int .u32 c.s.p.toNat, .int .u32 c.s.m.toNat] rfl rfl _ _ 35 rfl 40 Tryd.underlying35 info_cl rfl (by decide) _ _ rfl hown5 hx45 rfl (Cl.len _) (Cl.one _) (by omega) (by unfold maxLen; omega) ?_; intro v6 w6 o6 x6)
            (first | exact ⟨⟨j + 1, by omega, by go_num, x6, by rw [hnew.out]; exact o6⟩, (by simp [intOf]; omega)⟩ | (go_roundw; case rel => exact ⟨j + 1, by omega, by go_num, x6, by rw [hnew.out]; exact o6⟩; case measure => exact (by simp [intOf]; omega)))
          · have hjn : j = n4 := by omega
            rw [List.take_of_length_le (by rw [hl4.out]; omega)] at hown
            replace hjn := Lib.hid hjn
            go_wp2_with fail
            go_ret2
            exact ⟨_, by rw [hEe.out, hE.out]; rfl, by rw [hB.out]; exact OwnK.base hown (Ext.le hx04), hx04.trans hxr⟩
/-! ### Cost -/
theorem stL_at {cs : List Snd} {x : List Cl} {v : Nat} {c : Cl} (h : x[v]? = some c) : (stL cs x)[v]? = some (stC cs c) := by unfold stL; rw [List.getElem?_map, h]; rfl
set_option maxHeartbeats 4000000 in
set_option maxRecDepth 20000 in
theorem rcost_any (a : Option Addr) (n cap : Nat) (ts : List Nd) (ax : Option Addr) (l cx : Nat) (x : List Cl) (ac : Option Addr) (nc cc : Nat) (cs : List Snd) (aw : Option Addr) (nw cw : Nat) (ws : List Int) (g : Int) (w : World)
    (hr : RdN w a n cap ts) (hx : RdC w ax l cx x) (hc : RdS w ac nc cc cs) (hw : RdI w aw nw cw ws) :
    Calls Tryd.prog 30 #[.slice a n cap, .slice ax l cx, .slice ac nc cc, cstV aw nw cw g] w (CostRet ts cs ws g x w) := by
  have hbeg := fun W (hx : Ext w W) => rbeg_any a n cap ts ac nc cc cs aw nw cw ws g W (hr.ext hx) (hc.ext hx) (hw.ext hx)
  have hnl := hr.rd.len
  have hxl := hx.len
  have hncl := hc.len
  have hlmax : l ≤ 9223372036854775807 := by have := hx.le; have := hx.most; unfold maxLen at this; omega
  replace hnl := Lib.hid hnl
  replace hxl := Lib.hid hxl
  replace hncl := Lib.hid hncl
  go_enter Tryd.func30, Tryd.ntmps30
  go_wp2_with fail
  refine (hbeg _ (Ext.alloc1 _ _)).mono ?_
  rintro e w2 ⟨hx2, ⟨hne, rfl⟩ | ⟨heq, am, capm, rfl, hrm⟩⟩
  · have hEe := allE_beg (x := x) hne
    have hd : (begE ts cs ws g != 0) = true := by simpa using hne
    have hxw : Ext w w2 := (by repeat (first | exact Ext.refl _ | assumption | refine Ext.drew ?_ | refine Ext.drewN ?_ _ | refine Ext.alloc ?_ _ | refine Ext.trans ?_ (by assumption)))
    generalize hbr : begE ts cs ws g = er at *
    replace hEe := Lib.hid hEe
    replace hbr := Lib.hid hbr
    replace hne := Lib.hid hne
    clear hbeg hx2
    go_wp2_with fail
    go_ret2
    exact CostRet.err hEe.out hne.out hxw
  · have hx02 : Ext w w2 := (by repeat (first | exact Ext.refl _ | assumption | refine Ext.drew ?_ | refine Ext.drewN ?_ _ | refine Ext.alloc ?_ _ | refine Ext.trans ?_ (by assumption)))
    obtain ⟨ht, hmz⟩ := begE_zero heq
    have hn63 : n ≤ 63 := by rw [← hnl.out]; exact (tree_len ht).2
    have hn1 : 1 ≤ n := by rw [← hnl.out]; exact (tree_len ht).1
    clear hbeg hx2
    by_cases hln : l = n
    · have hdl : ((l : Int) != (n : Int)) = false := by simp [hln]
      have hxt : x.length = ts.length := by rw [hxl.out, hnl.out, hln]
      have hbad := fun h => allE_bad (ts := ts) (cs := cs) (ws := ws) (g := g) (x := x) heq (.inr h)
      have hrest := fun h1 h2 => allE_rest (ws := ws) (g := g) (cs := cs) heq hxt h1 h2
      replace hbad := Lib.hid hbad
      replace hrest := Lib.hid hrest
      subst hln
      replace hxt := Lib.hid hxt
      replace heq := Lib.hid heq
      go_wp2_with fail
      go_loopw [12] (fun i wr => ∃ j : Nat, j ≤ l ∧ i = .int .i64 j ∧ Ext w2 wr ∧ Hid (∀ (i : Nat) (y : Cl), i < j → x[i]? = some y → (y.ok && knownC y) = true)) (fun i _ => l - (intOf i).toNat)
      case atStart => exact ⟨0, Nat.zero_le _, rfl, Ext.refl _, fun i y h => absurd h (Nat.not_lt_zero _)⟩
      case round =>
        obtain ⟨j, hj, rfl, hxr, hall⟩ := hrel
        by_cases hlt : j < l
        · obtain ⟨b, off, c, rfl, hc', hb, hc0, hc1, hc2⟩ := (hx.ext (hx02.trans hxr)).cl hlt
          cases hok : c.ok
          · have hE := Lib.hid (hbad.out (.inl (all_not hc'.out hok)))
            go_wp2_with fail
            refine (cbool (rcvalid_any c _) hok).mono ?_
            rintro e w3 ⟨rfl, hx3⟩
            go_wp2_with fail
            go_ret2
            exact CostRet.err hE.out (by decide) (hx02.trans (hxr.trans hx3))
          · by_cases hk0 : c.kind = 0
            · have hkc : knownC c = false := by simp [knownC, hk0]
              have hE := Lib.hid (hbad.out (.inr (all_not hc'.out hkc)))
              have hd0 : (c.kind == 0) = true := by simpa using hk0
              replace hk0 := Lib.hid hk0
              clear hkc
              go_wp2_with fail
              refine (cbool (rcvalid_any c _) hok).mono ?_
              rintro e w3 ⟨rfl, hx3⟩
              have hc0' := hx3.cellv hc0
              have hb3 := Nat.lt_of_lt_of_le hb hx3.le
              clear hok
              go_wp2_with fail
              go_ret2
              exact CostRet.err hE.out (by decide) (hx02.trans (hxr.trans hx3))
            · have hkc : knownC c = true := by simp [knownC, hk0]
              have hnew := Lib.hid (all_succ (p := fun y => y.ok && knownC y) hall.out hc'.out (by rw [hok, hkc]; rfl))
              have hd0 : (c.kind == 0) = false := by simpa using hk0
              replace hk0 := Lib.hid hk0
              clear hkc
              go_wp2_with fail
              refine (cbool (rcvalid_any c _) hok).mono ?_
              rintro e w3 ⟨rfl, hx3⟩
              have hc0' := hx3.cellv hc0
              have hb3 := Nat.lt_of_lt_of_le hb hx3.le
              clear hok
              go_wp2_with fail
              (first | exact ⟨⟨j + 1, by omega, by go_num, hxr.trans hx3, hnew⟩, (by simp [intOf]; omega)⟩ | (go_roundw; case rel => exact ⟨j + 1, by omega, by go_num, hxr.trans hx3, hnew⟩; case measure => exact (by simp [intOf]; omega)))
        · have hjl : j = l := by omega
          have hall2 : ∀ y ∈ x, y.ok = true ∧ knownC y = true := fun y hy => by
            obtain ⟨i, hi⟩ := List.getElem?_of_mem hy
            have := hall.out i y (by have := (List.getElem?_eq_some_iff.1 hi).1; rw [hxl.out] at this; omega) hi
            simpa using this
          have hE0 := hrest.out (List.all_eq_true.2 fun y hy => (hall2 y hy).1) (List.all_eq_true.2 fun y hy => (hall2 y hy).2)
          have hkn : ∀ y ∈ x, ¬ y.kind = 0 := fun y hy => by have := (hall2 y hy).2; simpa [knownC] using this
          have hst : ∀ (i : Nat) (y : Cl) W, x[i]? = some y → Ext w2 W → Calls Tryd.prog 66 #[clV y, .slice ac nc cc] W fun e w' => e = .returned (.int .i64 (stC cs y)) ∧ Ext W w' := fun i y W hy hx' => cint (rstate_any y ac nc cc cs W (hc.ext (hx02.trans hx'))) (stK_known (hkn y (List.mem_of_getElem? hy)))
          have hlostc : ∀ y ∈ x, lostC cs y = decide (stC cs y = -1) := fun y hy => by unfold lostC; rw [decide_eq_true (hkn y hy), Bool.true_and]
          replace hE0 := Lib.hid hE0
          replace hkn := Lib.hid hkn
          replace hlostc := Lib.hid hlostc
          clear hall hall2
          replace hjl := Lib.hid hjl
          go_wp2_with fail
          go_loopw [14] (fun i wr => ∃ j : Nat, j ≤ l ∧ i = .int .i64 j ∧ Ext w2 wr ∧ Hid (∀ (i : Nat) (y : Cl), i < j → x[i]? = some y → decide (stC cs y ≠ -1) = true)) (fun i _ => l - (intOf i).toNat)
          case atStart => exact ⟨0, Nat.zero_le _, rfl, hxr, fun i y h => absurd h (Nat.not_lt_zero _)⟩
          case round =>
            clear hxr hj hjl hlt
            obtain ⟨i, hi, rfl, hxs, hall3⟩ := hrel
            by_cases hlt2 : i < l
            · obtain ⟨b, off, c, rfl, hc', hb, hc0, hc1, hc2⟩ := (hx.ext (hx02.trans hxs)).cl hlt2
              have hcall := fun W (hx' : Ext wr W) => hst i c W hc'.out (hxs.trans hx')
              have hbd := stC_bd cs c
              have hlx : stC cs c = -1 → x.any (lostC cs) = true := fun h => any_at hc'.out (by rw [hlostc.out c (List.mem_of_getElem? hc'.out)]; simpa using h)
              have hnx : ¬ stC cs c = -1 → Hid (∀ (k : Nat) (y : Cl), k < i + 1 → x[k]? = some y → decide (stC cs y ≠ -1) = true) := fun h => Lib.hid (all_succ (p := fun y => decide (stC cs y ≠ -1)) hall3.out hc'.out (by simpa using h))
              generalize stC cs c = s at *
              by_cases hs0 : s = -1
              · have hE : allE ts cs ws g x = 5 := by rw [hE0.out, if_pos (hlx hs0)]
                have hd1 : decide (s < 0) = true := by simp; omega
                replace hE := Lib.hid hE
                replace hs0 := Lib.hid hs0
                clear hlx hnx
                go_wp2_with fail
                refine (hcall _ (by repeat (first | exact Ext.refl _ | assumption | refine Ext.drew ?_ | refine Ext.drewN ?_ _ | refine Ext.alloc ?_ _ | refine Ext.trans ?_ (by assumption)))).mono ?_
                rintro e w4 ⟨rfl, hx4⟩
                go_wp2_with fail
                go_ret2
                exact CostRet.err hE.out (by decide) (hx02.trans (hxs.trans hx4))
              · have hnew := hnx hs0
                have hd1 : decide (s < 0) = false := by simp; omega
                replace hs0 := Lib.hid hs0
                clear hlx hnx
                go_wp2_with fail
                refine (hcall _ (by repeat (first | exact Ext.refl _ | assumption | refine Ext.drew ?_ | refine Ext.drewN ?_ _ | refine Ext.alloc ?_ _ | refine Ext.trans ?_ (by assumption)))).mono ?_
                rintro e w4 ⟨rfl, hx4⟩
                go_wp2_with fail
                (first | exact ⟨⟨i + 1, by omega, by go_num, hxs.trans hx4, hnew⟩, (by simp [intOf]; omega)⟩ | (go_roundw; case rel => exact ⟨i + 1, by omega, by go_num, hxs.trans hx4, hnew⟩; case measure => exact (by simp [intOf]; omega)))
            · have hns : ∀ (v : Nat) (y : Cl), x[v]? = some y → ∃ s : Nat, stC cs y = s ∧ s < nc + 1 ∧ asN (stL cs x) v = s := fun v y hy => by
                have h1 := hall3.out v y (by have := (List.getElem?_eq_some_iff.1 hy).1; rw [hxl.out] at this; omega) hy
                simp only [ne_eq, decide_not, Bool.not_eq_true', decide_eq_false_iff_not] at h1
                have h2 := stC_bd cs y
                obtain ⟨s, hs⟩ : ∃ s : Nat, stC cs y = s := ⟨(stC cs y).toNat, by omega⟩
                rw [hncl.out] at h2
                refine ⟨s, hs, by omega, ?_⟩
                unfold asN; rw [List.getD_eq_getElem?_getD, stL_at hy, hs]; rfl
              have hE : allE ts cs ws g x = 0 := by
                rw [hE0.out, if_neg]
                rw [Bool.not_eq_true, List.any_eq_false]
                intro y hy
                obtain ⟨v, hv⟩ := List.getElem?_of_mem hy
                obtain ⟨s, e1, _, _⟩ := hns v y hv
                rw [hlostc.out y hy, e1]; simp
              have hC : allC ts cs ws g x = total ts.length (parF ts) (rowM (matL cs ws g)) (asN (stL cs x)) := by unfold allC; rw [if_pos hE]
              obtain ⟨hmk1, hmk2⟩ := matL_ok hmz
              have hpar : ∀ (v : Nat) (x : Nd), 0 < v → ts[v]? = some x → ∃ p : Nat, x.par = p ∧ p < v ∧ parF ts v = p := fun v x v0 hx => by
                obtain ⟨h1, h2⟩ := treeB_par ht hx v0
                obtain ⟨p, hp⟩ := Int.eq_ofNat_of_zero_le h1
                exact ⟨p, hp, by omega, by rw [parF_at hx, hp]⟩
              have hedge : ∀ (v p s1 s2 : Nat), parF ts v = p → asN (stL cs x) p = s1 → asN (stL cs x) v = s2 → edge (parF ts) (rowM (matL cs ws g)) (asN (stL cs x)) v = ent (matL cs ws g) s1 s2 := fun v p s1 s2 e1 e2 e3 => by
                unfold edge; rw [e1, Int.toNat_natCast, e2, e3]; rfl
              have hml : (matL cs ws g).length = nc + 1 := by rw [matL_len, hncl.out]
              have hent : ∀ (s1 s2 : Nat), s1 < nc + 1 → s2 < nc + 1 → ∃ r, (matL cs ws g)[s1]? = some r ∧ r[s2]? = some (ent (matL cs ws g) s1 s2) ∧ r.length = nc + 1 ∧ 0 ≤ ent (matL cs ws g) s1 s2 ∧ ent (matL cs ws g) s1 s2 ≤ 1073741824 := fun s1 s2 h1 h2 => by
                obtain ⟨r, e1, e2, e3, _, e5⟩ := smB_ent hmk1 (show s1 < (matL cs ws g).length by omega) (show s2 < (matL cs ws g).length by omega)
                exact ⟨r, e1, e2, by omega, hmk2 s1 s2 (by rw [hncl.out]; exact h1) (by rw [hncl.out]; exact h2), e5⟩
              have hsum : ∀ j, j < l → (0 ≤ sumN (fun i => edge (parF ts) (rowM (matL cs ws g)) (asN (stL cs x)) (i + 1)) j ∧ sumN (fun i => edge (parF ts) (rowM (matL cs ws g)) (asN (stL cs x)) (i + 1)) j ≤ 1073741824 * j) := fun j hj => sumN_bd fun i hi => by
                have hx := List.getElem?_eq_getElem (l := ts) (i := i + 1) (by rw [hnl.out]; omega)
                obtain ⟨p, hp1, hp2, hp3⟩ := hpar (i + 1) _ (by omega) hx
                obtain ⟨s1, _, h1, h2⟩ := hns p _ (List.getElem?_eq_getElem (by rw [hxl.out]; omega))
                obtain ⟨s2, _, h3, h4⟩ := hns (i + 1) _ (List.getElem?_eq_getElem (by rw [hxl.out]; omega))
                rw [hedge (i + 1) p s1 s2 hp3 h2 h4]
                obtain ⟨_, _, _, _, h5, h6⟩ := hent s1 s2 h1 h3
                exact ⟨h5, h6⟩
              have htot : total ts.length (parF ts) (rowM (matL cs ws g)) (asN (stL cs x)) = sumN (fun i => edge (parF ts) (rowM (matL cs ws g)) (asN (stL cs x)) (i + 1)) (l - 1) := by rw [total, hnl.out]
              have hsu : ∀ j, sumN (fun i => edge (parF ts) (rowM (matL cs ws g)) (asN (stL cs x)) (i + 1)) (j + 1) = sumN (fun i => edge (parF ts) (rowM (matL cs ws g)) (asN (stL cs x)) (i + 1)) j + edge (parF ts) (rowM (matL cs ws g)) (asN (stL cs x)) (j + 1) := fun j => rfl
              have hs00 : sumN (fun i => edge (parF ts) (rowM (matL cs ws g)) (asN (stL cs x)) (i + 1)) 0 = 0 := rfl
              rw [htot] at hC
              generalize hSg : sumN (fun i => edge (parF ts) (rowM (matL cs ws g)) (asN (stL cs x)) (i + 1)) = S at *
              generalize matL cs ws g = ms at *
              replace hSg := Lib.hid hSg
              replace hE := Lib.hid hE
              replace hC := Lib.hid hC
              replace hs00 := Lib.hid hs00
              replace hsu := Lib.hid hsu
              replace hpar := Lib.hid hpar
              replace hns := Lib.hid hns
              replace hent := Lib.hid hent
              replace hsum := Lib.hid hsum
              replace hedge := Lib.hid hedge
              replace hml := Lib.hid hml
              have hil : i = l := by omega
              replace hil := Lib.hid hil
              clear htot hall3 hmk1 hmk2
              go_wp2_with fail
              go_loopw [13, 15] (fun sv i wq => ∃ v : Nat, 1 ≤ v ∧ v ≤ l ∧ i = .int .i64 v ∧ sv = .int .i64 (S (v - 1)) ∧ Ext w2 wq) (fun _ i _ => l - (intOf i).toNat)
              case atStart => exact ⟨1, by omega, by omega, rfl, by rw [Nat.sub_self, hs00.out], hxs⟩
              case round =>
                clear hxs hi hil hlt2
                obtain ⟨v, hv1, hvn, rfl, rfl, hxv⟩ := hrel
                by_cases hlv : v < l
                · obtain ⟨b, off, nd, rfl, hx0, hb, hcp, _, _⟩ := (hr.ext (hx02.trans hxv)).nd hlv
                  obtain ⟨p, hpe, hpv, hpF⟩ := hpar.out v nd (by omega) hx0.out
                  rw [hpe] at hcp
                  have hpl : p < l := by omega
                  obtain ⟨b1, o1, d1, ha1, hd1, hb1, hq10, hq11, hq12⟩ := (hx.ext (hx02.trans hxv)).cl hpl
                  obtain ⟨b2, o2, d2, ha2, hd2, hb2, hq20, hq21, hq22⟩ := (hx.ext (hx02.trans hxv)).cl hlv
                  subst ha1
                  cases ha2
                  obtain ⟨s1, es1, hk1, e1⟩ := hns.out p d1 hd1.out
                  obtain ⟨s2, es2, hk2, e2⟩ := hns.out v d2 hd2.out
                  have hcl : ∀ (z : ExtOf wr) (d : Cl) (s : Nat), (d = d1 ∧ s = s1) ∨ (d = d2 ∧ s = s2) → Calls Tryd.prog 66 #[clV d, .slice ac nc cc] z.w fun e w' => e = .returned (.int .i64 (s : Int)) ∧ Ext z.w w' := fun z d s h => by
                    rcases h with ⟨rfl, rfl⟩ | ⟨rfl, rfl⟩
                    · exact cint (hst p _ z.w hd1.out (hxv.trans z.h)) es1
                    · exact cint (hst v _ z.w hd2.out (hxv.trans z.h)) es2
                  replace hcl := Lib.hid hcl
                  obtain ⟨bm, offm, _, rw', rfl, hr1, hbm, hcm1, ar, nr, cr, rfl, hrr⟩ := RdV.at (RdM.ext hrm hxv) hk1
                  obtain ⟨r0, q1, q2, q3, q4, q5⟩ := hent.out s1 s2 hk1 hk2
                  have hrr0 : rw' = r0 := by have := hr1.out; rw [q1] at this; exact (Option.some.inj this).symm
                  subst hrr0
                  have hnr := hrr.len
                  have hs2r : s2 < nr := by omega
                  obtain ⟨br, offr, x2, rfl, hx2', hbr', hcr⟩ := hrr.i64 hs2r
                  have hx2e : x2 = ent ms s1 s2 := by have := hx2'.out; rw [q2] at this; exact (Option.some.inj this).symm
                  have hed := hedge.out v p s1 s2 hpF e1 e2
                  rw [← hx2e] at hed q4 q5
                  have hSv := hsu.out (v - 1)
                  have hSb := hsum.out (v - 1) (by omega)
                  rw [show v - 1 + 1 = v by omega, hed] at hSv
                  generalize S (v - 1) = y at *
                  have hwr : IntKind.i64.wrap (y + x2) = y + x2 := IntWalk.i64_in _ (by omega)
                  have hp1 := fun z : ExtOf wr => z.cell hcp
                  have hp2 := fun z : ExtOf wr => z.cell hq10
                  have hp3 := fun z : ExtOf wr => z.cell hq11
                  have hp4 := fun z : ExtOf wr => z.cell hq12
                  have hp5 := fun z : ExtOf wr => z.cell hq20
                  have hp6 := fun z : ExtOf wr => z.cell hq21
                  have hp7 := fun z : ExtOf wr => z.cell hq22
                  have hp8 := fun z : ExtOf wr => z.cell hcm1
                  have hp9 := fun z : ExtOf wr => z.cell hcr
                  have hnew : Hid (S (v + 1 - 1) = y + x2) := by rw [Nat.add_sub_cancel]; exact hSv
                  clear hx2e hed hSv q1 q2 q3 hr1 hx2' e1 e2 hpF hpe hx0 hrr es1 es2 hst
                  replace hnr := Lib.hid hnr
                  go_wp2_with fail
                  (refine wp_region_qx (by kernel_rfl) (by kernel_rfl) ?_
                   repeat (go_big_quiet_step ((go_at_call 66; exact calls_ext (hcl.out _ _ _ (by first | exact .inl ⟨rfl, rfl⟩ | exact .inr ⟨rfl, rfl⟩)))))
                   refine wpQuiet_nil ?_
                   intro wq hw'
                   have hxq := ext_of_ex hw'
                   clear hw')
                  go_wp2_with fail
                  (first | exact ⟨⟨v + 1, by omega, by omega, by go_num, by rw [hnew.out], hxv.trans hxq⟩, (by simp [intOf]; omega)⟩ | (go_roundw; case rel => exact ⟨v + 1, by omega, by omega, by go_num, by rw [hnew.out], hxv.trans hxq⟩; case measure => exact (by simp [intOf]; omega)))
                · have hvj : v = l := by omega
                  subst hvj
                  go_wp2_with fail
                  go_ret2
                  exact ⟨by rw [hC.out, hE.out]; rfl, hx02.trans hxv⟩
    · have hdl : ((l : Int) != (n : Int)) = true := by simp; omega
      have hEe := allE_bad heq (.inl (show x.length ≠ ts.length by rw [hxl.out, hnl.out]; exact hln))
      replace hEe := Lib.hid hEe
      replace heq := Lib.hid heq
      go_wp2_with fail
      go_ret2
      exact CostRet.err hEe.out (by decide) hx02
end Go.Proofs.YtdloabjnjnjacaaDoor
