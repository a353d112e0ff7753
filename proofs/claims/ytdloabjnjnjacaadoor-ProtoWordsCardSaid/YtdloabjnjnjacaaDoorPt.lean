/-
  ref24: Word.
-/
import Derived.Test.YtdloabjnjnjacaaDoorPs
namespace Go.Proofs.YtdloabjnjnjacaaDoor
open Go.RowKit Go.Shelf
theorem cellX_ok {ts : List Nd} {cs : List Snd} {ws : List Int} {g : Int} (h : begE ts cs ws g = 0) (x : List Cl) : cellX ts cs ws g x = bestX ts cs ws g x ∧ tieE ts cs ws g x = onE ts cs x := by
  unfold cellX tieE; rw [if_pos h, if_neg (by simp [h])]; exact ⟨rfl, rfl⟩
set_option maxHeartbeats 4000000 in
set_option maxRecDepth 20000 in
theorem rword_any (a : Option Addr) (n cap : Nat) (ts : List Nd) (ao : Option Addr) (m co : Nat) (cols : List (List Cl)) (ac : Option Addr) (nc cc : Nat) (cs : List Snd) (aw : Option Addr) (nw cw : Nat) (ws : List Int) (g : Int) (w : World)
    (hr : RdN w a n cap ts) (hx : RdCs w ao m co cols) (hc : RdS w ac nc cc cs) (hw : RdI w aw nw cw ws) :
    Calls Tryd.prog 24 #[.slice a n cap, .slice ao m co, .slice ac nc cc, cstV aw nw cw g] w (WordRet ts cs ws g cols w) := by
  have hbeg := fun W (hx : Ext w W) => rbeg_any a n cap ts ac nc cc cs aw nw cw ws g W (hr.ext hx) (hc.ext hx) (hw.ext hx)
  have hml := RdV.len hx
  replace hml := Lib.hid hml
  go_enter Tryd.func24, Tryd.ntmps24
  go_wp2_with fail
  refine (hbeg _ (Ext.alloc1 _ _)).mono ?_
  rintro e w2 ⟨hx2, ⟨hne, rfl⟩ | ⟨heq, am, capm, rfl, hrm⟩⟩
  · have hEe := wordE_beg (cols := cols) hne
    have hd : (begE ts cs ws g != 0) = true := by simpa using hne
    have hxw : Ext w w2 := (by repeat (first | exact Ext.refl _ | assumption | refine Ext.drew ?_ | refine Ext.drewN ?_ _ | refine Ext.alloc ?_ _ | refine Ext.trans ?_ (by assumption)))
    generalize hbr : begE ts cs ws g = er at *
    replace hEe := Lib.hid hEe
    replace hbr := Lib.hid hbr
    replace hne := Lib.hid hne
    clear hbeg hx2
    go_wp2_with fail
    go_ret3
    exact WordRet.err hEe.out hne.out hxw
  · have hx02 : Ext w w2 := (by repeat (first | exact Ext.refl _ | assumption | refine Ext.drew ?_ | refine Ext.drewN ?_ _ | refine Ext.alloc ?_ _ | refine Ext.trans ?_ (by assumption)))
    have hb0 := hx2.cellv (cell_new_list w [.slice aw nw cw, .int .i64 g] 25 0 _ rfl)
    have hb1 := hx2.cellv (cell_new_list w [.slice aw nw cw, .int .i64 g] 25 1 _ rfl)
    have hltb : w.heap.size < w2.heap.size := by have := hx2.le; simp at this; omega
    clear hbeg hx2
    by_cases hm : 64 < m
    · have hEe := wordE_many (cols := cols) heq (by rw [hml.out]; exact hm)
      replace hEe := Lib.hid hEe
      replace heq := Lib.hid heq
      go_wp2_with fail
      go_ret3
      exact WordRet.err hEe.out (by decide) hx02
    · have hbt := fun ax l cx x W (hx' : Ext w W) (hrx : RdC W ax l cx x) => rcellX_any a n cap ts ax l cx x ac nc cc cs aw nw cw ws g W (hr.ext hx') hrx (hc.ext hx') (hw.ext hx')
      have hcX := fun x => cellX_ok heq x
      have hsu := fun j x => sndsTo_succ (ts := ts) (cs := cs) (ws := ws) (g := g) (cols := cols) (j := j) (x := x)
      have hcu := fun j x => costTo_succ (ts := ts) (cs := cs) (ws := ws) (g := g) (cols := cols) (j := j) (x := x)
      have hsl := fun j => sndsTo_len (ts := ts) (cs := cs) (ws := ws) (g := g) cols j
      have hcb := fun j => costTo_bd heq cols j
      have hc00 : costTo ts cs ws g cols 0 = 0 := rfl
      have hxb := fun x => bestX_bd heq x
      have hs00 : sndsTo ts cs ws g cols 0 = [] := rfl
      have hcolE := fun j x => colE_at (ts := ts) (cs := cs) (cols := cols) (j := j) (x := x)
      have hfin : (∀ i, i < cols.length → onE ts cs (cols.getD i []) = 0) → wordE ts cs ws g cols = if 32 < (sndsTo ts cs ws g cols m).length then 11 else 0 := fun h => by
        rw [wordE_end heq (by rw [hml.out]; exact hm) (colE_zero h), hml.out]
      have hbad : colE ts cs cols ≠ 0 → wordE ts cs ws g cols = colE ts cs cols := fun h => wordE_col heq (by rw [hml.out]; exact hm) h
      have hok : wordE ts cs ws g cols = 0 → wordL ts cs ws g cols = sndsTo ts cs ws g cols m ∧ wordC ts cs ws g cols = costTo ts cs ws g cols m := fun h => by
        unfold wordL wordC; rw [if_pos h, if_pos h, hml.out]; exact ⟨rfl, rfl⟩
      generalize hSg : sndsTo ts cs ws g cols = S at *
      generalize hCg : costTo ts cs ws g cols = C at *
      replace hSg := Lib.hid hSg
      replace hCg := Lib.hid hCg
      replace heq := Lib.hid heq
      replace hsu := Lib.hid hsu
      replace hcu := Lib.hid hcu
      replace hsl := Lib.hid hsl
      replace hcb := Lib.hid hcb
      replace hc00 := Lib.hid hc00
      replace hs00 := Lib.hid hs00
      replace hcolE := Lib.hid hcolE
      replace hfin := Lib.hid hfin
      replace hbad := Lib.hid hbad
      replace hok := Lib.hid hok
      replace hxb := Lib.hid hxb
      replace hcX := Lib.hid hcX
      go_wp2_with fail
      go_loopw [13, 14, 15] (fun ov sv i wr => ∃ j : Nat, j ≤ m ∧ i = .int .i64 j ∧ sv = .int .i64 (C j) ∧ Ext w2 wr ∧ OwnS w2.heap.size 38 wr ov (S j) ∧ Hid (∀ i, i < j → onE ts cs (cols.getD i []) = 0)) (fun _ _ i _ => m - (intOf i).toNat)
      case atStart => exact ⟨0, Nat.zero_le _, rfl, by rw [hc00.out], Ext.refl _, by rw [hs00.out]; exact OwnK.nil _ _ _, fun i h => absurd h (Nat.not_lt_zero _)⟩
      case round =>
        obtain ⟨j, hj, rfl, rfl, hxr, hown, hno⟩ := hrel
        by_cases hlt : j < m
        · obtain ⟨b, off, _, x, rfl, hs, hb, hc0, ax, lx, cx, rfl, hrx⟩ := RdV.at (RdCs.ext hx (hx02.trans hxr)) hlt
          have hcall := fun W (hx' : Ext wr W) => hbt ax lx cx x W ((hx02.trans hxr).trans hx') (hrx.ext hx')
          obtain ⟨q1, q2⟩ := hcX.out x
          unfold CellRet at hcall
          rw [q1, q2] at hcall
          have hlen := hsl.out j
          have hs1 := hsu.out j x hs.out
          have hc1 := hcu.out j x hs.out
          have hcbj := hcb.out j
          have hxbj := hxb.out x
          have hgx : onE ts cs (cols.getD j []) = onE ts cs x := by rw [List.getD_eq_getElem?_getD, hs.out]; rfl
          have hbadx : onE ts cs x ≠ 0 → wordE ts cs ws g cols = onE ts cs x := fun h => by
            have e := hcolE.out j x hs.out hno.out h
            rw [hbad.out (by rw [e]; exact h), e]
          have hnox : onE ts cs x = 0 → Hid (∀ i, i < j + 1 → onE ts cs (cols.getD i []) = 0) := fun h => Lib.hid (fun i hi => by
            by_cases e : i = j
            · subst e; rw [hgx]; exact h
            · exact hno.out i (by omega))
          clear q1 q2
          generalize hBx : bestX ts cs ws g x = q at *
          replace hBx := Lib.hid hBx
          obtain ⟨c, z⟩ := q
          simp only at hs1 hc1 hxbj hcall
          generalize hOx : onE ts cs x = er at *
          replace hOx := Lib.hid hOx
          replace hs1 := Lib.hid hs1
          replace hc1 := Lib.hid hc1
          replace hgx := Lib.hid hgx
          replace hbadx := Lib.hid hbadx
          replace hnox := Lib.hid hnox
          have hb0r := hxr.cellv hb0
          have hb1r := hxr.cellv hb1
          have hltr := Nat.lt_of_lt_of_le hltb hxr.le
          have hj0 : (0 : Int) ≤ (j : Int) := Int.natCast_nonneg _
          have hjm : (j : Int) < (m : Int) := by omega
          generalize C j = y at *
          go_wp2_with fail
          go_region_held3 (fun w' => Ext wr w' ∧ w'.cell? ⟨b, off + j, none⟩ = some (.slice ax lx cx) ∧ w'.cell? ⟨w.heap.size, 0, none⟩ = some (.slice aw nw cw) ∧ w'.cell? ⟨w.heap.size, 1, none⟩ = some (.int .i64 g))
            ((go_split_ands; refine (fun (h : Ext wr _) => And.intro h (And.intro (h.cellv hc0) (And.intro (h.cellv hb0r) (h.cellv hb1r)))) ?_; first | exact (Ext.refl _).drew | exact hEq | exact ((Ext.refl _).drew).alloc _ | exact hEq.alloc _ | exact ((hEq.setCell (p := ⟨wr.heap.size, 0, none⟩) (Nat.le_refl _) _).setCell (p := ⟨wr.heap.size, 1, none⟩) (Nat.le_refl _) _).setCell (p := ⟨wr.heap.size, 2, none⟩) (Nat.le_refl _) _))
            ((go_at_call 19; first | (refine (hcall _ (Ext.refl _).drew).mono ?_; rintro e wq ⟨rfl, hxq⟩; have hEq : Ext wr wq := Ext.trans ((Ext.refl _).drew) hxq) | (refine (hcall _ (((Ext.refl _).drew).alloc _)).mono ?_; rintro e wq ⟨rfl, hxq⟩; have hEq : Ext wr wq := Ext.trans (((Ext.refl _).drew).alloc _) hxq; have hbk : wq.heap[wr.heap.size]? = some (.cells #[.int .i64 0, .int .u32 0, .int .u32 0] 40 (0, 0)) := (Below.block hxq.bel _ (by simp)).trans (World.alloc_heap_new wr.drew _); obtain ⟨f0, f1, f2⟩ := frz3 hbk; obtain ⟨g0, g1, g2⟩ := cells3 hbk; have lq := (Array.getElem?_eq_some_iff.1 hbk).1)))
          · have hx5 := hEq.alloc (.cells #[.int .i64 c.kind, .int .u32 c.s.p.toNat, .int .u32 c.s.m.toNat] 40)
            have hB5 : CellB (wq.alloc (.cells #[.int .i64 c.kind, .int .u32 c.s.p.toNat, .int .u32 c.s.m.toNat] 40)) wq.heap.size c := World.alloc_heap_new wq _
            generalize (wq.alloc (.cells #[.int .i64 c.kind, .int .u32 c.s.p.toNat, .int .u32 c.s.m.toNat] 40)) = w5 at *
            generalize wq.heap.size = B5 at *
            clear hEq hxq hcall
            have hown5 := hown.kept hx5
            have hx25 := hxr.trans hx5
            obtain ⟨g0, g1, g2⟩ := cells3 hB5
            have lb5 := (Array.getElem?_eq_some_iff.1 hB5).1
            clear hx5 hown hB5 hc0 hb0r hb1r hrx hb
            by_cases her : er = 0
            · have hd : (er != 0) = false := by simp [her]
              have hnew := hnox.out her
              have hwr : IntKind.i64.wrap (y + z) = y + z := IntWalk.i64_in _ (by omega)
              replace her := Lib.hid her
              by_cases hk : c.kind = 2
              · have hd2 : (c.kind == 2) = true := by simpa using hk
                have hs2 : S (j + 1) = S j ++ [c.s] := by rw [hs1.out, if_pos hk]
                replace hs2 := Lib.hid hs2
                replace hk := Lib.hid hk
                go_wp2_with (at_builtin; refine wp_appC w2 w5 c.s #[.int .u32 c.s.p.toNat, .int .u32 c.s.m.toNat] rfl rfl _ _ 22 rfl 38 Tryd.underlying22 info_snd rfl (by decide) _ _ rfl hown5 hx25 rfl (Snd.len _) (Snd.one _) (by omega) (by unfold maxLen; omega) ?_; intro v6 w6 o6 x6)
                (first | exact ⟨⟨j + 1, by omega, by go_num, by rw [hc1.out], x6, by rw [hs2.out]; exact o6, hnew⟩, (by simp [intOf]; omega)⟩ | (go_roundw; case rel => exact ⟨j + 1, by omega, by go_num, by rw [hc1.out], x6, by rw [hs2.out]; exact o6, hnew⟩; case measure => exact (by simp [intOf]; omega)))
              · have hd2 : (c.kind == 2) = false := by simpa using hk
                have hs2 : S (j + 1) = S j := by rw [hs1.out, if_neg hk, List.append_nil]
                replace hs2 := Lib.hid hs2
                replace hk := Lib.hid hk
                go_wp2_with fail
                (first | exact ⟨⟨j + 1, by omega, by go_num, by rw [hc1.out], hx25, by rw [hs2.out]; exact hown5, hnew⟩, (by simp [intOf]; omega)⟩ | (go_roundw; case rel => exact ⟨j + 1, by omega, by go_num, by rw [hc1.out], hx25, by rw [hs2.out]; exact hown5, hnew⟩; case measure => exact (by simp [intOf]; omega)))
            · have hd : (er != 0) = true := by simp [her]
              have hEe := hbadx.out her
              replace hEe := Lib.hid hEe
              replace her := Lib.hid her
              go_wp2_with fail
              go_ret3
              exact WordRet.err hEe.out her.out (hx02.trans hx25)
          · have hx5 := ((hEq.setCell (p := ⟨wr.heap.size, 0, none⟩) (Nat.le_refl _) (.int .i64 c.kind)).setCell (p := ⟨wr.heap.size, 1, none⟩) (Nat.le_refl _) (.int .u32 c.s.p.toNat)).setCell (p := ⟨wr.heap.size, 2, none⟩) (Nat.le_refl _) (.int .u32 c.s.m.toNat)
            have hB5 : CellB (((wq.setCell ⟨wr.heap.size, 0, none⟩ (.int .i64 c.kind)).setCell ⟨wr.heap.size, 1, none⟩ (.int .u32 c.s.p.toNat)).setCell ⟨wr.heap.size, 2, none⟩ (.int .u32 c.s.m.toNat)) wr.heap.size c := heap_set (heap_set (heap_set hbk _) _) _
            clear hbk f0 f1 f2 g0 g1 g2 lq hEq hxq hcall
            generalize (((wq.setCell ⟨wr.heap.size, 0, none⟩ (.int .i64 c.kind)).setCell ⟨wr.heap.size, 1, none⟩ (.int .u32 c.s.p.toNat)).setCell ⟨wr.heap.size, 2, none⟩ (.int .u32 c.s.m.toNat)) = w5 at *
            obtain ⟨B5, hB5e⟩ : ∃ x, x = wr.heap.size := ⟨_, rfl⟩
            rw [← hB5e] at hB5 ⊢
            clear hB5e
            have hown5 := hown.kept hx5
            have hx25 := hxr.trans hx5
            obtain ⟨g0, g1, g2⟩ := cells3 hB5
            have lb5 := (Array.getElem?_eq_some_iff.1 hB5).1
            clear hx5 hown hB5 hc0 hb0r hb1r hrx hb
            by_cases her : er = 0
            · have hd : (er != 0) = false := by simp [her]
              have hnew := hnox.out her
              have hwr : IntKind.i64.wrap (y + z) = y + z := IntWalk.i64_in _ (by omega)
              replace her := Lib.hid her
              by_cases hk : c.kind = 2
              · have hd2 : (c.kind == 2) = true := by simpa using hk
                have hs2 : S (j + 1) = S j ++ [c.s] := by rw [hs1.out, if_pos hk]
                replace hs2 := Lib.hid hs2
                replace hk := Lib.hid hk
                go_wp2_with (at_builtin; refine wp_appC w2 w5 c.s #[.int .u32 c.s.p.toNat, .int .u32 c.s.m.toNat] rfl rfl _ _ 22 rfl 38 Tryd.underlying22 info_snd rfl (by decide) _ _ rfl hown5 hx25 rfl (Snd.len _) (Snd.one _) (by omega) (by unfold maxLen; omega) ?_; intro v6 w6 o6 x6)
                (first | exact ⟨⟨j + 1, by omega, by go_num, by rw [hc1.out], x6, by rw [hs2.out]; exact o6, hnew⟩, (by simp [intOf]; omega)⟩ | (go_roundw; case rel => exact ⟨j + 1, by omega, by go_num, by rw [hc1.out], x6, by rw [hs2.out]; exact o6, hnew⟩; case measure => exact (by simp [intOf]; omega)))
              · have hd2 : (c.kind == 2) = false := by simpa using hk
                have hs2 : S (j + 1) = S j := by rw [hs1.out, if_neg hk, List.append_nil]
                replace hs2 := Lib.hid hs2
                replace hk := Lib.hid hk
                go_wp2_with fail
                (first | exact ⟨⟨j + 1, by omega, by go_num, by rw [hc1.out], hx25, by rw [hs2.out]; exact hown5, hnew⟩, (by simp [intOf]; omega)⟩ | (go_roundw; case rel => exact ⟨j + 1, by omega, by go_num, by rw [hc1.out], hx25, by rw [hs2.out]; exact hown5, hnew⟩; case measure => exact (by simp [intOf]; omega)))
            · have hd : (er != 0) = true := by simp [her]
              have hEe := hbadx.out her
              replace hEe := Lib.hid hEe
              replace her := Lib.hid her
              go_wp2_with fail
              go_ret3
              exact WordRet.err hEe.out her.out (hx02.trans hx25)
        · have hjm : j = m := by omega
          subst hjm
          have hE := hfin.out (fun i hi => hno.out i (by rw [← hml.out]; exact hi))
          obtain ⟨av, nv, cv, hnv, rfl, _⟩ := OwnK.rdn Snd.len hown
          have hxw := hx02.trans hxr
          by_cases h32 : 32 < nv
          · rw [if_pos (by rw [← hnv]; exact h32)] at hE
            have hdn : decide (32 < nv) = true := by simpa using h32
            replace hnv := Lib.hid hnv
            replace hE := Lib.hid hE
            go_wp2_with fail
            go_ret3
            exact WordRet.err hE.out (by decide) hxw
          · rw [if_neg (by rw [← hnv]; exact h32)] at hE
            obtain ⟨e1, e2⟩ := hok.out hE
            replace hnv := Lib.hid hnv
            replace hE := Lib.hid hE
            replace e1 := Lib.hid e1
            replace e2 := Lib.hid e2
            go_wp2_with fail
            go_ret3
            exact ⟨_, by rw [e2.out, hE.out]; rfl, by rw [e1.out]; exact OwnK.base hown (Ext.le hx02), hxw⟩
end Go.Proofs.YtdloabjnjnjacaaDoor
