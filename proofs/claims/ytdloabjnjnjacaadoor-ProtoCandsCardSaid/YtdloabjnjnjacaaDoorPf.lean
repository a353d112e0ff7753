/-
  proto: Word, Cost.
-/
import Derived.Test.YtdloabjnjnjacaaDoorPe
namespace Go.Proofs.YtdloabjnjnjacaaDoor
open Go.RowKit Go.Shelf Go.Maps
/-- Cells in a cell. -/
def RC (w : World) (v : Value) (x : List Cl) : Prop := ∃ a n cap, v = .slice a n cap ∧ RdC w a n cap x
theorem RC.ext {w w' : World} {v : Value} {x : List Cl} (h : RC w v x) (hx : Ext w w') : RC w' v x :=
  let ⟨a, n, cap, hv, hr⟩ := h; ⟨a, n, cap, hv, hr.ext hx⟩
abbrev RdCs := RdV RC
theorem RdCs.ext {w w' : World} {a : Option Addr} {n cap : Nat} {ws : List (List Cl)} (h : RdCs w a n cap ws) (hx : Ext w w') : RdCs w' a n cap ws := RdV.ext (R := RC) (fun _ _ _ _ h hx => RC.ext h hx) h hx
/-! ### Plain -/
section
variable {ts : List Nd} {cs : List Snd} {ws : List Int} {g : Int} {cols : List (List Cl)}
theorem colE_at {j : Nat} {x : List Cl} (hx : cols[j]? = some x) (h0 : ∀ i, i < j → onE ts cs (cols.getD i []) = 0) (he : onE ts cs x ≠ 0) : colE ts cs cols = onE ts cs x := by
  have e : onE ts cs (cols.getD j []) = onE ts cs x := by rw [List.getD_eq_getElem?_getD, hx]; rfl
  unfold colE
  rw [firstE_at (f := fun i => onE ts cs (cols.getD i [])) h0 (by show onE ts cs (cols.getD j []) ≠ 0; rw [e]; exact he) (List.getElem?_eq_some_iff.1 hx).1]
  exact e
theorem colE_zero (h0 : ∀ i, i < cols.length → onE ts cs (cols.getD i []) = 0) : colE ts cs cols = 0 := firstE_zero h0
theorem wordE_beg (h : begE ts cs ws g ≠ 0) : wordE ts cs ws g cols = begE ts cs ws g := by unfold wordE; rw [if_pos h]
theorem wordE_many (h : begE ts cs ws g = 0) (h2 : 64 < cols.length) : wordE ts cs ws g cols = 12 := by unfold wordE; rw [if_neg (by simp [h]), if_pos h2]
theorem wordE_col (h : begE ts cs ws g = 0) (h2 : ¬ 64 < cols.length) (h3 : colE ts cs cols ≠ 0) : wordE ts cs ws g cols = colE ts cs cols := by unfold wordE; rw [if_neg (by simp [h]), if_neg h2, if_pos h3]
theorem wordE_end (h : begE ts cs ws g = 0) (h2 : ¬ 64 < cols.length) (h3 : colE ts cs cols = 0) : wordE ts cs ws g cols = if 32 < (sndsTo ts cs ws g cols cols.length).length then 11 else 0 := by unfold wordE; rw [if_neg (by simp [h]), if_neg h2, if_neg (by simp [h3])]
theorem word_err (h : wordE ts cs ws g cols ≠ 0) : wordL ts cs ws g cols = [] ∧ wordC ts cs ws g cols = 0 := by unfold wordL wordC; rw [if_neg h, if_neg h]; exact ⟨rfl, rfl⟩
theorem onE_cases (x : List Cl) : onE ts cs x = 0 ∨ onE ts cs x = 2 ∨ onE ts cs x = 5 := by
  unfold onE; split
  · exact .inr (.inl rfl)
  · split
    · exact .inr (.inr rfl)
    · exact .inl rfl
end
def WordRet (ts : List Nd) (cs : List Snd) (ws : List Int) (g : Int) (cols : List (List Cl)) (w : World) (e : Ending) (w' : World) : Prop :=
  ∃ v, e = .returned (.tuple #[v, .int .i64 (wordC ts cs ws g cols), .int .i64 (wordE ts cs ws g cols)]) ∧ OwnS w.heap.size 38 w' v (wordL ts cs ws g cols) ∧ Ext w w'
theorem WordRet.err {ts : List Nd} {cs : List Snd} {ws : List Int} {g : Int} {cols : List (List Cl)} {w w' : World} {er : Int} (h : wordE ts cs ws g cols = er) (hne : er ≠ 0) (hx : Ext w w') : WordRet ts cs ws g cols w (.returned (.tuple #[.slice none 0 0, .int .i64 0, .int .i64 er])) w' := by
  obtain ⟨h1, h2⟩ := word_err (ts := ts) (cs := cs) (ws := ws) (g := g) (cols := cols) (by rw [h]; exact hne)
  exact ⟨_, by rw [h2, h], by rw [h1]; exact OwnK.nil _ _ _, hx⟩
set_option maxHeartbeats 2000000 in
set_option maxRecDepth 20000 in
theorem pword_any (a : Option Addr) (n cap : Nat) (ts : List Nd) (ao : Option Addr) (m co : Nat) (cols : List (List Cl)) (ac : Option Addr) (nc cc : Nat) (cs : List Snd) (aw : Option Addr) (nw cw : Nat) (ws : List Int) (g : Int) (w : World)
    (hr : RdN w a n cap ts) (hx : RdCs w ao m co cols) (hc : RdS w ac nc cc cs) (hw : RdI w aw nw cw ws) (hT : TabOk w) :
    Calls Tryd.prog 23 #[.slice a n cap, .slice ao m co, .slice ac nc cc, cstV aw nw cw g] w (WordRet ts cs ws g cols w) := by
  have hbeg := fun W (hx : Ext w W) => begin_any a n cap ts ac nc cc cs aw nw cw ws g W (hr.ext hx) (hc.ext hx) (hw.ext hx) (hT.ext hx)
  have hml := RdV.len hx
  replace hml := Lib.hid hml
  go_enter Tryd.func23, Tryd.ntmps23
  go_wp2_with fail
  refine (hbeg _ (Ext.alloc1 _ _)).mono ?_
  rintro e w2 ⟨hx2, ⟨hne, rfl⟩ | ⟨heq, p, am, capm, bm, rfl, hK⟩⟩
  · have hEe := wordE_beg (cols := cols) hne
    have hd : (begE ts cs ws g != 0) = true := by simpa using hne
    have hxw : Ext w w2 := (by repeat (first | exact Ext.refl _ | assumption | refine Ext.drew ?_ | refine Ext.drewN ?_ _ | refine Ext.alloc ?_ _ | refine Ext.trans ?_ (by assumption)))
    generalize hbr : begE ts cs ws g = er at *
    replace hEe := Lib.hid hEe
    replace hbr := Lib.hid hbr
    replace hne := Lib.hid hne
    clear hbeg hx2
    go_wp2_with fail
    go_ret3
    exact WordRet.err hEe.out hne.out hxw
  · have hx02 : Ext w w2 := (by repeat (first | exact Ext.refl _ | assumption | refine Ext.drew ?_ | refine Ext.drewN ?_ _ | refine Ext.alloc ?_ _ | refine Ext.trans ?_ (by assumption)))
    clear hbeg hx2
    by_cases hm : 64 < m
    · have hEe := wordE_many (cols := cols) heq (by rw [hml.out]; exact hm)
      replace hEe := Lib.hid hEe
      replace heq := Lib.hid heq
      go_wp2_with fail
      go_ret3
      exact WordRet.err hEe.out (by decide) hx02
    · have hbt := fun ax l cx x W (hx' : Ext w2 W) (hr : RdC W ax l cx x) => best_any p a n cap ts ac nc cc cs am capm ws g bm ax l cx x W (hK.ext hx') hr heq
      have hsu := fun j x => sndsTo_succ (ts := ts) (cs := cs) (ws := ws) (g := g) (cols := cols) (j := j) (x := x)
      have hcu := fun j x => costTo_succ (ts := ts) (cs := cs) (ws := ws) (g := g) (cols := cols) (j := j) (x := x)
      have hsl := fun j => sndsTo_len (ts := ts) (cs := cs) (ws := ws) (g := g) cols j
      have hcb := fun j => costTo_bd heq cols j
      have hc00 : costTo ts cs ws g cols 0 = 0 := rfl
      have hxb := fun x => bestX_bd heq x
      have hs00 : sndsTo ts cs ws g cols 0 = [] := rfl
      have hcolE := fun j x => colE_at (ts := ts) (cs := cs) (cols := cols) (j := j) (x := x)
      have hfin : (∀ i, i < cols.length → onE ts cs (cols.getD i []) = 0) → wordE ts cs ws g cols = if 32 < (sndsTo ts cs ws g cols m).length then 11 else 0 := fun h => by
        rw [wordE_end heq (by rw [hml.out]; exact hm) (colE_zero h), hml.out]
      have hbad : colE ts cs cols ≠ 0 → wordE ts cs ws g cols = colE ts cs cols := fun h => wordE_col heq (by rw [hml.out]; exact hm) h
      have hok : wordE ts cs ws g cols = 0 → wordL ts cs ws g cols = sndsTo ts cs ws g cols m ∧ wordC ts cs ws g cols = costTo ts cs ws g cols m := fun h => by
        unfold wordL wordC; rw [if_pos h, if_pos h, hml.out]; exact ⟨rfl, rfl⟩
      generalize hSg : sndsTo ts cs ws g cols = S at *
      generalize hCg : costTo ts cs ws g cols = C at *
      replace hSg := Lib.hid hSg
      replace hCg := Lib.hid hCg
      replace heq := Lib.hid heq
      replace hsu := Lib.hid hsu
      replace hcu := Lib.hid hcu
      replace hsl := Lib.hid hsl
      replace hcb := Lib.hid hcb
      replace hc00 := Lib.hid hc00
      replace hs00 := Lib.hid hs00
      replace hcolE := Lib.hid hcolE
      replace hfin := Lib.hid hfin
      replace hbad := Lib.hid hbad
      replace hok := Lib.hid hok
      replace hxb := Lib.hid hxb
      go_wp2_with fail
      go_loopw [13, 14, 35] (fun ov sv i wr => ∃ j : Nat, j ≤ m ∧ i = .int .i64 j ∧ sv = .int .i64 (C j) ∧ Ext w2 wr ∧ OwnS w2.heap.size 38 wr ov (S j) ∧ Hid (∀ i, i < j → onE ts cs (cols.getD i []) = 0)) (fun _ _ i _ => m - (intOf i).toNat)
      case atStart => exact ⟨0, Nat.zero_le _, rfl, by rw [hc00.out], Ext.refl _, by rw [hs00.out]; exact OwnK.nil _ _ _, fun i h => absurd h (Nat.not_lt_zero _)⟩
      case round =>
        obtain ⟨j, hj, rfl, rfl, hxr, hown, hno⟩ := hrel
        by_cases hlt : j < m
        · obtain ⟨b, off, _, x, rfl, hs, hb, hc0, ax, lx, cx, rfl, hrx⟩ := RdV.at (RdCs.ext hx (hx02.trans hxr)) hlt
          have hcall := hbt ax lx cx x wr hxr hrx
          have hlen := hsl.out j
          have hs1 := hsu.out j x hs.out
          have hc1 := hcu.out j x hs.out
          have hcbj := hcb.out j
          have hxbj := hxb.out x
          have hgx : onE ts cs (cols.getD j []) = onE ts cs x := by rw [List.getD_eq_getElem?_getD, hs.out]; rfl
          have hbadx : onE ts cs x ≠ 0 → wordE ts cs ws g cols = onE ts cs x := fun h => by
            have e := hcolE.out j x hs.out hno.out h
            rw [hbad.out (by rw [e]; exact h), e]
          have hnox : onE ts cs x = 0 → Hid (∀ i, i < j + 1 → onE ts cs (cols.getD i []) = 0) := fun h => Lib.hid (fun i hi => by
            by_cases e : i = j
            · subst e; rw [hgx]; exact h
            · exact hno.out i (by omega))
          generalize hBx : bestX ts cs ws g x = q at *
          replace hBx := Lib.hid hBx
          obtain ⟨c, z⟩ := q
          simp only at hs1 hc1 hxbj
          generalize hOx : onE ts cs x = er at *
          replace hOx := Lib.hid hOx
          replace hs1 := Lib.hid hs1
          replace hc1 := Lib.hid hc1
          replace hgx := Lib.hid hgx
          replace hbadx := Lib.hid hbadx
          replace hnox := Lib.hid hnox
          generalize C j = y at *
          go_wp2_with fail
          refine hcall.mono ?_
          rintro e w4 ⟨rfl, hx4⟩
          have hown4 := hown.kept hx4
          have hx24 := hxr.trans hx4
          have hg0 := cell_new_list w4 [.int .i64 c.kind, .int .u32 c.s.p.toNat, .int .u32 c.s.m.toNat] 40 0 _ rfl
          clear hx4 hown hcall
          by_cases her : er = 0
          · have hd : (er != 0) = false := by simp [her]
            have hnew := hnox.out her
            have hwr : IntKind.i64.wrap (y + z) = y + z := IntWalk.i64_in _ (by omega)
            replace her := Lib.hid her
            by_cases hk : c.kind = 2
            · have hd2 : (c.kind == 2) = true := by simpa using hk
              have hs2 : S (j + 1) = S j ++ [c.s] := by rw [hs1.out, if_pos hk]
              replace hs2 := Lib.hid hs2
              replace hk := Lib.hid hk
              have hownb := hown4.kept (Ext.alloc1 w4 (.cells #[.int .i64 c.kind, .int .u32 c.s.p.toNat, .int .u32 c.s.m.toNat] 40))
              have hxb4 := hx24.alloc (.cells #[.int .i64 c.kind, .int .u32 c.s.p.toNat, .int .u32 c.s.m.toNat] 40)
              go_wp2_with (at_builtin; refine wp_appC w2 _ c.s #[.int .u32 c.s.p.toNat, .int .u32 c.s.m.toNat] rfl rfl _ _ 22 rfl 38 Tryd.underlying22 info_snd rfl (by decide) _ _ rfl hownb hxb4 (by first | rfl | (rw [World.size_alloc]; rfl)) (Snd.len _) (Snd.one _) (by omega) (by unfold maxLen; omega) ?_; intro v5 w5 o5 x5)
              (first | exact ⟨⟨j + 1, by omega, by go_num, by rw [hc1.out], x5, by rw [hs2.out]; exact o5, hnew⟩, (by simp [intOf]; omega)⟩ | (go_roundw; case rel => exact ⟨j + 1, by omega, by go_num, by rw [hc1.out], x5, by rw [hs2.out]; exact o5, hnew⟩; case measure => exact (by simp [intOf]; omega)))
            · have hd2 : (c.kind == 2) = false := by simpa using hk
              have hs2 : S (j + 1) = S j := by rw [hs1.out, if_neg hk, List.append_nil]
              replace hs2 := Lib.hid hs2
              replace hk := Lib.hid hk
              go_wp2_with fail
              (first | exact ⟨⟨j + 1, by omega, by go_num, by rw [hc1.out], hx24.alloc _, by rw [hs2.out]; exact hown4.kept (Ext.alloc1 _ _), hnew⟩, (by simp [intOf]; omega)⟩ | (go_roundw; case rel => exact ⟨j + 1, by omega, by go_num, by rw [hc1.out], hx24.alloc _, by rw [hs2.out]; exact hown4.kept (Ext.alloc1 _ _), hnew⟩; case measure => exact (by simp [intOf]; omega)))
          · have hd : (er != 0) = true := by simp [her]
            have hEe := hbadx.out her
            replace hEe := Lib.hid hEe
            replace her := Lib.hid her
            go_wp2_with fail
            go_ret3
            exact WordRet.err hEe.out her.out ((hx02.trans hx24).alloc _)
        · have hjm : j = m := by omega
          subst hjm
          have hE := hfin.out (fun i hi => hno.out i (by rw [← hml.out]; exact hi))
          obtain ⟨av, nv, cv, hnv, rfl, _⟩ := OwnK.rdn Snd.len hown
          have hxw := hx02.trans hxr
          by_cases h32 : 32 < nv
          · rw [if_pos (by rw [← hnv]; exact h32)] at hE
            have hdn : decide (32 < nv) = true := by simpa using h32
            replace hnv := Lib.hid hnv
            replace hE := Lib.hid hE
            go_wp2_with fail
            go_ret3
            exact WordRet.err hE.out (by decide) hxw
          · rw [if_neg (by rw [← hnv]; exact h32)] at hE
            obtain ⟨e1, e2⟩ := hok.out hE
            replace hnv := Lib.hid hnv
            replace hE := Lib.hid hE
            replace e1 := Lib.hid e1
            replace e2 := Lib.hid e2
            go_wp2_with fail
            go_ret3
            exact ⟨_, by rw [e2.out, hE.out]; rfl, by rw [e1.out]; exact OwnK.base hown (Ext.le hx02), hxw⟩
/-! ### Cost -/
theorem containsC_any (a : Option Addr) (n cap : Nat) (xs : List Cl) (x : Cl) (w : World) (hr : RdC w a n cap xs) :
    Calls Tryd.prog 62 #[.slice a n cap, clV x] w fun e w' => e = .returned (.bool (decide (x ∈ xs))) ∧ Ext w w' := by
  have hi : decide (0 ≤ idxI xs x) = decide (x ∈ xs) := by
    unfold idxI
    by_cases h : x ∈ xs
    · rw [if_pos h]; simp [h]
    · rw [if_neg h]; simp [h]
  go_enter Tryd.func62, Tryd.ntmps62
  go_wp2_with fail
  refine (indexC_any a n cap xs x _ (hr.ext (Ext.alloc1 _ _))).mono ?_
  rintro e w1 ⟨rfl, hx1⟩
  go_wp2_with fail
  go_ret
  exact ⟨ret_bool (by first | exact hi | simp), (by repeat (first | exact Ext.refl _ | assumption | refine Ext.drew ?_ | refine Ext.drewN ?_ _ | refine Ext.alloc ?_ _ | refine Ext.trans ?_ (by assumption)))⟩
theorem zer_iff {x : List Cl} (h : x.all Cl.ok = true) : decide (zerC ∈ x) = !x.all knownC := by
  rw [Bool.eq_iff_iff]
  simp only [decide_eq_true_eq, Bool.not_eq_true', List.all_eq_false]
  constructor
  · intro hm; exact ⟨zerC, hm, by decide⟩
  · rintro ⟨c, hc, hk⟩
    have h0 : c.kind = 0 := by simpa [knownC] using hk
    have hok := List.all_eq_true.1 h c hc
    unfold Cl.ok at hok
    rw [if_pos (.inl h0), decide_eq_true_eq] at hok
    have : c = zerC := by cases c; simp only at h0 hok; subst h0; subst hok; rfl
    rw [← this]; exact hc
theorem st_known {cs : List Snd} {x : List Cl} (hk : x.all knownC = true) (hl : x.any (lostC cs) = false) : ∀ s ∈ stL cs x, 0 ≤ s ∧ s < ((cs.length + 1 : Nat) : Int) := by
  intro s hs
  obtain ⟨c, hc, rfl⟩ := List.mem_map.1 hs
  have h1 := stC_bd cs c
  have h2 := List.all_eq_true.1 hk c hc
  have h3 := List.any_eq_false.1 hl c hc
  unfold knownC at h2
  unfold lostC at h3
  rw [h2, Bool.true_and, decide_eq_true_eq] at h3
  omega
section
variable {ts : List Nd} {cs : List Snd} {ws : List Int} {g : Int} {x : List Cl}
theorem allE_beg (h : begE ts cs ws g ≠ 0) : allE ts cs ws g x = begE ts cs ws g := by unfold allE; rw [if_pos h]
theorem allE_bad (h : begE ts cs ws g = 0) (h2 : x.length ≠ ts.length ∨ x.all Cl.ok = false ∨ x.all knownC = false) : allE ts cs ws g x = 2 := by unfold allE; rw [if_neg (by simp [h]), if_pos h2]
theorem allE_rest (h : begE ts cs ws g = 0) (h2 : x.length = ts.length) (h3 : x.all Cl.ok = true) (h4 : x.all knownC = true) : allE ts cs ws g x = if x.any (lostC cs) = true then 5 else 0 := by unfold allE; rw [if_neg (by simp [h]), if_neg (by simp [h2, h3, h4])]
theorem allC_err (h : allE ts cs ws g x ≠ 0) : allC ts cs ws g x = 0 := by unfold allC; rw [if_neg h]
end
def CostRet (ts : List Nd) (cs : List Snd) (ws : List Int) (g : Int) (x : List Cl) (w : World) (e : Ending) (w' : World) : Prop := e = .returned (.tuple #[.int .i64 (allC ts cs ws g x), .int .i64 (allE ts cs ws g x)]) ∧ Ext w w'
theorem CostRet.err {ts : List Nd} {cs : List Snd} {ws : List Int} {g : Int} {x : List Cl} {w w' : World} {er : Int} (h : allE ts cs ws g x = er) (hne : er ≠ 0) (hx : Ext w w') : CostRet ts cs ws g x w (.returned (.tuple #[.int .i64 0, .int .i64 er])) w' :=
  ⟨by rw [allC_err (by rw [h]; exact hne), h], hx⟩
set_option maxHeartbeats 2000000 in
set_option maxRecDepth 20000 in
theorem pcost_any (a : Option Addr) (n cap : Nat) (ts : List Nd) (ax : Option Addr) (l cx : Nat) (x : List Cl) (ac : Option Addr) (nc cc : Nat) (cs : List Snd) (aw : Option Addr) (nw cw : Nat) (ws : List Int) (g : Int) (w : World)
    (hr : RdN w a n cap ts) (hx : RdC w ax l cx x) (hc : RdS w ac nc cc cs) (hw : RdI w aw nw cw ws) (hT : TabOk w) :
    Calls Tryd.prog 29 #[.slice a n cap, .slice ax l cx, .slice ac nc cc, cstV aw nw cw g] w (CostRet ts cs ws g x w) := by
  have hbeg := fun W (hx : Ext w W) => begin_any a n cap ts ac nc cc cs aw nw cw ws g W (hr.ext hx) (hc.ext hx) (hw.ext hx) (hT.ext hx)
  have hnl := hr.rd.len
  have hxl := hx.len
  have hlmax : l ≤ 9223372036854775807 := by have := hx.le; have := hx.most; unfold maxLen at this; omega
  replace hnl := Lib.hid hnl
  replace hxl := Lib.hid hxl
  go_enter Tryd.func29, Tryd.ntmps29
  go_wp2_with fail
  refine (hbeg _ (Ext.alloc1 _ _)).mono ?_
  rintro e w2 ⟨hx2, ⟨hne, rfl⟩ | ⟨heq, p, am, capm, bm, rfl, hK⟩⟩
  · have hEe := allE_beg (x := x) hne
    have hd : (begE ts cs ws g != 0) = true := by simpa using hne
    have hxw : Ext w w2 := (by repeat (first | exact Ext.refl _ | assumption | refine Ext.drew ?_ | refine Ext.drewN ?_ _ | refine Ext.alloc ?_ _ | refine Ext.trans ?_ (by assumption)))
    generalize hbr : begE ts cs ws g = er at *
    replace hEe := Lib.hid hEe
    replace hbr := Lib.hid hbr
    replace hne := Lib.hid hne
    clear hbeg hx2
    go_wp2_with fail
    go_ret2
    exact CostRet.err hEe.out hne.out hxw
  · have hx02 : Ext w w2 := (by repeat (first | exact Ext.refl _ | assumption | refine Ext.drew ?_ | refine Ext.drewN ?_ _ | refine Ext.alloc ?_ _ | refine Ext.trans ?_ (by assumption)))
    obtain ⟨ht, hmz⟩ := begE_zero heq
    have hn63 : n ≤ 63 := by rw [← hnl.out]; exact (tree_len ht).2
    clear hbeg hx2
    by_cases hln : l = n
    · have hdl : ((l : Int) != (n : Int)) = false := by simp [hln]
      have hxt : x.length = ts.length := by rw [hxl.out, hnl.out, hln]
      have hok : cellsOk x = x.all Cl.ok := by unfold cellsOk; rw [decide_eq_true (by rw [hxl.out]; omega), Bool.true_and]
      have hpv := fun W (hx' : Ext w W) => pvalid_any ax l cx x W (hx.ext hx')
      rw [hok] at hpv
      replace hln := Lib.hid hln
      replace hok := Lib.hid hok
      cases hall : x.all Cl.ok
      · have hpv0 := fun W hx => cbool (hpv W hx) hall
        have hEe := allE_bad heq (.inr (.inl hall))
        replace hEe := Lib.hid hEe
        replace heq := Lib.hid heq
        clear hpv hall hmz hK
        go_wp2_with fail
        refine (hpv0 _ (by repeat (first | exact Ext.refl _ | assumption | refine Ext.drew ?_ | refine Ext.drewN ?_ _ | refine Ext.alloc ?_ _ | refine Ext.trans ?_ (by assumption)))).mono ?_
        rintro e w3 ⟨rfl, hx3⟩
        go_wp2_with fail
        go_ret2
        exact CostRet.err hEe.out (by decide) (hx02.trans hx3)
      · have hpv1 := fun W hx => cbool (hpv W hx) hall
        have hcn := fun W (hx' : Ext w W) => containsC_any ax l cx x zerC W (hx.ext hx')
        rw [zer_iff hall] at hcn
        cases hkn : x.all knownC
        · have hcn0 := fun W hx => cbool (hcn W hx) (show (!x.all knownC) = true by rw [hkn]; rfl)
          have hEe := allE_bad heq (.inr (.inr hkn))
          replace hEe := Lib.hid hEe
          replace heq := Lib.hid heq
          clear hpv hall hmz hK hcn hkn
          go_wp2_with fail
          refine (hpv1 _ (by repeat (first | exact Ext.refl _ | assumption | refine Ext.drew ?_ | refine Ext.drewN ?_ _ | refine Ext.alloc ?_ _ | refine Ext.trans ?_ (by assumption)))).mono ?_
          rintro e w3 ⟨rfl, hx3⟩
          go_wp2_with fail
          refine (hcn0 _ (hx02.trans hx3)).mono ?_
          rintro e w4 ⟨rfl, hx4⟩
          go_wp2_with fail
          go_ret2
          exact CostRet.err hEe.out (by decide) (hx02.trans (hx3.trans hx4))
        · have hcn1 := fun W hx => cbool (hcn W hx) (show (!x.all knownC) = false by rw [hkn]; rfl)
          have hst := fun W (hx' : Ext w2 W) => pstates_any p a n cap ts ac nc cc cs am capm (matL cs ws g) bm ax l cx x W (hK.ext hx') (hx.ext (hx02.trans hx')) (by rw [hln.out]; omega)
          have hE0 := allE_rest (ws := ws) (g := g) heq hxt hall hkn
          obtain ⟨hmk1, hmk2⟩ := matL_ok hmz
          have hsk := st_known (cs := cs) hkn
          have hncl := hK.rc.len
          obtain ⟨hp0, hp1, hp2, hp3, hp4⟩ := hK.at
          replace heq := Lib.hid heq
          replace hE0 := Lib.hid hE0
          replace hncl := Lib.hid hncl
          replace hxt := Lib.hid hxt
          clear hpv hall hmz hcn hkn
          go_wp2_with fail
          refine (hpv1 _ (by repeat (first | exact Ext.refl _ | assumption | refine Ext.drew ?_ | refine Ext.drewN ?_ _ | refine Ext.alloc ?_ _ | refine Ext.trans ?_ (by assumption)))).mono ?_
          rintro e w3 ⟨rfl, hx3⟩
          go_wp2_with fail
          refine (hcn1 _ (hx02.trans hx3)).mono ?_
          rintro e w4 ⟨rfl, hx4⟩
          have hx24 := hx3.trans hx4
          go_wp2_with fail
          refine (hst _ hx24).mono ?_
          rintro e w5 ⟨hx5, ⟨hl3, rfl⟩ | ⟨hl3, v5, rfl, ho5⟩⟩
          · have hEe : allE ts cs ws g x = 5 := by rw [hE0.out, if_pos hl3]
            replace hEe := Lib.hid hEe
            clear hl3
            go_wp2_with fail
            go_ret2
            exact CostRet.err hEe.out (by decide) (hx02.trans (hx24.trans hx5))
          · have hEe : allE ts cs ws g x = 0 := by rw [hE0.out, if_neg (by simp [hl3])]
            have hC : allC ts cs ws g x = total ts.length (parF ts) (rowM (matL cs ws g)) (asN (stL cs x)) := by unfold allC; rw [if_pos hEe]
            have hin := hsk hl3
            obtain ⟨a5, n5, c5, hn5, rfl, hr5⟩ := OwnK.rdn I64.len ho5
            have hn5l : n5 = n := by rw [hn5, stL, List.length_map, hxl.out, hln.out]
            have hx25 := hx24.trans hx5
            have hK5 := hK.ext hx25
            have hq4 := hx25.cellv hp4
            have hpl5 := Nat.lt_of_lt_of_le hp0 hx25.le
            have hsc := scost_any a n cap ts am (nc + 1) capm (matL cs ws g) a5 n5 c5 (stL cs x) w5 hK5.rd hK5.rm hr5 ht hmk1 hn5l (fun y hy => by have := hin y hy; rw [hncl.out] at this; exact this) (fun i k hi hk => hmk2 i k (by rw [hncl.out]; exact hi) (by rw [hncl.out]; exact hk))
            replace hEe := Lib.hid hEe
            replace hC := Lib.hid hC
            replace hn5 := Lib.hid hn5
            replace hn5l := Lib.hid hn5l
            replace hl3 := Lib.hid hl3
            clear hsk hin hst
            go_wp2_with fail
            refine hsc.mono ?_
            rintro e w6 ⟨rfl, hx6⟩
            go_wp2_with fail
            go_ret2
            exact ⟨by rw [hC.out, hEe.out]; rfl, hx02.trans (hx25.trans hx6)⟩
    · have hdl : ((l : Int) != (n : Int)) = true := by simp; omega
      have hEe := allE_bad heq (.inl (show x.length ≠ ts.length by rw [hxl.out, hnl.out]; exact hln))
      replace hEe := Lib.hid hEe
      replace heq := Lib.hid heq
      go_wp2_with fail
      go_ret2
      exact CostRet.err hEe.out (by decide) hx02
end Go.Proofs.YtdloabjnjnjacaaDoor
