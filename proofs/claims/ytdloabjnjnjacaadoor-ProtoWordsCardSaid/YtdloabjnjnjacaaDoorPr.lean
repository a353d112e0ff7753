/-
  ref24: check, state, states.
-/
import Derived.Test.YtdloabjnjnjacaaDoorPf
import Derived.Test.YtdloabjnjnjacaaDoorKd
namespace Go.Proofs.YtdloabjnjnjacaaDoor
open Go.RowKit Go.Shelf
def RBegRet (nc : Nat) (ts : List Nd) (cs : List Snd) (ws : List Int) (g : Int) (w : World) (e : Ending) (w' : World) : Prop := Ext w w' ∧
  (begE ts cs ws g ≠ 0 ∧ e = .returned (.tuple #[.slice none 0 0, .int .i64 (begE ts cs ws g)]) ∨
   begE ts cs ws g = 0 ∧ ∃ am capm, e = .returned (.tuple #[.slice am (nc + 1) capm, .int .i64 0]) ∧ RdM w' am (nc + 1) capm (matL cs ws g))
theorem rbeg_any (a : Option Addr) (n cap : Nat) (ts : List Nd) (ac : Option Addr) (nc cc : Nat) (cs : List Snd) (aw : Option Addr) (nw cw : Nat) (ws : List Int) (g : Int) (w : World)
    (hr : RdN w a n cap ts) (hc : RdS w ac nc cc cs) (hw : RdI w aw nw cw ws) :
    Calls Tryd.prog 53 #[.slice a n cap, .slice ac nc cc, cstV aw nw cw g] w (RBegRet nc ts cs ws g w) := by
  have hck := fun W (hx : Ext w W) => rtcheck_any a n cap ts W (hr.ext hx)
  have hmt := fun W (hx : Ext w W) => rmatrix_any ac nc cc cs aw nw cw ws g W (hc.ext hx) (hw.ext hx)
  have hncl := hc.len
  replace hncl := Lib.hid hncl
  by_cases ht : treeB ts = false
  · have hE : begE ts cs ws g = 16 := by simp [begE, ht]
    have hck1 := fun W hx => cint (hck W hx) (treeE_not ht)
    replace hE := Lib.hid hE
    clear ht hck
    go_enter Tryd.func53, Tryd.ntmps53
    go_wp2_with fail
    refine (hck1 _ (Ext.alloc1 _ _)).mono ?_
    rintro e w1 ⟨rfl, hx1⟩
    go_wp2_with fail
    go_ret2
    exact ⟨(by repeat (first | exact Ext.refl _ | assumption | refine Ext.drew ?_ | refine Ext.drewN ?_ _ | refine Ext.alloc ?_ _ | refine Ext.trans ?_ (by assumption))), .inl ⟨by rw [hE.out]; decide, by rw [hE.out]; rfl⟩⟩
  · have ht' : treeB ts = true := by simpa using ht
    have hE : begE ts cs ws g = matE cs ws g := by simp [begE, ht']
    have hck1 := fun W hx => cint (hck W hx) (treeE_zero ht')
    replace hE := Lib.hid hE
    clear ht ht' hck
    go_enter Tryd.func53, Tryd.ntmps53
    go_wp2_with fail
    refine (hck1 _ (Ext.alloc1 _ _)).mono ?_
    rintro e w1 ⟨rfl, hx1⟩
    have hbx : w1.heap[w.heap.size]? = some (.cells #[.slice aw nw cw, .int .i64 g] 25 (0, 0)) := (Below.block hx1.bel _ (by simp)).trans (World.alloc_heap_new w _)
    have hb0 : w1.cell? ⟨w.heap.size, 0, none⟩ = some (.slice aw nw cw) := by simp only [World.cell?]; rw [hbx]; rfl
    have hb1 : w1.cell? ⟨w.heap.size, 1, none⟩ = some (.int .i64 g) := by simp only [World.cell?]; rw [hbx]; rfl
    have hlt1 := (Array.getElem?_eq_some_iff.1 hbx).1
    have hx01 : Ext w w1 := (by repeat (first | exact Ext.refl _ | assumption | refine Ext.drew ?_ | refine Ext.drewN ?_ _ | refine Ext.alloc ?_ _ | refine Ext.trans ?_ (by assumption)))
    go_wp2_with fail
    refine (hmt _ hx01).mono ?_
    rintro e w2 ⟨hx2, ⟨hne, rfl⟩ | ⟨heq, am, capm, rfl, hrm⟩⟩
    · generalize matE cs ws g = me at *
      replace hne := Lib.hid hne
      go_wp2_with fail
      go_ret2
      exact ⟨(by repeat (first | exact Ext.refl _ | assumption | refine Ext.drew ?_ | refine Ext.drewN ?_ _ | refine Ext.alloc ?_ _ | refine Ext.trans ?_ (by assumption))), .inl ⟨by rw [hE.out]; exact hne.out, by rw [hE.out]; rfl⟩⟩
    · rw [hncl.out] at hrm
      rw [hncl.out]
      replace heq := Lib.hid heq
      go_wp2_with fail
      go_ret2
      exact ⟨(by repeat (first | exact Ext.refl _ | assumption | refine Ext.drew ?_ | refine Ext.drewN ?_ _ | refine Ext.alloc ?_ _ | refine Ext.trans ?_ (by assumption))), .inr ⟨by rw [hE.out]; exact heq.out, am, capm, rfl, hrm⟩⟩
/-! ### state -/
def stK (cs : List Snd) (c : Cl) : Int := if c.kind = 1 then (cs.length : Int) else idxI cs c.s
theorem stK_known {cs : List Snd} {c : Cl} (h : ¬ c.kind = 0) : stK cs c = stC cs c := by unfold stK stC; rw [if_neg h]
theorem stK_bd (cs : List Snd) (c : Cl) : -1 ≤ stK cs c ∧ stK cs c ≤ (cs.length : Int) := by
  unfold stK
  split
  · omega
  · have := idxI_bd cs c.s; omega
set_option maxHeartbeats 1000000 in
theorem rstate_any (c : Cl) (ac : Option Addr) (nc cc : Nat) (cs : List Snd) (w : World) (hc : RdS w ac nc cc cs) :
    Calls Tryd.prog 66 #[clV c, .slice ac nc cc] w fun e w' => e = .returned (.int .i64 (stK cs c)) ∧ Ext w w' := by
  have he := eql_snd
  have hl := hc.len
  have hmax : nc ≤ 9223372036854775807 := by have := hc.le; have := hc.most; unfold maxLen at this; omega
  by_cases hk : c.kind = 1
  · have hE : stK cs c = (nc : Int) := by unfold stK; rw [if_pos hk, hl]
    have hd : (c.kind == 1) = true := by simpa using hk
    replace hE := Lib.hid hE
    replace hl := Lib.hid hl
    replace hk := Lib.hid hk
    go_enter Tryd.func66, Tryd.ntmps66
    go_wp2_with fail
    go_ret
    exact ⟨ret_int hE.out.symm, Ext.alloc1 _ _⟩
  · have hE : stK cs c = idxI cs c.s := by unfold stK; rw [if_neg hk]
    have hd : (c.kind == 1) = false := by simpa using hk
    replace hE := Lib.hid hE
    replace hl := Lib.hid hl
    replace hk := Lib.hid hk
    go_enter Tryd.func66, Tryd.ntmps66
    go_wp2_with fail
    have hg1 := cell_new_list w [.int .i64 c.kind, .int .u32 c.s.p.toNat, .int .u32 c.s.m.toNat] 40 1 _ rfl
    have hg2 := cell_new_list w [.int .i64 c.kind, .int .u32 c.s.p.toNat, .int .u32 c.s.m.toNat] 40 2 _ rfl
    have hlt0 : w.heap.size < (w.alloc (.cells #[.int .i64 c.kind, .int .u32 c.s.p.toNat, .int .u32 c.s.m.toNat] 40)).heap.size := by simp
    have hxa : Ext w (w.alloc (.cells #[.int .i64 c.kind, .int .u32 c.s.p.toNat, .int .u32 c.s.m.toNat] 40)) := Ext.alloc1 _ _
    generalize (w.alloc (.cells #[.int .i64 c.kind, .int .u32 c.s.p.toNat, .int .u32 c.s.m.toNat] 40)) = wa at *
    go_loopw [5] (fun i wr => ∃ j : Nat, j ≤ nc ∧ i = .int .i64 j ∧ Ext wa wr ∧ Hid (∀ (i : Nat) (y : Snd), i < j → cs[i]? = some y → decide (c.s ≠ y) = true)) (fun i _ => nc - (intOf i).toNat)
    case atStart => exact ⟨0, Nat.zero_le _, rfl, Ext.refl _, fun i y h => absurd h (Nat.not_lt_zero _)⟩
    case round =>
      obtain ⟨j, hj, rfl, hx, hall⟩ := hrel
      by_cases hlt : j < nc
      · obtain ⟨b, off, y, rfl, hy, hb, hc0, hc1⟩ := (hc.ext (hxa.trans hx)).snd hlt
        have hh1 := hx.cellv hg1
        have hh2 := hx.cellv hg2
        have hp1 := fun z : ExtOf wr => z.cell hh1
        have hp2 := fun z : ExtOf wr => z.cell hh2
        have hp3 := fun z : ExtOf wr => z.cell hc0
        have hp4 := fun z : ExtOf wr => z.cell hc1
        by_cases hst : y = c.s
        · have hd2 : decide (y = c.s) = true := by simpa using hst
          have hi := Lib.hid (idxI_at (x := c.s) (by rw [hy.out, hst]) hall.out)
          replace hst := Lib.hid hst
          go_wp2_with fail
          (refine wp_region_qx (by kernel_rfl) (by kernel_rfl) ?_
           repeat (go_big_quiet_step (fail))
           refine wpQuiet_nil ?_
           intro wq hw'
           have hxq := ext_of_ex hw'
           clear hw')
          go_wp2_with fail
          go_ret
          exact ⟨ret_int (by rw [hE.out, hi.out]), (by repeat (first | exact Ext.refl _ | assumption | refine Ext.drew ?_ | refine Ext.drewN ?_ _ | refine Ext.alloc ?_ _ | refine Ext.trans ?_ (by assumption)))⟩
        · have hd2 : decide (y = c.s) = false := by simpa using hst
          have hn := Lib.hid (all_succ (p := fun y => decide (c.s ≠ y)) hall.out hy.out (by simpa using Ne.symm hst))
          replace hst := Lib.hid hst
          go_wp2_with fail
          (refine wp_region_qx (by kernel_rfl) (by kernel_rfl) ?_
           repeat (go_big_quiet_step (fail))
           refine wpQuiet_nil ?_
           intro wq hw'
           have hxq := ext_of_ex hw'
           clear hw')
          go_wp2_with fail
          (first | exact ⟨⟨j + 1, by omega, by go_num, hx.trans hxq, hn⟩, (by simp [intOf]; omega)⟩ | (go_roundw; case rel => exact ⟨j + 1, by omega, by go_num, hx.trans hxq, hn⟩; case measure => exact (by simp [intOf]; omega)))
      · go_wp2_with fail
        go_ret
        exact ⟨ret_int (by rw [hE.out, idxI_none hl.out (fun i y hi => hall.out i y (by omega))]), hxa.trans hx⟩
/-! ### states -/
def RStRet (ts : List Nd) (cs : List Snd) (x : List Cl) (w : World) (e : Ending) (w' : World) : Prop := Ext w w' ∧
  (onE ts cs x ≠ 0 ∧ e = .returned (.tuple #[.slice none 0 0, .bool false, .int .i64 (onE ts cs x)]) ∨
   onE ts cs x = 0 ∧ ∃ v, e = .returned (.tuple #[v, .bool (knownB x), .int .i64 0]) ∧ OwnI w.heap.size 3 w' v (stL cs x))
theorem RStRet.err {ts : List Nd} {cs : List Snd} {x : List Cl} {w w' : World} {er : Int} (h : onE ts cs x = er) (hne : er ≠ 0) (hx : Ext w w') : RStRet ts cs x w (.returned (.tuple #[.slice none 0 0, .bool false, .int .i64 er])) w' :=
  ⟨hx, .inl ⟨by rw [h]; exact hne, by rw [h]⟩⟩
set_option maxHeartbeats 2000000 in
set_option maxRecDepth 20000 in
theorem rstates_any (a : Option Addr) (n cap : Nat) (ts : List Nd) (ax : Option Addr) (l cx : Nat) (x : List Cl) (ac : Option Addr) (nc cc : Nat) (cs : List Snd) (w : World)
    (hr : RdN w a n cap ts) (hx : RdC w ax l cx x) (hc : RdS w ac nc cc cs) (ht : treeB ts = true) :
    Calls Tryd.prog 46 #[.slice a n cap, .slice ax l cx, .slice ac nc cc] w (RStRet ts cs x w) := by
  have hxl := hx.len
  have hlmax : l ≤ 9223372036854775807 := by have := hx.le; have := hx.most; unfold maxLen at this; omega
  have hln63 : (leafL ts).length ≤ 63 := by
    have := leafTo_len ts ts.length
    have h2 := (tree_len ht).2
    unfold leafL; omega
  have hlv := fun W (hx : Ext w W) => RetIE.rd (rleaves_any a n cap ts W (hr.ext hx)) (treeE_zero ht)
  rw [leavesR_ok ht] at hlv
  by_cases hlen : l = (leafL ts).length
  · have hlen' : x.length = (leafL ts).length := by rw [hxl]; exact hlen
    have hl63 : l ≤ 63 := by omega
    have hbadE := fun h => onE_bad (ts := ts) (cs := cs) (x := x) h
    have hlostE := fun h2 h3 => onE_lost (cs := cs) hlen' h2 h3
    have hokE := fun h2 h3 => onE_ok (cs := cs) hlen' h2 h3
    replace hbadE := Lib.hid hbadE
    replace hlostE := Lib.hid hlostE
    replace hokE := Lib.hid hokE
    replace hxl := Lib.hid hxl
    replace hlen := Lib.hid hlen
    replace hlen' := Lib.hid hlen'
    go_enter Tryd.func46, Tryd.ntmps46
    go_wp2_with fail
    refine (hlv _ (by repeat (first | exact Ext.refl _ | assumption | refine Ext.drew ?_ | refine Ext.drewN ?_ _ | refine Ext.alloc ?_ _ | refine Ext.trans ?_ (by assumption)))).mono ?_
    rintro e w1 ⟨al, nl, cl, hnl, rfl, hrl, hx1⟩
    have hd : ((l : Int) != (nl : Int)) = false := by simp [hlen.out, hnl]
    replace hnl := Lib.hid hnl
    clear hlv hrl
    go_wp2_with fail
    go_loopw [11] (fun i wr => ∃ j : Nat, j ≤ l ∧ i = .int .i64 j ∧ Ext w wr ∧ Hid (∀ (i : Nat) (y : Cl), i < j → x[i]? = some y → y.ok = true)) (fun i _ => l - (intOf i).toNat)
    case atStart => exact ⟨0, Nat.zero_le _, rfl, hx1, fun i y h => absurd h (Nat.not_lt_zero _)⟩
    case round =>
      obtain ⟨j, hj, rfl, hxr, hall⟩ := hrel
      by_cases hlt : j < l
      · obtain ⟨b, off, c, rfl, hc', hb, hc0, hc1, hc2⟩ := (hx.ext hxr).cl hlt
        cases hok : c.ok
        · have hE := Lib.hid (hbadE.out (all_not hc'.out hok))
          go_wp2_with fail
          refine (cbool (rcvalid_any c _) hok).mono ?_
          rintro e w3 ⟨rfl, hx3⟩
          go_wp2_with fail
          go_ret3
          exact RStRet.err hE.out (by decide) (hxr.trans hx3)
        · have hnew := Lib.hid (all_succ (p := Cl.ok) hall.out hc'.out hok)
          go_wp2_with fail
          refine (cbool (rcvalid_any c _) hok).mono ?_
          rintro e w3 ⟨rfl, hx3⟩
          clear hok
          go_wp2_with fail
          (first | exact ⟨⟨j + 1, by omega, by go_num, hxr.trans hx3, hnew⟩, (by simp [intOf]; omega)⟩ | (go_roundw; case rel => exact ⟨j + 1, by omega, by go_num, hxr.trans hx3, hnew⟩; case measure => exact (by simp [intOf]; omega)))
      · have hall2 : x.all Cl.ok = true := all_of_each hxl.out (fun i y hi => hall.out i y (by omega))
        replace hall2 := Lib.hid hall2
        clear hall
        have hjl : j = l := by omega
        replace hjl := Lib.hid hjl
        go_wp2_with fail
        go_loopw [12, 13, 14] (fun kv ov i wr => ∃ j : Nat, j ≤ l ∧ i = .int .i64 j ∧ kv = .bool (knownB (x.take j)) ∧ Ext w wr ∧ OwnI w.heap.size 3 wr ov (stL cs (x.take j)) ∧ Hid ((x.take j).any (lostC cs) = false)) (fun _ _ i _ => l - (intOf i).toNat)
        case atStart => exact ⟨0, Nat.zero_le _, rfl, rfl, hxr, OwnK.nil _ _ _, rfl⟩
        case round =>
          obtain ⟨i, hi, rfl, rfl, hxs, hown, hno⟩ := hrel
          by_cases hlt2 : i < l
          · obtain ⟨b, off, c, rfl, hc', hb, hc0, hc1, hc2⟩ := (hx.ext hxs).cl hlt2
            have hlen2 : (stL cs (x.take i)).length ≤ 60000 := by rw [stL, List.length_map, List.length_take]; omega
            have hst : stL cs (x.take (i + 1)) = stL cs (x.take i) ++ [stC cs c] := by unfold stL; rw [take_succ_at hc'.out, List.map_append]; rfl
            have hkn : knownB (x.take (i + 1)) = (knownB (x.take i) || knownC c) := any_take_succ hc'.out
            have hnn := any_take_succ (p := lostC cs) hc'.out
            rw [hno.out, Bool.false_or] at hnn
            by_cases hk0 : c.kind = 0
            · obtain ⟨e1, e2, e3⟩ := st_none (cs := cs) hk0
              have hd0 : (c.kind != 0) = false := by simpa using hk0
              rw [e1] at hst
              rw [e3, Bool.or_false] at hkn
              rw [e2] at hnn
              replace hk0 := Lib.hid hk0
              replace hst := Lib.hid hst
              replace hkn := Lib.hid hkn
              replace hnn := Lib.hid hnn
              clear e1 e2 e3
              go_wp2_with (at_builtin; refine wp_app1 w wr (-1) rfl _ _ 52 rfl 3 Tryd.underlying52 info_int rfl (by decide) _ _ rfl hown hxs rfl (I64.len _) (I64.one _) (by omega) (by unfold maxLen; omega) ?_; intro v3 w3 o3 x3 _)
              (first | exact ⟨⟨i + 1, by omega, by go_num, by rw [hkn.out], x3, by rw [hst.out]; exact o3, hnn⟩, (by simp [intOf]; omega)⟩ | (go_roundw; case rel => exact ⟨i + 1, by omega, by go_num, by rw [hkn.out], x3, by rw [hst.out]; exact o3, hnn⟩; case measure => exact (by simp [intOf]; omega)))
            · have hd0 : (c.kind != 0) = true := by simpa using hk0
              have hK := stK_known (cs := cs) hk0
              have hcall := fun W (hx' : Ext wr W) => cint (rstate_any c ac nc cc cs W (hc.ext (hxs.trans hx'))) hK
              have hkn2 : knownC c = true := by simp [knownC, hk0]
              rw [hkn2, Bool.or_true] at hkn
              have hlostc : lostC cs c = decide (stC cs c = -1) := by unfold lostC; rw [decide_eq_true hk0, Bool.true_and]
              rw [hlostc] at hnn
              have hbd := stC_bd cs c
              have hlx : decide (stC cs c = -1) = true → x.any (lostC cs) = true := fun h => any_at hc'.out (by rw [hlostc]; exact h)
              generalize stC cs c = s at *
              replace hK := Lib.hid hK
              replace hk0 := Lib.hid hk0
              replace hst := Lib.hid hst
              replace hkn := Lib.hid hkn
              replace hlostc := Lib.hid hlostc
              replace hkn2 := Lib.hid hkn2
              by_cases hs0 : s = -1
              · have hE := Lib.hid (hlostE.out hall2.out (hlx (by simpa using hs0)))
                have hd1 : decide (s < 0) = true := by simp; omega
                replace hs0 := Lib.hid hs0
                clear hnn hlx
                go_wp2_with fail
                refine (hcall _ (by repeat (first | exact Ext.refl _ | assumption | refine Ext.drew ?_ | refine Ext.drewN ?_ _ | refine Ext.alloc ?_ _ | refine Ext.trans ?_ (by assumption)))).mono ?_
                rintro e w4 ⟨rfl, hx4⟩
                go_wp2_with fail
                go_ret3
                exact RStRet.err hE.out (by decide) (hxs.trans hx4)
              · have hnn' : (x.take (i + 1)).any (lostC cs) = false := by rw [hnn]; simpa using hs0
                have hd1 : decide (s < 0) = false := by simp; omega
                replace hnn' := Lib.hid hnn'
                replace hs0 := Lib.hid hs0
                clear hnn hlx
                go_wp2_with fail
                refine (hcall _ (by repeat (first | exact Ext.refl _ | assumption | refine Ext.drew ?_ | refine Ext.drewN ?_ _ | refine Ext.alloc ?_ _ | refine Ext.trans ?_ (by assumption)))).mono ?_
                rintro e w4 ⟨rfl, hx4⟩
                have hown4 := hown.kept hx4
                have hxs4 := hxs.trans hx4
                clear hx4 hcall
                go_wp2_with (at_builtin; refine wp_app1 w w4 s rfl _ _ 52 rfl 3 Tryd.underlying52 info_int rfl (by decide) _ _ rfl hown4 hxs4 rfl (I64.len _) (I64.one _) (by omega) (by unfold maxLen; omega) ?_; intro v3 w3 o3 x3 _)
                (first | exact ⟨⟨i + 1, by omega, by go_num, by rw [hkn.out], x3, by rw [hst.out]; exact o3, hnn'⟩, (by simp [intOf]; omega)⟩ | (go_roundw; case rel => exact ⟨i + 1, by omega, by go_num, by rw [hkn.out], x3, by rw [hst.out]; exact o3, hnn'⟩; case measure => exact (by simp [intOf]; omega)))
          · have hil : i = l := by omega
            rw [List.take_of_length_le (by rw [hxl.out]; omega)] at hown hno ⊢
            have hE := Lib.hid (hokE.out hall2.out hno.out)
            replace hil := Lib.hid hil
            go_wp2_with fail
            go_ret3
            exact ⟨hxs, .inr ⟨hE.out, _, rfl, hown⟩⟩
  · have hE := onE_len (ts := ts) (cs := cs) (x := x) (by rw [hxl]; exact hlen)
    replace hE := Lib.hid hE
    replace hxl := Lib.hid hxl
    go_enter Tryd.func46, Tryd.ntmps46
    go_wp2_with fail
    refine (hlv _ (by repeat (first | exact Ext.refl _ | assumption | refine Ext.drew ?_ | refine Ext.drewN ?_ _ | refine Ext.alloc ?_ _ | refine Ext.trans ?_ (by assumption)))).mono ?_
    rintro e w1 ⟨al, nl, cl, hnl, rfl, hrl, hx1⟩
    have hd : ((l : Int) != (nl : Int)) = true := by rw [hnl]; simp; omega
    replace hnl := Lib.hid hnl
    go_wp2_with fail
    go_ret3
    exact RStRet.err hE.out (by decide) hx1
end Go.Proofs.YtdloabjnjnjacaaDoor
