/-
  The law ProtoSums: the walk.
-/
import Derived.Test.YtdloabjnjnjacaaDoorLs
namespace Go.Proofs.YtdloabjnjnjacaaDoor
open Go.RowKit Go.Shelf
theorem firstE_all {f : Nat → Int} {n : Nat} (h : firstE f n = 0) : ∀ k : Nat, k ≤ n → ∀ i, i < k → f i = 0
  | 0, _, i, hi => absurd hi (Nat.not_lt_zero _)
  | k + 1, hk, i, hi => by
    have ih := firstE_all h k (by omega)
    by_cases e : i = k
    · subst e
      by_cases hf : f i = 0
      · exact hf
      · have := firstE_at ih hf (show i < n by omega)
        rw [h] at this; exact absurd this.symm hf
    · exact ih i (by omega)
theorem wordE_zero {ts : List Nd} {cs : List Snd} {ws : List Int} {g : Int} {cols : List (List Cl)} (h : wordE ts cs ws g cols = 0) :
    begE ts cs ws g = 0 ∧ ∀ (i : Nat) (x : List Cl), cols[i]? = some x → onE ts cs x = 0 := by
  unfold wordE at h
  by_cases h1 : begE ts cs ws g ≠ 0
  · rw [if_pos h1] at h; exact absurd h h1
  rw [if_neg h1] at h
  refine ⟨by simpa using h1, fun i x hx => ?_⟩
  split at h
  · omega
  by_cases h2 : colE ts cs cols ≠ 0
  · rw [if_pos h2] at h; exact absurd h h2
  have h3 : colE ts cs cols = 0 := by simpa using h2
  unfold colE at h3
  have := firstE_all h3 _ (Nat.le_refl _) i (List.getElem?_eq_some_iff.1 hx).1
  rw [List.getD_eq_getElem?_getD, hx] at this
  exact this
theorem sndsTo_at {ts : List Nd} {cs : List Snd} {ws : List Int} {g : Int} {cols : List (List Cl)} {j : Nat} {x : List Cl} (hx : cols[j]? = some x) (hk : (bestX ts cs ws g x).1.kind = 2) :
    (sndsTo ts cs ws g cols cols.length)[(sndsTo ts cs ws g cols j).length]? = some (bestX ts cs ws g x).1.s := by
  have hp : sndsTo ts cs ws g cols (j + 1) <+: sndsTo ts cs ws g cols cols.length := by
    unfold sndsTo
    rw [List.take_length]
    exact (((List.take_prefix _ _).map _).filter _).map _
  obtain ⟨t, ht⟩ := hp
  rw [← ht, sndsTo_succ hx, if_pos hk, List.append_assoc, List.getElem?_append_right (Nat.le_refl _), Nat.sub_self]
  rfl
set_option maxHeartbeats 4000000 in
set_option maxRecDepth 20000 in
theorem protoSums_any (a : Option Addr) (n cap : Nat) (ts : List Nd) (ac : Option Addr) (nc cc : Nat) (cs : List Snd) (aw : Option Addr) (nw cw : Nat) (ws : List Int) (g : Int) (ao : Option Addr) (m co : Nat) (cols : List (List Cl)) (w : World)
    (hr : RdN w a n cap ts) (hc : RdS w ac nc cc cs) (hw : RdI w aw nw cw ws) (hx : RdCs w ao m co cols) (hT : TabOk w) :
    Calls Tryd.prog 8 #[caseV a n cap ac nc cc aw nw cw g, .slice ao m co] w fun e w' => e = .returned (.bool true) ∧ Ext w w' := by
  have hm : m ≤ 9223372036854775807 := by have := hx.le; have := hx.most; unfold maxLen at this; omega
  have hml := hx.len
  have hs := fun W => small_any a n cap ac nc cc aw nw cw g W (len_int hr.rd) (len_int hc) (len_int hw)
  generalize smallB n nc nw = s at *
  have hp := fun W (z : Ext w W) => pword_any a n cap ts ao m co cols ac nc cc cs aw nw cw ws g W (hr.ext z) (hx.ext z) (hc.ext z) (hw.ext z) (hT.ext z)
  have hq := fun (ax : Option Addr) (lx cx : Nat) (x : List Cl) W (z : Ext w W) (hrx : RdC W ax lx cx x) => pcellX_any a n cap ts ax lx cx x ac nc cc cs aw nw cw ws g W (hr.ext z) hrx (hc.ext z) (hw.ext z) (hT.ext z)
  unfold WordRet at hp
  unfold CellRet at hq
  replace hml := Lib.hid hml
  cases s
  · clear hq
    go_enter Tryd.func8, Tryd.ntmps8
    go_wp2_with fail
    refine (hs _).mono ?_
    rintro e w1 ⟨rfl, hx1⟩
    have hb0 := (hx1).cellv (cell_new_list w [.slice a n cap, .slice ac nc cc, .slice aw nw cw, .int .i64 g] 34 0 _ rfl)
    have hb1 := (hx1).cellv (cell_new_list w [.slice a n cap, .slice ac nc cc, .slice aw nw cw, .int .i64 g] 34 1 _ rfl)
    have hb2 := (hx1).cellv (cell_new_list w [.slice a n cap, .slice ac nc cc, .slice aw nw cw, .int .i64 g] 34 2 _ rfl)
    have hb3 := (hx1).cellv (cell_new_list w [.slice a n cap, .slice ac nc cc, .slice aw nw cw, .int .i64 g] 34 3 _ rfl)
    have hlt : w.heap.size < w1.heap.size := by have := hx1.le; simp at this; omega
    have hxw1 : Ext w w1 := (by repeat (first | exact Ext.refl _ | assumption | refine Ext.drew ?_ | refine Ext.drewN ?_ _ | refine Ext.alloc ?_ _ | refine Ext.trans ?_ (by assumption)))
    have hp1 := hp _ hxw1
    clear hp hs hx1
    go_wp2_with fail
    refine (works_any _ (hT.ext (by repeat (first | exact Ext.refl _ | assumption | refine Ext.drew ?_ | refine Ext.drewN ?_ _ | refine Ext.alloc ?_ _ | refine Ext.trans ?_ (by assumption))))).mono ?_
    rintro e wz ⟨rfl, hxz⟩
    go_wp2_with fail
    go_ret
    exact ⟨rfl, (by repeat (first | exact Ext.refl _ | assumption | refine Ext.drew ?_ | refine Ext.drewN ?_ _ | refine Ext.alloc ?_ _ | refine Ext.trans ?_ (by assumption)))⟩
  by_cases h12 : 12 < m
  · have d1 : decide (12 < m) = true := by simpa using h12
    clear hq
    go_enter Tryd.func8, Tryd.ntmps8
    go_wp2_with fail
    refine (hs _).mono ?_
    rintro e w1 ⟨rfl, hx1⟩
    have hb0 := (hx1).cellv (cell_new_list w [.slice a n cap, .slice ac nc cc, .slice aw nw cw, .int .i64 g] 34 0 _ rfl)
    have hb1 := (hx1).cellv (cell_new_list w [.slice a n cap, .slice ac nc cc, .slice aw nw cw, .int .i64 g] 34 1 _ rfl)
    have hb2 := (hx1).cellv (cell_new_list w [.slice a n cap, .slice ac nc cc, .slice aw nw cw, .int .i64 g] 34 2 _ rfl)
    have hb3 := (hx1).cellv (cell_new_list w [.slice a n cap, .slice ac nc cc, .slice aw nw cw, .int .i64 g] 34 3 _ rfl)
    have hlt : w.heap.size < w1.heap.size := by have := hx1.le; simp at this; omega
    have hxw1 : Ext w w1 := (by repeat (first | exact Ext.refl _ | assumption | refine Ext.drew ?_ | refine Ext.drewN ?_ _ | refine Ext.alloc ?_ _ | refine Ext.trans ?_ (by assumption)))
    have hp1 := hp _ hxw1
    clear hp hs hx1
    go_wp2_with fail
    refine (works_any _ (hT.ext (by repeat (first | exact Ext.refl _ | assumption | refine Ext.drew ?_ | refine Ext.drewN ?_ _ | refine Ext.alloc ?_ _ | refine Ext.trans ?_ (by assumption))))).mono ?_
    rintro e wz ⟨rfl, hxz⟩
    go_wp2_with fail
    go_ret
    exact ⟨rfl, (by repeat (first | exact Ext.refl _ | assumption | refine Ext.drew ?_ | refine Ext.drewN ?_ _ | refine Ext.alloc ?_ _ | refine Ext.trans ?_ (by assumption)))⟩
  have d1 : decide (12 < m) = false := by simpa using h12
  by_cases hE : wordE ts cs ws g cols = 0
  · obtain ⟨hB, hO⟩ := wordE_zero hE
    have hcx : ∀ x, cellX ts cs ws g x = bestX ts cs ws g x := fun x => by unfold cellX; rw [if_pos hB]
    have htx : ∀ (i : Nat) (x : List Cl), cols[i]? = some x → tieE ts cs ws g x = 0 := fun i x h => by unfold tieE; rw [if_neg (by simpa using hB)]; exact hO i x h
    have hL : wordL ts cs ws g cols = sndsTo ts cs ws g cols cols.length := by unfold wordL; rw [if_pos hE]
    have hC : wordC ts cs ws g cols = costTo ts cs ws g cols cols.length := by unfold wordC; rw [if_pos hE]
    rw [hL, hC, hE] at hp
    have hat := fun (j : Nat) (x : List Cl) (h : cols[j]? = some x) => sndsTo_at (ts := ts) (cs := cs) (ws := ws) (g := g) h
    have hsu := fun (j : Nat) (x : List Cl) (h : cols[j]? = some x) => sndsTo_succ (ts := ts) (cs := cs) (ws := ws) (g := g) h
    have hcu := fun (j : Nat) (x : List Cl) (h : cols[j]? = some x) => costTo_succ (ts := ts) (cs := cs) (ws := ws) (g := g) h
    have hcb := fun (j : Nat) => costTo_bd hB cols j
    have hxb := fun (x : List Cl) => bestX_bd hB x
    have hs00 : sndsTo ts cs ws g cols 0 = [] := rfl
    have hc00 : costTo ts cs ws g cols 0 = 0 := rfl
    have hsl := fun (j : Nat) => sndsTo_len (ts := ts) (cs := cs) (ws := ws) (g := g) cols j
    rw [hml.out] at hp hat
    generalize sndsTo ts cs ws g cols = S at *
    generalize costTo ts cs ws g cols = C at *
    replace hat := Lib.hid hat
    replace hsu := Lib.hid hsu
    replace hcu := Lib.hid hcu
    replace hcb := Lib.hid hcb
    replace hxb := Lib.hid hxb
    replace hs00 := Lib.hid hs00
    replace hc00 := Lib.hid hc00
    replace hsl := Lib.hid hsl
    replace hcx := Lib.hid hcx
    replace htx := Lib.hid htx
    clear hE hB hO hL hC
    go_enter Tryd.func8, Tryd.ntmps8
    go_wp2_with fail
    refine (hs _).mono ?_
    rintro e w1 ⟨rfl, hx1⟩
    have hb0 := (hx1).cellv (cell_new_list w [.slice a n cap, .slice ac nc cc, .slice aw nw cw, .int .i64 g] 34 0 _ rfl)
    have hb1 := (hx1).cellv (cell_new_list w [.slice a n cap, .slice ac nc cc, .slice aw nw cw, .int .i64 g] 34 1 _ rfl)
    have hb2 := (hx1).cellv (cell_new_list w [.slice a n cap, .slice ac nc cc, .slice aw nw cw, .int .i64 g] 34 2 _ rfl)
    have hb3 := (hx1).cellv (cell_new_list w [.slice a n cap, .slice ac nc cc, .slice aw nw cw, .int .i64 g] 34 3 _ rfl)
    have hlt : w.heap.size < w1.heap.size := by have := hx1.le; simp at this; omega
    have hxw1 : Ext w w1 := (by repeat (first | exact Ext.refl _ | assumption | refine Ext.drew ?_ | refine Ext.drewN ?_ _ | refine Ext.alloc ?_ _ | refine Ext.trans ?_ (by assumption)))
    have hp1 := hp _ hxw1
    clear hp hs hx1
    go_wp2_with fail
    refine hp1.mono ?_
    rintro e w2 ⟨v1, rfl, ho1, hx2⟩
    have hb0' := hx2.cellv hb0
    have hb1' := hx2.cellv hb1
    have hb2' := hx2.cellv hb2
    have hb3' := hx2.cellv hb3
    have hxw2 := hxw1.trans hx2
    obtain ⟨a1, m1, k1, e1, rfl, hr1⟩ := OwnK.rdn Snd.len ho1
    replace e1 := Lib.hid e1
    have hm1 := len_int hr1
    have hne := neq_snd
    clear hp1 hb0 hb1 hb2 hb3 hlt hxw1 hx2 ho1
    go_wp2_with fail
    go_loopw [8, 9, 10] (fun sv av i wr => ∃ j : Nat, j ≤ m ∧ i = .int .i64 j ∧ sv = .int .i64 (C j) ∧ av = .int .i64 ((S j).length : Nat) ∧ Ext w2 wr) (fun _ _ i _ => m - (intOf i).toNat)
    case atStart => exact ⟨0, Nat.zero_le _, rfl, by rw [hc00.out], by rw [hs00.out]; rfl, Ext.refl _⟩
    case round =>
      obtain ⟨j, hj, rfl, rfl, rfl, hxr⟩ := hrel
      by_cases hlt : j < m
      · obtain ⟨b, off, _, x, rfl, hsx, hb, hc0, ax, lx, cx, rfl, hrx⟩ := RdV.at (RdCs.ext hx (hxw2.trans hxr)) hlt
        have hcall := fun W (z : Ext wr W) => hq ax lx cx x W ((hxw2.trans hxr).trans z) (hrx.ext z)
        rw [hcx.out x, htx.out j x hsx.out] at hcall
        have hb0 := hxr.cellv hb0'
        have hb1 := hxr.cellv hb1'
        have hb2 := hxr.cellv hb2'
        have hb3 := hxr.cellv hb3'
        have hltw : w.heap.size < wr.heap.size := cell_lt hb0
        have hs1 := hsu.out j x hsx.out
        have hc1 := hcu.out j x hsx.out
        have hat1 := hat.out j x hsx.out
        have hcbj := hcb.out j
        have hxbj := hxb.out x
        have hslj := hsl.out j
        generalize hBx : bestX ts cs ws g x = q at *
        replace hBx := Lib.hid hBx
        obtain ⟨c, z⟩ := q
        simp only at hs1 hc1 hxbj hat1 hcall
        replace hs1 := Lib.hid hs1
        replace hc1 := Lib.hid hc1
        replace hat1 := Lib.hid hat1
        generalize C j = y at *
        generalize hl0 : (S j).length = l0 at *
        replace hl0 := Lib.hid hl0
        go_wp2_with fail
        have hjm : (j : Int) < (m : Int) := by omega
        go_region_held3 (fun w' => Ext wr w' ∧ w'.cell? ⟨b, off + j, none⟩ = some (.slice ax lx cx) ∧ w'.cell? ⟨w.heap.size, 0, none⟩ = some (.slice a n cap) ∧ w'.cell? ⟨w.heap.size, 1, none⟩ = some (.slice ac nc cc) ∧ w'.cell? ⟨w.heap.size, 2, none⟩ = some (.slice aw nw cw) ∧ w'.cell? ⟨w.heap.size, 3, none⟩ = some (.int .i64 g))
          ((go_split_ands; refine (fun (h : Ext wr _) => And.intro h (And.intro (h.cellv hc0) (And.intro (h.cellv hb0) (And.intro (h.cellv hb1) (And.intro (h.cellv hb2) (h.cellv hb3)))))) ?_; first | exact (Ext.refl _).drew | exact hEq | exact ((Ext.refl _).drew).alloc _ | exact hEq.alloc _ | exact ((hEq.setCell (p := ⟨wr.heap.size, 0, none⟩) (Nat.le_refl _) _).setCell (p := ⟨wr.heap.size, 1, none⟩) (Nat.le_refl _) _).setCell (p := ⟨wr.heap.size, 2, none⟩) (Nat.le_refl _) _))
          ((go_at_call 18; first | (refine (hcall _ (Ext.refl _).drew).mono ?_; rintro e wq ⟨rfl, hxq⟩; have hEq : Ext wr wq := Ext.trans ((Ext.refl _).drew) hxq) | (refine (hcall _ (((Ext.refl _).drew).alloc _)).mono ?_; rintro e wq ⟨rfl, hxq⟩; have hEq : Ext wr wq := Ext.trans (((Ext.refl _).drew).alloc _) hxq; have hbk : wq.heap[wr.heap.size]? = some (.cells #[.int .i64 0, .int .u32 0, .int .u32 0] 40 (0, 0)) := (Below.block hxq.bel _ (by simp)).trans (World.alloc_heap_new wr.drew _); obtain ⟨f0, f1, f2⟩ := frz3 hbk; obtain ⟨g0, g1, g2⟩ := cells3 hbk; have lq := (Array.getElem?_eq_some_iff.1 hbk).1)))
        · have hx5 := hEq.alloc (.cells #[.int .i64 c.kind, .int .u32 c.s.p.toNat, .int .u32 c.s.m.toNat] 40)
          have hB5 : CellB (wq.alloc (.cells #[.int .i64 c.kind, .int .u32 c.s.p.toNat, .int .u32 c.s.m.toNat] 40)) wq.heap.size c := World.alloc_heap_new wq _
          generalize (wq.alloc (.cells #[.int .i64 c.kind, .int .u32 c.s.p.toNat, .int .u32 c.s.m.toNat] 40)) = w5 at *
          generalize wq.heap.size = B5 at *
          clear hEq hxq hcall
          have hx25 := hxr.trans hx5
          have hwr : IntKind.i64.wrap (y + z) = y + z := IntWalk.i64_in _ (by omega)
          obtain ⟨hg0, hg1, hg2⟩ := cells3 hB5
          have hlq : B5 < w5.heap.size := cell_lt hg0
          clear hb0 hb1 hb2 hb3 hB5 hc0
          by_cases hk : c.kind = 2
          · have hd2 : (c.kind == 2) = true := by simpa using hk
            have hat2 := hat1.out hk
            have hs2 : S (j + 1) = S j ++ [c.s] := by rw [hs1.out, if_pos hk]
            have hl1 : l0 < m1 := by have := (List.getElem?_eq_some_iff.1 hat2).1; rw [← e1.out] at this; exact this
            have hd3 : decide (m1 ≤ l0) = false := by simpa using hl1
            have hl2 : (S (j + 1)).length = l0 + 1 := by rw [hs2, List.length_append, hl0.out]; rfl
            obtain ⟨b1, o1, s1, rfl, hs1', hb1, hcc⟩ := (hr1.ext hx25).get hl1
            have hss : s1 = c.s := by have := hs1'.out; rw [hat2] at this; exact (Option.some.inj this).symm
            subst hss
            have q0 : w5.cell? ⟨b1, o1 + l0 * 2, none⟩ = some (.int .u32 c.s.p.toNat) := by simpa using hcc 0 _ rfl
            have q1 : w5.cell? ⟨b1, o1 + l0 * 2 + 1, none⟩ = some (.int .u32 c.s.m.toNat) := hcc 1 _ rfl
            have hdd : decide (c.s = c.s) = true := by simp
            replace hs2 := Lib.hid hs2
            replace hl2 := Lib.hid hl2
            replace hk := Lib.hid hk
            clear hcc hat2
            have r0 := fun z : ExtOf w5 => z.cell q0
            have r1 := fun z : ExtOf w5 => z.cell q1
            have r2 := fun z : ExtOf w5 => z.cell hg1
            have r3 := fun z : ExtOf w5 => z.cell hg2
            go_wp2_with fail
            (refine wp_region_qx (by kernel_rfl) (by kernel_rfl) ?_
             repeat (go_big_quiet_step (fail))
             refine wpQuiet_nil ?_
             intro wq hw'
             have hxq := ext_of_ex hw'
             clear hw')
            go_wp2_with fail
            (first | exact ⟨⟨j + 1, by omega, by go_num, by rw [hc1.out], by rw [hl2.out]; rfl, hx25.trans hxq⟩, (by simp [intOf]; omega)⟩ | (go_roundw; case rel => exact ⟨j + 1, by omega, by go_num, by rw [hc1.out], by rw [hl2.out]; rfl, hx25.trans hxq⟩; case measure => exact (by simp [intOf]; omega)))
          · have hd2 : (c.kind == 2) = false := by simpa using hk
            have hs2 : (S (j + 1)).length = l0 := by rw [hs1.out, if_neg hk, List.append_nil, hl0.out]
            replace hs2 := Lib.hid hs2
            replace hk := Lib.hid hk
            go_wp2_with fail
            (first | exact ⟨⟨j + 1, by omega, by go_num, by rw [hc1.out], by rw [hs2.out], hx25⟩, (by simp [intOf]; omega)⟩ | (go_roundw; case rel => exact ⟨j + 1, by omega, by go_num, by rw [hc1.out], by rw [hs2.out], hx25⟩; case measure => exact (by simp [intOf]; omega)))
        · have hx5 := ((hEq.setCell (p := ⟨wr.heap.size, 0, none⟩) (Nat.le_refl _) (.int .i64 c.kind)).setCell (p := ⟨wr.heap.size, 1, none⟩) (Nat.le_refl _) (.int .u32 c.s.p.toNat)).setCell (p := ⟨wr.heap.size, 2, none⟩) (Nat.le_refl _) (.int .u32 c.s.m.toNat)
          have hB5 : CellB (((wq.setCell ⟨wr.heap.size, 0, none⟩ (.int .i64 c.kind)).setCell ⟨wr.heap.size, 1, none⟩ (.int .u32 c.s.p.toNat)).setCell ⟨wr.heap.size, 2, none⟩ (.int .u32 c.s.m.toNat)) wr.heap.size c := heap_set (heap_set (heap_set hbk _) _) _
          clear hbk f0 f1 f2 g0 g1 g2 lq hEq hxq hcall
          generalize (((wq.setCell ⟨wr.heap.size, 0, none⟩ (.int .i64 c.kind)).setCell ⟨wr.heap.size, 1, none⟩ (.int .u32 c.s.p.toNat)).setCell ⟨wr.heap.size, 2, none⟩ (.int .u32 c.s.m.toNat)) = w5 at *
          obtain ⟨B5, hB5e⟩ : ∃ x, x = wr.heap.size := ⟨_, rfl⟩
          rw [← hB5e] at hB5 ⊢
          clear hB5e
          have hx25 := hxr.trans hx5
          have hwr : IntKind.i64.wrap (y + z) = y + z := IntWalk.i64_in _ (by omega)
          obtain ⟨hg0, hg1, hg2⟩ := cells3 hB5
          have hlq : B5 < w5.heap.size := cell_lt hg0
          clear hb0 hb1 hb2 hb3 hB5 hc0
          by_cases hk : c.kind = 2
          · have hd2 : (c.kind == 2) = true := by simpa using hk
            have hat2 := hat1.out hk
            have hs2 : S (j + 1) = S j ++ [c.s] := by rw [hs1.out, if_pos hk]
            have hl1 : l0 < m1 := by have := (List.getElem?_eq_some_iff.1 hat2).1; rw [← e1.out] at this; exact this
            have hd3 : decide (m1 ≤ l0) = false := by simpa using hl1
            have hl2 : (S (j + 1)).length = l0 + 1 := by rw [hs2, List.length_append, hl0.out]; rfl
            obtain ⟨b1, o1, s1, rfl, hs1', hb1, hcc⟩ := (hr1.ext hx25).get hl1
            have hss : s1 = c.s := by have := hs1'.out; rw [hat2] at this; exact (Option.some.inj this).symm
            subst hss
            have q0 : w5.cell? ⟨b1, o1 + l0 * 2, none⟩ = some (.int .u32 c.s.p.toNat) := by simpa using hcc 0 _ rfl
            have q1 : w5.cell? ⟨b1, o1 + l0 * 2 + 1, none⟩ = some (.int .u32 c.s.m.toNat) := hcc 1 _ rfl
            have hdd : decide (c.s = c.s) = true := by simp
            replace hs2 := Lib.hid hs2
            replace hl2 := Lib.hid hl2
            replace hk := Lib.hid hk
            clear hcc hat2
            have r0 := fun z : ExtOf w5 => z.cell q0
            have r1 := fun z : ExtOf w5 => z.cell q1
            have r2 := fun z : ExtOf w5 => z.cell hg1
            have r3 := fun z : ExtOf w5 => z.cell hg2
            go_wp2_with fail
            (refine wp_region_qx (by kernel_rfl) (by kernel_rfl) ?_
             repeat (go_big_quiet_step (fail))
             refine wpQuiet_nil ?_
             intro wq hw'
             have hxq := ext_of_ex hw'
             clear hw')
            go_wp2_with fail
            (first | exact ⟨⟨j + 1, by omega, by go_num, by rw [hc1.out], by rw [hl2.out]; rfl, hx25.trans hxq⟩, (by simp [intOf]; omega)⟩ | (go_roundw; case rel => exact ⟨j + 1, by omega, by go_num, by rw [hc1.out], by rw [hl2.out]; rfl, hx25.trans hxq⟩; case measure => exact (by simp [intOf]; omega)))
          · have hd2 : (c.kind == 2) = false := by simpa using hk
            have hs2 : (S (j + 1)).length = l0 := by rw [hs1.out, if_neg hk, List.append_nil, hl0.out]
            replace hs2 := Lib.hid hs2
            replace hk := Lib.hid hk
            go_wp2_with fail
            (first | exact ⟨⟨j + 1, by omega, by go_num, by rw [hc1.out], by rw [hs2.out], hx25⟩, (by simp [intOf]; omega)⟩ | (go_roundw; case rel => exact ⟨j + 1, by omega, by go_num, by rw [hc1.out], by rw [hs2.out], hx25⟩; case measure => exact (by simp [intOf]; omega)))
      · have hjm : j = m := by omega
        subst hjm
        have hxw := hxw2.trans hxr
        have e1' := e1.out
        rw [← e1']
        clear hq
        go_wp2_with fail
        refine (works_any _ (hT.ext hxw)).mono ?_
        rintro e wz ⟨rfl, hxz⟩
        go_wp2_with fail
        go_ret
        exact ⟨rfl, hxw.trans hxz⟩
  · have hL : wordL ts cs ws g cols = [] := by unfold wordL; rw [if_neg hE]
    have hC : wordC ts cs ws g cols = 0 := by unfold wordC; rw [if_neg hE]
    rw [hL, hC] at hp
    generalize wordE ts cs ws g cols = er at *
    have hd0 : (er != 0) = true := by simp [hE]
    replace hE := Lib.hid hE
    clear hq hL hC
    go_enter Tryd.func8, Tryd.ntmps8
    go_wp2_with fail
    refine (hs _).mono ?_
    rintro e w1 ⟨rfl, hx1⟩
    have hb0 := (hx1).cellv (cell_new_list w [.slice a n cap, .slice ac nc cc, .slice aw nw cw, .int .i64 g] 34 0 _ rfl)
    have hb1 := (hx1).cellv (cell_new_list w [.slice a n cap, .slice ac nc cc, .slice aw nw cw, .int .i64 g] 34 1 _ rfl)
    have hb2 := (hx1).cellv (cell_new_list w [.slice a n cap, .slice ac nc cc, .slice aw nw cw, .int .i64 g] 34 2 _ rfl)
    have hb3 := (hx1).cellv (cell_new_list w [.slice a n cap, .slice ac nc cc, .slice aw nw cw, .int .i64 g] 34 3 _ rfl)
    have hlt : w.heap.size < w1.heap.size := by have := hx1.le; simp at this; omega
    have hxw1 : Ext w w1 := (by repeat (first | exact Ext.refl _ | assumption | refine Ext.drew ?_ | refine Ext.drewN ?_ _ | refine Ext.alloc ?_ _ | refine Ext.trans ?_ (by assumption)))
    have hp1 := hp _ hxw1
    clear hp hs hx1
    go_wp2_with fail
    refine hp1.mono ?_
    rintro e w2 ⟨v1, rfl, ho1, hx2⟩
    obtain ⟨a1, m1, k1, e1, rfl, hr1⟩ := OwnK.rdn Snd.len ho1
    simp only [List.length_nil] at e1
    subst e1
    have hxw2 := hxw1.trans hx2
    clear hp1 hb0 hb1 hb2 hb3 hlt hxw1 hx2 ho1
    go_wp2_with fail
    refine (works_any _ (hT.ext (by repeat (first | exact Ext.refl _ | assumption | refine Ext.drew ?_ | refine Ext.drewN ?_ _ | refine Ext.alloc ?_ _ | refine Ext.trans ?_ (by assumption))))).mono ?_
    rintro e wz ⟨rfl, hxz⟩
    go_wp2_with fail
    go_ret
    exact ⟨rfl, (by repeat (first | exact Ext.refl _ | assumption | refine Ext.drew ?_ | refine Ext.drewN ?_ _ | refine Ext.alloc ?_ _ | refine Ext.trans ?_ (by assumption)))⟩
end Go.Proofs.YtdloabjnjnjacaaDoor
