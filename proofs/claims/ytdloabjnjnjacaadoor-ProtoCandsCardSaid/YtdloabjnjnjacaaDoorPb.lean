/-
  proto: mapped, states, begin.
-/
import Derived.Test.YtdloabjnjnjacaaDoorPa
namespace Go.Proofs.YtdloabjnjnjacaaDoor
open Go.RowKit Go.Shelf Go.Maps
/-- A list of cells of the call's own. -/
def RetC (xs : List Cl) (w : World) (e : Ending) (w' : World) : Prop := ∃ v, e = .returned v ∧ OwnC w.heap.size 40 w' v xs ∧ Ext w w'
set_option maxHeartbeats 1000000 in
theorem mapped_any (a : Option Addr) (n cap : Nat) (xs : List Int) (p : Nat) (ac : Option Addr) (nc cc : Nat) (cs : List Snd) (w : World) (hr : RdI w a n cap xs) (hn : n ≤ 60000) (hp : w.cell? ⟨p, 1, none⟩ = some (.slice ac nc cc)) (hc : RdS w ac nc cc cs) (hb : ∀ x ∈ xs, 0 ≤ x ∧ x ≤ nc) :
    Calls Tryd.prog 51 #[.slice a n cap, .func (.func 52) #[.pointer (some ⟨p, 0, none⟩)] #[]] w (RetC (xs.map (cellS cs)) w) := by
  have hl := hr.len
  have hcell := fun (s : Int) W (hx : Ext w W) (h0 : 0 ≤ s) (h1 : s ≤ nc) => pcell_any p ac nc cc cs s W (hx.cellv hp) (Nat.lt_of_lt_of_le (cell_lt hp) hx.le) (hc.ext hx) h0 h1
  replace hl := Lib.hid hl
  clear hp
  go_enter Tryd.func51, Tryd.ntmps51
  go_wp2_with fail
  go_loopw [5, 10] (fun ov i wr => ∃ j : Nat, j ≤ n ∧ i = .int .i64 j ∧ Ext w wr ∧ OwnC w.heap.size 40 wr ov ((xs.take j).map (cellS cs))) (fun _ i _ => n - (intOf i).toNat)
  case atStart => exact ⟨0, Nat.zero_le _, rfl, Ext.refl _, OwnK.nil _ _ _⟩
  case round =>
    obtain ⟨j, hj, rfl, hx, hown⟩ := hrel
    by_cases hlt : j < n
    · obtain ⟨b, off, y, rfl, hy, hb', hcy⟩ := (hr.ext hx).i64 hlt
      obtain ⟨h0, h1⟩ := hb y (List.mem_of_getElem? hy.out)
      have hlen : ((xs.take j).map (cellS cs)).length ≤ 60000 := by rw [List.length_map, List.length_take]; omega
      have hnew : (xs.take (j + 1)).map (cellS cs) = (xs.take j).map (cellS cs) ++ [cellS cs y] := by rw [take_succ_at hy.out, List.map_append]; rfl
      replace hnew := Lib.hid hnew
      go_wp2_with fail
      refine (hcell y _ hx h0 h1).mono ?_
      rintro e w2 ⟨rfl, hx2⟩
      have hown2 := hown.kept hx2
      generalize cellS cs y = c at *
      go_wp2_with (at_builtin; refine wp_appC w w2 c #[.int .i64 c.kind, .int .u32 c.s.p.toNat, .int .u32 c.s.m.toNat] rfl rfl _ _ 35 rfl 40 Tryd.underlying35 info_cl rfl (by decide) _ _ rfl hown2 (hx.trans hx2) rfl (Cl.len _) (Cl.one _) (by omega) (by unfold maxLen; omega) ?_; intro v3 w3 o3 x3)
      (first | exact ⟨⟨j + 1, by omega, by go_num, x3, by rw [hnew.out]; exact o3⟩, (by simp [intOf]; omega)⟩ | (go_roundw; case rel => exact ⟨j + 1, by omega, by go_num, x3, by rw [hnew.out]; exact o3⟩; case measure => exact (by simp [intOf]; omega)))
    · have hjn : j = n := by omega
      rw [List.take_of_length_le (by rw [hl.out]; omega)] at hown
      replace hjn := Lib.hid hjn
      go_wp2_with fail
      go_ret
      exact ⟨_, rfl, hown, hx⟩
/-! ### The states of cells -/
def StRet (cs : List Snd) (x : List Cl) (w : World) (e : Ending) (w' : World) : Prop := Ext w w' ∧
  (x.any (lostC cs) = true ∧ e = .returned (.tuple #[.slice none 0 0, .bool false, .int .i64 5]) ∨
   x.any (lostC cs) = false ∧ ∃ v, e = .returned (.tuple #[v, .bool (knownB x), .int .i64 0]) ∧ OwnI w.heap.size 3 w' v (stL cs x))
theorem any_take_succ {α : Type} {xs : List α} {p : α → Bool} {j : Nat} {x : α} (hx : xs[j]? = some x) : (xs.take (j + 1)).any p = ((xs.take j).any p || p x) := by
  rw [take_succ_at hx, List.any_append]; simp
theorem any_at {α : Type} {xs : List α} {p : α → Bool} {j : Nat} {x : α} (hx : xs[j]? = some x) (hp : p x = true) : xs.any p = true := List.any_eq_true.2 ⟨x, List.mem_of_getElem? hx, hp⟩
theorem st_none {cs : List Snd} {c : Cl} (h : c.kind = 0) : stC cs c = -1 ∧ lostC cs c = false ∧ knownC c = false := by simp [stC, lostC, knownC, h]
theorem st_gap {cs : List Snd} {c : Cl} (h : c.kind = 1) : stC cs c = (cs.length : Int) ∧ lostC cs c = false ∧ knownC c = true := by
  refine ⟨by simp [stC, h], ?_, by simp [knownC, h]⟩
  simp [lostC, stC, h]
theorem st_snd {cs : List Snd} {c : Cl} (h0 : ¬ c.kind = 0) (h1 : ¬ c.kind = 1) : stC cs c = idxI cs c.s ∧ lostC cs c = !decide (c.s ∈ cs) ∧ knownC c = true := by
  have e : stC cs c = idxI cs c.s := by simp [stC, h0, h1]
  refine ⟨e, ?_, by simp [knownC, h0]⟩
  unfold lostC
  rw [e, decide_eq_true h0, Bool.true_and]
  unfold idxI
  by_cases hm : c.s ∈ cs
  · rw [if_pos hm]; simp [hm]
  · rw [if_neg hm]; simp [hm]
set_option maxHeartbeats 2000000 in
set_option maxRecDepth 20000 in
theorem pstates_any (p : Nat) (a : Option Addr) (n cap : Nat) (ts : List Nd) (ac : Option Addr) (nc cc : Nat) (cs : List Snd) (am : Option Addr) (capm : Nat) (ms : List (List Int)) (bm : Nat) (ax : Option Addr) (l cx : Nat) (x : List Cl) (w : World)
    (hK : TskOk w p a n cap ts ac nc cc cs am capm ms bm) (hr : RdC w ax l cx x) (hl60 : l ≤ 60000) :
    Calls Tryd.prog 63 #[.pointer (some ⟨p, 0, none⟩), .slice ax l cx] w (StRet cs x w) := by
  have hl := hr.len
  have hncl := hK.rc.len
  have hun := Tryd.underlying79
  have hz : ∀ W : World, (zeroValue 3).run Tryd.prog W = .ok (.int .i64 0) W := fun W => by kernel_rfl
  replace hl := Lib.hid hl
  replace hncl := Lib.hid hncl
  go_enter Tryd.func63, Tryd.ntmps63
  go_wp2_with fail
  go_loopw [4, 5, 14] (fun ov kv i wr => ∃ j : Nat, j ≤ l ∧ i = .int .i64 j ∧ kv = .bool (knownB (x.take j)) ∧ Ext w wr ∧ OwnI w.heap.size 3 wr ov (stL cs (x.take j)) ∧ Hid ((x.take j).any (lostC cs) = false)) (fun _ _ i _ => l - (intOf i).toNat)
  case atStart => exact ⟨0, Nat.zero_le _, rfl, rfl, Ext.refl _, OwnK.nil _ _ _, rfl⟩
  case round =>
    obtain ⟨j, hj, rfl, rfl, hx, hown, hno⟩ := hrel
    by_cases hlt : j < l
    · obtain ⟨b, off, c, rfl, hc, hb, hc0, hc1, hc2⟩ := (hr.ext hx).cl hlt
      have hlen : (stL cs (x.take j)).length ≤ 60000 := by rw [stL, List.length_map, List.length_take]; omega
      have hst : stL cs (x.take (j + 1)) = stL cs (x.take j) ++ [stC cs c] := by unfold stL; rw [take_succ_at hc.out, List.map_append]; rfl
      have hkn : knownB (x.take (j + 1)) = (knownB (x.take j) || knownC c) := any_take_succ hc.out
      have hnn := any_take_succ (p := lostC cs) hc.out
      rw [hno.out, Bool.false_or] at hnn
      have hxb := hx.alloc (.cells #[.int .i64 c.kind, .int .u32 c.s.p.toNat, .int .u32 c.s.m.toNat] 40)
      have hownb := hown.kept (Ext.alloc1 wr (.cells #[.int .i64 c.kind, .int .u32 c.s.p.toNat, .int .u32 c.s.m.toNat] 40))
      by_cases hk0 : c.kind = 0
      · obtain ⟨e1, e2, e3⟩ := st_none (cs := cs) hk0
        have hd0 : (c.kind == 0) = true := by simpa using hk0
        rw [e1] at hst
        rw [e3, Bool.or_false] at hkn
        rw [e2] at hnn
        replace hk0 := Lib.hid hk0
        replace hst := Lib.hid hst
        replace hkn := Lib.hid hkn
        replace hnn := Lib.hid hnn
        clear e1 e2 e3
        go_wp2_with (at_builtin; refine wp_app1 w _ (-1) rfl _ _ 52 rfl 3 Tryd.underlying52 info_int rfl (by decide) _ _ rfl hownb hxb (by first | rfl | (rw [World.size_alloc]; rfl)) (I64.len _) (I64.one _) (by omega) (by unfold maxLen; omega) ?_; intro v3 w3 o3 x3 _)
        (first | exact ⟨⟨j + 1, by omega, by go_num, by rw [hkn.out], x3, by rw [hst.out]; exact o3, hnn⟩, (by simp [intOf]; omega)⟩ | (go_roundw; case rel => exact ⟨j + 1, by omega, by go_num, by rw [hkn.out], x3, by rw [hst.out]; exact o3, hnn⟩; case measure => exact (by simp [intOf]; omega)))
      · have hd0 : (c.kind == 0) = false := by simpa using hk0
        by_cases hk1 : c.kind = 1
        · obtain ⟨e1, e2, e3⟩ := st_gap (cs := cs) hk1
          have hd1 : (c.kind == 1) = true := by simpa using hk1
          rw [e1, hncl.out] at hst
          rw [e3, Bool.or_true] at hkn
          rw [e2] at hnn
          obtain ⟨hp0, hp1, hp2, hp3, hp4⟩ := (hK.ext hx).at
          replace hk0 := Lib.hid hk0
          replace hk1 := Lib.hid hk1
          replace hst := Lib.hid hst
          replace hkn := Lib.hid hkn
          replace hnn := Lib.hid hnn
          clear e1 e2 e3
          go_wp2_with (at_builtin; refine wp_app1 w _ ((nc : Int)) rfl _ _ 52 rfl 3 Tryd.underlying52 info_int rfl (by decide) _ _ rfl hownb hxb (by first | rfl | (rw [World.size_alloc]; rfl)) (I64.len _) (I64.one _) (by omega) (by unfold maxLen; omega) ?_; intro v3 w3 o3 x3 _)
          (first | exact ⟨⟨j + 1, by omega, by go_num, by rw [hkn.out], x3, by rw [hst.out]; exact o3, hnn⟩, (by simp [intOf]; omega)⟩ | (go_roundw; case rel => exact ⟨j + 1, by omega, by go_num, by rw [hkn.out], x3, by rw [hst.out]; exact o3, hnn⟩; case measure => exact (by simp [intOf]; omega)))
        · have hd1 : (c.kind == 1) = false := by simpa using hk1
          obtain ⟨e1, e2, e3⟩ := st_snd (cs := cs) hk0 hk1
          rw [e1] at hst
          rw [e3, Bool.or_true] at hkn
          rw [e2] at hnn
          obtain ⟨hp0, hp1, hp2, hp3, hp4⟩ := ((hK.ext hx).ext (Ext.alloc1 wr (.cells #[.int .i64 c.kind, .int .u32 c.s.p.toNat, .int .u32 c.s.m.toNat] 40))).at
          have hmb := ((hK.ext hx).ext (Ext.alloc1 wr (.cells #[.int .i64 c.kind, .int .u32 c.s.p.toNat, .int .u32 c.s.m.toNat] 40))).mp
          have hq1 := cell_new_list wr [.int .i64 c.kind, .int .u32 c.s.p.toNat, .int .u32 c.s.m.toNat] 40 1 _ rfl
          have hq2 := cell_new_list wr [.int .i64 c.kind, .int .u32 c.s.p.toNat, .int .u32 c.s.m.toNat] 40 2 _ rfl
          have hbb : wr.heap.size < (wr.alloc (.cells #[.int .i64 c.kind, .int .u32 c.s.p.toNat, .int .u32 c.s.m.toNat] 40)).heap.size := by simp
          replace hk0 := Lib.hid hk0
          replace hk1 := Lib.hid hk1
          replace hst := Lib.hid hst
          replace hkn := Lib.hid hkn
          by_cases hm : c.s ∈ cs
          · have hlk := fun z : ExtOf (wr.alloc (.cells #[.int .i64 c.kind, .int .u32 c.s.p.toNat, .int .u32 c.s.m.toNat] 40)) => (hmb.kept z.h).lookOk keyed_snd hun (hz z.w) (plainElem_int Tryd.underlying3 (by decide)) (keyS c.s)
            have hmv : mapC cs c.s = some (.int .i64 (idxI cs c.s)) := by unfold mapC; rw [if_pos hm]
            simp only [hmv, Option.getD_some, Option.isSome_some, Lit.value] at hlk
            have hnn' : (x.take (j + 1)).any (lostC cs) = false := by rw [hnn]; simp [hm]
            replace hnn' := Lib.hid hnn'
            replace hm := Lib.hid hm
            generalize idxI cs c.s = y at *
            have hP2 := fun z : ExtOf (wr.alloc (.cells #[.int .i64 c.kind, .int .u32 c.s.p.toNat, .int .u32 c.s.m.toNat] 40)) => z.cell hp3
            have hQ1 := fun z : ExtOf (wr.alloc (.cells #[.int .i64 c.kind, .int .u32 c.s.p.toNat, .int .u32 c.s.m.toNat] 40)) => z.cell hq1
            have hQ2 := fun z : ExtOf (wr.alloc (.cells #[.int .i64 c.kind, .int .u32 c.s.p.toNat, .int .u32 c.s.m.toNat] 40)) => z.cell hq2
            clear hnn hmv hmb
            go_wp2_with fail
            (refine wp_region_qx (by kernel_rfl) (by kernel_rfl) ?_
             repeat (go_big_quiet_step (fail))
             refine wpQuiet_nil ?_
             intro wq hw'
             have hxq := ext_of_ex hw'
             clear hw')
            replace hownb := hownb.kept hxq
            replace hxb := hxb.trans hxq
            clear hP2 hQ1 hQ2 hlk hxq
            go_wp2_with (at_builtin; refine wp_app1 w _ (y) rfl _ _ 52 rfl 3 Tryd.underlying52 info_int rfl (by decide) _ _ rfl hownb hxb (by first | rfl | (rw [World.size_alloc]; rfl)) (I64.len _) (I64.one _) (by omega) (by unfold maxLen; omega) ?_; intro v3 w3 o3 x3 _)
            (first | exact ⟨⟨j + 1, by omega, by go_num, by rw [hkn.out], x3, by rw [hst.out]; exact o3, hnn'⟩, (by simp [intOf]; omega)⟩ | (go_roundw; case rel => exact ⟨j + 1, by omega, by go_num, by rw [hkn.out], x3, by rw [hst.out]; exact o3, hnn'⟩; case measure => exact (by simp [intOf]; omega)))
          · have hlk := fun z : ExtOf (wr.alloc (.cells #[.int .i64 c.kind, .int .u32 c.s.p.toNat, .int .u32 c.s.m.toNat] 40)) => (hmb.kept z.h).lookOk keyed_snd hun (hz z.w) (plainElem_int Tryd.underlying3 (by decide)) (keyS c.s)
            have hmv : mapC cs c.s = none := by unfold mapC; rw [if_neg hm]
            simp only [hmv, Option.getD_none, Option.isSome_none, Lit.value] at hlk
            have hbad : x.any (lostC cs) = true := any_at hc.out (by rw [e2]; simp [hm])
            replace hbad := Lib.hid hbad
            replace hm := Lib.hid hm
            generalize idxI cs c.s = y at *
            have hP2 := fun z : ExtOf (wr.alloc (.cells #[.int .i64 c.kind, .int .u32 c.s.p.toNat, .int .u32 c.s.m.toNat] 40)) => z.cell hp3
            have hQ1 := fun z : ExtOf (wr.alloc (.cells #[.int .i64 c.kind, .int .u32 c.s.p.toNat, .int .u32 c.s.m.toNat] 40)) => z.cell hq1
            have hQ2 := fun z : ExtOf (wr.alloc (.cells #[.int .i64 c.kind, .int .u32 c.s.p.toNat, .int .u32 c.s.m.toNat] 40)) => z.cell hq2
            clear hnn hmv hmb e2 e1 e3
            go_wp2_with fail
            (refine wp_region_qx (by kernel_rfl) (by kernel_rfl) ?_
             repeat (go_big_quiet_step (fail))
             refine wpQuiet_nil ?_
             intro wq hw'
             have hxq := ext_of_ex hw'
             clear hw')
            clear hP2 hQ1 hQ2 hlk
            go_wp2_with fail
            go_ret3
            exact ⟨hxb.trans hxq, .inl ⟨hbad.out, rfl⟩⟩
    · have hjn : j = l := by omega
      rw [List.take_of_length_le (by rw [hl.out]; omega)] at hown hno ⊢
      replace hjn := Lib.hid hjn
      go_wp2_with fail
      go_ret3
      exact ⟨hx, .inr ⟨hno.out, _, rfl, hown⟩⟩
/-! ### A task is begun -/
def BegRet (a : Option Addr) (n cap : Nat) (ts : List Nd) (ac : Option Addr) (nc cc : Nat) (cs : List Snd) (ws : List Int) (g : Int) (w : World) (e : Ending) (w' : World) : Prop := Ext w w' ∧
  (begE ts cs ws g ≠ 0 ∧ e = .returned (.tuple #[.pointer none, .int .i64 (begE ts cs ws g)]) ∨
   begE ts cs ws g = 0 ∧ ∃ p am capm bm, e = .returned (.tuple #[.pointer (some ⟨p, 0, none⟩), .int .i64 0]) ∧ TskOk w' p a n cap ts ac nc cc cs am capm (matL cs ws g) bm)
def mapTo (cs : List Snd) (j : Nat) (s : Snd) : Option Lit := if s ∈ cs.take j then some (.int .i64 (idxI cs s)) else none
theorem mapTo_succ {cs : List Snd} {j : Nat} {y : Snd} (hy : cs[j]? = some y) (hn : ¬ y ∈ cs.take j) : mapTo cs (j + 1) = fun z => if z = y then some (.int .i64 (j : Int)) else mapTo cs j z := by
  funext z
  have hi : idxI cs y = j := idxI_at hy fun i x hi hx => by
    simp only [decide_eq_true_eq]
    rintro rfl
    exact hn (List.mem_of_getElem? (i := i) (by rw [List.getElem?_take, if_pos hi]; exact hx))
  unfold mapTo
  rw [take_succ_at hy]
  by_cases e : z = y
  · rw [if_pos e, if_pos (by simp [e]), e, hi]
  · rw [if_neg e]
    by_cases hm : z ∈ cs.take j
    · rw [if_pos hm, if_pos (by simp [hm])]
    · rw [if_neg hm, if_neg (by simp [hm, e])]
set_option maxHeartbeats 2000000 in
set_option maxRecDepth 20000 in
theorem begin_any (a : Option Addr) (n cap : Nat) (ts : List Nd) (ac : Option Addr) (nc cc : Nat) (cs : List Snd) (aw : Option Addr) (nw cw : Nat) (ws : List Int) (g : Int) (w : World)
    (hr : RdN w a n cap ts) (hc : RdS w ac nc cc cs) (hw : RdI w aw nw cw ws) (hT : TabOk w) :
    Calls Tryd.prog 44 #[.slice a n cap, .slice ac nc cc, cstV aw nw cw g] w (BegRet a n cap ts ac nc cc cs ws g w) := by
  have hck := fun W (hx : Ext w W) => check_any a n cap ts W (hr.ext hx)
  have hmt := fun W (hx : Ext w W) => matrix_any ac nc cc cs aw nw cw ws g W (hc.ext hx) (hw.ext hx) (hT.ext hx)
  have hncl := hc.len
  have hun := Tryd.underlying79
  have hmm := @run_makeMap Tryd.prog
  by_cases ht : treeB ts = false
  · have hE : begE ts cs ws g = 16 := by simp [begE, ht]
    have hE2 : treeE ts = 16 := treeE_not ht
    replace hncl := Lib.hid hncl
    go_enter Tryd.func44, Tryd.ntmps44
    go_wp2_with fail
    refine (cint (hck _ (Ext.alloc1 _ _)) hE2).mono ?_
    rintro e w1 ⟨rfl, hx1⟩
    replace hE2 := Lib.hid hE2
    replace hE := Lib.hid hE
    go_wp2_with fail
    go_ret2
    exact ⟨(by repeat (first | exact Ext.refl _ | assumption | refine Ext.drew ?_ | refine Ext.drewN ?_ _ | refine Ext.alloc ?_ _ | refine Ext.trans ?_ (by assumption))), .inl ⟨by rw [hE.out]; decide, by rw [hE.out]; rfl⟩⟩
  · have ht' : treeB ts = true := by simpa using ht
    have hE2 : treeE ts = 0 := treeE_zero ht'
    have hE : begE ts cs ws g = matE cs ws g := by simp [begE, ht']
    have hck0 := fun W (hx : Ext w W) => cint (hck W hx) hE2
    replace hncl := Lib.hid hncl
    replace hE2 := Lib.hid hE2
    replace hE := Lib.hid hE
    clear ht ht' hck
    go_enter Tryd.func44, Tryd.ntmps44
    go_wp2_with fail
    refine (hck0 _ (Ext.alloc1 _ _)).mono ?_
    rintro e w1 ⟨rfl, hx1⟩
    have hbx : w1.heap[w.heap.size]? = some (.cells #[.slice aw nw cw, .int .i64 g] 25 (0, 0)) := (Below.block hx1.bel _ (by simp)).trans (World.alloc_heap_new w _)
    have hb0 : w1.cell? ⟨w.heap.size, 0, none⟩ = some (.slice aw nw cw) := by simp only [World.cell?]; rw [hbx]; rfl
    have hb1 : w1.cell? ⟨w.heap.size, 1, none⟩ = some (.int .i64 g) := by simp only [World.cell?]; rw [hbx]; rfl
    have hlt1 := (Array.getElem?_eq_some_iff.1 hbx).1
    clear hbx
    have hx01 : Ext w w1 := (by repeat (first | exact Ext.refl _ | assumption | refine Ext.drew ?_ | refine Ext.drewN ?_ _ | refine Ext.alloc ?_ _ | refine Ext.trans ?_ (by assumption)))
    go_wp2_with fail
    refine (hmt _ hx01).mono ?_
    rintro e w2 ⟨hx2, ⟨hne, rfl⟩ | ⟨heq, am, capm, rfl, hrm⟩⟩
    · have hd : (matE cs ws g != 0) = true := by simpa using hne
      generalize matE cs ws g = me at *
      replace hne := Lib.hid hne
      go_wp2_with fail
      go_ret2
      exact ⟨(by repeat (first | exact Ext.refl _ | assumption | refine Ext.drew ?_ | refine Ext.drewN ?_ _ | refine Ext.alloc ?_ _ | refine Ext.trans ?_ (by assumption))), .inl ⟨by rw [hE.out]; exact hne.out, by rw [hE.out]; rfl⟩⟩
    · have hcand := (matE_zero heq).2.2.1
      have hnc11 := (matE_zero heq).1
      have hx02 := hx01.trans hx2
      rw [hncl.out] at hnc11 hrm
      rw [hncl.out]
      clear hb0 hb1 hlt1 hmt hck0
      have hm0 := MapK.made w2 Tryd.prog 38 3 klS
      have hm1 : MapK Tryd.prog 38 3 klS ((w2.alloc (.map #[] 0)).alloc (.cells #[.slice a n cap, .slice ac nc cc, .map (some w2.heap.size), .slice am (nc + 1) capm] 81)) w2.heap.size 0 (mapTo cs 0) := by
        have := hm0.kept (Ext.alloc1 (w2.alloc (.map #[] 0)) (.cells #[.slice a n cap, .slice ac nc cc, .map (some w2.heap.size), .slice am (nc + 1) capm] 81))
        have e : mapTo cs 0 = fun _ => none := by funext z; simp [mapTo]
        rw [e]; exact this
      have hb1 : ((w2.alloc (.map #[] 0)).alloc (.cells #[.slice a n cap, .slice ac nc cc, .map (some w2.heap.size), .slice am (nc + 1) capm] 81)).heap[w2.heap.size + 1]? = some (.cells #[.slice a n cap, .slice ac nc cc, .map (some w2.heap.size), .slice am (nc + 1) capm] 81 (0, 0)) := by
        have := World.alloc_heap_new (w2.alloc (.map #[] 0)) (.cells #[.slice a n cap, .slice ac nc cc, .map (some w2.heap.size), .slice am (nc + 1) capm] 81)
        rwa [World.size_alloc] at this
      have hx3 : Ext w2 ((w2.alloc (.map #[] 0)).alloc (.cells #[.slice a n cap, .slice ac nc cc, .map (some w2.heap.size), .slice am (nc + 1) capm] 81)) := (by repeat (first | exact Ext.refl _ | assumption | refine Ext.drew ?_ | refine Ext.drewN ?_ _ | refine Ext.alloc ?_ _ | refine Ext.trans ?_ (by assumption)))
      clear hm0
      replace heq := Lib.hid heq
      go_wp2_with fail
      go_loopw [36] (fun i wr => ∃ j : Nat, j ≤ nc ∧ i = .int .i64 j ∧ Ext w2 wr ∧ wr.heap[w2.heap.size + 1]? = some (.cells #[.slice a n cap, .slice ac nc cc, .map (some w2.heap.size), .slice am (nc + 1) capm] 81 (0, 0)) ∧ MapK Tryd.prog 38 3 klS wr w2.heap.size j (mapTo cs j)) (fun i _ => nc - (intOf i).toNat)
      case atStart => exact ⟨0, Nat.zero_le _, rfl, hx3, hb1, hm1⟩
      case round =>
        clear hx3 hb1 hm1
        obtain ⟨j, hj, rfl, hx, hbk, hmk⟩ := hrel
        by_cases hlt : j < nc
        · obtain ⟨b, off, y, rfl, hy, hb, hc0, hc1⟩ := (hc.ext (hx02.trans hx)).snd hlt
          have hnm : ¬ y ∈ cs.take j := (candAt_zero hy.out (hcand j (by rw [hncl.out]; exact hlt))).2
          have hms := mapTo_succ hy.out hnm
          have hlb := (Array.getElem?_eq_some_iff.1 hbk).1
          have hnewS : ∀ (W w3 : World), Ext w2 W → W.heap[w2.heap.size + 1]? = some (.cells #[.slice a n cap, .slice (some ⟨b, off, none⟩) nc cc, .map (some w2.heap.size), .slice am (nc + 1) capm] 81 (0, 0)) → W.grownBy w3 (some w2.heap.size) → Ext w2 w3 ∧ w3.heap[w2.heap.size + 1]? = some (.cells #[.slice a n cap, .slice (some ⟨b, off, none⟩) nc cc, .map (some w2.heap.size), .slice am (nc + 1) capm] 81 (0, 0)) := fun W w3 h1 h2 h3 =>
            ⟨h1.grown h3 (fun k e => by cases e; exact Nat.le_refl _), (h3.block _ (Array.getElem?_eq_some_iff.1 h2).1 (fun e => by have := Option.some.inj e; omega)).trans h2⟩
          have hxa : Ext wr (wr.alloc (.cells #[.int .u32 y.p.toNat, .int .u32 y.m.toNat] 38)) := Ext.alloc1 _ _
          have hmk1 := hmk.kept hxa
          have hbk1 := (Below.block hxa.bel _ hlb).trans hbk
          have hx1 := hx.trans hxa
          have hq1 := cell_new_list wr [.int .u32 y.p.toNat, .int .u32 y.m.toNat] 38 0 _ rfl
          have hq2 := cell_new_list wr [.int .u32 y.p.toNat, .int .u32 y.m.toNat] 38 1 _ rfl
          have hq3 : (wr.alloc (.cells #[.int .u32 y.p.toNat, .int .u32 y.m.toNat] 38)).cell? ⟨w2.heap.size + 1, 2, none⟩ = some (.map (some w2.heap.size)) := by simp only [World.cell?]; rw [hbk1]; rfl
          have hlb1 : w2.heap.size + 1 < (wr.alloc (.cells #[.int .u32 y.p.toNat, .int .u32 y.m.toNat] 38)).heap.size := by simp; omega
          have hP1 := fun z : ExtOf (wr.alloc (.cells #[.int .u32 y.p.toNat, .int .u32 y.m.toNat] 38)) => z.cell hq1
          have hP2 := fun z : ExtOf (wr.alloc (.cells #[.int .u32 y.p.toNat, .int .u32 y.m.toNat] 38)) => z.cell hq2
          have hP3 := fun z : ExtOf (wr.alloc (.cells #[.int .u32 y.p.toNat, .int .u32 y.m.toNat] 38)) => z.cell hq3
          replace hms := Lib.hid hms
          replace hnm := Lib.hid hnm
          replace hbk := Lib.hid hbk
          replace hbk1 := Lib.hid hbk1
          replace hnewS := Lib.hid hnewS
          go_wp2_with fail
          (refine wp_region_qxt 6 (by kernel_rfl) (by kernel_rfl) ?_
           simp only [List.take_succ_cons, List.take_zero, List.drop_succ_cons, List.drop_zero]
           repeat (go_big_quiet_step (fail))
           refine wpQuiet_nil ?_
           intro wq hw'
           have hxq := ext_of_ex hw'
           clear hw')
          have hmq := hmk1.kept hxq
          have hbq := Lib.hid ((Below.block hxq.bel _ hlb1).trans hbk1.out)
          have hxq2 := hx1.trans hxq
          clear hP1 hP2 hP3 hxq
          go_wp2_with (refine wp_mapStore rfl _ _ _ _ rfl 38 3 keyed_snd hun klS_inj klS_lit rfl hmq (by unfold maxLen; omega) (sndV y) (.int .i64 j) y rfl rfl (keyS y) (plainElem_int Tryd.underlying3 (wf_i64 _ (by omega) (by omega))) ?_; intro w3 m3 g3 d3)
          obtain ⟨x3, b3⟩ := hnewS.out _ _ hxq2 hbq.out g3
          rw [← hms.out] at m3
          clear g3 d3
          go_wp2_with fail
          (first | exact ⟨⟨j + 1, by omega, by go_num, x3, b3, m3⟩, (by simp [intOf]; omega)⟩ | (go_roundw; case rel => exact ⟨j + 1, by omega, by go_num, x3, b3, m3⟩; case measure => exact (by simp [intOf]; omega)))
        · have hjn : j = nc := by omega
          have hfin : mapTo cs j = mapC cs := by
            funext z
            unfold mapTo mapC
            rw [List.take_of_length_le (by rw [hncl.out]; omega)]
          rw [hfin] at hmk
          subst hjn
          have hx4 := hx02.trans hx
          replace hfin := Lib.hid hfin
          go_wp2_with fail
          go_ret2
          exact ⟨hx4, .inr ⟨by rw [hE.out]; exact heq.out, w2.heap.size + 1, am, capm, w2.heap.size, rfl, hbk, hr.ext hx4, hc.ext hx4, RdM.ext hrm hx, hmk⟩⟩
end Go.Proofs.YtdloabjnjnjacaaDoor
