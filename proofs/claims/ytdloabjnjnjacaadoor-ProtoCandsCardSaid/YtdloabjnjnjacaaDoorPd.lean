/-
  proto: best, Ties, Cell.
-/
import Derived.Test.YtdloabjnjnjacaaDoorPc
namespace Go.Proofs.YtdloabjnjnjacaaDoor
open Go.RowKit Go.Shelf Go.Maps
theorem res_cell_t2 {P : Program} {fn : Func} {p u v : Tmp} {ty : TypeId} (h : fn.results = #[.cell p ty, .tmp u, .tmp v]) (tmps : Array Value) (w : World) (g : Nat) (t : TypeId) (cs : Array Value) (fr : Nat × Nat) (d : TypeDesc)
    (hp : tmps.getD p undef = .pointer (some ⟨g, 0, none⟩)) (hg : w.heap[g]? = some (.cells cs t fr))
    (hu : P.underlying ty = some d) (hd : (match d with | .struct _ | .array _ _ => true | _ => false) = true) (hi : (P.info? ty).map (·.size) = some cs.size) :
    (results fn tmps).run P w = .ok (.tuple #[.agg cs, tmps.getD u undef, tmps.getD v undef]) w := by
  have hp' : tmps[p]?.getD undef = .pointer (some ⟨g, 0, none⟩) := by simpa using hp
  simp [results, h, hp', asAddr, Result.andThen, run_loadVar_row w g t ty cs fr d hg hu hd hi]
theorem res_cell2_t {P : Program} {fn : Func} {p q u : Tmp} {ty ty2 : TypeId} (h : fn.results = #[.cell p ty, .cell q ty2, .tmp u]) (tmps : Array Value) (w : World) (g : Nat) (t : TypeId) (cs : Array Value) (fr : Nat × Nat) (d : TypeDesc) (b : Addr) (z : Value)
    (hp : tmps.getD p undef = .pointer (some ⟨g, 0, none⟩)) (hg : w.heap[g]? = some (.cells cs t fr))
    (hu : P.underlying ty = some d) (hd : (match d with | .struct _ | .array _ _ => true | _ => false) = true) (hi : (P.info? ty).map (·.size) = some cs.size)
    (hq : tmps.getD q undef = .pointer (some b)) (hz : (loadVar ty2 b).run P w = .ok z w) :
    (results fn tmps).run P w = .ok (.tuple #[.agg cs, z, tmps.getD u undef]) w := by
  have hp' : tmps[p]?.getD undef = .pointer (some ⟨g, 0, none⟩) := by simpa using hp
  have hq' : tmps[q]?.getD undef = .pointer (some b) := by simpa using hq
  simp [results, h, hp', hq', asAddr, Sem.run_bind, Result.andThen, run_loadVar_row w g t ty cs fr d hg hu hd hi, hz]
theorem load_i64 (w : World) (B : Nat) (z : Int) (h : w.cell? ⟨B, 0, none⟩ = some (.int .i64 z)) : (loadVar 2 ⟨B, 0, none⟩).run Tryd.prog w = .ok (.int .i64 z) w := by
  go_simp
set_option maxHeartbeats 2000000 in
set_option maxRecDepth 20000 in
theorem best_any (p : Nat) (a : Option Addr) (n cap : Nat) (ts : List Nd) (ac : Option Addr) (nc cc : Nat) (cs : List Snd) (am : Option Addr) (capm : Nat) (ws : List Int) (g : Int) (bm : Nat) (ax : Option Addr) (l cx : Nat) (x : List Cl) (w : World)
    (hK : TskOk w p a n cap ts ac nc cc cs am capm (matL cs ws g) bm) (hr : RdC w ax l cx x) (hb : begE ts cs ws g = 0) :
    Calls Tryd.prog 45 #[.pointer (some ⟨p, 0, none⟩), .slice ax l cx] w fun e w' => e = .returned (.tuple #[clV (bestX ts cs ws g x).1, .int .i64 (bestX ts cs ws g x).2, .int .i64 (onE ts cs x)]) ∧ Ext w w' := by
  obtain ⟨ht, _⟩ := begE_zero hb
  have hon := fun B0 B1 B2 W Q (hx : Ext w W) => onB_any p a n cap ts ac nc cc cs am capm (matL cs ws g) bm ax l cx x B0 B1 B2 W Q (hK.ext hx) (hr.ext hx) ht
  have hpo := fun h => poss_of (x := x) hb h
  go_enter Tryd.func45, Tryd.ntmps45
  go_wp2_with fail
  have hb0 : Boxed (((w.alloc (.cells #[.pointer (some ⟨p, 0, none⟩)] 70)).alloc (.cells #[.int .i64 0, .int .u32 0, .int .u32 0] 40)).alloc (.cells #[.int .i64 0] 2)) w.heap.size 70 (.pointer (some ⟨p, 0, none⟩)) := ((Boxed.new w _ _).alloc _).alloc _
  have hb1 : CellB (((w.alloc (.cells #[.pointer (some ⟨p, 0, none⟩)] 70)).alloc (.cells #[.int .i64 0, .int .u32 0, .int .u32 0] 40)).alloc (.cells #[.int .i64 0] 2)) (w.heap.size + 1) zerC := (Below.heap_alloc _ _ _ (by simp)).trans (by have := World.alloc_heap_new (w.alloc (.cells #[.pointer (some ⟨p, 0, none⟩)] 70)) (.cells #[.int .i64 0, .int .u32 0, .int .u32 0] 40); rwa [World.size_alloc] at this)
  have hb2 : Boxed (((w.alloc (.cells #[.pointer (some ⟨p, 0, none⟩)] 70)).alloc (.cells #[.int .i64 0, .int .u32 0, .int .u32 0] 40)).alloc (.cells #[.int .i64 0] 2)) (w.heap.size + 1 + 1) 2 (.int .i64 0) := by have := Boxed.new ((w.alloc (.cells #[.pointer (some ⟨p, 0, none⟩)] 70)).alloc (.cells #[.int .i64 0, .int .u32 0, .int .u32 0] 40)) 2 (.int .i64 0); rwa [World.size_alloc, World.size_alloc] at this
  have hx0 : Ext w (((w.alloc (.cells #[.pointer (some ⟨p, 0, none⟩)] 70)).alloc (.cells #[.int .i64 0, .int .u32 0, .int .u32 0] 40)).alloc (.cells #[.int .i64 0] 2)) := (by repeat (first | exact Ext.refl _ | assumption | refine Ext.drew ?_ | refine Ext.drewN ?_ _ | refine Ext.alloc ?_ _ | refine Ext.trans ?_ (by assumption)))
  generalize (((w.alloc (.cells #[.pointer (some ⟨p, 0, none⟩)] 70)).alloc (.cells #[.int .i64 0, .int .u32 0, .int .u32 0] 40)).alloc (.cells #[.int .i64 0] 2)) = wb at *
  have hl1b := (Array.getElem?_eq_some_iff.1 hb1).1
  refine (hon (w.heap.size) (w.heap.size + 1) (w.heap.size + 1 + 1) wb (fun w' => Ext w w' ∧ CellB w' (w.heap.size + 1) (cellS cs (rootB ts (matL cs ws g) (stL cs x)).2) ∧ Boxed w' (w.heap.size + 1 + 1) 2 (.int .i64 (rootB ts (matL cs ws g) (stL cs x)).1)) hx0
    (fun hE W az ls cps hW hown _ => best1_any p a n cap ts ac nc cc cs am capm (matL cs ws g) bm az ls cps (stL cs x) _ _ _ _ zerC 0 w W hK hown (hpo hE) (Boxed.ext hb0 hW) ((Below.block hW.bel _ hl1b).trans hb1) (Boxed.ext hb2 hW) (hx0.trans hW) (by omega) (by omega) (by omega) (by omega) (by omega))).mono ?_
  rintro e w2 (⟨hno, rfl, hx2⟩ | ⟨hE, hkn, rfl, hx2, hc2, hz2⟩)
  · have hB : bestX ts cs ws g x = (zerC, 0) := by unfold bestX; rw [if_neg hno]
    have hc2 : CellB w2 (w.heap.size + 1) zerC := (Below.block hx2.bel _ hl1b).trans hb1
    have hz2 := Boxed.ext hb2 hx2
    have hxw := hx0.trans hx2
    generalize hEe : onE ts cs x = er at *
    replace hEe := Lib.hid hEe
    replace hB := Lib.hid hB
    clear hon hpo hx2 hb1 hb2 hb0 hl1b hx0
    generalize zerC = c at *
    obtain ⟨f0, f1, f2⟩ := frz3 hc2
    obtain ⟨g0, g1, g2⟩ := cells3 hc2
    have k1 := hz2.cell
    have k2 := hz2.frozen
    have l1 := (Array.getElem?_eq_some_iff.1 hc2).1
    have l2 := hz2.lt
    have fin : Ext w ((((w2.setCell ⟨w.heap.size + 1, 0, none⟩ (.int .i64 c.kind)).setCell ⟨w.heap.size + 1, 1, none⟩ (.int .u32 c.s.p.toNat)).setCell ⟨w.heap.size + 1, 2, none⟩ (.int .u32 c.s.m.toNat)).setCell ⟨w.heap.size + 1 + 1, 0, none⟩ (.int .i64 (0))) ∧ CellB ((((w2.setCell ⟨w.heap.size + 1, 0, none⟩ (.int .i64 c.kind)).setCell ⟨w.heap.size + 1, 1, none⟩ (.int .u32 c.s.p.toNat)).setCell ⟨w.heap.size + 1, 2, none⟩ (.int .u32 c.s.m.toNat)).setCell ⟨w.heap.size + 1 + 1, 0, none⟩ (.int .i64 (0))) (w.heap.size + 1) c ∧
        Boxed ((((w2.setCell ⟨w.heap.size + 1, 0, none⟩ (.int .i64 c.kind)).setCell ⟨w.heap.size + 1, 1, none⟩ (.int .u32 c.s.p.toNat)).setCell ⟨w.heap.size + 1, 2, none⟩ (.int .u32 c.s.m.toNat)).setCell ⟨w.heap.size + 1 + 1, 0, none⟩ (.int .i64 (0))) (w.heap.size + 1 + 1) 2 (.int .i64 (0)) := by
      refine ⟨(((hxw.setCell (p := ⟨w.heap.size + 1, 0, none⟩) (by simp only; omega) _).setCell (p := ⟨w.heap.size + 1, 1, none⟩) (by simp only; omega) _).setCell (p := ⟨w.heap.size + 1, 2, none⟩) (by simp only; omega) _).setCell (p := ⟨w.heap.size + 1 + 1, 0, none⟩) (by simp only; omega) _, (heap_other _ _ (by omega)).trans (heap_set (heap_set (heap_set hc2 _) _) _), Boxed.set (v := .int .i64 (0)) _ ?_⟩
      unfold Boxed
      rw [heap_other _ _ (by omega), heap_other _ _ (by omega), heap_other _ _ (by omega)]; exact hz2
    replace fin := Lib.hid fin
    go_wp2_with fail
    go_region
    all_goals go_wp2_with fail
    all_goals exact bodyPost_ret (res_cell2_t rfl _ _ (w.heap.size + 1) _ _ (0, 0) _ ⟨w.heap.size + 1 + 1, 0, none⟩ (.int .i64 (0)) rfl fin.out.2.1 Tryd.underlying40 rfl (by kernel_rfl) rfl (load_i64 _ _ _ fin.out.2.2.cell)) rfl ⟨by rw [hB.out, hEe.out]; rfl, fin.out.1.drew⟩
  · have hB : bestX ts cs ws g x = (cellS cs (rootB ts (matL cs ws g) (stL cs x)).2, (rootB ts (matL cs ws g) (stL cs x)).1) := by unfold bestX; rw [if_pos ⟨hE, hkn⟩]
    have hEe := Lib.hid hE
    clear hE
    replace hkn := Lib.hid hkn
    have hxw := hx2
    generalize cellS cs (rootB ts (matL cs ws g) (stL cs x)).2 = c' at *
    generalize (rootB ts (matL cs ws g) (stL cs x)).1 = z' at *
    replace hB := Lib.hid hB
    clear hon hpo hx2 hb1 hb2 hb0 hl1b hx0
    generalize c' = c at *
    obtain ⟨f0, f1, f2⟩ := frz3 hc2
    obtain ⟨g0, g1, g2⟩ := cells3 hc2
    have k1 := hz2.cell
    have k2 := hz2.frozen
    have l1 := (Array.getElem?_eq_some_iff.1 hc2).1
    have l2 := hz2.lt
    have fin : Ext w ((((w2.setCell ⟨w.heap.size + 1, 0, none⟩ (.int .i64 c.kind)).setCell ⟨w.heap.size + 1, 1, none⟩ (.int .u32 c.s.p.toNat)).setCell ⟨w.heap.size + 1, 2, none⟩ (.int .u32 c.s.m.toNat)).setCell ⟨w.heap.size + 1 + 1, 0, none⟩ (.int .i64 (z'))) ∧ CellB ((((w2.setCell ⟨w.heap.size + 1, 0, none⟩ (.int .i64 c.kind)).setCell ⟨w.heap.size + 1, 1, none⟩ (.int .u32 c.s.p.toNat)).setCell ⟨w.heap.size + 1, 2, none⟩ (.int .u32 c.s.m.toNat)).setCell ⟨w.heap.size + 1 + 1, 0, none⟩ (.int .i64 (z'))) (w.heap.size + 1) c ∧
        Boxed ((((w2.setCell ⟨w.heap.size + 1, 0, none⟩ (.int .i64 c.kind)).setCell ⟨w.heap.size + 1, 1, none⟩ (.int .u32 c.s.p.toNat)).setCell ⟨w.heap.size + 1, 2, none⟩ (.int .u32 c.s.m.toNat)).setCell ⟨w.heap.size + 1 + 1, 0, none⟩ (.int .i64 (z'))) (w.heap.size + 1 + 1) 2 (.int .i64 (z')) := by
      refine ⟨(((hxw.setCell (p := ⟨w.heap.size + 1, 0, none⟩) (by simp only; omega) _).setCell (p := ⟨w.heap.size + 1, 1, none⟩) (by simp only; omega) _).setCell (p := ⟨w.heap.size + 1, 2, none⟩) (by simp only; omega) _).setCell (p := ⟨w.heap.size + 1 + 1, 0, none⟩) (by simp only; omega) _, (heap_other _ _ (by omega)).trans (heap_set (heap_set (heap_set hc2 _) _) _), Boxed.set (v := .int .i64 (z')) _ ?_⟩
      unfold Boxed
      rw [heap_other _ _ (by omega), heap_other _ _ (by omega), heap_other _ _ (by omega)]; exact hz2
    replace fin := Lib.hid fin
    go_wp2_with fail
    go_region
    all_goals go_wp2_with fail
    all_goals exact bodyPost_ret (res_cell2_t rfl _ _ (w.heap.size + 1) _ _ (0, 0) _ ⟨w.heap.size + 1 + 1, 0, none⟩ (.int .i64 (z')) rfl fin.out.2.1 Tryd.underlying40 rfl (by kernel_rfl) rfl (load_i64 _ _ _ fin.out.2.2.cell)) rfl ⟨by rw [hB.out, hEe.out]; rfl, fin.out.1.drew⟩
/-! ### Cell -/
def CellRet (ts : List Nd) (cs : List Snd) (ws : List Int) (g : Int) (x : List Cl) (w : World) (e : Ending) (w' : World) : Prop := e = .returned (.tuple #[clV (cellX ts cs ws g x).1, .int .i64 (cellX ts cs ws g x).2, .int .i64 (tieE ts cs ws g x)]) ∧ Ext w w'
set_option maxHeartbeats 2000000 in
set_option maxRecDepth 20000 in
theorem pcellX_any (a : Option Addr) (n cap : Nat) (ts : List Nd) (ax : Option Addr) (l cx : Nat) (x : List Cl) (ac : Option Addr) (nc cc : Nat) (cs : List Snd) (aw : Option Addr) (nw cw : Nat) (ws : List Int) (g : Int) (w : World)
    (hr : RdN w a n cap ts) (hx : RdC w ax l cx x) (hc : RdS w ac nc cc cs) (hw : RdI w aw nw cw ws) (hT : TabOk w) :
    Calls Tryd.prog 18 #[.slice a n cap, .slice ax l cx, .slice ac nc cc, cstV aw nw cw g] w (CellRet ts cs ws g x w) := by
  have hbeg := fun W (hx : Ext w W) => begin_any a n cap ts ac nc cc cs aw nw cw ws g W (hr.ext hx) (hc.ext hx) (hw.ext hx) (hT.ext hx)
  go_enter Tryd.func18, Tryd.ntmps18
  go_wp2_with fail
  have hc1 : CellB ((w.alloc (.cells #[.slice aw nw cw, .int .i64 g] 25)).alloc (.cells #[.int .i64 0, .int .u32 0, .int .u32 0] 40)) (w.heap.size + 1) zerC := by have := World.alloc_heap_new (w.alloc (.cells #[.slice aw nw cw, .int .i64 g] 25)) (.cells #[.int .i64 0, .int .u32 0, .int .u32 0] 40); rwa [World.size_alloc] at this
  have hx0 : Ext w ((w.alloc (.cells #[.slice aw nw cw, .int .i64 g] 25)).alloc (.cells #[.int .i64 0, .int .u32 0, .int .u32 0] 40)) := (by repeat (first | exact Ext.refl _ | assumption | refine Ext.drew ?_ | refine Ext.drewN ?_ _ | refine Ext.alloc ?_ _ | refine Ext.trans ?_ (by assumption)))
  generalize ((w.alloc (.cells #[.slice aw nw cw, .int .i64 g] 25)).alloc (.cells #[.int .i64 0, .int .u32 0, .int .u32 0] 40)) = wb at *
  have hl1 := (Array.getElem?_eq_some_iff.1 hc1).1
  refine (hbeg wb hx0).mono ?_
  rintro e w2 ⟨hx2, ⟨hne, rfl⟩ | ⟨heq, p, am, capm, bm, rfl, hK⟩⟩
  · have hB : cellX ts cs ws g x = (zerC, 0) := by unfold cellX; rw [if_neg hne]
    have hEe : tieE ts cs ws g x = begE ts cs ws g := by unfold tieE; rw [if_pos hne]
    have hd : (begE ts cs ws g != 0) = true := by simpa using hne
    have hc2 : CellB w2 (w.heap.size + 1) zerC := (Below.block hx2.bel _ hl1).trans hc1
    have hxw := hx0.trans hx2
    generalize begE ts cs ws g = er at *
    replace hB := Lib.hid hB
    replace hEe := Lib.hid hEe
    clear hbeg hx2 hx0 hc1 hl1 hne
    have hz1 : zerC.kind = 0 := rfl
    have hz2 : ((zerC.s.p.toNat : Nat) : Int) = 0 := rfl
    have hz3 : ((zerC.s.m.toNat : Nat) : Int) = 0 := rfl
    replace hz1 := Lib.hid hz1
    replace hz2 := Lib.hid hz2
    replace hz3 := Lib.hid hz3
    have fin : Ext w (((w2.setCell ⟨w.heap.size + 1, 0, none⟩ (.int .i64 0)).setCell ⟨w.heap.size + 1, 1, none⟩ (.int .u32 0)).setCell ⟨w.heap.size + 1, 2, none⟩ (.int .u32 0)) ∧ CellB (((w2.setCell ⟨w.heap.size + 1, 0, none⟩ (.int .i64 0)).setCell ⟨w.heap.size + 1, 1, none⟩ (.int .u32 0)).setCell ⟨w.heap.size + 1, 2, none⟩ (.int .u32 0)) (w.heap.size + 1) zerC := by
      exact ⟨((hxw.setCell (p := ⟨w.heap.size + 1, 0, none⟩) (by simp only; omega) _).setCell (p := ⟨w.heap.size + 1, 1, none⟩) (by simp only; omega) _).setCell (p := ⟨w.heap.size + 1, 2, none⟩) (by simp only; omega) _, heap_set (heap_set (heap_set hc2 _) _) _⟩
    replace fin := Lib.hid fin
    obtain ⟨f0, f1, f2⟩ := frz3 hc2
    obtain ⟨g0, g1, g2⟩ := cells3 hc2
    have l1 := (Array.getElem?_eq_some_iff.1 hc2).1
    go_wp2_with fail
    exact bodyPost_ret (res_cell_t2 rfl _ _ (w.heap.size + 1) _ _ (0, 0) _ rfl fin.out.2 Tryd.underlying40 rfl (by kernel_rfl)) rfl ⟨by rw [hB.out, hEe.out]; rfl, fin.out.1⟩
  · have hB : cellX ts cs ws g x = bestX ts cs ws g x := by unfold cellX; rw [if_pos heq]
    have hEe : tieE ts cs ws g x = onE ts cs x := by unfold tieE; rw [if_neg (by simp [heq])]
    have hbt := best_any p a n cap ts ac nc cc cs am capm ws g bm ax l cx x w2 hK (hx.ext (hx0.trans hx2)) heq
    generalize onE ts cs x = er at *
    generalize bestX ts cs ws g x = q at *
    obtain ⟨c, z⟩ := q
    replace hB := Lib.hid hB
    replace hEe := Lib.hid hEe
    have hx02 := hx0.trans hx2
    have hc1' : CellB w2 (w.heap.size + 1) zerC := (Below.block hx2.bel _ hl1).trans hc1
    have hl1' := (Array.getElem?_eq_some_iff.1 hc1').1
    clear hbeg hx0 hx2 hc1 hl1 hK
    replace heq := Lib.hid heq
    go_wp2_with fail
    obtain ⟨w1, hw1⟩ : ∃ y, y = w2 := ⟨_, rfl⟩
    rw [← hw1] at hx02 hc1' hl1' hbt
    rw [← hw1]
    clear hw1 w2
    refine hbt.mono ?_
    rintro e w2 ⟨rfl, hx3⟩
    have hc2 : CellB w2 (w.heap.size + 1) zerC := (Below.block hx3.bel _ hl1').trans hc1'
    have hxw := hx02.trans hx3
    clear hc1' hl1' hx3 hx02
    have fin : Ext w (((w2.setCell ⟨w.heap.size + 1, 0, none⟩ (.int .i64 c.kind)).setCell ⟨w.heap.size + 1, 1, none⟩ (.int .u32 c.s.p.toNat)).setCell ⟨w.heap.size + 1, 2, none⟩ (.int .u32 c.s.m.toNat)) ∧ CellB (((w2.setCell ⟨w.heap.size + 1, 0, none⟩ (.int .i64 c.kind)).setCell ⟨w.heap.size + 1, 1, none⟩ (.int .u32 c.s.p.toNat)).setCell ⟨w.heap.size + 1, 2, none⟩ (.int .u32 c.s.m.toNat)) (w.heap.size + 1) c := by
      exact ⟨((hxw.setCell (p := ⟨w.heap.size + 1, 0, none⟩) (by simp only; omega) _).setCell (p := ⟨w.heap.size + 1, 1, none⟩) (by simp only; omega) _).setCell (p := ⟨w.heap.size + 1, 2, none⟩) (by simp only; omega) _, heap_set (heap_set (heap_set hc2 _) _) _⟩
    replace fin := Lib.hid fin
    obtain ⟨f0, f1, f2⟩ := frz3 hc2
    obtain ⟨g0, g1, g2⟩ := cells3 hc2
    have l1 := (Array.getElem?_eq_some_iff.1 hc2).1
    go_wp2_with fail
    exact bodyPost_ret (res_cell_t2 rfl _ _ (w.heap.size + 1) _ _ (0, 0) _ rfl fin.out.2 Tryd.underlying40 rfl (by kernel_rfl)) rfl ⟨by rw [hB.out, hEe.out]; rfl, fin.out.1⟩
end Go.Proofs.YtdloabjnjnjacaaDoor
