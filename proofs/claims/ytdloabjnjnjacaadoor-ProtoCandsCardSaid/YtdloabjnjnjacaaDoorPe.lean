/-
  proto: Ties, Nodes.
-/
import Derived.Test.YtdloabjnjnjacaaDoorPd
namespace Go.Proofs.YtdloabjnjnjacaaDoor
open Go.RowKit Go.Shelf Go.Maps
/-- Cells of the call's own, and an error. -/
def RetCE (xs : List Cl) (err : Int) (w : World) (e : Ending) (w' : World) : Prop := ∃ v, e = .returned (.tuple #[v, .int .i64 err]) ∧ OwnC w.heap.size 40 w' v xs ∧ Ext w w'
set_option maxHeartbeats 2000000 in
set_option maxRecDepth 20000 in
theorem pties_any (a : Option Addr) (n cap : Nat) (ts : List Nd) (ax : Option Addr) (l cx : Nat) (x : List Cl) (ac : Option Addr) (nc cc : Nat) (cs : List Snd) (aw : Option Addr) (nw cw : Nat) (ws : List Int) (g : Int) (w : World)
    (hr : RdN w a n cap ts) (hx : RdC w ax l cx x) (hc : RdS w ac nc cc cs) (hw : RdI w aw nw cw ws) (hT : TabOk w) :
    Calls Tryd.prog 20 #[.slice a n cap, .slice ax l cx, .slice ac nc cc, cstV aw nw cw g] w (RetCE (tieL ts cs ws g x) (tieE ts cs ws g x) w) := by
  have hbeg := fun W (hx : Ext w W) => begin_any a n cap ts ac nc cc cs aw nw cw ws g W (hr.ext hx) (hc.ext hx) (hw.ext hx) (hT.ext hx)
  go_enter Tryd.func20, Tryd.ntmps20
  go_wp2_with fail
  have hb0 : Boxed ((w.alloc (.cells #[.slice a n cap] 32)).alloc (.cells #[.slice aw nw cw, .int .i64 g] 25)) w.heap.size 32 (.slice a n cap) := (Boxed.new w _ _).alloc _
  have hx0 : Ext w ((w.alloc (.cells #[.slice a n cap] 32)).alloc (.cells #[.slice aw nw cw, .int .i64 g] 25)) := (by repeat (first | exact Ext.refl _ | assumption | refine Ext.drew ?_ | refine Ext.drewN ?_ _ | refine Ext.alloc ?_ _ | refine Ext.trans ?_ (by assumption)))
  generalize ((w.alloc (.cells #[.slice a n cap] 32)).alloc (.cells #[.slice aw nw cw, .int .i64 g] 25)) = wb at *
  refine (hbeg wb hx0).mono ?_
  rintro e w2 ⟨hx2, ⟨hne, rfl⟩ | ⟨heq, p, am, capm, bm, rfl, hK⟩⟩
  · have hB : tieL ts cs ws g x = [] := by unfold tieL; rw [if_neg (fun h => hne h.1)]
    have hEe : tieE ts cs ws g x = begE ts cs ws g := by unfold tieE; rw [if_pos hne]
    have hd : (begE ts cs ws g != 0) = true := by simpa using hne
    have hxw := hx0.trans hx2
    generalize begE ts cs ws g = er at *
    replace hB := Lib.hid hB
    replace hEe := Lib.hid hEe
    clear hbeg hx2 hx0 hb0 hne
    go_wp2_with fail
    go_ret2
    exact ⟨_, by rw [hEe.out]; rfl, by rw [hB.out]; exact OwnK.nil _ _ _, hxw.alloc _⟩
  · have hEe : tieE ts cs ws g x = onE ts cs x := by unfold tieE; rw [if_neg (by simp [heq])]
    obtain ⟨ht, _⟩ := begE_zero heq
    have hpo := fun h => poss_of (x := x) heq h
    have hx02 := hx0.trans hx2
    have hb02 := Boxed.ext hb0 hx2
    have hon := fun B0 B1 B2 W Q (hx' : Ext w2 W) => onT_any p a n cap ts ac nc cc cs am capm (matL cs ws g) bm ax l cx x B0 B1 B2 W Q (hK.ext hx') (hx.ext (hx02.trans hx')) ht
    have hL : tieL ts cs ws g x = if onE ts cs x = 0 ∧ knownB x = true then (rootsL ts (matL cs ws g) (stL cs x)).map (cellS cs) else [] := by
      unfold tieL; by_cases h : onE ts cs x = 0 ∧ knownB x = true
      · rw [if_pos h, if_pos ⟨heq, h⟩]
      · rw [if_neg h, if_neg (fun h2 => h h2.2)]
    replace hEe := Lib.hid hEe
    replace hL := Lib.hid hL
    replace heq := Lib.hid heq
    have hwlt := hb02.lt
    clear hbeg hx0 hx2 hb0
    go_wp2_with fail
    have hb1 : Boxed ((w2.alloc (.cells #[.pointer (some ⟨p, 0, none⟩)] 70)).alloc (.cells #[.slice none 0 0] 35)) w2.heap.size 70 (.pointer (some ⟨p, 0, none⟩)) := (Boxed.new w2 _ _).alloc _
    have hb2 : Boxed ((w2.alloc (.cells #[.pointer (some ⟨p, 0, none⟩)] 70)).alloc (.cells #[.slice none 0 0] 35)) (w2.heap.size + 1) 35 (.slice none 0 0) := by have := Boxed.new (w2.alloc (.cells #[.pointer (some ⟨p, 0, none⟩)] 70)) 35 (.slice none 0 0); rwa [World.size_alloc] at this
    have hx3 : Ext w2 ((w2.alloc (.cells #[.pointer (some ⟨p, 0, none⟩)] 70)).alloc (.cells #[.slice none 0 0] 35)) := (by repeat (first | exact Ext.refl _ | assumption | refine Ext.drew ?_ | refine Ext.drewN ?_ _ | refine Ext.alloc ?_ _ | refine Ext.trans ?_ (by assumption)))
    generalize ((w2.alloc (.cells #[.pointer (some ⟨p, 0, none⟩)] 70)).alloc (.cells #[.slice none 0 0] 35)) = w3 at *
    have hle2 := hx02.le
    refine (hon w.heap.size w2.heap.size (w2.heap.size + 1) w3 (fun w' => Ext w w' ∧ ∃ v, Boxed w' (w2.heap.size + 1) 35 v ∧ OwnC w.heap.size 40 w' v ((rootsL ts (matL cs ws g) (stL cs x)).map (cellS cs))) hx3
      (fun hE W az ls cps hW hown _ => ties1_any p a n cap ts ac nc cc cs am capm (matL cs ws g) bm az ls cps (stL cs x) _ _ _ _ w W (hK.ext (hx3.trans hW)) (OwnK.rdc I64.len hown) (hpo hE) (Boxed.ext hb02 (hx3.trans hW)) (Boxed.ext hb1 hW) (Boxed.ext hb2 hW) (hx02.trans (hx3.trans hW)) (by omega))).mono ?_
    rintro e w4 (⟨hno, rfl, hx4⟩ | ⟨hE, hkn, rfl, hx4, v, hz4, hown4⟩)
    · have hz4 := Boxed.ext hb2 hx4
      have hB : tieL ts cs ws g x = [] := by rw [hL.out, if_neg hno]
      have k1 := hz4.cell
      have l1 := hz4.lt
      have hxw := hx02.trans (hx3.trans hx4)
      generalize hEr : onE ts cs x = er at *
      replace hEr := Lib.hid hEr
      replace hB := Lib.hid hB
      clear hon hpo hb1 hb2 hno
      go_wp2_with fail
      go_ret2
      exact ⟨_, by rw [hEe.out]; rfl, by rw [hB.out]; exact OwnK.nil _ _ _, hxw⟩
    · have hB : tieL ts cs ws g x = (rootsL ts (matL cs ws g) (stL cs x)).map (cellS cs) := by rw [hL.out, if_pos ⟨hE, hkn⟩]
      have k1 := hz4.cell
      have l1 := hz4.lt
      replace hE := Lib.hid hE
      replace hkn := Lib.hid hkn
      replace hB := Lib.hid hB
      clear hon hpo hb1 hb2
      go_wp2_with fail
      go_ret2
      exact ⟨_, by rw [hEe.out, hE.out]; rfl, by rw [hB.out]; exact hown4, hx4⟩
theorem zcells_own (w : World) (n : Nat) (hn : n ≤ 60000) : OwnC w.heap.size 40 (w.alloc (.cells (madeCells (Value.agg #[.int .i64 0, .int .u32 0, .int .u32 0]).cells (n * 3)) 40)) (.slice (some ⟨w.heap.size, 0, none⟩) n n) (List.replicate n zerC) :=
  made_own Cl.len (by decide) w 40 _ zerC rfl n hn
theorem mk_cells (n : Nat) (hn : n ≤ 60000) (w : World) : (Instr.makeSlice 35 (.int .i64 (n : Int)) (.int .i64 (n : Int))).run Tryd.prog w = .ok (.slice (some ⟨w.heap.size, 0, none⟩) n n) (w.alloc (.cells (madeCells (Value.agg #[.int .i64 0, .int .u32 0, .int .u32 0]).cells (n * 3)) 40)) :=
  run_mk 35 Tryd.underlying35 info_cl n hn (by omega) w
set_option maxHeartbeats 2000000 in
set_option maxRecDepth 20000 in
theorem pnodes_any (a : Option Addr) (n cap : Nat) (ts : List Nd) (ax : Option Addr) (l cx : Nat) (x : List Cl) (ac : Option Addr) (nc cc : Nat) (cs : List Snd) (aw : Option Addr) (nw cw : Nat) (ws : List Int) (g : Int) (w : World)
    (hr : RdN w a n cap ts) (hx : RdC w ax l cx x) (hc : RdS w ac nc cc cs) (hw : RdI w aw nw cw ws) (hT : TabOk w) :
    Calls Tryd.prog 27 #[.slice a n cap, .slice ax l cx, .slice ac nc cc, cstV aw nw cw g] w (RetCE (nodeL ts cs ws g x) (tieE ts cs ws g x) w) := by
  have hbeg := fun W (hx : Ext w W) => begin_any a n cap ts ac nc cc cs aw nw cw ws g W (hr.ext hx) (hc.ext hx) (hw.ext hx) (hT.ext hx)
  have hnl := hr.rd.len
  go_enter Tryd.func27, Tryd.ntmps27
  go_wp2_with fail
  have hb0 : Boxed ((w.alloc (.cells #[.slice a n cap] 32)).alloc (.cells #[.slice aw nw cw, .int .i64 g] 25)) w.heap.size 32 (.slice a n cap) := (Boxed.new w _ _).alloc _
  have hx0 : Ext w ((w.alloc (.cells #[.slice a n cap] 32)).alloc (.cells #[.slice aw nw cw, .int .i64 g] 25)) := (by repeat (first | exact Ext.refl _ | assumption | refine Ext.drew ?_ | refine Ext.drewN ?_ _ | refine Ext.alloc ?_ _ | refine Ext.trans ?_ (by assumption)))
  generalize ((w.alloc (.cells #[.slice a n cap] 32)).alloc (.cells #[.slice aw nw cw, .int .i64 g] 25)) = wb at *
  refine (hbeg wb hx0).mono ?_
  rintro e w2 ⟨hx2, ⟨hne, rfl⟩ | ⟨heq, p, am, capm, bm, rfl, hK⟩⟩
  · have hB : nodeL ts cs ws g x = [] := by unfold nodeL; rw [if_neg (fun h => hne h.1)]
    have hEe : tieE ts cs ws g x = begE ts cs ws g := by unfold tieE; rw [if_pos hne]
    have hd : (begE ts cs ws g != 0) = true := by simpa using hne
    have hxw := hx0.trans hx2
    generalize begE ts cs ws g = er at *
    replace hB := Lib.hid hB
    replace hEe := Lib.hid hEe
    replace hnl := Lib.hid hnl
    clear hbeg hx2 hx0 hb0 hne
    go_wp2_with fail
    go_ret2
    exact ⟨_, by rw [hEe.out]; rfl, by rw [hB.out]; exact OwnK.nil _ _ _, hxw.alloc _⟩
  · have hEe : tieE ts cs ws g x = onE ts cs x := by unfold tieE; rw [if_neg (by simp [heq])]
    obtain ⟨ht, _⟩ := begE_zero heq
    have hn63 : n ≤ 63 := by rw [← hnl]; exact (tree_len ht).2
    have hmk := fun W => mk_cells n (by omega) W
    have hpo := fun h => poss_of (x := x) heq h
    have hx02 := hx0.trans hx2
    have hb02 := Boxed.ext hb0 hx2
    have hk0 := hb02.cell
    have hon := fun B0 B1 B2 W Q (hx' : Ext w2 W) => onN_any p a n cap ts ac nc cc cs am capm (matL cs ws g) bm ax l cx x B0 B1 B2 W Q (hK.ext hx') (hx.ext (hx02.trans hx')) ht
    have hL : nodeL ts cs ws g x = if onE ts cs x = 0 then (if knownB x = true then (bestS ts (matL cs ws g) (stL cs x)).map (cellS cs) else List.replicate n zerC) else [] := by
      unfold nodeL; by_cases h : onE ts cs x = 0
      · rw [if_pos h, if_pos ⟨heq, h⟩, hnl]
      · rw [if_neg h, if_neg (fun h2 => h h2.2)]
    replace hEe := Lib.hid hEe
    replace hL := Lib.hid hL
    replace heq := Lib.hid heq
    replace hnl := Lib.hid hnl
    have hwlt := hb02.lt
    clear hbeg hx0 hx2 hb0
    go_wp2_with fail
    have hb1 : Boxed (((w2.alloc (.cells #[.pointer (some ⟨p, 0, none⟩)] 70)).alloc (.cells (madeCells #[.int .i64 0, .int .u32 0, .int .u32 0] (n * 3)) 40)).alloc (.cells #[.slice (some ⟨w2.heap.size + 1, 0, none⟩) n n] 35)) w2.heap.size 70 (.pointer (some ⟨p, 0, none⟩)) := ((Boxed.new w2 _ _).alloc _).alloc _
    have hb2 : Boxed (((w2.alloc (.cells #[.pointer (some ⟨p, 0, none⟩)] 70)).alloc (.cells (madeCells #[.int .i64 0, .int .u32 0, .int .u32 0] (n * 3)) 40)).alloc (.cells #[.slice (some ⟨w2.heap.size + 1, 0, none⟩) n n] 35)) (w2.heap.size + 1 + 1) 35 (.slice (some ⟨w2.heap.size + 1, 0, none⟩) n n) := by have := Boxed.new ((w2.alloc (.cells #[.pointer (some ⟨p, 0, none⟩)] 70)).alloc (.cells (madeCells #[.int .i64 0, .int .u32 0, .int .u32 0] (n * 3)) 40)) 35 (.slice (some ⟨w2.heap.size + 1, 0, none⟩) n n); rwa [World.size_alloc, World.size_alloc] at this
    have ho0 : OwnC w.heap.size 40 (((w2.alloc (.cells #[.pointer (some ⟨p, 0, none⟩)] 70)).alloc (.cells (madeCells #[.int .i64 0, .int .u32 0, .int .u32 0] (n * 3)) 40)).alloc (.cells #[.slice (some ⟨w2.heap.size + 1, 0, none⟩) n n] 35)) (.slice (some ⟨w2.heap.size + 1, 0, none⟩) n n) (List.replicate n zerC) := by
      have h1 := (zcells_own (w2.alloc (.cells #[.pointer (some ⟨p, 0, none⟩)] 70)) n (by omega)).kept (Ext.alloc1 _ (.cells #[.slice (some ⟨w2.heap.size + 1, 0, none⟩) n n] 35))
      rw [World.size_alloc] at h1
      exact OwnK.base h1 (by have := hx02.le; omega)
    have hx3 : Ext w2 (((w2.alloc (.cells #[.pointer (some ⟨p, 0, none⟩)] 70)).alloc (.cells (madeCells #[.int .i64 0, .int .u32 0, .int .u32 0] (n * 3)) 40)).alloc (.cells #[.slice (some ⟨w2.heap.size + 1, 0, none⟩) n n] 35)) := (by repeat (first | exact Ext.refl _ | assumption | refine Ext.drew ?_ | refine Ext.drewN ?_ _ | refine Ext.alloc ?_ _ | refine Ext.trans ?_ (by assumption)))
    generalize (((w2.alloc (.cells #[.pointer (some ⟨p, 0, none⟩)] 70)).alloc (.cells (madeCells #[.int .i64 0, .int .u32 0, .int .u32 0] (n * 3)) 40)).alloc (.cells #[.slice (some ⟨w2.heap.size + 1, 0, none⟩) n n] 35)) = w3 at *
    have hle2 := hx02.le
    refine (hon w.heap.size w2.heap.size (w2.heap.size + 1 + 1) w3 (fun w' => Ext w w' ∧ ∃ v, Boxed w' (w2.heap.size + 1 + 1) 35 v ∧ OwnC w.heap.size 40 w' v ((bestS ts (matL cs ws g) (stL cs x)).map (cellS cs))) hx3
      (fun hE W az ls cps hW hown _ => nodes1_any p a n cap ts ac nc cc cs am capm (matL cs ws g) bm az ls cps (stL cs x) _ _ _ _ w W (hK.ext (hx3.trans hW)) (OwnK.rdc I64.len hown) (hpo hE) (Boxed.ext hb02 (hx3.trans hW)) (Boxed.ext hb1 hW) (Boxed.ext hb2 hW) (hx02.trans (hx3.trans hW)) (by omega))).mono ?_
    rintro e w4 (⟨hno, rfl, hx4⟩ | ⟨hE, hkn, rfl, hx4, v, hz4, hown4⟩)
    · have hz4 := Boxed.ext hb2 hx4
      have ho4 := ho0.kept hx4
      have k1 := hz4.cell
      have l1 := hz4.lt
      have hxw := hx02.trans (hx3.trans hx4)
      by_cases hE : onE ts cs x = 0
      · have hB : nodeL ts cs ws g x = List.replicate n zerC := by rw [hL.out, if_pos hE, if_neg (fun h => hno ⟨hE, h⟩)]
        have hd : (onE ts cs x != 0) = false := by simp [hE]
        generalize hEr : onE ts cs x = er at *
        replace hEr := Lib.hid hEr
        replace hB := Lib.hid hB
        replace hE := Lib.hid hE
        clear hon hpo hb1 hb2 hno ho0 hK
        go_wp2_with fail
        go_ret2
        exact ⟨_, by rw [hEe.out, hE.out]; rfl, by rw [hB.out]; exact ho4, hxw⟩
      · have hB : nodeL ts cs ws g x = [] := by rw [hL.out, if_neg hE]
        have hd : (onE ts cs x != 0) = true := by simp [hE]
        generalize hEr : onE ts cs x = er at *
        replace hEr := Lib.hid hEr
        replace hB := Lib.hid hB
        replace hE := Lib.hid hE
        clear hon hpo hb1 hb2 hno ho0 hK
        go_wp2_with fail
        go_ret2
        exact ⟨_, by rw [hEe.out]; rfl, by rw [hB.out]; exact OwnK.nil _ _ _, hxw⟩
    · have hB : nodeL ts cs ws g x = (bestS ts (matL cs ws g) (stL cs x)).map (cellS cs) := by rw [hL.out, if_pos hE, if_pos hkn]
      have k1 := hz4.cell
      have l1 := hz4.lt
      replace hE := Lib.hid hE
      replace hkn := Lib.hid hkn
      replace hB := Lib.hid hB
      clear hon hpo hb1 hb2 ho0 hK
      go_wp2_with fail
      go_ret2
      exact ⟨_, by rw [hEe.out, hE.out]; rfl, by rw [hB.out]; exact hown4, hx4⟩
end Go.Proofs.YtdloabjnjnjacaaDoor
