/-
  The law ProtoCells: the walk.
-/
import Derived.Test.YtdloabjnjnjacaaDoorLs
import Derived.Test.YtdloabjnjnjacaaDoorPs
namespace Go.Proofs.YtdloabjnjnjacaaDoor
open Go.RowKit Go.Shelf
set_option maxHeartbeats 8000000 in
set_option maxRecDepth 20000 in
theorem protoCells_any (a : Option Addr) (n cap : Nat) (ts : List Nd) (ac : Option Addr) (nc cc : Nat) (cs : List Snd) (aw : Option Addr) (nw cw : Nat) (ws : List Int) (g : Int) (ax : Option Addr) (l cx : Nat) (x : List Cl) (w : World)
    (hr : RdN w a n cap ts) (hc : RdS w ac nc cc cs) (hw : RdI w aw nw cw ws) (hx : RdC w ax l cx x) (hT : TabOk w) :
    Calls Tryd.prog 4 #[caseV a n cap ac nc cc aw nw cw g, .slice ax l cx] w fun e w' => e = .returned (.bool true) ∧ Ext w w' := by
  have hs := fun W => small_any a n cap ac nc cc aw nw cw g W (len_int hr.rd) (len_int hc) (len_int hw)
  generalize smallB n nc nw = s at *
  have hp := fun W (z : Ext w W) => pcellX_any a n cap ts ax l cx x ac nc cc cs aw nw cw ws g W (hr.ext z) (hx.ext z) (hc.ext z) (hw.ext z) (hT.ext z)
  have hq := fun W (z : Ext w W) => rcellX_any a n cap ts ax l cx x ac nc cc cs aw nw cw ws g W (hr.ext z) (hx.ext z) (hc.ext z) (hw.ext z)
  have ht := fun W (z : Ext w W) => pties_any a n cap ts ax l cx x ac nc cc cs aw nw cw ws g W (hr.ext z) (hx.ext z) (hc.ext z) (hw.ext z) (hT.ext z)
  have hu := fun W (z : Ext w W) => rties_any a n cap ts ax l cx x ac nc cc cs aw nw cw ws g W (hr.ext z) (hx.ext z) (hc.ext z) (hw.ext z)
  unfold CellRet at hp hq
  unfold RetCE at ht hu
  generalize cellX ts cs ws g x = cl at *
  generalize tieL ts cs ws g x = tl at *
  generalize tieE ts cs ws g x = te at *
  obtain ⟨c1, k1⟩ := cl
  simp only at hp hq
  go_enter Tryd.func4, Tryd.ntmps4
  go_wp2_with fail
  refine (hs _).mono ?_
  rintro e w1 ⟨rfl, hx1⟩
  have hb0 := (hx1).cellv (cell_new_list w [.slice a n cap, .slice ac nc cc, .slice aw nw cw, .int .i64 g] 34 0 _ rfl)
  have hb1 := (hx1).cellv (cell_new_list w [.slice a n cap, .slice ac nc cc, .slice aw nw cw, .int .i64 g] 34 1 _ rfl)
  have hb2 := (hx1).cellv (cell_new_list w [.slice a n cap, .slice ac nc cc, .slice aw nw cw, .int .i64 g] 34 2 _ rfl)
  have hb3 := (hx1).cellv (cell_new_list w [.slice a n cap, .slice ac nc cc, .slice aw nw cw, .int .i64 g] 34 3 _ rfl)
  have hlt : w.heap.size < w1.heap.size := by have := hx1.le; simp at this; omega
  have hxw1 : Ext w w1 := (by repeat (first | exact Ext.refl _ | assumption | refine Ext.drew ?_ | refine Ext.drewN ?_ _ | refine Ext.alloc ?_ _ | refine Ext.trans ?_ (by assumption)))
  have hp1 := hp _ hxw1
  clear hp hs hx1
  cases s
  · go_wp2_with fail
    refine (works_any _ (hT.ext (by repeat (first | exact Ext.refl _ | assumption | refine Ext.drew ?_ | refine Ext.drewN ?_ _ | refine Ext.alloc ?_ _ | refine Ext.trans ?_ (by assumption))))).mono ?_
    rintro e wz ⟨rfl, hxz⟩
    go_wp2_with fail
    go_ret
    exact ⟨rfl, (by repeat (first | exact Ext.refl _ | assumption | refine Ext.drew ?_ | refine Ext.drewN ?_ _ | refine Ext.alloc ?_ _ | refine Ext.trans ?_ (by assumption)))⟩
  go_wp2_with fail
  refine hp1.mono ?_
  rintro e w2 ⟨rfl, hx2⟩
  have hb0' := hx2.cellv hb0
  have hb1' := hx2.cellv hb1
  have hb2' := hx2.cellv hb2
  have hb3' := hx2.cellv hb3
  have hlt2 : w.heap.size < w2.heap.size := cell_lt hb0'
  have hxw2 := hxw1.trans hx2
  clear hp1 hb0 hb1 hb2 hb3 hlt hxw1 hx2
  go_wp2_with fail
  have hblk := World.alloc_heap_new w2 (.cells #[.int .i64 c1.kind, .int .u32 c1.s.p.toNat, .int .u32 c1.s.m.toNat] 40)
  have hxa : Ext w2 (w2.alloc (.cells #[.int .i64 c1.kind, .int .u32 c1.s.p.toNat, .int .u32 c1.s.m.toNat] 40)) := Ext.alloc1 _ _
  generalize (w2.alloc (.cells #[.int .i64 c1.kind, .int .u32 c1.s.p.toNat, .int .u32 c1.s.m.toNat] 40)) = wa at *
  generalize w2.heap.size = q2 at *
  have hxwa := hxw2.trans hxa
  refine (hq _ hxwa).mono ?_
  rintro e w3 ⟨rfl, hx3⟩
  have hxa3 := hxa.trans hx3
  have hb0 := hxa3.cellv hb0'
  have hb1 := hxa3.cellv hb1'
  have hb2 := hxa3.cellv hb2'
  have hb3 := hxa3.cellv hb3'
  have hlt3 : w.heap.size < w3.heap.size := cell_lt hb0
  have hxw3 := hxwa.trans hx3
  obtain ⟨g0', g1', g2'⟩ := cells3 hblk
  have g0 := hx3.cellv g0'
  have g1 := hx3.cellv g1'
  have g2 := hx3.cellv g2'
  have hlq : q2 < w3.heap.size := cell_lt g0
  clear hq hb0' hb1' hb2' hb3' hlt2 hxw2 hxa hx3 hxwa hblk g0' g1' g2' hxa3
  go_wp2_with fail
  have hblk := World.alloc_heap_new w3 (.cells #[.int .i64 c1.kind, .int .u32 c1.s.p.toNat, .int .u32 c1.s.m.toNat] 40)
  have hxa : Ext w3 (w3.alloc (.cells #[.int .i64 c1.kind, .int .u32 c1.s.p.toNat, .int .u32 c1.s.m.toNat] 40)) := Ext.alloc1 _ _
  generalize (w3.alloc (.cells #[.int .i64 c1.kind, .int .u32 c1.s.p.toNat, .int .u32 c1.s.m.toNat] 40)) = wb at *
  generalize w3.heap.size = q3 at *
  have hxwb := hxw3.trans hxa
  obtain ⟨f0, f1, f2⟩ := cells3 hblk
  refine (ht _ hxwb).mono ?_
  rintro e w4 ⟨v1, rfl, ho1, hx4⟩
  obtain ⟨a1, m1, j1, e1, rfl, hr1⟩ := OwnK.rdn Cl.len ho1
  replace e1 := Lib.hid e1
  have hxa4 := hxa.trans hx4
  have kb0 := hxa4.cellv hb0
  have kb1 := hxa4.cellv hb1
  have kb2 := hxa4.cellv hb2
  have kb3 := hxa4.cellv hb3
  have kg0 := hxa4.cellv g0
  have kg1 := hxa4.cellv g1
  have kg2 := hxa4.cellv g2
  have kf0 := hx4.cellv f0
  have kf1 := hx4.cellv f1
  have kf2 := hx4.cellv f2
  have hlt4 : w.heap.size < w4.heap.size := cell_lt kb0
  have hlq4 : q2 < w4.heap.size := cell_lt kg0
  have hlf4 : q3 < w4.heap.size := cell_lt kf0
  have hxw4 := hxwb.trans hx4
  clear ht hb0 hb1 hb2 hb3 hlt3 hlq g0 g1 g2 f0 f1 f2 hblk hxa hxwb hx4 hxa4 hxw3 ho1
  go_wp2_with fail
  refine (hu _ hxw4).mono ?_
  rintro e w5 ⟨v2, rfl, ho2, hx5⟩
  obtain ⟨a2, m2, j2, e2, rfl, hr2⟩ := OwnK.rdn Cl.len ho2
  replace e2 := Lib.hid e2
  have lg0 := hx5.cellv kg0
  have lg1 := hx5.cellv kg1
  have lg2 := hx5.cellv kg2
  have lf0 := hx5.cellv kf0
  have lf1 := hx5.cellv kf1
  have lf2 := hx5.cellv kf2
  have hlq5 : q2 < w5.heap.size := cell_lt lg0
  have hlf5 : q3 < w5.heap.size := cell_lt lf0
  have hxw5 := hxw4.trans hx5
  have heq := lequal_any a1 m1 j1 tl a2 m2 j2 tl w5 (hr1.ext hx5) hr2
  rw [decide_eq_true rfl] at heq
  have hec := eql_cl
  have hdd : decide (c1 = c1) = true := by simp
  clear hu kb0 kb1 kb2 kb3 kg0 kg1 kg2 kf0 kf1 kf2 hlt4 hlq4 hlf4 hxw4 hx5 ho2 hr1 hr2
  go_wp2_with fail
  refine heq.mono ?_
  rintro e w6 ⟨rfl, hx6⟩
  have hxw6 := hxw5.trans hx6
  clear heq hxw5 hx6 lg0 lg1 lg2 lf0 lf1 lf2 hlq5 hlf5
  go_wp2_with fail
  refine (works_any _ (hT.ext (by repeat (first | exact Ext.refl _ | assumption | refine Ext.drew ?_ | refine Ext.drewN ?_ _ | refine Ext.alloc ?_ _ | refine Ext.trans ?_ (by assumption))))).mono ?_
  rintro e wz ⟨rfl, hxz⟩
  go_wp2_with fail
  go_ret
  exact ⟨rfl, (by repeat (first | exact Ext.refl _ | assumption | refine Ext.drew ?_ | refine Ext.drewN ?_ _ | refine Ext.alloc ?_ _ | refine Ext.trans ?_ (by assumption)))⟩
end Go.Proofs.YtdloabjnjnjacaaDoor
