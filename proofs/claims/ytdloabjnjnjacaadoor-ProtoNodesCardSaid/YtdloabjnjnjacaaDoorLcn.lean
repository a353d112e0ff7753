/-
  The laws ProtoCosts and ProtoNodes: the walks.
-/
import Derived.Test.YtdloabjnjnjacaaDoorLs
import Derived.Test.YtdloabjnjnjacaaDoorPu
namespace Go.Proofs.YtdloabjnjnjacaaDoor
open Go.RowKit Go.Shelf
set_option maxHeartbeats 4000000 in
set_option maxRecDepth 20000 in
theorem protoCosts_any (a : Option Addr) (n cap : Nat) (ts : List Nd) (ac : Option Addr) (nc cc : Nat) (cs : List Snd) (aw : Option Addr) (nw cw : Nat) (ws : List Int) (g : Int) (ax : Option Addr) (l cx : Nat) (x : List Cl) (w : World)
    (hr : RdN w a n cap ts) (hc : RdS w ac nc cc cs) (hw : RdI w aw nw cw ws) (hx : RdC w ax l cx x) (hT : TabOk w) :
    Calls Tryd.prog 10 #[caseV a n cap ac nc cc aw nw cw g, .slice ax l cx] w fun e w' => e = .returned (.bool true) ∧ Ext w w' := by
  have hn1 := len_int hr.rd
  have hn2 := len_int hc
  have hn3 := len_int hw
  have hp := fun W (z : Ext w W) => pcost_any a n cap ts ax l cx x ac nc cc cs aw nw cw ws g W (hr.ext z) (hx.ext z) (hc.ext z) (hw.ext z) (hT.ext z)
  have hq := fun W (z : Ext w W) => rcost_any a n cap ts ax l cx x ac nc cc cs aw nw cw ws g W (hr.ext z) (hx.ext z) (hc.ext z) (hw.ext z)
  by_cases h1 : 70 < n
  · have d1 : decide (70 < n) = true := by simpa using h1
    go_enter Tryd.func10, Tryd.ntmps10
    go_wp2_with fail
    refine (works_any _ (hT.ext (by repeat (first | exact Ext.refl _ | assumption | refine Ext.drew ?_ | refine Ext.drewN ?_ _ | refine Ext.alloc ?_ _ | refine Ext.trans ?_ (by assumption))))).mono ?_
    rintro e wz ⟨rfl, hxz⟩
    go_wp2_with fail
    go_ret
    exact ⟨rfl, (by repeat (first | exact Ext.refl _ | assumption | refine Ext.drew ?_ | refine Ext.drewN ?_ _ | refine Ext.alloc ?_ _ | refine Ext.trans ?_ (by assumption)))⟩
  have d1 : decide (70 < n) = false := by simpa using h1
  by_cases h2 : 20 < nc
  · have d2 : decide (20 < nc) = true := by simpa using h2
    go_enter Tryd.func10, Tryd.ntmps10
    go_wp2_with fail
    refine (works_any _ (hT.ext (by repeat (first | exact Ext.refl _ | assumption | refine Ext.drew ?_ | refine Ext.drewN ?_ _ | refine Ext.alloc ?_ _ | refine Ext.trans ?_ (by assumption))))).mono ?_
    rintro e wz ⟨rfl, hxz⟩
    go_wp2_with fail
    go_ret
    exact ⟨rfl, (by repeat (first | exact Ext.refl _ | assumption | refine Ext.drew ?_ | refine Ext.drewN ?_ _ | refine Ext.alloc ?_ _ | refine Ext.trans ?_ (by assumption)))⟩
  have d2 : decide (20 < nc) = false := by simpa using h2
  by_cases h3 : 30 < nw
  · have d3 : decide (30 < nw) = true := by simpa using h3
    go_enter Tryd.func10, Tryd.ntmps10
    go_wp2_with fail
    refine (works_any _ (hT.ext (by repeat (first | exact Ext.refl _ | assumption | refine Ext.drew ?_ | refine Ext.drewN ?_ _ | refine Ext.alloc ?_ _ | refine Ext.trans ?_ (by assumption))))).mono ?_
    rintro e wz ⟨rfl, hxz⟩
    go_wp2_with fail
    go_ret
    exact ⟨rfl, (by repeat (first | exact Ext.refl _ | assumption | refine Ext.drew ?_ | refine Ext.drewN ?_ _ | refine Ext.alloc ?_ _ | refine Ext.trans ?_ (by assumption)))⟩
  have d3 : decide (30 < nw) = false := by simpa using h3
  go_enter Tryd.func10, Tryd.ntmps10
  go_wp2_with fail
  refine (hp _ (Ext.alloc1 _ _)).mono ?_
  rintro e w1 ⟨rfl, hx1⟩
  have hb0 := (hx1).cellv (cell_new_list w [.slice a n cap, .slice ac nc cc, .slice aw nw cw, .int .i64 g] 34 0 _ rfl)
  have hb1 := (hx1).cellv (cell_new_list w [.slice a n cap, .slice ac nc cc, .slice aw nw cw, .int .i64 g] 34 1 _ rfl)
  have hb2 := (hx1).cellv (cell_new_list w [.slice a n cap, .slice ac nc cc, .slice aw nw cw, .int .i64 g] 34 2 _ rfl)
  have hb3 := (hx1).cellv (cell_new_list w [.slice a n cap, .slice ac nc cc, .slice aw nw cw, .int .i64 g] 34 3 _ rfl)
  have hlt : w.heap.size < w1.heap.size := by have := hx1.le; simp at this; omega
  have hxw1 : Ext w w1 := (by repeat (first | exact Ext.refl _ | assumption | refine Ext.drew ?_ | refine Ext.drewN ?_ _ | refine Ext.alloc ?_ _ | refine Ext.trans ?_ (by assumption)))
  have hq1 := hq _ hxw1
  clear hp hq hx1
  unfold CostRet at hq1
  generalize allC ts cs ws g x = c1 at *
  generalize allE ts cs ws g x = c2 at *
  go_wp2_with fail
  refine hq1.mono ?_
  rintro e w2 ⟨rfl, hx2⟩
  have hxw2 := hxw1.trans hx2
  clear hq1 hb0 hb1 hb2 hb3 hlt hx2 hxw1
  go_wp2_with fail
  refine (works_any _ (hT.ext (by repeat (first | exact Ext.refl _ | assumption | refine Ext.drew ?_ | refine Ext.drewN ?_ _ | refine Ext.alloc ?_ _ | refine Ext.trans ?_ (by assumption))))).mono ?_
  rintro e wz ⟨rfl, hxz⟩
  go_wp2_with fail
  go_ret
  exact ⟨rfl, (by repeat (first | exact Ext.refl _ | assumption | refine Ext.drew ?_ | refine Ext.drewN ?_ _ | refine Ext.alloc ?_ _ | refine Ext.trans ?_ (by assumption)))⟩
set_option maxHeartbeats 4000000 in
set_option maxRecDepth 20000 in
theorem protoNodes_any (a : Option Addr) (n cap : Nat) (ts : List Nd) (ac : Option Addr) (nc cc : Nat) (cs : List Snd) (aw : Option Addr) (nw cw : Nat) (ws : List Int) (g : Int) (ax : Option Addr) (l cx : Nat) (x : List Cl) (w : World)
    (hr : RdN w a n cap ts) (hc : RdS w ac nc cc cs) (hw : RdI w aw nw cw ws) (hx : RdC w ax l cx x) (hT : TabOk w) :
    Calls Tryd.prog 9 #[caseV a n cap ac nc cc aw nw cw g, .slice ax l cx] w fun e w' => e = .returned (.bool true) ∧ Ext w w' := by
  have hs := fun W => small_any a n cap ac nc cc aw nw cw g W (len_int hr.rd) (len_int hc) (len_int hw)
  generalize smallB n nc nw = s at *
  have hp := fun W (z : Ext w W) => pnodes_any a n cap ts ax l cx x ac nc cc cs aw nw cw ws g W (hr.ext z) (hx.ext z) (hc.ext z) (hw.ext z) (hT.ext z)
  have hq := fun W (z : Ext w W) => rnodes_any a n cap ts ax l cx x ac nc cc cs aw nw cw ws g W (hr.ext z) (hx.ext z) (hc.ext z) (hw.ext z)
  unfold RetCE at hp hq
  generalize nodeL ts cs ws g x = nl at *
  generalize tieE ts cs ws g x = ne at *
  go_enter Tryd.func9, Tryd.ntmps9
  go_wp2_with fail
  refine (hs _).mono ?_
  rintro e w1 ⟨rfl, hx1⟩
  have hb0 := (hx1).cellv (cell_new_list w [.slice a n cap, .slice ac nc cc, .slice aw nw cw, .int .i64 g] 34 0 _ rfl)
  have hb1 := (hx1).cellv (cell_new_list w [.slice a n cap, .slice ac nc cc, .slice aw nw cw, .int .i64 g] 34 1 _ rfl)
  have hb2 := (hx1).cellv (cell_new_list w [.slice a n cap, .slice ac nc cc, .slice aw nw cw, .int .i64 g] 34 2 _ rfl)
  have hb3 := (hx1).cellv (cell_new_list w [.slice a n cap, .slice ac nc cc, .slice aw nw cw, .int .i64 g] 34 3 _ rfl)
  have hlt : w.heap.size < w1.heap.size := by have := hx1.le; simp at this; omega
  have hxw1 : Ext w w1 := (by repeat (first | exact Ext.refl _ | assumption | refine Ext.drew ?_ | refine Ext.drewN ?_ _ | refine Ext.alloc ?_ _ | refine Ext.trans ?_ (by assumption)))
  have hp1 := hp _ hxw1
  clear hp hs hx1
  cases s
  · go_wp2_with fail
    refine (works_any _ (hT.ext (by repeat (first | exact Ext.refl _ | assumption | refine Ext.drew ?_ | refine Ext.drewN ?_ _ | refine Ext.alloc ?_ _ | refine Ext.trans ?_ (by assumption))))).mono ?_
    rintro e wz ⟨rfl, hxz⟩
    go_wp2_with fail
    go_ret
    exact ⟨rfl, (by repeat (first | exact Ext.refl _ | assumption | refine Ext.drew ?_ | refine Ext.drewN ?_ _ | refine Ext.alloc ?_ _ | refine Ext.trans ?_ (by assumption)))⟩
  go_wp2_with fail
  refine hp1.mono ?_
  rintro e w2 ⟨v1, rfl, ho1, hx2⟩
  have hb0' := hx2.cellv hb0
  have hb1' := hx2.cellv hb1
  have hb2' := hx2.cellv hb2
  have hb3' := hx2.cellv hb3
  have hlt2 : w.heap.size < w2.heap.size := cell_lt hb0'
  have hxw2 := hxw1.trans hx2
  have hq2 := hq _ hxw2
  obtain ⟨a1, m1, k1, e1, rfl, hr1⟩ := OwnK.rdn Cl.len ho1
  replace e1 := Lib.hid e1
  clear hq hp1 hb0 hb1 hb2 hb3 hlt hxw1 hx2 ho1
  go_wp2_with fail
  refine hq2.mono ?_
  rintro e w3 ⟨v2, rfl, ho2, hx3⟩
  obtain ⟨a2, m2, k2, e2, rfl, hr2⟩ := OwnK.rdn Cl.len ho2
  replace e2 := Lib.hid e2
  have hxw3 := hxw2.trans hx3
  have heq := lequal_any a1 m1 k1 nl a2 m2 k2 nl w3 (hr1.ext hx3) hr2
  rw [decide_eq_true rfl] at heq
  clear hq2 hb0' hb1' hb2' hb3' hlt2 hxw2 hx3 ho2
  go_wp2_with fail
  refine heq.mono ?_
  rintro e w4 ⟨rfl, hx4⟩
  have hxw4 := hxw3.trans hx4
  clear heq hxw3 hx4
  go_wp2_with fail
  refine (works_any _ (hT.ext (by repeat (first | exact Ext.refl _ | assumption | refine Ext.drew ?_ | refine Ext.drewN ?_ _ | refine Ext.alloc ?_ _ | refine Ext.trans ?_ (by assumption))))).mono ?_
  rintro e wz ⟨rfl, hxz⟩
  go_wp2_with fail
  go_ret
  exact ⟨rfl, (by repeat (first | exact Ext.refl _ | assumption | refine Ext.drew ?_ | refine Ext.drewN ?_ _ | refine Ext.alloc ?_ _ | refine Ext.trans ?_ (by assumption)))⟩
end Go.Proofs.YtdloabjnjnjacaaDoor
