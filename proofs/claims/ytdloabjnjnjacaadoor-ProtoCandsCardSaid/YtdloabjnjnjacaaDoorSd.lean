/-
  sankoff: least and root.
-/
import Derived.Test.YtdloabjnjnjacaaDoorSc
namespace Go.Proofs.YtdloabjnjnjacaaDoor
open Go.RowKit
/-- A problem in a box. -/
def BoxP (w : World) (B : Nat) (a : Option Addr) (n cap : Nat) (am : Option Addr) (k capm g : Nat) : Prop := w.heap[B]? = some (.cells #[.slice a n cap, .slice am k capm, .slice (some ⟨g, 0, none⟩) n n] 114)
theorem BoxP.at {w : World} {B : Nat} {a : Option Addr} {n cap : Nat} {am : Option Addr} {k capm g : Nat} (h : BoxP w B a n cap am k capm g) :
    w.cell? ⟨B, 0, none⟩ = some (.slice a n cap) ∧ w.cell? ⟨B, 1, none⟩ = some (.slice am k capm) ∧ w.cell? ⟨B, 2, none⟩ = some (.slice (some ⟨g, 0, none⟩) n n) ∧ B < w.heap.size := by
  unfold BoxP at h
  refine ⟨?_, ?_, ?_, (Array.getElem?_eq_some_iff.1 h).1⟩ <;> simp only [World.cell?] <;> rw [h] <;> rfl
theorem BoxP.ext {w w' : World} {B : Nat} {a : Option Addr} {n cap : Nat} {am : Option Addr} {k capm g : Nat} (h : BoxP w B a n cap am k capm g) (hx : Ext w w') : BoxP w' B a n cap am k capm g :=
  (Below.block hx.bel B (Array.getElem?_eq_some_iff.1 h).1).trans h
theorem Boxed.ext {w w' : World} {B : Nat} {t : TypeId} {v : Value} (h : Boxed w B t v) (hx : Ext w w') : Boxed w' B t v := (Below.block hx.bel B h.lt).trans h
theorem root1_any (a : Option Addr) (n cap : Nat) (am : Option Addr) (k capm g B : Nat) (f : Nat → Nat → Int) (s : Nat) (w : World) (hB : BoxP w B a n cap am k capm g) (hT : RdT w g n k f) (hn : 0 < n) (hk : k ≤ 12) (hs : s < k) :
    Calls Tryd.prog 109 #[.int .i64 s, .pointer (some ⟨B, 0, none⟩)] w fun e w' => e = .returned (.int .i64 (f 0 s)) ∧ Ext w w' := by
  obtain ⟨h0, h1, h2, hlt⟩ := hB.at
  have hc := hT.cell 0 s hn hs
  have hlt2 := hT.lt
  have hs12 : s < 12 := by omega
  rw [Nat.zero_mul, Nat.zero_add] at hc
  clear hT hB
  generalize f 0 s = y at *
  go_enter Tryd.func109, Tryd.ntmps109
  go_wp2_with fail
  go_ret
  exact ⟨rfl, Ext.refl _⟩
theorem root_any (a : Option Addr) (n cap : Nat) (am : Option Addr) (k capm g : Nat) (ms : List (List Int)) (f : Nat → Nat → Int) (w : World) (hm : RdM w am k capm ms) (hmb : smB ms = true) (hT : RdT w g n k f) (hf : CostOk n k f) (hn : 0 < n) :
    Calls Tryd.prog 84 #[prV a n cap am k capm g] w fun e w' => e = .returned (.tuple #[.int .i64 (bstF (f 0) k).1, .int .i64 (bstF (f 0) k).2]) ∧ Ext w w' := by
  have hk := (smB_of hmb).2.1
  rw [RdV.len hm] at hk
  have hBest : ∀ W B, Ext w W → BoxP W B a n cap am k capm g → _ := fun W B hx hB => bestR_any a n cap am k capm ms g B (f 0) W (hm.ext hx) (fun s hs => (hf 0 s hn hs).1)
    (fun s W' hs hx' => root1_any a n cap am k capm g B f s W' (hB.ext hx') ((hT.ext hx).ext hx') hn hk hs)
  replace hk := Lib.hid hk
  clear hf hT
  go_enter Tryd.func84, Tryd.ntmps84
  go_wp2_with fail
  refine (hBest _ _ (Ext.alloc1 _ _) (World.alloc_heap_new _ _)).mono ?_
  rintro e w1 ⟨rfl, hx1⟩
  go_wp2_with fail
  go_ret2
  exact ⟨rfl, (by repeat (first | exact Ext.refl _ | assumption | refine Ext.drew ?_ | refine Ext.drewN ?_ _ | refine Ext.alloc ?_ _ | refine Ext.trans ?_ (by assumption)))⟩
theorem least1_any (a : Option Addr) (n cap : Nat) (am : Option Addr) (k capm g B Bv Bs : Nat) (ms : List (List Int)) (f : Nat → Nat → Int) (v s b : Nat) (w : World)
    (hB : BoxP w B a n cap am k capm g) (hv : Boxed w Bv 3 (.int .i64 v)) (hs : Boxed w Bs 3 (.int .i64 s)) (hm : RdM w am k capm ms) (hmb : smB ms = true) (hT : RdT w g n k f) (hf : CostOk n k f) (hvn : v < n) (hsk : s < k) (hb : b < k) :
    Calls Tryd.prog 112 #[.int .i64 b, .pointer (some ⟨B, 0, none⟩), .pointer (some ⟨Bv, 0, none⟩), .pointer (some ⟨Bs, 0, none⟩)] w fun e w' => e = .returned (.int .i64 (op (ent ms s b) (f v b))) ∧ Ext w w' := by
  obtain ⟨h0, h1, h2, hlt⟩ := hB.at
  have hcv := hv.cell
  have hcs := hs.cell
  have hlv := hv.lt
  have hls := hs.lt
  have hst := step_any a n cap am k capm ms g f v s b w hm hmb hT hf hvn hsk hb
  clear hT hB hf hm hmb hv hs
  generalize op (ent ms s b) (f v b) = y at *
  go_enter Tryd.func112, Tryd.ntmps112
  go_wp2_with fail
  refine hst.mono ?_
  rintro e w1 ⟨rfl, hx1⟩
  go_wp2_with fail
  go_ret
  exact ⟨rfl, hx1⟩
theorem op_ge (x y : Int) : -1 ≤ op x y := by unfold op; split <;> omega
set_option maxHeartbeats 1000000 in
theorem least_any (a : Option Addr) (n cap : Nat) (am : Option Addr) (k capm g : Nat) (ms : List (List Int)) (f : Nat → Nat → Int) (v s : Nat) (w : World) (hm : RdM w am k capm ms) (hmb : smB ms = true) (hT : RdT w g n k f) (hf : CostOk n k f) (hv : v < n) (hs : s < k) :
    Calls Tryd.prog 88 #[prV a n cap am k capm g, .int .i64 v, .int .i64 s] w fun e w' =>
      e = .returned (.tuple #[.int .i64 (bstF (fun b => op (ent ms s b) (f v b)) k).1, .int .i64 (bstF (fun b => op (ent ms s b) (f v b)) k).2]) ∧ Ext w w' := by
  have hBest : ∀ W B Bv Bs, Ext w W → BoxP W B a n cap am k capm g → Boxed W Bv 3 (.int .i64 v) → Boxed W Bs 3 (.int .i64 s) → _ := fun W B Bv Bs hx hB hbv hbs =>
    bestL_any a n cap am k capm ms g B Bv Bs (fun b => op (ent ms s b) (f v b)) W (hm.ext hx) (fun b hb => op_ge _ _)
      (fun b W' hb hx' => least1_any a n cap am k capm g B Bv Bs ms f v s b W' (hB.ext hx') (Boxed.ext hbv hx') (Boxed.ext hbs hx') ((hm.ext hx).ext hx') hmb ((hT.ext hx).ext hx') hf hv hs hb)
  clear hT hf
  generalize (fun b => op (ent ms s b) (f v b)) = c at *
  go_enter Tryd.func88, Tryd.ntmps88
  go_wp2_with fail
  refine (hBest _ _ _ _ (by repeat (first | exact Ext.refl _ | assumption | refine Ext.drew ?_ | refine Ext.drewN ?_ _ | refine Ext.alloc ?_ _ | refine Ext.trans ?_ (by assumption))) ?_ ?_ ?_).mono ?_
  · exact (Below.heap_alloc _ _ _ (by simp; omega)).trans ((Below.heap_alloc _ _ _ (by simp)).trans (World.alloc_heap_new w _))
  · exact (Below.heap_alloc _ _ _ (by simp)).trans (by have := World.alloc_heap_new (w.alloc (.cells #[.slice a n cap, .slice am k capm, .slice (some ⟨g, 0, none⟩) n n] 114)) (.cells #[.int .i64 v] 3); rwa [World.size_alloc] at this)
  · have := World.alloc_heap_new ((w.alloc (.cells #[.slice a n cap, .slice am k capm, .slice (some ⟨g, 0, none⟩) n n] 114)).alloc (.cells #[.int .i64 v] 3)) (.cells #[.int .i64 s] 3)
    rwa [World.size_alloc, World.size_alloc] at this
  rintro e w1 ⟨rfl, hx1⟩
  go_wp2_with fail
  go_ret2
  exact ⟨rfl, (by repeat (first | exact Ext.refl _ | assumption | refine Ext.drew ?_ | refine Ext.drewN ?_ _ | refine Ext.alloc ?_ _ | refine Ext.trans ?_ (by assumption)))⟩
end Go.Proofs.YtdloabjnjnjacaaDoor
