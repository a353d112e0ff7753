/-
  proto: tasks; a state as a cell; the states of cells.
-/
import Derived.Test.YtdloabjnjnjacaaDoorPx
import Derived.Test.YtdloabjnjnjacaaDoorMq
namespace Go.Proofs.YtdloabjnjnjacaaDoor
open Go.RowKit Go.Shelf Go.Maps
/-! ### Sounds as keys -/
theorem keyed_snd : Keyed Tryd.prog 38 := Keyed.of_law (deep_law_laid (by kernel_rfl) (m := 2) (by omega) (of_decide_eq_true (by kernel_rfl)) (by kernel_rfl) (by rw [Tryd.underlying38]))
def klS (s : Snd) : Lit := .string (keyBytes [.int .u32 s.p.toNat, .int .u32 s.m.toNat])
theorem wf_u32 (x : BitVec 32) : (Lit.int .u32 (x.toNat : Int)).wf = true := by
  have h := x.isLt
  have h0 : IntKind.u32.min = 0 := by decide
  have h1 : IntKind.u32.max = 4294967295 := by decide
  show (decide (IntKind.u32.min ≤ (x.toNat : Int)) && decide ((x.toNat : Int) ≤ IntKind.u32.max)) = true
  rw [h0, h1, Bool.and_eq_true, decide_eq_true_eq, decide_eq_true_eq]; omega
theorem wf_i64 (x : Int) (h0 : 0 ≤ x) (hx : x ≤ 4294967295) : (Lit.int .i64 x).wf = true := by
  have h0 : IntKind.i64.min = -9223372036854775808 := by decide
  have h1 : IntKind.i64.max = 9223372036854775807 := by decide
  show (decide (IntKind.i64.min ≤ x) && decide (x ≤ IntKind.i64.max)) = true
  rw [h0, h1, Bool.and_eq_true, decide_eq_true_eq, decide_eq_true_eq]; omega
theorem keyS (s : Snd) : keyOf Tryd.prog 38 (sndV s) = some (klS s) := by
  have hk : Tryd.prog.keyType 38 = true := by kernel_rfl
  have hc : Tryd.prog.cellsOf 38 = 2 := by kernel_rfl
  have hc1 : Tryd.prog.cellsOf 36 = 1 := by kernel_rfl
  obtain ⟨d, hd⟩ : ∃ d, Tryd.prog.types.size = d + 1 := ⟨Tryd.prog.types.size - 1, by have : 0 < Tryd.prog.types.size := of_decide_eq_true (by kernel_rfl); omega⟩
  have w1 := wf_u32 s.p
  have w2 := wf_u32 s.m
  unfold keyOf
  rw [Tryd.underlying38, hd]
  simp [hk, Value.formed, Tryd.underlying38, hc, Program.keyLits, Tryd.underlying36, hc1, w1, w2, klS, Value.cells]
theorem klS_inj (x y : Snd) (h : klS x = klS y) : x = y := by
  have hx := keyS x
  rw [h] at hx
  have := keyed_snd.inj hx (keyS y)
  simp only [Value.agg.injEq] at this
  refine (snd_eq_iff x y).2 ?_
  simp at this
  omega
theorem klS_lit (x : Snd) : WideAt.IsKeyLit (klS x) := isKeyLit_string _
/-! ### A task in memory -/
/-- What the map of the candidates holds. -/
def mapC (cs : List Snd) (s : Snd) : Option Lit := if s ∈ cs then some (.int .i64 (idxI cs s)) else none
structure TskOk (w : World) (p : Nat) (a : Option Addr) (n cap : Nat) (ts : List Nd) (ac : Option Addr) (nc cc : Nat) (cs : List Snd) (am : Option Addr) (capm : Nat) (ms : List (List Int)) (bm : Nat) : Prop where
  blk : w.heap[p]? = some (.cells #[.slice a n cap, .slice ac nc cc, .map (some bm), .slice am (nc + 1) capm] 81)
  rd : RdN w a n cap ts
  rc : RdS w ac nc cc cs
  rm : RdM w am (nc + 1) capm ms
  mp : MapK Tryd.prog 38 3 klS w bm nc (mapC cs)
section
variable {w : World} {p : Nat} {a : Option Addr} {n cap : Nat} {ts : List Nd} {ac : Option Addr} {nc cc : Nat} {cs : List Snd} {am : Option Addr} {capm : Nat} {ms : List (List Int)} {bm : Nat}
theorem TskOk.ext (h : TskOk w p a n cap ts ac nc cc cs am capm ms bm) {w' : World} (hx : Ext w w') : TskOk w' p a n cap ts ac nc cc cs am capm ms bm :=
  ⟨(Below.block hx.bel p (Array.getElem?_eq_some_iff.1 h.blk).1).trans h.blk, h.rd.ext hx, h.rc.ext hx, h.rm.ext hx, h.mp.kept hx⟩
theorem TskOk.at (h : TskOk w p a n cap ts ac nc cc cs am capm ms bm) :
    p < w.heap.size ∧ w.cell? ⟨p, 0, none⟩ = some (.slice a n cap) ∧ w.cell? ⟨p, 1, none⟩ = some (.slice ac nc cc) ∧ w.cell? ⟨p, 2, none⟩ = some (.map (some bm)) ∧ w.cell? ⟨p, 3, none⟩ = some (.slice am (nc + 1) capm) := by
  have hb := h.blk
  refine ⟨(Array.getElem?_eq_some_iff.1 hb).1, ?_, ?_, ?_, ?_⟩ <;> simp only [World.cell?] <;> rw [hb] <;> rfl
end
theorem info_cell3 : (Tryd.prog.info? 40).map (fun i => i.size) = some 3 := by kernel_rfl
theorem pcell_any (p : Nat) (ac : Option Addr) (nc cc : Nat) (cs : List Snd) (s : Int) (w : World) (hp : w.cell? ⟨p, 1, none⟩ = some (.slice ac nc cc)) (hpl : p < w.heap.size) (hc : RdS w ac nc cc cs) (h0 : 0 ≤ s) (h1 : s ≤ nc) :
    Calls Tryd.prog 52 #[.pointer (some ⟨p, 0, none⟩), .int .i64 s] w fun e w' => e = .returned (clV (cellS cs s)) ∧ Ext w w' := by
  have hl := hc.len
  obtain ⟨k, rfl⟩ := Int.eq_ofNat_of_zero_le h0
  by_cases hk : k = nc
  · have hC : cellS cs (k : Int) = gapC := by unfold cellS; rw [if_pos (by omega)]
    rw [hC]
    have hd : ((k : Int) == (nc : Int)) = true := by simp; omega
    replace hk := Lib.hid hk
    replace hl := Lib.hid hl
    replace hC := Lib.hid hC
    go_enter Tryd.func52, Tryd.ntmps52
    go_wp2_with fail
    exact bodyPost_ret (results_cell_row rfl _ _ w.heap.size _ _ (0, 0) _ rfl (World.alloc_heap_new w _) Tryd.underlying40 rfl (by kernel_rfl)) rfl ⟨rfl, (by repeat (first | exact Ext.refl _ | assumption | refine Ext.drew ?_ | refine Ext.drewN ?_ _ | refine Ext.alloc ?_ _ | refine Ext.trans ?_ (by assumption)))⟩
  · have hlt : k < nc := by omega
    obtain ⟨b, off, y, rfl, hy, hb, hc0, hc1⟩ := hc.snd hlt
    have hC : cellS cs (k : Int) = ⟨2, y⟩ := by
      unfold cellS; rw [if_neg (by omega), Int.toNat_natCast, List.getD_eq_getElem?_getD, hy.out]; rfl
    rw [hC]
    have hd : ((k : Int) == (nc : Int)) = false := by simp; omega
    replace hl := Lib.hid hl
    replace hC := Lib.hid hC
    go_enter Tryd.func52, Tryd.ntmps52
    go_wp2_with fail
    exact bodyPost_ret (results_cell_row rfl _ _ w.heap.size _ _ (0, 0) _ rfl (World.alloc_heap_new w _) Tryd.underlying40 rfl (by kernel_rfl)) rfl ⟨rfl, (by repeat (first | exact Ext.refl _ | assumption | refine Ext.drew ?_ | refine Ext.drewN ?_ _ | refine Ext.alloc ?_ _ | refine Ext.trans ?_ (by assumption)))⟩
theorem rcell_any (ac : Option Addr) (nc cc : Nat) (cs : List Snd) (s : Int) (w : World) (hc : RdS w ac nc cc cs) (h0 : 0 ≤ s) (h1 : s ≤ nc) :
    Calls Tryd.prog 55 #[.int .i64 s, .slice ac nc cc] w fun e w' => e = .returned (clV (cellS cs s)) ∧ Ext w w' := by
  have hl := hc.len
  obtain ⟨k, rfl⟩ := Int.eq_ofNat_of_zero_le h0
  by_cases hk : k = nc
  · have hC : cellS cs (k : Int) = gapC := by unfold cellS; rw [if_pos (by omega)]
    rw [hC]
    have hd : ((k : Int) == (nc : Int)) = true := by simp; omega
    replace hk := Lib.hid hk
    replace hl := Lib.hid hl
    replace hC := Lib.hid hC
    go_enter Tryd.func55, Tryd.ntmps55
    go_wp2_with fail
    exact bodyPost_ret (results_cell_row rfl _ _ w.heap.size _ _ (0, 0) _ rfl (World.alloc_heap_new w _) Tryd.underlying40 rfl (by kernel_rfl)) rfl ⟨rfl, (by repeat (first | exact Ext.refl _ | assumption | refine Ext.drew ?_ | refine Ext.drewN ?_ _ | refine Ext.alloc ?_ _ | refine Ext.trans ?_ (by assumption)))⟩
  · have hlt : k < nc := by omega
    obtain ⟨b, off, y, rfl, hy, hb, hc0, hc1⟩ := hc.snd hlt
    have hC : cellS cs (k : Int) = ⟨2, y⟩ := by
      unfold cellS; rw [if_neg (by omega), Int.toNat_natCast, List.getD_eq_getElem?_getD, hy.out]; rfl
    rw [hC]
    have hd : ((k : Int) == (nc : Int)) = false := by simp; omega
    replace hl := Lib.hid hl
    replace hC := Lib.hid hC
    go_enter Tryd.func55, Tryd.ntmps55
    go_wp2_with fail
    exact bodyPost_ret (results_cell_row rfl _ _ w.heap.size _ _ (0, 0) _ rfl (World.alloc_heap_new w _) Tryd.underlying40 rfl (by kernel_rfl)) rfl ⟨rfl, (by repeat (first | exact Ext.refl _ | assumption | refine Ext.drew ?_ | refine Ext.drewN ?_ _ | refine Ext.alloc ?_ _ | refine Ext.trans ?_ (by assumption)))⟩
end Go.Proofs.YtdloabjnjnjacaaDoor
