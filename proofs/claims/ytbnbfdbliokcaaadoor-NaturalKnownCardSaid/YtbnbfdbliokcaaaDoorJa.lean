/-
  Layer 1: Satisfies, Meet, Get of the program; valid sounds.
-/
import Derived.Test.YtbnbfdbliokcaaaDoorFe
import Derived.RangeFuncRecord
namespace Go.Proofs.YtbnbfdbliokcaaaDoor
open Go.RowKit
theorem andn_nat (x y : BitVec 32) : x.toNat &&& (4294967295 - y.toNat) = (x &&& ~~~y).toNat := by
  rw [BitVec.toNat_and, BitVec.toNat_not]
theorem andn_zero (x y : BitVec 32) : (((x.toNat &&& (4294967295 - y.toNat) : Nat) : Int) == 0) = (x &&& ~~~y == 0#32) := by
  rw [andn_nat, Bool.eq_iff_iff, beq_iff_eq, beq_iff_eq]
  constructor
  · intro h; exact BitVec.eq_of_toNat_eq (by simpa using h)
  · intro h; rw [h]; rfl
/-- Has the sound all values of the condition? -/
def satB (s c : Snd) : Bool := (c.p &&& ~~~s.p == 0#32) && (c.m &&& ~~~s.m == 0#32)
def meetS (a b : Snd) : Snd := ⟨a.p &&& b.p, a.m &&& b.m⟩
theorem sat_any (s c : Snd) (w : World) (hs : s.ok = true) (hc : c.ok = true) :
    Calls Tryd.prog 40 #[sndV s, sndV c] w fun e w' => e = .returned (.bool (satB s c)) ∧ Ext w w' := by
  have eP := andn_zero c.p s.p
  have eM := andn_zero c.m s.m
  unfold satB
  cases hp : (c.p &&& ~~~s.p == 0#32)
  · rw [hp] at eP
    replace hp := Lib.hid hp
    replace eM := Lib.hid eM
    go_enter Tryd.func40, Tryd.ntmps40
    go_wp2_with fail
    refine (cbool (fvalid_any s _) hs).mono ?_
    rintro e w1 ⟨rfl, hx1⟩
    have hcl1 := fun b o (h : b < _) => Ext.cell hx1 (b := b) o h
    go_wp2_with fail
    refine (cbool (fvalid_any c _) hc).mono ?_
    rintro e w1 ⟨rfl, hx2⟩
    replace hx1 := Ext.trans hx1 (Ext.trans (by repeat (first | exact Ext.refl _ | refine Ext.drew ?_ | refine Ext.drewN ?_ _ | refine Ext.alloc ?_ _)) hx2)
    replace hcl1 := fun b o (h : b < _) => Ext.cell hx1 (b := b) o h
    clear hx2
    go_wp2_with fail
    go_ret
    exact ⟨rfl, (by repeat (first | exact Ext.refl _ | assumption | refine Ext.drew ?_ | refine Ext.drewN ?_ _ | refine Ext.alloc ?_ _ | refine Ext.trans ?_ (by assumption)))⟩
  · rw [hp] at eP
    replace hp := Lib.hid hp
    generalize (c.m &&& ~~~s.m == 0#32) = B at *
    go_enter Tryd.func40, Tryd.ntmps40
    go_wp2_with fail
    refine (cbool (fvalid_any s _) hs).mono ?_
    rintro e w1 ⟨rfl, hx1⟩
    have hcl1 := fun b o (h : b < _) => Ext.cell hx1 (b := b) o h
    go_wp2_with fail
    refine (cbool (fvalid_any c _) hc).mono ?_
    rintro e w1 ⟨rfl, hx2⟩
    replace hx1 := Ext.trans hx1 (Ext.trans (by repeat (first | exact Ext.refl _ | refine Ext.drew ?_ | refine Ext.drewN ?_ _ | refine Ext.alloc ?_ _)) hx2)
    replace hcl1 := fun b o (h : b < _) => Ext.cell hx1 (b := b) o h
    clear hx2
    go_wp2_with fail
    go_ret
    exact ⟨by first | rfl | (rw [eM]; rfl) | simp [eM], (by repeat (first | exact Ext.refl _ | assumption | refine Ext.drew ?_ | refine Ext.drewN ?_ _ | refine Ext.alloc ?_ _ | refine Ext.trans ?_ (by assumption)))⟩
theorem heap_setJ {w : World} {B i : Nat} {cur : Array Value} {e : TypeId} {fr : Nat × Nat} (h : w.heap[B]? = some (.cells cur e fr)) (v : Value) : (w.setCell ⟨B, i, none⟩ v).heap[B]? = some (.cells (cur.setIfInBounds i v) e fr) := by
  show (w.heap.modify B _)[B]? = _
  rw [Array.getElem?_modify, if_pos rfl, h]; rfl
/-- A sound in a block of its own. -/
def SndB (w : World) (B : Nat) (s : Snd) : Prop := w.heap[B]? = some (.cells #[.int .u32 s.p.toNat, .int .u32 s.m.toNat] 27 (0, 0))
theorem SndB.ext {w w' : World} {B : Nat} {s : Snd} (h : SndB w B s) (hx : Ext w w') : SndB w' B s := (Below.block hx.bel B (Array.getElem?_eq_some_iff.1 h).1).trans h
theorem SndB.lt {w : World} {B : Nat} {s : Snd} (h : SndB w B s) : B < w.heap.size := (Array.getElem?_eq_some_iff.1 h).1
theorem SndB.set {w : World} {B : Nat} {s : Snd} (h : SndB w B s) (t : Snd) : SndB ((w.setCell ⟨B, 0, none⟩ (.int .u32 t.p.toNat)).setCell ⟨B, 1, none⟩ (.int .u32 t.m.toNat)) B t := heap_setJ (heap_setJ h _) _
theorem SndB.cells {w : World} {B : Nat} {s : Snd} (h : SndB w B s) : w.cell? ⟨B, 0, none⟩ = some (.int .u32 s.p.toNat) ∧ w.cell? ⟨B, 1, none⟩ = some (.int .u32 s.m.toNat) := by
  unfold SndB at h
  refine ⟨?_, ?_⟩ <;> simp only [World.cell?] <;> rw [h] <;> rfl
theorem SndB.frz {w : World} {B : Nat} {s : Snd} (h : SndB w B s) : (∀ i, w.frozen? ⟨B, i, none⟩ = false) ∧ (∀ i (j : Nat) v, (w.setCell ⟨B, j, none⟩ v).frozen? ⟨B, i, none⟩ = false) :=
  ⟨fun i => frozen_of_row w B i _ _ h, fun i _ v => frozen_of_row _ B i _ _ (heap_setJ h v)⟩
theorem SndB.new (w : World) (s : Snd) : SndB (w.alloc (.cells #[.int .u32 s.p.toNat, .int .u32 s.m.toNat] 27)) w.heap.size s := World.alloc_heap_new w _
theorem SndB.zero (w : World) : SndB (w.alloc (.cells #[.int .u32 0, .int .u32 0] 27)) w.heap.size ⟨0#32, 0#32⟩ := World.alloc_heap_new w _
/-- One sound handed back from a block. -/
theorem ret_snd {fn : Func} {p : Tmp} (h : fn.results = #[.cell p 27]) (tmps : Array Value) (w : World) (g : Nat) (s : Snd) (hp : tmps.getD p undef = .pointer (some ⟨g, 0, none⟩)) (hg : SndB w g s) :
    (results fn tmps).run Tryd.prog w = .ok (sndV s) w := results_cell_row h _ _ g _ _ (0, 0) _ hp hg Tryd.underlying27 rfl (by kernel_rfl)
theorem meet_any (a b : Snd) (w : World) (ha : a.ok = true) (hb : b.ok = true) :
    Calls Tryd.prog 48 #[sndV a, sndV b] w fun e w' => e = .returned (sndV (meetS a b)) ∧ Ext w w' := by
  have q0 : SndB (((w.alloc (.cells #[.int .u32 a.p.toNat, .int .u32 a.m.toNat] 27)).alloc (.cells #[.int .u32 b.p.toNat, .int .u32 b.m.toNat] 27)).alloc (.cells #[.int .u32 0, .int .u32 0] 27)) w.heap.size a := ((SndB.new w a).ext (Ext.alloc1 _ _)).ext (Ext.alloc1 _ _)
  have q1 : SndB (((w.alloc (.cells #[.int .u32 a.p.toNat, .int .u32 a.m.toNat] 27)).alloc (.cells #[.int .u32 b.p.toNat, .int .u32 b.m.toNat] 27)).alloc (.cells #[.int .u32 0, .int .u32 0] 27)) (w.heap.size + 1) b := by
    have := (SndB.new (w.alloc (.cells #[.int .u32 a.p.toNat, .int .u32 a.m.toNat] 27)) b).ext (Ext.alloc1 _ (.cells #[.int .u32 0, .int .u32 0] 27))
    rwa [World.size_alloc] at this
  have q2 : SndB (((w.alloc (.cells #[.int .u32 a.p.toNat, .int .u32 a.m.toNat] 27)).alloc (.cells #[.int .u32 b.p.toNat, .int .u32 b.m.toNat] 27)).alloc (.cells #[.int .u32 0, .int .u32 0] 27)) (w.heap.size + 1 + 1) ⟨0#32, 0#32⟩ := by
    have := SndB.zero ((w.alloc (.cells #[.int .u32 a.p.toNat, .int .u32 a.m.toNat] 27)).alloc (.cells #[.int .u32 b.p.toNat, .int .u32 b.m.toNat] 27))
    rwa [World.size_alloc, World.size_alloc] at this
  have hxB : Ext w (((w.alloc (.cells #[.int .u32 a.p.toNat, .int .u32 a.m.toNat] 27)).alloc (.cells #[.int .u32 b.p.toNat, .int .u32 b.m.toNat] 27)).alloc (.cells #[.int .u32 0, .int .u32 0] 27)) := (by repeat (first | exact Ext.refl _ | refine Ext.drew ?_ | refine Ext.drewN ?_ _ | refine Ext.alloc ?_ _))
  have hge : w.heap.size ≤ w.heap.size + 1 + 1 := by omega
  go_enter Tryd.func48, Tryd.ntmps48
  go_wp2_with fail
  generalize (((w.alloc (.cells #[.int .u32 a.p.toNat, .int .u32 a.m.toNat] 27)).alloc (.cells #[.int .u32 b.p.toNat, .int .u32 b.m.toNat] 27)).alloc (.cells #[.int .u32 0, .int .u32 0] 27)) = wB at *
  obtain ⟨c0, c1⟩ := q0.cells
  obtain ⟨c2, c3⟩ := q1.cells
  refine (cbool (fvalid_any a _) ha).mono ?_
  rintro e w1 ⟨rfl, hx1⟩
  have c2 := hx1.cellv c2
  have c3 := hx1.cellv c3
  go_wp2_with fail
  refine (cbool (fvalid_any b _) hb).mono ?_
  rintro e w2 ⟨rfl, hx2⟩
  have hx := hx1.trans hx2
  have q2 := q2.ext hx
  obtain ⟨c0, c1⟩ := (q0.ext hx).cells
  obtain ⟨c2, c3⟩ := (q1.ext hx).cells
  obtain ⟨c4, c5⟩ := q2.cells
  obtain ⟨f0, f1⟩ := q2.frz
  have hfin := q2.set (meetS a b)
  have hx' : Ext w ((w2.setCell ⟨w.heap.size + 1 + 1, 0, none⟩ (.int .u32 (meetS a b).p.toNat)).setCell ⟨w.heap.size + 1 + 1, 1, none⟩ (.int .u32 (meetS a b).m.toNat)) := ((hxB.trans hx).setCell (p := ⟨w.heap.size + 1 + 1, 0, none⟩) hge _).setCell (p := ⟨w.heap.size + 1 + 1, 1, none⟩) hge _
  unfold meetS at *
  simp only [BitVec.toNat_and] at hx'
  have hfin : SndB _ (w.heap.size + 1 + 1) _ := hfin
  simp only [BitVec.toNat_and] at hfin
  clear q0 q1 q2
  go_wp2_with fail
  exact bodyPost_ret (ret_snd rfl _ _ (w.heap.size + 1 + 1) _ rfl hfin) rfl ⟨rfl, hx'⟩
theorem getS_sub (s : Snd) (f : Nat) (hs : s.ok = true) (hf : f < 24) : ((s.p.getLsbD f).toNat : Int) - ((s.m.getLsbD f).toNat : Int) = getS s f := by
  have h1 := (ok_iff_feats s).1 hs f (by omega)
  simp only [featOk, getS] at *
  revert h1
  cases s.p.getLsbD f <;> cases s.m.getLsbD f <;> simp
theorem fget_any (s : Snd) (f : Nat) (hs : s.ok = true) (hf : f < 24) (w : World) :
    Calls Tryd.prog 41 #[sndV s, .int .i64 f] w fun e w' => e = .returned (.int .i64 (getS s f)) ∧ Ext w w' := by
  have hd : decide ((f : Int) < 0) = false := by simp
  have hd2 : decide ((24 : Int) ≤ (f : Int)) = false := by simp; omega
  have e1 := shr_bit s.p f
  have e2 := shr_bit s.m f
  have e3 := getS_sub s f hs hf
  go_enter Tryd.func41, Tryd.ntmps41
  go_wp2_with fail
  refine (cbool (fvalid_any s _) hs).mono ?_
  rintro e w1 ⟨rfl, hx1⟩
  obtain ⟨c0, c1⟩ := ((SndB.new w s).ext hx1).cells
  have hxw : Ext w w1 := (Ext.alloc1 _ _).trans hx1
  have r0 := fun z : ExtOf w1 => z.cell c0
  have r1 := fun z : ExtOf w1 => z.cell c1
  go_wp2_with fail
  refine wp_region_qx (by kernel_rfl) (by kernel_rfl) ?_
  repeat (go_big_quiet_step (fail))
  refine wpQuiet_nil ?_
  intro wq hw'
  have hxq := ext_of_ex hw'
  clear hw'
  go_wp2_with fail
  go_ret
  exact ⟨ret_int (by have h1 := Bool.toNat_le (s.p.getLsbD f); have h2 := Bool.toNat_le (s.m.getLsbD f); rw [IntWalk.wrap64_in ((s.p.getLsbD f).toNat : Int) (by omega), IntWalk.wrap64_in ((s.m.getLsbD f).toNat : Int) (by omega), IntWalk.wrap64_in _ (by omega)]; exact e3), hxw.trans hxq⟩
end Go.Proofs.YtbnbfdbliokcaaaDoor
