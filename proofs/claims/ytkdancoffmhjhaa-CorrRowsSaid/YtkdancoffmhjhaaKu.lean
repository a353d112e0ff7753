/-
  corr.Share.
-/
import Derived.Test.YtkdancoffmhjhaaKq
namespace Go.Proofs.Ytkdancoffmhjhaa
open Go.RowKit Go.Shelf
theorem cntSel_fac {p : HCo → Bool} {f t : Nat} {x : Cl} : ∀ l : List HCo, cntSel p (facL f t x l) = cntSel (fun h => selB f t x h && p (faceH t h)) l
  | [] => rfl
  | y :: l => by
    have ih := cntSel_fac (p := p) (f := f) (t := t) (x := x) l
    unfold cntSel facL at *
    cases h1 : selB f t x y
    · rw [List.filter_cons_of_neg (by rw [h1]; simp), List.filter_cons_of_neg (by rw [h1]; simp)]; exact ih
    · rw [List.filter_cons_of_pos h1, List.map_cons]
      cases h2 : p (faceH t y)
      · rw [List.filter_cons_of_neg (by rw [h2]; simp), List.filter_cons_of_neg (by rw [h1, h2]; simp)]; exact ih
      · rw [List.filter_cons_of_pos h2, List.filter_cons_of_pos (by rw [h1, h2]; rfl), List.map_cons, List.map_cons, List.sum_cons, List.sum_cons, ih]; rfl
/-- Does it show this cell? -/
def isB (y : Cl) (h : HCo) : Bool := decide (h.x.getD 0 nulC = y)
theorem nS_fac (l : List HCo) (f t : Nat) (x y : Cl) : nS l f t x y = cntSel (isB y) (facL f t x l) := by
  rw [cntSel_fac]; rfl
theorem dS_fac (l : List HCo) (f t : Nat) (x : Cl) : dS l f t x = cntSel (fun _ => true) (facL f t x l) := by
  rw [cntSel_fac]
  unfold dS
  congr 1
  funext h; simp
theorem cntSel_snoc {p : HCo → Bool} (l : List HCo) (y : HCo) : cntSel p (l ++ [y]) = cntSel p l + if p y = true then y.cnt else 0 := by
  have := cntSel_succ (p := p) (l := l ++ [y]) (j := l.length) (y := y) (by simp)
  rwa [List.take_of_length_le (by simp), List.take_append_of_le_length (Nat.le_refl _), List.take_length] at this
theorem facL_rd {w : World} {a : Option Addr} {m cap : Nat} {hs : List HCo} (hr : RdH w a m cap hs) {fn tn : Nat} {x : Cl} (hw : ∀ y ∈ hs, tn < y.n) :
    ∀ z ∈ facL fn tn x hs, RdC w z.a z.n z.cap z.x ∧ z.n = 1 ∧ ∃ y ∈ hs, z.cnt = y.cnt ∧ y.x[tn]? = some (z.x.getD 0 nulC) ∧ z.x = [z.x.getD 0 nulC] := by
  intro z hz
  obtain ⟨y, hy, rfl⟩ := List.mem_map.1 hz
  have hy := (List.mem_filter.1 hy).1
  have hr1 := hr.ok y hy
  have hlt := hw y hy
  obtain ⟨_, _, c, _, hc, _⟩ := hr1.cl hlt
  have h2 := hr1.sub (l := tn) (m := tn + 1) (by omega) (by omega)
  have he : (y.x.take (tn + 1)).drop tn = [c] := by
    rw [take_succ_at hc.out, List.drop_append_of_le_length (by rw [List.length_take, hr1.len]; omega), List.drop_of_length_le (by rw [List.length_take]; omega)]; rfl
  rw [he, show tn + 1 - tn = 1 by omega] at h2
  have hg : y.x.getD tn nulC = c := by rw [List.getD_eq_getElem?_getD, hc.out]; rfl
  refine ⟨?_, rfl, y, hy, rfl, ?_, rfl⟩
  · unfold faceH; simp only; rw [hg]; exact h2
  · unfold faceH; simp only; rw [hg]; exact hc.out
/-- What stands while the counts are summed. -/
def ShI (Z : Nat) (a : Option Addr) (m cap : Nat) (hs : List HCo) (fn tn : Nat) (x y : Cl) (w1 : World) (pre : List HCo) (W : World) : Prop :=
  ∃ zn zd : Int, Boxed W Z 2 (.int .i64 zn) ∧ Boxed W (Z + 1) 2 (.int .i64 zd) ∧ FacW (Z + 2) a m cap hs fn tn x W ∧ Z + 6 ≤ W.heap.size ∧ Hid (zn = cntSel (isB y) pre) ∧ Hid (zd = cntSel (fun _ => true) pre) ∧ Ext w1 W
theorem FacW.grown {B : Nat} {a : Option Addr} {m cap : Nat} {hs : List HCo} {fn tn : Nat} {x : Cl} {X Y : World} {row : Option Nat} (h : FacW B a m cap hs fn tn x X) (hg : X.grownBy Y row) (hr : ∀ r, row = some r → r < B ∨ B + 4 ≤ r) (hrd : RdH Y a m cap hs) : FacW B a m cap hs fn tn x Y := by
  have hb : ∀ i, i < 4 → some (B + i) ≠ row := fun i hi e => by have := hr _ e.symm; omega
  exact ⟨hg.cell h.bl (hb 0 (by omega)), hg.cell h.bf (hb 1 (by omega)), hg.cell h.bt (hb 2 (by omega)), hg.cell h.x0 (hb 3 (by omega)), hg.cell h.x1 (hb 3 (by omega)), hg.cell h.x2 (hb 3 (by omega)), hrd⟩
theorem ShI.beside {Z : Nat} {a : Option Addr} {m cap : Nat} {hs : List HCo} {fn tn : Nat} {x y : Cl} {w1 : World} (hrd : RdH w1 a m cap hs) (hZ : w1.heap.size = Z) {pre : List HCo} {X Y : World} {row : Option Nat} (h : ShI Z a m cap hs fn tn x y w1 pre X) (hg : X.grownBy Y row) (hr : ∀ r, row = some r → Z + 6 ≤ r) : ShI Z a m cap hs fn tn x y w1 pre Y := by
  obtain ⟨zn, zd, h1, h2, h3, h4, h5, h6, h7⟩ := h
  have h8 : Ext w1 Y := h7.grown hg fun k e => by have := hr k e; omega
  exact ⟨zn, zd, h1.kept hg (fun e => by have := hr _ e.symm; omega), h2.kept hg (fun e => by have := hr _ e.symm; omega), h3.grown hg (fun r e => .inr (by have := hr r e; omega)) (hrd.ext h8), Nat.le_trans h4 hg.size, h5, h6, h8⟩
def ShRet (l : List HCo) (f t : Int) (x y : Cl) (w : World) (e : Ending) (w' : World) : Prop :=
  e = .returned (.tuple #[.agg #[.int .i64 (shareV l f t x y).1, .int .i64 (shareV l f t x y).2], .int .i64 (askE l f t x y)]) ∧ Ext w w'
attribute [local go_sem] Oper.semAt_some
theorem heap_set' {w : World} {B B' i : Nat} (h : B ≠ B') (v : Value) : (w.setCell ⟨B, i, none⟩ v).heap[B']? = w.heap[B']? := by
  show (w.heap.modify B _)[B']? = _
  rw [Array.getElem?_modify, if_neg h]
set_option maxHeartbeats 400000 in
set_option maxRecDepth 20000 in
theorem share_any (a : Option Addr) (n cap : Nat) (l : List HCo) (f t : Int) (x y : Cl) (w : World) (hr : RdH w a n cap l) :
    Calls Try.prog 26 #[.slice a n cap, .int .i64 f, .int .i64 t, clV x, clV y] w (ShRet l f t x y w) := by
  unfold ShRet
  by_cases h0 : askE l f t x y = 0
  · obtain ⟨hE, hf1, hf2, ht1, ht2, _⟩ := askE_zero h0
    obtain ⟨fn, rfl⟩ : ∃ fn : Nat, f = fn := ⟨f.toNat, by omega⟩
    obtain ⟨tn, rfl⟩ : ∃ tn : Nat, t = tn := ⟨t.toNat, by omega⟩
    have hS : shareV l fn tn x y = shF (nS l fn tn x y) (dS l fn tn x) := by unfold shareV; rw [if_pos h0, Int.toNat_natCast, Int.toNat_natCast]
    rw [nS_fac, dS_fac] at hS
    rw [hS, h0]
    obtain ⟨hlim, hcor⟩ := chkE_all hE
    have hfl : [l].flatten = l := by simp
    rw [hfl] at hcor
    have hlen := (hlim l (by simp)).1
    have hwid : ∀ z ∈ l, fn < z.n ∧ tn < z.n := fun z hz => by have := (hcor z hz).1; omega
    have hcnt : ∀ z ∈ l, 0 ≤ z.cnt ∧ z.cnt ≤ 2147483647 := fun z hz => by have := hcor z hz; omega
    have hfrd := fun W (z : Ext w W) => facL_rd (hr.ext z) (fn := fn) (tn := tn) (x := x) (fun y hy => (hwid y hy).2)
    have hfc : ∀ z ∈ facL fn tn x l, 0 ≤ z.cnt ∧ z.cnt ≤ 2147483647 := fun z hz => by
      obtain ⟨_, _, y, hy, he, _⟩ := hfrd w (Ext.refl _) z hz
      rw [he]; exact hcnt y hy
    have hfl2 : (facL fn tn x l).length ≤ 4096 := by unfold facL; rw [List.length_map]; exact Nat.le_trans (List.length_filter_le _ _) hlen
    replace hwid := Lib.hid hwid
    replace hfrd := Lib.hid hfrd
    replace hfc := Lib.hid hfc
    replace hfl2 := Lib.hid hfl2
    clear hS hE hlim hcor hfl hlen hcnt hf1 hf2 ht1 ht2
    refine (callsIn_wide (n := 9)).1 ?_
    refine callsIn_of_wp_marks Try.func26 rfl trivial ?_ rfl
    simp only [Try.ntmps26, List.size_toArray, List.length_cons, List.length_nil, Nat.reduceAdd, Nat.reduceSub, Array.replicate_succ, Array.replicate_zero, List.push_toArray, List.append_toArray, List.nil_append, List.cons_append]
    gi_wp2
    have hC := OwnK.rdc (k := 3) Cl.len (lit_own Cl.len (((w.alloc (.cells #[.int .i64 x.kind, .int .u32 x.s.p.toNat, .int .u32 x.s.m.toNat] 39)).alloc (.cells #[.int .i64 y.kind, .int .u32 y.s.p.toNat, .int .u32 y.s.m.toNat] 39)).alloc (.cells #[.int .i64 0, .int .i64 0] 44)) 39 [x, y] #[.int .i64 x.kind, .int .u32 x.s.p.toNat, .int .u32 x.s.m.toNat, .int .i64 y.kind, .int .u32 y.s.p.toNat, .int .u32 y.s.m.toNat] rfl (n := 2) rfl (by decide))
    rw [World.size_alloc, World.size_alloc, World.size_alloc] at hC
    have bx0 : ((((w.alloc (.cells #[.int .i64 x.kind, .int .u32 x.s.p.toNat, .int .u32 x.s.m.toNat] 39)).alloc (.cells #[.int .i64 y.kind, .int .u32 y.s.p.toNat, .int .u32 y.s.m.toNat] 39)).alloc (.cells #[.int .i64 0, .int .i64 0] 44)).alloc (.cells #[.int .i64 x.kind, .int .u32 x.s.p.toNat, .int .u32 x.s.m.toNat, .int .i64 y.kind, .int .u32 y.s.p.toNat, .int .u32 y.s.m.toNat] 39)).cell? ⟨w.heap.size, 0, none⟩ = some (.int .i64 x.kind) := by go_simp
    have bx1 : ((((w.alloc (.cells #[.int .i64 x.kind, .int .u32 x.s.p.toNat, .int .u32 x.s.m.toNat] 39)).alloc (.cells #[.int .i64 y.kind, .int .u32 y.s.p.toNat, .int .u32 y.s.m.toNat] 39)).alloc (.cells #[.int .i64 0, .int .i64 0] 44)).alloc (.cells #[.int .i64 x.kind, .int .u32 x.s.p.toNat, .int .u32 x.s.m.toNat, .int .i64 y.kind, .int .u32 y.s.p.toNat, .int .u32 y.s.m.toNat] 39)).cell? ⟨w.heap.size, 1, none⟩ = some (.int .u32 x.s.p.toNat) := by go_simp
    have bx2 : ((((w.alloc (.cells #[.int .i64 x.kind, .int .u32 x.s.p.toNat, .int .u32 x.s.m.toNat] 39)).alloc (.cells #[.int .i64 y.kind, .int .u32 y.s.p.toNat, .int .u32 y.s.m.toNat] 39)).alloc (.cells #[.int .i64 0, .int .i64 0] 44)).alloc (.cells #[.int .i64 x.kind, .int .u32 x.s.p.toNat, .int .u32 x.s.m.toNat, .int .i64 y.kind, .int .u32 y.s.p.toNat, .int .u32 y.s.m.toNat] 39)).cell? ⟨w.heap.size, 2, none⟩ = some (.int .u32 x.s.m.toNat) := by go_simp
    have by0 : ((((w.alloc (.cells #[.int .i64 x.kind, .int .u32 x.s.p.toNat, .int .u32 x.s.m.toNat] 39)).alloc (.cells #[.int .i64 y.kind, .int .u32 y.s.p.toNat, .int .u32 y.s.m.toNat] 39)).alloc (.cells #[.int .i64 0, .int .i64 0] 44)).alloc (.cells #[.int .i64 x.kind, .int .u32 x.s.p.toNat, .int .u32 x.s.m.toNat, .int .i64 y.kind, .int .u32 y.s.p.toNat, .int .u32 y.s.m.toNat] 39)).cell? ⟨w.heap.size + 1, 0, none⟩ = some (.int .i64 y.kind) := by go_simp
    have by1 : ((((w.alloc (.cells #[.int .i64 x.kind, .int .u32 x.s.p.toNat, .int .u32 x.s.m.toNat] 39)).alloc (.cells #[.int .i64 y.kind, .int .u32 y.s.p.toNat, .int .u32 y.s.m.toNat] 39)).alloc (.cells #[.int .i64 0, .int .i64 0] 44)).alloc (.cells #[.int .i64 x.kind, .int .u32 x.s.p.toNat, .int .u32 x.s.m.toNat, .int .i64 y.kind, .int .u32 y.s.p.toNat, .int .u32 y.s.m.toNat] 39)).cell? ⟨w.heap.size + 1, 1, none⟩ = some (.int .u32 y.s.p.toNat) := by go_simp
    have by2 : ((((w.alloc (.cells #[.int .i64 x.kind, .int .u32 x.s.p.toNat, .int .u32 x.s.m.toNat] 39)).alloc (.cells #[.int .i64 y.kind, .int .u32 y.s.p.toNat, .int .u32 y.s.m.toNat] 39)).alloc (.cells #[.int .i64 0, .int .i64 0] 44)).alloc (.cells #[.int .i64 x.kind, .int .u32 x.s.p.toNat, .int .u32 x.s.m.toNat, .int .i64 y.kind, .int .u32 y.s.p.toNat, .int .u32 y.s.m.toNat] 39)).cell? ⟨w.heap.size + 1, 2, none⟩ = some (.int .u32 y.s.m.toNat) := by go_simp
    have hq : ((((w.alloc (.cells #[.int .i64 x.kind, .int .u32 x.s.p.toNat, .int .u32 x.s.m.toNat] 39)).alloc (.cells #[.int .i64 y.kind, .int .u32 y.s.p.toNat, .int .u32 y.s.m.toNat] 39)).alloc (.cells #[.int .i64 0, .int .i64 0] 44)).alloc (.cells #[.int .i64 x.kind, .int .u32 x.s.p.toNat, .int .u32 x.s.m.toNat, .int .i64 y.kind, .int .u32 y.s.p.toNat, .int .u32 y.s.m.toNat] 39)).heap[w.heap.size + 1 + 1]? = some (.cells #[.int .i64 0, .int .i64 0] 44 (0, 0)) := by
      refine (Below.heap_alloc _ _ _ (by simp)).trans ?_
      have := World.alloc_heap_new ((w.alloc (.cells #[.int .i64 x.kind, .int .u32 x.s.p.toNat, .int .u32 x.s.m.toNat] 39)).alloc (.cells #[.int .i64 y.kind, .int .u32 y.s.p.toNat, .int .u32 y.s.m.toNat] 39)) (.cells #[.int .i64 0, .int .i64 0] 44)
      rwa [World.size_alloc, World.size_alloc] at this
    have hxC : Ext w ((((w.alloc (.cells #[.int .i64 x.kind, .int .u32 x.s.p.toNat, .int .u32 x.s.m.toNat] 39)).alloc (.cells #[.int .i64 y.kind, .int .u32 y.s.p.toNat, .int .u32 y.s.m.toNat] 39)).alloc (.cells #[.int .i64 0, .int .i64 0] 44)).alloc (.cells #[.int .i64 x.kind, .int .u32 x.s.p.toNat, .int .u32 x.s.m.toNat, .int .i64 y.kind, .int .u32 y.s.p.toNat, .int .u32 y.s.m.toNat] 39)) := (by repeat (first | exact Ext.refl _ | refine Ext.drew ?_ | refine Ext.drewN ?_ _ | refine Ext.alloc ?_ _))
    generalize ((((w.alloc (.cells #[.int .i64 x.kind, .int .u32 x.s.p.toNat, .int .u32 x.s.m.toNat] 39)).alloc (.cells #[.int .i64 y.kind, .int .u32 y.s.p.toNat, .int .u32 y.s.m.toNat] 39)).alloc (.cells #[.int .i64 0, .int .i64 0] 44)).alloc (.cells #[.int .i64 x.kind, .int .u32 x.s.p.toNat, .int .u32 x.s.m.toNat, .int .i64 y.kind, .int .u32 y.s.p.toNat, .int .u32 y.s.m.toNat] 39)) = wC at *
    have hwQ : w.heap.size ≤ w.heap.size + 1 + 1 := by omega
    generalize hQ : w.heap.size + 1 + 1 = Q at *
    generalize hBy : w.heap.size + 1 = By at *
    generalize hBx : w.heap.size = Bx at *
    have hQx : Bx ≠ Q := by omega
    have hQy : By ≠ Q := by omega
    replace hQ := Lib.hid hQ
    replace hBy := Lib.hid hBy
    replace hBx := Lib.hid hBx
    have hask := ask_any a n cap l fn tn (some ⟨Q + 1, 0, none⟩) 2 2 [x, y] wC (hr.ext hxC) hC
    rw [askC_two] at hask
    replace hask := cint hask h0
    replace h0 := Lib.hid h0
    refine ⟨trivial, ?_⟩
    gi_at_call 51
    refine (callsIn_wide.2 hask).mono ?_
    rintro e w1 ⟨rfl, hx1⟩
    have hxw1 : Ext w w1 := hxC.trans hx1
    have hq1 := (Below.block hx1.bel Q (Array.getElem?_eq_some_iff.1 hq).1).trans hq
    have dx0 := hx1.cellv bx0
    have dx1 := hx1.cellv bx1
    have dx2 := hx1.cellv bx2
    have dy0 := hx1.cellv by0
    have dy1 := hx1.cellv by1
    have dy2 := hx1.cellv by2
    have lx := cell_lt dx0
    have ly := cell_lt dy0
    simp only at lx ly
    clear hask hC bx0 bx1 bx2 by0 by1 by2 hq hxC hx1
    have hrw1 := hr.ext hxw1
    obtain ⟨w2, hw2⟩ : ∃ w2, w2 = (w1.alloc (.cells #[.int .i64 0] 2)).alloc (.cells #[.int .i64 0] 2) := ⟨_, rfl⟩
    have hx2 : Ext w1 w2 := by rw [hw2]; exact (Ext.alloc1 _ _).alloc _
    have b1 : Boxed w2 w1.heap.size 2 (.int .i64 0) := by rw [hw2]; exact Boxed.alloc (Boxed.new _ _ _) _
    have b2 : Boxed w2 (w1.heap.size + 1) 2 (.int .i64 0) := by rw [hw2]; have := Boxed.new (w1.alloc (.cells #[.int .i64 0] 2)) 2 (.int .i64 0); rwa [World.size_alloc] at this
    have hz2 : w2.heap.size = w1.heap.size + 2 := by rw [hw2]; simp
    have hfi := facing_in 8 a n cap l fn tn x w2 (hrw1.ext hx2)
    rw [hw2] at hfi
    gi_wp2
    rw [← hw2] at hfi ⊢
    clear hw2
    refine ⟨trivial, ?_⟩
    gi_at_call 52
    refine hfi.mono ?_
    rintro e w3 ⟨rfl, hF3, hx3, hz3⟩
    have hI0 : ShI w1.heap.size a n cap l fn tn x y w1 [] w3 := ⟨0, 0, Boxed.more b1 hx3, Boxed.more b2 hx3, hz2 ▸ hF3, by omega, Lib.hid rfl, Lib.hid rfl, hx2.trans hx3⟩
    have hz : w3.heap.size = w1.heap.size + 6 := by omega
    rw [hz2]
    have hZ : w1.heap.size = w1.heap.size := rfl
    have hQZ : Q < w1.heap.size := (Array.getElem?_eq_some_iff.1 hq1).1
    generalize hZZ : w1.heap.size = Z at *
    clear hF3 hx3 hz3 b1 b2 hx2 hfi hz2
    replace hz := Lib.hid hz
    have h1 : 1 ≤ 9 := by omega
    gi_wp2
    refine wpIn_range_own2 rfl h1 (gf := 81) (lb := #[.pointer (some ⟨Z + 2, 0, none⟩), .pointer (some ⟨Z + 2 + 1, 0, none⟩), .pointer (some ⟨Z + 2 + 3, 0, none⟩), .pointer (some ⟨Z + 2 + 2, 0, none⟩)]) rfl trivial (enters_of Try.func81 (by kernel_rfl) rfl) (encs := encH) (fun _ => rfl) (fun _ => False) (fun r hr => hr.elim) (facL fn tn x l)
      (ShI Z a n cap l fn tn x y w1)
      (fun s X Y row hs hg hr => hs.beside hrw1 hZZ hg fun r e => by
        rcases hr r e with h | ⟨h2, h3⟩
        · exact h.elim
        · have := hz.out; omega)
      hI0 (fun _ _ _ => False) (fun _ _ _ _ _ hs _ _ => hs)
      (fun lp J Jx W hB hJ0 hJ hJx hI hY => by
        have := facing1_in 8 lp (Z + 2) (by omega) a n cap l fn tn x J Jx (fun s X Y hs hg => hJ s X Y none hs hg (fun r e => by cases e)) hwid.out
          (fun s X hs => by
            obtain ⟨_, _, _, _, h3, _⟩ := hI s X hs
            exact h3)
          (fun pre y X hp hpre => (hY pre y X hp hpre).mono (fun e Y h => h.elim (fun h => .inl ⟨h.1, h.2.1⟩) (fun h => .inr h))) W hJ0
        simpa using this)
      (fun z a' W => ∃ Bc, Z + 6 ≤ Bc ∧ W.heap[Bc]? = some (.cells #[.slice z.a z.n z.cap, .int .i64 z.cnt] 49 (0, 0)) ∧ a' = { tmps := #[.slice a n cap, .int .i64 fn, .int .i64 tn, clV x, clV y, undef, undef, undef, .pointer (some ⟨Bx, 0, none⟩), .pointer (some ⟨By, 0, none⟩), .pointer (some ⟨Q, 0, none⟩), .int .i64 0, .int .i64 0, .pointer (some ⟨Z, 0, none⟩), .pointer (some ⟨Z + 1, 0, none⟩), .pointer (some ⟨Bc, 0, none⟩), undef, undef, .slice a n cap, .int .i64 fn, .int .i64 tn, clV x, clV y, .slice (some ⟨Q + 1, 0, none⟩) 2 2, .int .i64 0, .int .i64 0, .bool false, undef, undef, .slice a n cap, .int .i64 fn, .int .i64 tn, clV x, .func (.func 81) #[] #[.pointer (some ⟨Z + 2, 0, none⟩), .pointer (some ⟨Z + 2 + 1, 0, none⟩), .pointer (some ⟨Z + 2 + 3, 0, none⟩), .pointer (some ⟨Z + 2 + 2, 0, none⟩)], coV z, undef, undef, undef, undef, undef, undef, undef, undef, undef, undef, undef, undef, undef, undef, undef, undef, undef, undef, undef, undef, undef, undef, undef, undef, undef, undef, undef, undef, undef, undef, undef, undef], defers := [] })
      (fun z a' s X Y row hs hg hr => by
        obtain ⟨Bc, h1, h2, h3⟩ := hs
        refine ⟨Bc, h1, (hg.block Bc (Array.getElem?_eq_some_iff.1 h2).1 (fun e => ?_)).trans h2, h3⟩
        rcases hr Bc e.symm with h | ⟨_, o, ho, hc⟩
        · exact h
        · rw [h2] at ho; cases ho; cases hc)
      ?assign ?body ?done ?stop
    case assign =>
      rintro lp pre z W K hS hK
      have hle : Z + 6 ≤ W.heap.size := by obtain ⟨_, _, _, _, _, h4, _⟩ := id hS; exact h4
      replace hle := Lib.hid hle
      gi_wp2
      exact hK _ _ ((KeepsOthers.alloc _ _).from _) (fun r h => h.elim) (hS.beside hrw1 hZZ (World.grownBy_alloc _ _ none) (fun r e => by cases e)) ⟨W.heap.size, hle.out, World.alloc_heap_new W _, rfl⟩
    case body =>
      rintro lp pre ⟨za, zN, zc, zcnt, zx⟩ a' W ⟨zn, zd, q1, q2, q3, q4, q5, q6, q7⟩ ⟨Bc, hBc, hbc, rfl⟩ hpre
      have hmem : (⟨za, zN, zc, zcnt, zx⟩ : HCo) ∈ facL fn tn x l := hpre.subset (by simp)
      have hzc := hfc.out _ hmem
      have hpl := hpre.length_le
      rw [List.length_append, List.length_singleton] at hpl
      have hpl2 := hfl2.out
      have hb1 := cntSel_bd (p := isB y) (l := pre) (fun u hu => hfc.out u (hpre.subset (List.mem_append_left _ hu)))
      have hb2 := cntSel_bd (p := fun _ => true) (l := pre) (fun u hu => hfc.out u (hpre.subset (List.mem_append_left _ hu)))
      rw [← q5.out] at hb1
      rw [← q6.out] at hb2
      simp only at hzc
      have hwD : IntKind.i64.wrap (zd + zcnt) = zd + zcnt := IntWalk.i64_in _ (by omega)
      have hwD2 : -9223372036854775808 ≤ zd + zcnt ∧ zd + zcnt ≤ 9223372036854775807 := by omega
      have hwN : IntKind.i64.wrap (zn + zcnt) = zn + zcnt := IntWalk.i64_in _ (by omega)
      have hwN2 : -9223372036854775808 ≤ zn + zcnt ∧ zn + zcnt ≤ 9223372036854775807 := by omega
      clear hb1 hb2 hpl hpl2
      have c1 : W.cell? ⟨Bc, 1, none⟩ = some (.int .i64 zcnt) := by simp [World.cell?, hbc]
      have cD := q2.cell
      have fD := q2.frozen
      have gD := grownBy_setCell' W (Z + 1) (.int .i64 (zd + zcnt))
      obtain ⟨W1, hW1⟩ : ∃ W1, W1 = W.setCell ⟨Z + 1, 0, none⟩ (.int .i64 (zd + zcnt)) := ⟨_, rfl⟩
      rw [← hW1] at gD
      have d1 : Boxed W1 Z 2 (.int .i64 zn) := q1.kept gD (fun e => by have := Option.some.inj e; omega)
      have d2 : Boxed W1 (Z + 1) 2 (.int .i64 (zd + zcnt)) := by rw [hW1]; exact Boxed.set _ q2
      have hx1 : Ext w1 W1 := q7.grown gD fun k e => by cases e; omega
      have d3 := q3.grown gD (fun r e => by cases e; omega) (hrw1.ext hx1)
      have d4 : Z + 6 ≤ W1.heap.size := Nat.le_trans q4 gD.size
      have hbc1 := (gD.block Bc (Array.getElem?_eq_some_iff.1 hbc).1 (fun e => by have := Option.some.inj e; omega)).trans hbc
      have e0 : W1.cell? ⟨Bc, 0, none⟩ = some (.slice za zN zc) := by simp [World.cell?, hbc1]
      have e1 : W1.cell? ⟨Bc, 1, none⟩ = some (.int .i64 zcnt) := by simp [World.cell?, hbc1]
      have k1 : KeepsFrom w3.heap.size W W1 := by rw [hW1]; exact (KeepsOthers.setCell _ _ _).from _
      obtain ⟨zr, zn1, yy, hyy, hec, hed, hzx⟩ := hfrd.out W1 (hxw1.trans hx1) _ hmem
      clear hec hed
      simp only at zr zn1 hzx
      subst zn1
      obtain ⟨b, off, c, rfl, hc, hb, p0, p1, p2⟩ := zr.cl (i := 0) (by omega)
      have hgc : zx.getD 0 nulC = c := by rw [List.getD_eq_getElem?_getD, hc.out]; rfl
      have hsN := cntSel_snoc (p := isB y) pre ⟨some ⟨b, off, none⟩, 1, zc, zcnt, zx⟩
      have hsD := cntSel_snoc (p := fun _ => true) pre ⟨some ⟨b, off, none⟩, 1, zc, zcnt, zx⟩
      rw [if_pos rfl, ← q6.out] at hsD
      rw [← q5.out, show isB y ⟨some ⟨b, off, none⟩, 1, zc, zcnt, zx⟩ = decide (c = y) by unfold isB; rw [hgc]] at hsN
      simp only at hsN hsD
      simp only [Nat.zero_mul, Nat.add_zero] at p0 p1 p2
      have r0 := fun z : ExtOf W1 => z.cell e0
      have r1 := fun z : ExtOf W1 => z.cell p0
      have r2 := fun z : ExtOf W1 => z.cell p1
      have r3 := fun z : ExtOf W1 => z.cell p2
      have r4 := fun z : ExtOf W1 => z.cell (hx1.cellv dy0)
      have r5 := fun z : ExtOf W1 => z.cell (hx1.cellv dy1)
      have r6 := fun z : ExtOf W1 => z.cell (hx1.cellv dy2)
      have hecl := eql_cl
      replace hsD := Lib.hid hsD.symm
      replace d1 := Lib.hid d1
      replace d2 := Lib.hid d2
      replace hbc1 := Lib.hid hbc1
      replace hgc := Lib.hid hgc
      replace hzx := Lib.hid hzx
      clear q1 q2 q3 gD hyy zr
      by_cases hcy : c = y
      · have dd : decide (c = y) = true := by simpa using hcy
        rw [if_pos dd] at hsN
        replace hsN := Lib.hid hsN.symm
        replace hcy := Lib.hid hcy
        gi_wp2
        rw [← hW1]
        refine wpIn_region_qxt 5 (by kernel_rfl) (by kernel_rfl) (by kernel_rfl) (by rintro ⟨_, _, h⟩; exact h) ?_
        simp only [List.take_succ_cons, List.take_zero, List.drop_succ_cons, List.drop_zero]
        repeat (go_big_quiet_step (fail))
        refine wpQuiet_nil ?_
        intro wq hw'
        have hxq := ext_of_ex hw'
        have t1 := hxq.cellv e1
        clear hw' r0 r1 r2 r3 r4 r5 r6
        go_wp2_with fail
        have z1 := (Boxed.more d1.out hxq)
        have z2 := (Boxed.more d2.out hxq)
        have s1 := z1.cell
        have f1 := z1.frozen
        have gZ := grownBy_setCell' wq Z (.int .i64 (zn + zcnt))
        have hxf : Ext w1 (wq.setCell ⟨Z, 0, none⟩ (.int .i64 (zn + zcnt))) := (hx1.trans hxq).grown gZ fun k e => by cases e; omega
        have fin := Lib.hid (And.intro ((k1.trans (keepF hxq)).trans ((KeepsOthers.setCell wq ⟨Z, 0, none⟩ (.int .i64 (zn + zcnt))).from _)) (⟨_, _, Boxed.set (.int .i64 (zn + zcnt)) z1, z2.kept gZ (fun e => by have := Option.some.inj e; omega), (d3.ext hxq).grown gZ (fun r e => by cases e; omega) (hrw1.ext hxf), Nat.le_trans (Nat.le_trans d4 hxq.le) gZ.size, hsN, hsD, hxf⟩ : ShI Z a n cap l fn tn x y w1 (pre ++ [⟨some ⟨b, off, none⟩, 1, zc, zcnt, zx⟩]) (wq.setCell ⟨Z, 0, none⟩ (.int .i64 (zn + zcnt)))))
        clear z1 z2 gZ hxf
        gi_wp2
        exact ⟨fin.out.1, fun r h => h.elim, fin.out.2⟩
      · have dd : decide (c = y) = false := by simpa using hcy
        rw [if_neg (by rw [dd]; simp), Int.add_zero] at hsN
        replace hsN := Lib.hid hsN.symm
        replace hcy := Lib.hid hcy
        gi_wp2
        rw [← hW1]
        refine wpIn_region_qxt 5 (by kernel_rfl) (by kernel_rfl) (by kernel_rfl) (by rintro ⟨_, _, h⟩; exact h) ?_
        simp only [List.take_succ_cons, List.take_zero, List.drop_succ_cons, List.drop_zero]
        repeat (go_big_quiet_step (fail))
        refine wpQuiet_nil ?_
        intro wq hw'
        have hxq := ext_of_ex hw'
        have t1 := hxq.cellv e1
        clear hw' r0 r1 r2 r3 r4 r5 r6
        go_wp2_with fail
        have fin := Lib.hid (And.intro (k1.trans (keepF hxq)) (⟨_, _, Boxed.more d1.out hxq, Boxed.more d2.out hxq, d3.ext hxq, Nat.le_trans d4 hxq.le, hsN, hsD, hx1.trans hxq⟩ : ShI Z a n cap l fn tn x y w1 (pre ++ [⟨some ⟨b, off, none⟩, 1, zc, zcnt, zx⟩]) wq))
        gi_wp2
        exact ⟨fin.out.1, fun r h => h.elim, fin.out.2⟩
    case done =>
      rintro D W hD ⟨zn, zd, q1, q2, q3, q4, q5, q6, q7⟩ hK
      have hb1 := cntSel_bd (p := isB y) (l := facL fn tn x l) (fun u hu => hfc.out u hu)
      have hb2 := cntSel_bd (p := fun _ => true) (l := facL fn tn x l) (fun u hu => hfc.out u hu)
      rw [← q5.out] at hb1
      rw [← q6.out] at hb2
      have hpl2 := hfl2.out
      obtain ⟨nn, rfl⟩ : ∃ nn : Nat, zn = nn := ⟨zn.toNat, by omega⟩
      obtain ⟨dn, rfl⟩ : ∃ dn : Nat, zd = dn := ⟨zd.toNat, by omega⟩
      have hnb : nn ≤ 9223372036854775807 := by omega
      have hdb : dn ≤ 9223372036854775807 := by omega
      have hqr := (Below.block q7.bel Q (Array.getElem?_eq_some_iff.1 hq1).1).trans hq1
      have hDQ : D ≠ Q := by have := hz.out; omega
      have hDs : w.heap.size ≤ D := by have := hz.out; have := hxw1.le; omega
      have hxW := hxw1.trans q7
      have cD := q2.cell
      have cZ := q1.cell
      obtain ⟨V, hV⟩ : ∃ V, V = shF (cntSel (isB y) (facL fn tn x l)) (cntSel (fun _ => true) (facL fn tn x l)) := ⟨_, rfl⟩
      have hV2 : V = shF nn dn := by rw [hV, ← q5.out, ← q6.out]
      replace hV := Lib.hid hV.symm
      clear hb1 hb2 hpl2 q1 q2 q3 q5 q6 q7 hD dx0 dx1 dx2 dy0 dy1 dy2 hwid hfrd hfc hfl2
      by_cases hd0 : dn = 0
      · have hd : ((dn : Int) == 0) = true := by simp [hd0]
        have hV3 : V = (0, 1) := by rw [hV2]; unfold shF; rw [if_pos (by simp [hd0])]
        replace hd0 := Lib.hid hd0
        replace hV2 := Lib.hid hV2
        replace hV3 := Lib.hid hV3
        obtain ⟨z0, z1, z2⟩ := frz3 hqr
        have k0 : W.cell? ⟨Q, 0, none⟩ = some (.int .i64 0) := by simp only [World.cell?]; rw [hqr]; rfl
        have k1 : W.cell? ⟨Q, 1, none⟩ = some (.int .i64 0) := by simp only [World.cell?]; rw [hqr]; rfl
        gi_wp2
        refine ⟨by simp, .inl ⟨_, _, rfl, run_takeDeferred ((heap_set' (by omega) _).trans ((heap_set' (by omega) _).trans hK)), ?_⟩⟩
        refine ⟨_, res_cell rfl _ _ Q _ _ (0, 0) _ rfl ((World.putObj_heap_other (by omega)).trans (heap_set (heap_set hqr _) _)) Try.underlying44 rfl (by kernel_rfl), ?_, (((hxW.setCell (p := ⟨Q, 0, none⟩) (by rw [hBx.out]; exact hwQ) _).setCell (p := ⟨Q, 1, none⟩) (by rw [hBx.out]; exact hwQ) _)).grown (grownBy_putObj' _ _ _) (fun k e => by cases e; exact hDs)⟩
        rw [hV.out, hV3.out]; rfl
      · have hd : ((dn : Int) == 0) = false := by simp [hd0]
        obtain ⟨gg, hgg⟩ : ∃ gg, gg = Nat.gcd nn dn := ⟨_, rfl⟩
        have hgp : 0 < gg := by rw [hgg]; exact Nat.gcd_pos_of_pos_right _ (by omega)
        have hV3 : V = (((nn / gg : Nat) : Int), ((dn / gg : Nat) : Int)) := by rw [hV2]; unfold shF; rw [if_neg (by simp [hd0]), Int.toNat_natCast, Int.toNat_natCast, ← hgg]; rfl
        have hqa : (nn : Int).tdiv (gg : Int) = ((nn / gg : Nat) : Int) := rfl
        have hqb : (dn : Int).tdiv (gg : Int) = ((dn / gg : Nat) : Int) := rfl
        have hg0 : ((gg : Int) == 0) = false := by simp; omega
        have hdn1 : nn / gg ≤ 9223372036854775807 := Nat.le_trans (Nat.div_le_self _ _) hnb
        have hdn2 : dn / gg ≤ 9223372036854775807 := Nat.le_trans (Nat.div_le_self _ _) hdb
        generalize nn / gg = u1 at *
        generalize dn / gg = u2 at *
        have hw1 : IntKind.i64.wrap (u1 : Int) = u1 := IntWalk.i64_in _ (by omega)
        have hw2 : IntKind.i64.wrap (u2 : Int) = u2 := IntWalk.i64_in _ (by omega)
        have r0 := fun z : ExtOf W => z.cell cZ
        have r1 := fun z : ExtOf W => z.cell cD
        replace hd0 := Lib.hid hd0
        replace hgg := Lib.hid hgg
        replace hV2 := Lib.hid hV2
        replace hV3 := Lib.hid hV3
        gi_wp2
        refine wpIn_region_qw 3 (by kernel_rfl) (by kernel_rfl) ?_
        simp only [List.take_succ_cons, List.take_zero, List.drop_succ_cons, List.drop_zero]
        repeat (go_big_quiet_step (fail))
        refine wpQuiet_nil ?_
        intro wq hw'
        have hxq := ext_of_ex hw'
        clear hw'
        clear r0 r1
        gi_wp2
        gi_loopw [16, 17, 54, 55, 56, 57, 58, 59] (fun u v _ _ _ _ _ _ wr => ∃ p q : Nat, p ≤ 9223372036854775807 ∧ q ≤ 9223372036854775807 ∧ u = .int .i64 p ∧ v = .int .i64 q ∧ Hid (Nat.gcd p q = gg) ∧ Ext W wr) (fun _ v _ _ _ _ _ _ _ => (intOf v).toNat)
        case atStart => exact ⟨nn, dn, hnb, hdb, rfl, rfl, Lib.hid hgg.out.symm, hxq⟩
        case round =>
          obtain ⟨p, q, hp, hq, rfl, rfl, hg, hxr⟩ := hrel
          by_cases hq0 : q = 0
          · have hdq : ((q : Int) != 0) = false := by simp [hq0]
            have hfin : p = gg := by rw [← hg.out, hq0, Nat.gcd_zero_right]
            subst hfin
            have r0 := fun z : ExtOf wr => z.cell (hxr.cellv cZ)
            have r1 := fun z : ExtOf wr => z.cell (hxr.cellv cD)
            replace hq0 := Lib.hid hq0
            gi_wp2
            refine wpIn_region_qw 7 (by kernel_rfl) (by kernel_rfl) ?_
            simp only [List.take_succ_cons, List.take_zero, List.drop_succ_cons, List.drop_zero]
            repeat (go_big_quiet_step (fail))
            refine wpQuiet_nil ?_
            intro wq hw'
            have hxq := ext_of_ex hw'
            clear hw'
            have hqq := (Below.block (hxr.trans hxq).bel Q (Array.getElem?_eq_some_iff.1 hqr).1).trans hqr
            have hKq := (Below.block (hxr.trans hxq).bel D (Array.getElem?_eq_some_iff.1 hK).1).trans hK
            have hxwq := hxW.trans (hxr.trans hxq)
            obtain ⟨z0, z1, z2⟩ := frz3 hqq
            have k0 : wq.cell? ⟨Q, 0, none⟩ = some (.int .i64 0) := by simp only [World.cell?]; rw [hqq]; rfl
            have k1 : wq.cell? ⟨Q, 1, none⟩ = some (.int .i64 0) := by simp only [World.cell?]; rw [hqq]; rfl
            clear r0 r1 hxr hxq hqa hqb
            gi_wp2
            refine ⟨by simp, .inl ⟨_, _, rfl, run_takeDeferred ((heap_set' (by omega) _).trans ((heap_set' (by omega) _).trans hKq)), ?_⟩⟩
            refine ⟨_, res_cell rfl _ _ Q _ _ (0, 0) _ rfl ((World.putObj_heap_other (by omega)).trans (heap_set (heap_set hqq _) _)) Try.underlying44 rfl (by kernel_rfl), ?_, (((hxwq.setCell (p := ⟨Q, 0, none⟩) (by rw [hBx.out]; exact hwQ) _).setCell (p := ⟨Q, 1, none⟩) (by rw [hBx.out]; exact hwQ) _)).grown (grownBy_putObj' _ _ _) (fun k e => by cases e; exact hDs)⟩
            rw [hV.out, hV3.out]; rfl
          · have hdq : ((q : Int) != 0) = true := by simp [hq0]
            have hd2 : ((q : Int) == 0) = false := by simp [hq0]
            obtain ⟨r, hr⟩ : ∃ r, r = p % q := ⟨_, rfl⟩
            have hlt : r < q := by rw [hr]; exact Nat.mod_lt _ (by omega)
            have hmod : (p : Int).tmod (q : Int) = (r : Int) := by rw [hr]; rfl
            have hmod2 : (p : Int) % (q : Int) = (r : Int) := by rw [hr]; rfl
            have hg2 : Hid (Nat.gcd q r = gg) := Lib.hid (by rw [← hg.out, Nat.gcd_comm p q, Nat.gcd_rec q p, ← hr, Nat.gcd_comm])
            replace hr := Lib.hid hr
            replace hq0 := Lib.hid hq0
            gi_wp2
            refine wpIn_region_qw 5 (by kernel_rfl) (by kernel_rfl) ?_
            simp only [List.take_succ_cons, List.take_zero, List.drop_succ_cons, List.drop_zero]
            repeat (go_big_quiet_step (fail))
            refine wpQuiet_nil ?_
            intro wq hw'
            have hxq := ext_of_ex hw'
            clear hw'
            clear hmod hmod2
            gi_wp2
            (first | exact ⟨⟨q, r, by omega, by omega, rfl, rfl, hg2, hxr.trans hxq⟩, (by simp [intOf]; omega)⟩ | (go_roundw; case rel => exact ⟨q, r, by omega, by omega, rfl, rfl, hg2, hxr.trans hxq⟩; case measure => exact (by simp [intOf]; omega)))
    case stop =>
      rintro D c pre W _ h _
      exact h.elim
  · have hS : shareV l f t x y = (0, 0) := by unfold shareV; rw [if_neg h0]
    rw [hS]
    generalize hE : askE l f t x y = er at *
    have hd : (er != 0) = true := by simpa using h0
    refine (callsIn_wide (n := 9)).1 ?_
    refine callsIn_of_wp_marks Try.func26 rfl trivial ?_ rfl
    simp only [Try.ntmps26, List.size_toArray, List.length_cons, List.length_nil, Nat.reduceAdd, Nat.reduceSub, Array.replicate_succ, Array.replicate_zero, List.push_toArray, List.append_toArray, List.nil_append, List.cons_append]
    gi_wp2
    have hC := OwnK.rdc (k := 3) Cl.len (lit_own Cl.len (((w.alloc (.cells #[.int .i64 x.kind, .int .u32 x.s.p.toNat, .int .u32 x.s.m.toNat] 39)).alloc (.cells #[.int .i64 y.kind, .int .u32 y.s.p.toNat, .int .u32 y.s.m.toNat] 39)).alloc (.cells #[.int .i64 0, .int .i64 0] 44)) 39 [x, y] #[.int .i64 x.kind, .int .u32 x.s.p.toNat, .int .u32 x.s.m.toNat, .int .i64 y.kind, .int .u32 y.s.p.toNat, .int .u32 y.s.m.toNat] rfl (n := 2) rfl (by decide))
    rw [World.size_alloc, World.size_alloc, World.size_alloc] at hC
    have bx0 : ((((w.alloc (.cells #[.int .i64 x.kind, .int .u32 x.s.p.toNat, .int .u32 x.s.m.toNat] 39)).alloc (.cells #[.int .i64 y.kind, .int .u32 y.s.p.toNat, .int .u32 y.s.m.toNat] 39)).alloc (.cells #[.int .i64 0, .int .i64 0] 44)).alloc (.cells #[.int .i64 x.kind, .int .u32 x.s.p.toNat, .int .u32 x.s.m.toNat, .int .i64 y.kind, .int .u32 y.s.p.toNat, .int .u32 y.s.m.toNat] 39)).cell? ⟨w.heap.size, 0, none⟩ = some (.int .i64 x.kind) := by go_simp
    have bx1 : ((((w.alloc (.cells #[.int .i64 x.kind, .int .u32 x.s.p.toNat, .int .u32 x.s.m.toNat] 39)).alloc (.cells #[.int .i64 y.kind, .int .u32 y.s.p.toNat, .int .u32 y.s.m.toNat] 39)).alloc (.cells #[.int .i64 0, .int .i64 0] 44)).alloc (.cells #[.int .i64 x.kind, .int .u32 x.s.p.toNat, .int .u32 x.s.m.toNat, .int .i64 y.kind, .int .u32 y.s.p.toNat, .int .u32 y.s.m.toNat] 39)).cell? ⟨w.heap.size, 1, none⟩ = some (.int .u32 x.s.p.toNat) := by go_simp
    have bx2 : ((((w.alloc (.cells #[.int .i64 x.kind, .int .u32 x.s.p.toNat, .int .u32 x.s.m.toNat] 39)).alloc (.cells #[.int .i64 y.kind, .int .u32 y.s.p.toNat, .int .u32 y.s.m.toNat] 39)).alloc (.cells #[.int .i64 0, .int .i64 0] 44)).alloc (.cells #[.int .i64 x.kind, .int .u32 x.s.p.toNat, .int .u32 x.s.m.toNat, .int .i64 y.kind, .int .u32 y.s.p.toNat, .int .u32 y.s.m.toNat] 39)).cell? ⟨w.heap.size, 2, none⟩ = some (.int .u32 x.s.m.toNat) := by go_simp
    have by0 : ((((w.alloc (.cells #[.int .i64 x.kind, .int .u32 x.s.p.toNat, .int .u32 x.s.m.toNat] 39)).alloc (.cells #[.int .i64 y.kind, .int .u32 y.s.p.toNat, .int .u32 y.s.m.toNat] 39)).alloc (.cells #[.int .i64 0, .int .i64 0] 44)).alloc (.cells #[.int .i64 x.kind, .int .u32 x.s.p.toNat, .int .u32 x.s.m.toNat, .int .i64 y.kind, .int .u32 y.s.p.toNat, .int .u32 y.s.m.toNat] 39)).cell? ⟨w.heap.size + 1, 0, none⟩ = some (.int .i64 y.kind) := by go_simp
    have by1 : ((((w.alloc (.cells #[.int .i64 x.kind, .int .u32 x.s.p.toNat, .int .u32 x.s.m.toNat] 39)).alloc (.cells #[.int .i64 y.kind, .int .u32 y.s.p.toNat, .int .u32 y.s.m.toNat] 39)).alloc (.cells #[.int .i64 0, .int .i64 0] 44)).alloc (.cells #[.int .i64 x.kind, .int .u32 x.s.p.toNat, .int .u32 x.s.m.toNat, .int .i64 y.kind, .int .u32 y.s.p.toNat, .int .u32 y.s.m.toNat] 39)).cell? ⟨w.heap.size + 1, 1, none⟩ = some (.int .u32 y.s.p.toNat) := by go_simp
    have by2 : ((((w.alloc (.cells #[.int .i64 x.kind, .int .u32 x.s.p.toNat, .int .u32 x.s.m.toNat] 39)).alloc (.cells #[.int .i64 y.kind, .int .u32 y.s.p.toNat, .int .u32 y.s.m.toNat] 39)).alloc (.cells #[.int .i64 0, .int .i64 0] 44)).alloc (.cells #[.int .i64 x.kind, .int .u32 x.s.p.toNat, .int .u32 x.s.m.toNat, .int .i64 y.kind, .int .u32 y.s.p.toNat, .int .u32 y.s.m.toNat] 39)).cell? ⟨w.heap.size + 1, 2, none⟩ = some (.int .u32 y.s.m.toNat) := by go_simp
    have hq : ((((w.alloc (.cells #[.int .i64 x.kind, .int .u32 x.s.p.toNat, .int .u32 x.s.m.toNat] 39)).alloc (.cells #[.int .i64 y.kind, .int .u32 y.s.p.toNat, .int .u32 y.s.m.toNat] 39)).alloc (.cells #[.int .i64 0, .int .i64 0] 44)).alloc (.cells #[.int .i64 x.kind, .int .u32 x.s.p.toNat, .int .u32 x.s.m.toNat, .int .i64 y.kind, .int .u32 y.s.p.toNat, .int .u32 y.s.m.toNat] 39)).heap[w.heap.size + 1 + 1]? = some (.cells #[.int .i64 0, .int .i64 0] 44 (0, 0)) := by
      refine (Below.heap_alloc _ _ _ (by simp)).trans ?_
      have := World.alloc_heap_new ((w.alloc (.cells #[.int .i64 x.kind, .int .u32 x.s.p.toNat, .int .u32 x.s.m.toNat] 39)).alloc (.cells #[.int .i64 y.kind, .int .u32 y.s.p.toNat, .int .u32 y.s.m.toNat] 39)) (.cells #[.int .i64 0, .int .i64 0] 44)
      rwa [World.size_alloc, World.size_alloc] at this
    have hxC : Ext w ((((w.alloc (.cells #[.int .i64 x.kind, .int .u32 x.s.p.toNat, .int .u32 x.s.m.toNat] 39)).alloc (.cells #[.int .i64 y.kind, .int .u32 y.s.p.toNat, .int .u32 y.s.m.toNat] 39)).alloc (.cells #[.int .i64 0, .int .i64 0] 44)).alloc (.cells #[.int .i64 x.kind, .int .u32 x.s.p.toNat, .int .u32 x.s.m.toNat, .int .i64 y.kind, .int .u32 y.s.p.toNat, .int .u32 y.s.m.toNat] 39)) := (by repeat (first | exact Ext.refl _ | refine Ext.drew ?_ | refine Ext.drewN ?_ _ | refine Ext.alloc ?_ _))
    generalize ((((w.alloc (.cells #[.int .i64 x.kind, .int .u32 x.s.p.toNat, .int .u32 x.s.m.toNat] 39)).alloc (.cells #[.int .i64 y.kind, .int .u32 y.s.p.toNat, .int .u32 y.s.m.toNat] 39)).alloc (.cells #[.int .i64 0, .int .i64 0] 44)).alloc (.cells #[.int .i64 x.kind, .int .u32 x.s.p.toNat, .int .u32 x.s.m.toNat, .int .i64 y.kind, .int .u32 y.s.p.toNat, .int .u32 y.s.m.toNat] 39)) = wC at *
    have hwQ : w.heap.size ≤ w.heap.size + 1 + 1 := by omega
    generalize hQ : w.heap.size + 1 + 1 = Q at *
    generalize hBy : w.heap.size + 1 = By at *
    generalize hBx : w.heap.size = Bx at *
    have hQx : Bx ≠ Q := by omega
    have hQy : By ≠ Q := by omega
    replace hQ := Lib.hid hQ
    replace hBy := Lib.hid hBy
    replace hBx := Lib.hid hBx
    have hask := ask_any a n cap l f t (some ⟨Q + 1, 0, none⟩) 2 2 [x, y] wC (hr.ext hxC) hC
    rw [askC_two] at hask
    rw [hE] at hask
    replace h0 := Lib.hid h0
    refine ⟨trivial, ?_⟩
    gi_at_call 51
    refine (callsIn_wide.2 hask).mono ?_
    rintro e w1 ⟨rfl, hx1⟩
    have hxw1 : Ext w w1 := hxC.trans hx1
    have hq1 := (Below.block hx1.bel Q (Array.getElem?_eq_some_iff.1 hq).1).trans hq
    have dx0 := hx1.cellv bx0
    have dx1 := hx1.cellv bx1
    have dx2 := hx1.cellv bx2
    have dy0 := hx1.cellv by0
    have dy1 := hx1.cellv by1
    have dy2 := hx1.cellv by2
    have lx := cell_lt dx0
    have ly := cell_lt dy0
    simp only at lx ly
    clear hask hC bx0 bx1 bx2 by0 by1 by2 hq hxC hx1
    obtain ⟨z0, z1, z2⟩ := frz3 hq1
    have k0 : w1.cell? ⟨Q, 0, none⟩ = some (.int .i64 0) := by simp only [World.cell?]; rw [hq1]; rfl
    have k1 : w1.cell? ⟨Q, 1, none⟩ = some (.int .i64 0) := by simp only [World.cell?]; rw [hq1]; rfl
    clear hS
    gi_wp2
    refine ⟨_, res_cell rfl _ _ Q _ _ (0, 0) _ rfl (heap_set (heap_set hq1 _) _) Try.underlying44 rfl (by kernel_rfl), ?_, ((hxw1.setCell (p := ⟨Q, 0, none⟩) (by rw [hBx.out]; exact hwQ) _).setCell (p := ⟨Q, 1, none⟩) (by rw [hBx.out]; exact hwQ) _)⟩
    rfl
end Go.Proofs.Ytkdancoffmhjhaa
