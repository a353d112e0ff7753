/-
  multi.insert: plans, plain; the walk.
-/
import Derived.Test.YtjfhfbobnncpkaaDoorT1
import Derived.Test.YtjfhfbobnncpkaaDoorOs
import Derived.IntWalk
import Derived.Deep.RegionHeld3
namespace Go.Proofs.YtjfhfbobnncpkaaDoor
open Go.RowKit
/-! ### Plans -/
abbrev PL := Int × Int
def PL.enc (x : PL) : List Value := [.int .i64 x.1, .int .i64 x.2]
theorem PL.len (x : PL) : (PL.enc x).length = 2 := rfl
abbrev H3 := Option Addr × Nat × Nat
def H3.enc (x : H3) : List Value := [.slice x.1 x.2.1 x.2.2]
theorem H3.len (x : H3) : (H3.enc x).length = 1 := rfl
/-- A step that can be taken at a place. -/
def Feas (m n i j : Nat) (s : Nat) : Prop := s ≤ 2 ∧ i + stepC s ≤ m ∧ j + stepS s ≤ n
def FeasB (m n i j : Nat) (b : Int) : Prop := ∃ s : Nat, b = (s : Int) ∧ Feas m n i j s
theorem feas_some {m n i j : Nat} (hi : i ≤ m) (hj : j ≤ n) (h : ¬ (i = m ∧ j = n)) : ∃ s, Feas m n i j s := by
  by_cases h1 : i < m
  · exact ⟨1, by unfold Feas stepC stepS; simp; omega⟩
  · exact ⟨2, by unfold Feas stepC stepS; simp; omega⟩
/-- A row of plans, from a place on. -/
def PlanR (m n i lo : Nat) (P : List PL) : Prop := ∀ (j : Nat) (x : PL), P[j]? = some x → lo ≤ j → ¬ (i = m ∧ j = n) → FeasB m n i j x.2
abbrev OwnP := OwnK 2 PL.enc
/-- What stands at a row of the plans. -/
def RowAt (W : World) (B m n : Nat) (hs : List H3) (i top : Nat) : Prop :=
  ∃ g P, hs[i]? = some (some ⟨g, 0, none⟩, n + 1, n + 1) ∧ g < top ∧ OwnP B 89 W (.slice (some ⟨g, 0, none⟩) (n + 1) (n + 1)) P ∧ PlanR m n i 0 P
theorem RowAt.ext {W W' : World} {B m n i top : Nat} {hs : List H3} (h : RowAt W B m n hs i top) (hx : Ext W W') : RowAt W' B m n hs i top := by
  obtain ⟨g, P, h1, h0, h2, h3⟩ := h
  exact ⟨g, P, h1, h0, h2.kept hx, h3⟩
/-- The plans: rows from i on are done. -/
structure Plans (wq W : World) (Pb m n : Nat) (hs : List H3) (i top : Nat) : Prop where
  ext : Ext wq W
  own : OwnK 1 H3.enc Pb 87 W (.slice (some ⟨Pb, 0, none⟩) (m + 1) (m + 1)) hs
  rows : ∀ r, i ≤ r → r ≤ m → RowAt W Pb m n hs r top
theorem Plans.kept {wq W W' : World} {Pb m n i top : Nat} {hs : List H3} (h : Plans wq W Pb m n hs i top) (hx : Ext W W') : Plans wq W' Pb m n hs i top :=
  ⟨h.ext.trans hx, h.own.kept hx, fun r h1 h2 => (h.rows r h1 h2).ext hx⟩
/-- What is stored at or behind 'top' touches no row that is done. -/
theorem Plans.set {wq W : World} {Pb m n i top : Nat} {hs : List H3} (h : Plans wq W Pb m n hs i top) {b o : Nat} {u : Value} (hb : top ≤ b) (hp : Pb < b) (hq : wq.heap.size ≤ b) : Plans wq (W.setCell ⟨b, o, none⟩ u) Pb m n hs i top :=
  ⟨ext_set h.ext hq o u, own_setOff h.own (by simp [Value.ownBlock]; omega), fun r h1 h2 => by
    obtain ⟨g, P, e1, e2, e3, e4⟩ := h.rows r h1 h2
    exact ⟨g, P, e1, e2, own_setOff e3 (by simp [Value.ownBlock]; omega), e4⟩⟩
/-- A row's header is laid. -/
theorem Plans.head {wq W : World} {Pb m n r top : Nat} {hs : List H3} (h : Plans wq W Pb m n hs (r + 1) top) (hq : wq.heap.size ≤ Pb) (hr : r ≤ m) (a : Option Addr) (x y : Nat) : Plans wq (W.setCell ⟨Pb, r, none⟩ (.slice a x y)) Pb m n (hs.set r (a, x, y)) (r + 1) top :=
  ⟨ext_set h.ext hq r _, own_set1 H3.len h.own (by omega) rfl, fun r' h1 h2 => by
    obtain ⟨g, P, e1, e2, e3, e4⟩ := h.rows r' h1 h2
    obtain ⟨cur, hc⟩ := own_type h.own (g := Pb) rfl
    exact ⟨g, P, by rw [List.getElem?_set_ne (by omega)]; exact e1, e2, own_offT e3 hc (by decide), e4⟩⟩
/-- The row at hand. -/
structure Cur (W : World) (Pb m n : Nat) (hs : List H3) (r g j : Nat) (P : List PL) : Prop where
  hd : hs[r]? = some (some ⟨g, 0, none⟩, n + 1, n + 1)
  own : OwnP Pb 89 W (.slice (some ⟨g, 0, none⟩) (n + 1) (n + 1)) P
  pl : PlanR m n r j P
theorem Cur.kept {W W' : World} {Pb m n r g j : Nat} {hs : List H3} {P : List PL} (h : Cur W Pb m n hs r g j P) (hx : Ext W W') : Cur W' Pb m n hs r g j P := ⟨h.hd, h.own.kept hx, h.pl⟩
theorem Cur.off {W : World} {Pb m n r g j : Nat} {hs : List H3} {P : List PL} (h : Cur W Pb m n hs r g j P) {b o : Nat} {u : Value} (hb : g ≠ b) : Cur (W.setCell ⟨b, o, none⟩ u) Pb m n hs r g j P := ⟨h.hd, own_setOff h.own (by simp [Value.ownBlock]; omega), h.pl⟩
theorem Cur.done {wq W : World} {Pb m n r g top top' : Nat} {hs : List H3} {P : List PL} (h : Plans wq W Pb m n hs (r + 1) top) (c : Cur W Pb m n hs r g 0 P) (h1 : top ≤ top') (h2 : g < top') : Plans wq W Pb m n hs r top' :=
  ⟨h.ext, h.own, fun r' h3 h4 => by
    by_cases e : r' = r
    · subst e; exact ⟨g, P, c.hd, h2, c.own, c.pl⟩
    · obtain ⟨g', P', e1, e2, e3, e4⟩ := h.rows r' (by omega) h4
      exact ⟨g', P', e1, by omega, e3, e4⟩⟩
/-- The table of the steps. -/
def stepsC : Array Value := #[.int .i64 1, .int .i64 1, .func (.func 93) #[] #[], .int .i64 1, .int .i64 0, .func (.func 96) #[] #[], .int .i64 0, .int .i64 1, .func (.func 97) #[] #[]]
def StepsOk (w : World) : Prop := ∃ t fr, w.heap[0]? = some (.cells stepsC t fr)
theorem StepsOk.ext {w w' : World} (h : StepsOk w) (hx : Ext w w') : StepsOk w' := by
  obtain ⟨t, fr, hh⟩ := h
  exact ⟨t, fr, (Below.block hx.bel _ (Array.getElem?_eq_some_iff.1 hh).1).trans hh⟩
def stepF : Nat → Nat
  | 0 => 93
  | 1 => 96
  | _ => 97
theorem stepV_eq {k : Nat} : stepV k = .agg #[.int .i64 (stepC k : Int), .int .i64 (stepS k : Int), .func (.func (stepF k)) #[] #[]] := by
  match k with
  | 0 => rfl
  | 1 => rfl
  | k + 2 => simp [stepV, stepC, stepS, stepF]
theorem made_any' {Ba Bc Bp : Nat} {aA : Option Addr} {cA : Nat} {b : Option Addr} {m cap2 p : Nat} {cs : List HI} {ns : List Nat} (w : World) (h : MadeB w Ba Bc Bp aA cA b m cap2 p cs ns) (hp : p ≤ 7) (s i j : Nat)
    (hi : i + stepC s ≤ m) (hj : ∃ n, ns[p]? = some n ∧ j + stepS s ≤ n) :
    Calls Tryd.prog 32 #[.int .i64 i, .int .i64 j, .agg #[.int .i64 (stepC s : Int), .int .i64 (stepS s : Int), .func (.func (stepF s)) #[] #[]], .pointer (some ⟨Ba, 0, none⟩), .pointer (some ⟨Bc, 0, none⟩), .pointer (some ⟨Bp, 0, none⟩)] w (RetMade ns p w) := by
  rw [← stepV_eq]; exact made_any w h hp s i j hi hj
theorem step_index0 : ∀ w, (Instr.index 90 (.agg stepsC) (.int .i64 0)).run Tryd.prog w = .ok (.agg #[.int .i64 1, .int .i64 1, .func (.func 93) #[] #[]]) w := fun _ => by kernel_rfl
theorem step_index1 : ∀ w, (Instr.index 90 (.agg stepsC) (.int .i64 1)).run Tryd.prog w = .ok (.agg #[.int .i64 1, .int .i64 0, .func (.func 96) #[] #[]]) w := fun _ => by kernel_rfl
theorem step_index2 : ∀ w, (Instr.index 90 (.agg stepsC) (.int .i64 2)).run Tryd.prog w = .ok (.agg #[.int .i64 0, .int .i64 1, .func (.func 97) #[] #[]]) w := fun _ => by kernel_rfl
theorem step_index {k : Nat} (h : k < 3) (w : World) : (Instr.index 90 (.agg stepsC) (.int .i64 (k : Int))).run Tryd.prog w = .ok (.agg #[.int .i64 (stepC k : Int), .int .i64 (stepS k : Int), .func (.func (stepF k)) #[] #[]]) w := by
  match k, h with
  | 0, _ => exact step_index0 w
  | 1, _ => exact step_index1 w
  | 2, _ => exact step_index2 w
theorem step_cells {k : Nat} (h : k ≤ 2) {w : World} (hS : StepsOk w) : w.cell? ⟨0, k * 3, none⟩ = some (.int .i64 (stepC k : Int)) ∧ w.cell? ⟨0, k * 3 + 1, none⟩ = some (.int .i64 (stepS k : Int)) ∧ w.cell? ⟨0, k * 3 + 2, none⟩ = some (.func (.func (stepF k)) #[] #[]) := by
  obtain ⟨t, fr, hh⟩ := hS
  simp only [World.cell?, hh]
  match k, h with
  | 0, _ => exact ⟨rfl, rfl, rfl⟩
  | 1, _ => exact ⟨rfl, rfl, rfl⟩
  | 2, _ => exact ⟨rfl, rfl, rfl⟩
theorem stepC_le (k : Nat) : stepC k ≤ 1 := by unfold stepC; split <;> omega
theorem stepS_le (k : Nat) : stepS k ≤ 1 := by unfold stepS; split <;> omega
theorem step_pos (k : Nat) : 1 ≤ stepC k + stepS k := by unfold stepC stepS; split <;> split <;> omega
/-- The best step so far, of those below k. -/
def BestI (m n r j k : Nat) (c b : Int) : Prop := (c = -1 ∧ ∀ s, s < k → ¬ Feas m n r j s) ∨ FeasB m n r j b
theorem BestI.skip {m n r j k : Nat} {c b : Int} (h : BestI m n r j k c b) (hn : ¬ Feas m n r j k) : BestI m n r j (k + 1) c b := by
  rcases h with ⟨h1, h2⟩ | h
  · exact .inl ⟨h1, fun s hs => by
      rcases Nat.lt_or_ge s k with h3 | h3
      · exact h2 s h3
      · obtain rfl : s = k := by omega
        exact hn⟩
  · exact .inr h
theorem BestI.take {m n r j k : Nat} {c : Int} (hf : Feas m n r j k) : BestI m n r j (k + 1) c (k : Int) := .inr ⟨k, rfl, hf⟩
theorem BestI.keep {m n r j k : Nat} {c b : Int} (h : BestI m n r j k c b) (hc : ¬ c < 0) : BestI m n r j (k + 1) c b := by
  rcases h with ⟨h1, _⟩ | h
  · omega
  · exact .inr h
theorem BestI.done {m n r j : Nat} {c b : Int} (h : BestI m n r j 3 c b) (hi : r ≤ m) (hj : j ≤ n) (hne : ¬ (r = m ∧ j = n)) : FeasB m n r j b := by
  rcases h with ⟨_, h2⟩ | h
  · obtain ⟨s, hs⟩ := feas_some hi hj hne
    exact absurd hs (h2 s (by have := hs.1; omega))
  · exact h
/-- A box of two numbers. -/
def Box2 (W : World) (B : Nat) (c b : Int) : Prop := W.heap[B]? = some (.cells #[.int .i64 c, .int .i64 b] 89 (0, 0))
theorem Box2.kept {W W' : World} {B : Nat} {c b : Int} (h : Box2 W B c b) (hx : Ext W W') : Box2 W' B c b := (Below.block hx.bel _ (Array.getElem?_eq_some_iff.1 h).1).trans h
theorem Box2.cells {W : World} {B : Nat} {c b : Int} (h : Box2 W B c b) : W.cell? ⟨B, 0, none⟩ = some (.int .i64 c) ∧ W.cell? ⟨B, 1, none⟩ = some (.int .i64 b) ∧ (∀ i, W.frozen? ⟨B, i, none⟩ = false) ∧ B < W.heap.size := by
  unfold Box2 at h
  refine ⟨by simp [World.cell?, h], by simp [World.cell?, h], fun i => frozen_of_row W B i _ _ h, (Array.getElem?_eq_some_iff.1 h).1⟩
theorem Box2.set0 {W : World} {B : Nat} {c b : Int} (h : Box2 W B c b) (x : Int) : Box2 (W.setCell ⟨B, 0, none⟩ (.int .i64 x)) B x b := by
  have := heap_setCell_same W B 0 _ _ (.int .i64 x) h
  unfold Box2; rw [this]; rfl
theorem Box2.set1 {W : World} {B : Nat} {c b : Int} (h : Box2 W B c b) (x : Int) : Box2 (W.setCell ⟨B, 1, none⟩ (.int .i64 x)) B c x := by
  have := heap_setCell_same W B 1 _ _ (.int .i64 x) h
  unfold Box2; rw [this]; rfl
/-- Where a step leads to: the plans' header and the cost there. -/
theorem at_step {wq W : World} {Pb m n r G j k top : Nat} {hs : List H3} {P : List PL} (h : Plans wq W Pb m n hs (r + 1) top) (c : Cur W Pb m n hs r G (j + 1) P) (hf : Feas m n r j k) :
    ∃ g x, W.cell? ⟨Pb, r + stepC k, none⟩ = some (.slice (some ⟨g, 0, none⟩) (n + 1) (n + 1)) ∧ W.cell? ⟨g, (j + stepS k) * 2, none⟩ = some (.int .i64 x) := by
  obtain ⟨h1, h2, h3⟩ := hf
  have hc := stepC_le k
  obtain ⟨g, P', e1, e3⟩ : ∃ g P', hs[r + stepC k]? = some (some ⟨g, 0, none⟩, n + 1, n + 1) ∧ OwnP Pb 89 W (.slice (some ⟨g, 0, none⟩) (n + 1) (n + 1)) P' := by
    rcases Nat.eq_zero_or_pos (stepC k) with e | e
    · rw [e]; exact ⟨G, P, c.hd, c.own⟩
    · obtain ⟨g, P', e1, _, e3, _⟩ := h.rows (r + stepC k) (by omega) h2
      exact ⟨g, P', e1, e3⟩
  have hl := (own_ge e3).2.2.1
  have hx : P'[j + stepS k]? = some P'[j + stepS k] := List.getElem?_eq_getElem (by omega)
  have c1 := own_at H3.len h.own e1 (j := 0) rfl
  have c2 := own_at PL.len e3 hx (j := 0) rfl
  exact ⟨g, _, by simpa using c1, by simpa using c2⟩
/-- Columns that the call owns, rows and all. -/
structure OwnHI (B : Nat) (w : World) (v : Value) (hs : List HI) : Prop where
  own : OwnK 1 HI.enc B 28 w v hs
  ok : ∀ h ∈ hs, OwnI B 3 w (.slice h.a h.n h.cap) h.x
theorem OwnHI.kept {B : Nat} {w w' : World} {v : Value} {hs : List HI} (h : OwnHI B w v hs) (hx : Ext w w') : OwnHI B w' v hs := ⟨h.own.kept hx, fun y hy => (h.ok y hy).kept hx⟩
theorem OwnHI.nil (B : Nat) (w : World) : OwnHI B w (.slice none 0 0) [] := ⟨OwnK.nil _ _ _, fun y hy => by cases hy⟩
theorem OwnHI.rd {B : Nat} {w : World} {v : Value} {hs : List HI} (h : OwnHI B w v hs) : ∃ a n cap, n = hs.length ∧ v = .slice a n cap ∧ RdN2 w a n cap hs := by
  obtain ⟨a, n, cap, h1, h2, h3⟩ := OwnK.rdn HI.len h.own
  exact ⟨a, n, cap, h1, h2, h3, fun y hy => OwnK.rdc I64.len (h.ok y hy)⟩
theorem HI.one (h : HI) : ∀ u ∈ HI.enc h, u.oneCell' = true := by intro u hu; simp [HI.enc] at hu; subst hu; rfl
theorem info_hi : (Tryd.prog.info? 28).map (fun i => (i.zero, i.size, i.bytes)) = some (some (.slice none 0 0), 1, 24) := by kernel_rfl
theorem info_pl : (Tryd.prog.info? 89).map (fun i => (i.zero, i.size, i.bytes)) = some (some (.agg #[.int .i64 0, .int .i64 0]), 2, 16) := by kernel_rfl
theorem info_pls : (Tryd.prog.info? 87).map (fun i => (i.zero, i.size, i.bytes)) = some (some (.slice none 0 0), 1, 24) := by kernel_rfl
set_option maxHeartbeats 4000000 in
set_option maxRecDepth 100000 in
theorem insert_any {Bc Bl : Nat} {ac : Option Addr} {nc cc : Nat} {ws : List Int} {g : Int} {aW : Option Addr} {nW cW : Nat} {l : List HS} (w : World) (hP : PriceB w Bc Bl ac nc cc ws g aW nW cW l)
    (hws : costsB ws g = true) (hok : ∀ y ∈ l, ∀ s ∈ y.x, s.ok = true) (hS : StepsOk w)
    (aA : Option Addr) (cA p : Nat) (hA : RdW w aA (p + 1) cA (l.take (p + 1))) (hp : p ≤ 7) (y : HS) (hy : l[p]? = some y) (hn : y.n ≤ 32)
    (b : Option Addr) (m cap2 : Nat) (cs : List HI) (hC : RdN2 w b m cap2 cs) (hm : m ≤ 1000) (hlen : ∀ c ∈ cs, c.x.length = p) (hcv : ∀ c ∈ cs, ColV (l.map HS.n) c.x) :
    Calls Tryd.prog 21 #[.slice aA (p + 1) cA, .slice b m cap2, .int .i64 p, priceV Bc Bl] w fun e w' =>
      ∃ v hs, e = .returned v ∧ OwnHI w.heap.size w' v hs ∧ hs.length ≤ m + y.n ∧ (∀ h ∈ hs, h.x.length = p + 1 ∧ ColV (l.map HS.n) h.x) ∧ Ext w w' := by
  have hns : (l.map HS.n)[p]? = some y.n := by rw [List.getElem?_map, hy]; rfl
  obtain ⟨bA, oA, y1, rfl, hy1, hbA, hA0, _⟩ := hA.at (i := p) (by omega)
  obtain rfl : y1 = y := by
    have h1 := hy1.out
    rw [List.getElem?_take] at h1
    rw [if_pos (by omega), hy] at h1
    exact (Option.some.inj h1).symm
  obtain ⟨ya, n, yc, yx⟩ := y1
  simp only at hA0 hn hns ⊢
  replace hy := Lib.hid hy
  replace hy1 := Lib.hid hy1.out
  replace hns := Lib.hid hns
  replace hok := Lib.hid hok
  replace hlen := Lib.hid hlen
  replace hcv := Lib.hid hcv
  have hmkP := fun W => run_mk (k := 1) (P := Tryd.prog) 82 Tryd.underlying82 info_pls (m + 1) (by omega) (by decide) W
  have hmkR := fun W => run_mk (k := 2) (P := Tryd.prog) 87 Tryd.underlying87 info_pl (n + 1) (by omega) (by decide) W
  push_cast at hmkP hmkR
  have hpp : (p : Int) < (p : Int) + 1 := by omega
  have hm1 : (m : Int) ≤ 1000 := by omega
  have hn1 : (n : Int) ≤ 32 := by omega
  have hxB : Ext w (((w.alloc (.cells #[.slice (some ⟨bA, oA, none⟩) (p + 1) cA] 53)).alloc (.cells #[.slice b m cap2] 55)).alloc (.cells #[.int .i64 p] 3)) := (by repeat (first | exact Ext.refl _ | refine Ext.drew ?_ | refine Ext.drewN ?_ _ | refine Ext.alloc ?_ _))
  have q4 : (((w.alloc (.cells #[.slice (some ⟨bA, oA, none⟩) (p + 1) cA] 53)).alloc (.cells #[.slice b m cap2] 55)).alloc (.cells #[.int .i64 p] 3)).cell? ⟨w.heap.size, 0, none⟩ = some (.slice (some ⟨bA, oA, none⟩) (p + 1) cA) := by go_simp
  have q5 : (((w.alloc (.cells #[.slice (some ⟨bA, oA, none⟩) (p + 1) cA] 53)).alloc (.cells #[.slice b m cap2] 55)).alloc (.cells #[.int .i64 p] 3)).cell? ⟨w.heap.size + 1, 0, none⟩ = some (.slice b m cap2) := by go_simp
  have q6 : (((w.alloc (.cells #[.slice (some ⟨bA, oA, none⟩) (p + 1) cA] 53)).alloc (.cells #[.slice b m cap2] 55)).alloc (.cells #[.int .i64 p] 3)).cell? ⟨w.heap.size + 1 + 1, 0, none⟩ = some (.int .i64 p) := by go_simp
  have r4 := fun X : ExtOf (((w.alloc (.cells #[.slice (some ⟨bA, oA, none⟩) (p + 1) cA] 53)).alloc (.cells #[.slice b m cap2] 55)).alloc (.cells #[.int .i64 p] 3)) => X.cell q4
  have r5 := fun X : ExtOf (((w.alloc (.cells #[.slice (some ⟨bA, oA, none⟩) (p + 1) cA] 53)).alloc (.cells #[.slice b m cap2] 55)).alloc (.cells #[.int .i64 p] 3)) => X.cell q5
  have r6 := fun X : ExtOf (((w.alloc (.cells #[.slice (some ⟨bA, oA, none⟩) (p + 1) cA] 53)).alloc (.cells #[.slice b m cap2] 55)).alloc (.cells #[.int .i64 p] 3)) => X.cell q6
  have rA := fun X : ExtOf (((w.alloc (.cells #[.slice (some ⟨bA, oA, none⟩) (p + 1) cA] 53)).alloc (.cells #[.slice b m cap2] 55)).alloc (.cells #[.int .i64 p] 3)) => X.cell (hxB.cellv hA0)
  go_enter Tryd.func21, Tryd.ntmps21
  go_wp2_with fail
  (refine wp_region_qx (by kernel_rfl) (by kernel_rfl) ?_
   repeat (go_big_quiet_step ((fail)))
   refine wpQuiet_nil ?_
   intro wq hw'
   have hxq := ext_of_ex hw'
   clear hw')
  clear r4 r5 r6 rA
  have hMB : MadeB wq w.heap.size (w.heap.size + 1) (w.heap.size + 1 + 1) (some ⟨bA, oA, none⟩) cA b m cap2 p cs (l.map HS.n) :=
    ⟨hxq.cellv q4, hxq.cellv q5, hxq.cellv q6, (hC.ext hxB).ext hxq, hlen.out, hcv.out⟩
  have hx0 : Ext w wq := hxB.trans hxq
  replace hP := hP.ext hx0
  replace hS := hS.ext hx0
  have hle := Ext.le hx0
  clear q4 q5 q6 hxB hxq hA hA0 hC hbA
  have hown0 := made_own H3.len (by decide) wq 87 #[Value.slice none 0 0] ((none, 0, 0) : H3) rfl (m + 1) (by omega)
  have hxp := Ext.alloc1 wq (.cells (madeCells #[Value.slice none 0 0] (m + 1)) 87)
  rw [Nat.mul_one] at hown0
  generalize hPb : wq.heap.size = Pb at *
  go_wp2_with fail
  generalize (wq.alloc (.cells (madeCells #[Value.slice none 0 0] (m + 1)) 87)) = wp at *
  replace hPb := Lib.hid hPb
  go_loopw [13] (fun iv wr => ∃ (i : Nat) (z : Int) (hs : List H3) (top : Nat), iv = .int .i64 z ∧ z + 1 = (i : Int) ∧ i ≤ m + 1 ∧ top ≤ wr.heap.size ∧ Plans wq wr Pb m n hs i top) (fun iv _ => (intOf iv + 1).toNat)
  case atStart => exact ⟨m + 1, _, _, 0, rfl, by omega, Nat.le_refl _, Nat.zero_le _, ⟨hxp, hown0, fun r h1 h2 => absurd h1 (by omega)⟩⟩
  case round =>
    obtain ⟨i, z, hs, top, rfl, hz, him, htop0, hI⟩ := hrel
    rcases i with _ | r
    · obtain rfl : z = -1 := by omega
      obtain ⟨we, rfl⟩ : ∃ wo : World, wo = wr := ⟨_, rfl⟩
      have hPe := own_ge hI.own
      have hxe := hx0.trans hI.ext
      have hlee := Ext.le hxe
      replace hMB := hMB.ext hI.ext
      replace hS := hS.ext hI.ext
      replace hPe := Lib.hid hPe
      clear hown0 hxp hz
      go_wp2_with fail
      go_loopw [19, 20, 21] (fun ov iv jv wr => ∃ (i j : Nat) (L : List HI), iv = .int .i64 i ∧ jv = .int .i64 j ∧ i ≤ m ∧ j ≤ n ∧ OwnHI we.heap.size wr ov L ∧ L.length + (m - i) + (n - j) ≤ m + n ∧ Hid (∀ h ∈ L, h.x.length = p + 1 ∧ ColV (l.map HS.n) h.x) ∧ Ext we wr) (fun _ iv jv _ => (m - (intOf iv).toNat) + (n - (intOf jv).toNat))
      case atStart => exact ⟨0, 0, [], rfl, rfl, Nat.zero_le _, Nat.zero_le _, OwnHI.nil _ _, by simp, Lib.hid (fun h hh => by cases hh), Ext.refl _⟩
      case round =>
        obtain ⟨i, j, L, rfl, rfl, hi, hj, hO, hL, hLs, hx⟩ := hrel
        by_cases hi2 : i < m
        · have di : decide ((i : Int) < (m : Int)) = true := by simp; omega
          have hne : ¬ (i = m ∧ j = n) := by omega
          obtain ⟨g1, P1, e1, _, e3, e4⟩ := hI.rows i (Nat.zero_le _) hi
          have hg1 := (own_ge e3).2.2.1
          have hjl : j < P1.length := by omega
          obtain ⟨s, hs2, hfe⟩ := e4 j _ (List.getElem?_eq_getElem hjl) (Nat.zero_le _) hne
          have hsle := hfe.1
          have hx2 := hx
          have c1 := hx.cellv (own_at H3.len hI.own e1 (j := 0) rfl)
          have c2 := hx.cellv (own_at PL.len e3 (List.getElem?_eq_getElem hjl) (j := 1) rfl)
          rw [Nat.mul_one, Nat.add_zero] at c1
          rw [hs2] at c2
          obtain ⟨t0, t1, t2⟩ := step_cells hsle (hS.ext hx)
          have hC1 : (stepC s : Int) ≤ 1 := by have := stepC_le s; omega
          have hS1 : (stepS s : Int) ≤ 1 := by have := stepS_le s; omega
          have hC0 : (0 : Int) ≤ (stepC s : Int) := by omega
          have hS0 : (0 : Int) ≤ (stepS s : Int) := by omega
          have hs3 : (s : Int) < 3 := by omega
          have him2 : (i : Int) < (m : Int) + 1 := by omega
          have hjn2 : (j : Int) < (n : Int) + 1 := by omega
          have hpos := step_pos s
          have hfe1 := hfe.2.1
          have hfe2 := hfe.2.2
          have hmade := made_any' (wr.alloc (.cells #[.int .i64 (stepC s : Int), .int .i64 (stepS s : Int), .func (.func (stepF s)) #[] #[]] 85)) (hMB.ext (hx.alloc _)) hp s i j hfe.2.1 ⟨n, hns.out, hfe.2.2⟩
          replace hne := Lib.hid hne
          replace hs2 := Lib.hid hs2
          replace hg1 := Lib.hid hg1
          replace hjl := Lib.hid hjl
          replace e1 := Lib.hid e1
          go_wp2_with fail
          refine hmade.mono ?_
          rintro e w1 ⟨v1, L1, rfl, hL1, hL2, hL3, hL4⟩
          obtain ⟨a1, q1, c1', hq1, rfl, _⟩ := OwnK.rdn I64.len hL1
          replace hq1 := Lib.hid hq1
          replace hL2 := Lib.hid hL2
          have hb1 : w1.heap[wr.heap.size]? = some (.cells #[.int .i64 (stepC s : Int), .int .i64 (stepS s : Int), .func (.func (stepF s)) #[] #[]] 85 (0, 0)) := blk_kept (World.alloc_heap_new wr _) hL4
          have hx1 : Ext we w1 := (hx.alloc _).trans hL4
          have hO1 := (hO.kept (Ext.alloc1 _ _)).kept hL4
          have hB1 := OwnK.base hL1 (show we.heap.size ≤ _ from (hx.alloc _).le)
          clear hmade c1 c2 t0 t1 t2
          go_wp2_with (at_builtin; refine wp_app1 we w1 (⟨a1, q1, c1', L1⟩ : HI) rfl _ _ 55 rfl 28 Tryd.underlying55 info_hi rfl (by decide) _ _ rfl hO1.own hx1 rfl (HI.len _) (HI.one _) (by omega) (by unfold maxLen; omega) ?_; intro v5 w10 o5 x5 hgA)
          have hxa := Ext.alloc1 w1 (.cells (HI.enc ⟨a1, q1, c1', L1⟩).toArray 28)
          have hOa := hO1.kept hxa
          have hb2 := blk_otherT (blk_kept hb1 hxa) hOa.own hgA (by decide)
          have hrows : ∀ h ∈ L ++ [(⟨a1, q1, c1', L1⟩ : HI)], OwnI we.heap.size 3 w10 (.slice h.a h.n h.cap) h.x := fun h hh => by
            rcases List.mem_append.1 hh with h1 | h1
            · exact own_otherT (hOa.ok h h1) hOa.own hgA (by decide)
            · obtain rfl : h = ⟨a1, q1, c1', L1⟩ := by simpa using h1
              exact own_otherT (hB1.kept hxa) hOa.own hgA (by decide)
          have hLs2 : Hid (∀ h ∈ L ++ [(⟨a1, q1, c1', L1⟩ : HI)], h.x.length = p + 1 ∧ ColV (l.map HS.n) h.x) := Lib.hid fun h hh => by
            rcases List.mem_append.1 hh with h1 | h1
            · exact hLs.out h h1
            · obtain rfl : h = ⟨a1, q1, c1', L1⟩ := by simpa using h1
              exact ⟨hL2.out, hL3⟩
          have k0 : w10.cell? ⟨wr.heap.size, 0, none⟩ = some (.int .i64 (stepC s : Int)) := by simp [World.cell?, hb2]
          have k1 : w10.cell? ⟨wr.heap.size, 1, none⟩ = some (.int .i64 (stepS s : Int)) := by simp [World.cell?, hb2]
          have hO5 : OwnHI we.heap.size w10 v5 (L ++ [(⟨a1, q1, c1', L1⟩ : HI)]) := ⟨o5, hrows⟩
          have hlen5 : (L ++ [(⟨a1, q1, c1', L1⟩ : HI)]).length = L.length + 1 := by simp
          replace hO5 := Lib.hid hO5
          replace hlen5 := Lib.hid hlen5
          clear hrows o5 hgA hOa hO1 hb1 hb2 hxa
          go_wp2_with fail
          go_quiet (fail)
          go_wp2_with fail
          refine ⟨⟨i + stepC s, j + stepS s, _, by rw [Int.natCast_add], by rw [Int.natCast_add], hfe1, hfe2, hO5.out.kept (by repeat (first | exact Ext.refl _ | refine Ext.drew ?_ | refine Ext.drewN ?_ _ | refine Ext.alloc ?_ _)), by rw [hlen5.out]; omega, hLs2, Ext.trans x5 (by repeat (first | exact Ext.refl _ | refine Ext.drew ?_ | refine Ext.drewN ?_ _ | refine Ext.alloc ?_ _))⟩, ?_⟩
          simp only [intOf]
          omega
        · have hie : i = m := by omega
          have di : decide ((i : Int) < (m : Int)) = false := by simp; omega
          by_cases hj2 : j < n
          · have dj : decide ((j : Int) < (n : Int)) = true := by simp; omega
            have hne : ¬ (i = m ∧ j = n) := by omega
            replace hie := Lib.hid hie
            obtain ⟨g1, P1, e1, _, e3, e4⟩ := hI.rows i (Nat.zero_le _) hi
            have hg1 := (own_ge e3).2.2.1
            have hjl : j < P1.length := by omega
            obtain ⟨s, hs2, hfe⟩ := e4 j _ (List.getElem?_eq_getElem hjl) (Nat.zero_le _) hne
            have hsle := hfe.1
            have hx2 := hx
            have c1 := hx.cellv (own_at H3.len hI.own e1 (j := 0) rfl)
            have c2 := hx.cellv (own_at PL.len e3 (List.getElem?_eq_getElem hjl) (j := 1) rfl)
            rw [Nat.mul_one, Nat.add_zero] at c1
            rw [hs2] at c2
            obtain ⟨t0, t1, t2⟩ := step_cells hsle (hS.ext hx)
            have hC1 : (stepC s : Int) ≤ 1 := by have := stepC_le s; omega
            have hS1 : (stepS s : Int) ≤ 1 := by have := stepS_le s; omega
            have hC0 : (0 : Int) ≤ (stepC s : Int) := by omega
            have hS0 : (0 : Int) ≤ (stepS s : Int) := by omega
            have hs3 : (s : Int) < 3 := by omega
            have him2 : (i : Int) < (m : Int) + 1 := by omega
            have hjn2 : (j : Int) < (n : Int) + 1 := by omega
            have hpos := step_pos s
            have hfe1 := hfe.2.1
            have hfe2 := hfe.2.2
            have hmade := made_any' (wr.alloc (.cells #[.int .i64 (stepC s : Int), .int .i64 (stepS s : Int), .func (.func (stepF s)) #[] #[]] 85)) (hMB.ext (hx.alloc _)) hp s i j hfe.2.1 ⟨n, hns.out, hfe.2.2⟩
            replace hne := Lib.hid hne
            replace hs2 := Lib.hid hs2
            replace hg1 := Lib.hid hg1
            replace hjl := Lib.hid hjl
            replace e1 := Lib.hid e1
            go_wp2_with fail
            refine hmade.mono ?_
            rintro e w1 ⟨v1, L1, rfl, hL1, hL2, hL3, hL4⟩
            obtain ⟨a1, q1, c1', hq1, rfl, _⟩ := OwnK.rdn I64.len hL1
            replace hq1 := Lib.hid hq1
            replace hL2 := Lib.hid hL2
            have hb1 : w1.heap[wr.heap.size]? = some (.cells #[.int .i64 (stepC s : Int), .int .i64 (stepS s : Int), .func (.func (stepF s)) #[] #[]] 85 (0, 0)) := blk_kept (World.alloc_heap_new wr _) hL4
            have hx1 : Ext we w1 := (hx.alloc _).trans hL4
            have hO1 := (hO.kept (Ext.alloc1 _ _)).kept hL4
            have hB1 := OwnK.base hL1 (show we.heap.size ≤ _ from (hx.alloc _).le)
            clear hmade c1 c2 t0 t1 t2
            go_wp2_with (at_builtin; refine wp_app1 we w1 (⟨a1, q1, c1', L1⟩ : HI) rfl _ _ 55 rfl 28 Tryd.underlying55 info_hi rfl (by decide) _ _ rfl hO1.own hx1 rfl (HI.len _) (HI.one _) (by omega) (by unfold maxLen; omega) ?_; intro v5 w10 o5 x5 hgA)
            have hxa := Ext.alloc1 w1 (.cells (HI.enc ⟨a1, q1, c1', L1⟩).toArray 28)
            have hOa := hO1.kept hxa
            have hb2 := blk_otherT (blk_kept hb1 hxa) hOa.own hgA (by decide)
            have hrows : ∀ h ∈ L ++ [(⟨a1, q1, c1', L1⟩ : HI)], OwnI we.heap.size 3 w10 (.slice h.a h.n h.cap) h.x := fun h hh => by
              rcases List.mem_append.1 hh with h1 | h1
              · exact own_otherT (hOa.ok h h1) hOa.own hgA (by decide)
              · obtain rfl : h = ⟨a1, q1, c1', L1⟩ := by simpa using h1
                exact own_otherT (hB1.kept hxa) hOa.own hgA (by decide)
            have hLs2 : Hid (∀ h ∈ L ++ [(⟨a1, q1, c1', L1⟩ : HI)], h.x.length = p + 1 ∧ ColV (l.map HS.n) h.x) := Lib.hid fun h hh => by
              rcases List.mem_append.1 hh with h1 | h1
              · exact hLs.out h h1
              · obtain rfl : h = ⟨a1, q1, c1', L1⟩ := by simpa using h1
                exact ⟨hL2.out, hL3⟩
            have k0 : w10.cell? ⟨wr.heap.size, 0, none⟩ = some (.int .i64 (stepC s : Int)) := by simp [World.cell?, hb2]
            have k1 : w10.cell? ⟨wr.heap.size, 1, none⟩ = some (.int .i64 (stepS s : Int)) := by simp [World.cell?, hb2]
            have hO5 : OwnHI we.heap.size w10 v5 (L ++ [(⟨a1, q1, c1', L1⟩ : HI)]) := ⟨o5, hrows⟩
            have hlen5 : (L ++ [(⟨a1, q1, c1', L1⟩ : HI)]).length = L.length + 1 := by simp
            replace hO5 := Lib.hid hO5
            replace hlen5 := Lib.hid hlen5
            clear hrows o5 hgA hOa hO1 hb1 hb2 hxa
            go_wp2_with fail
            go_quiet (fail)
            go_wp2_with fail
            refine ⟨⟨i + stepC s, j + stepS s, _, by rw [Int.natCast_add], by rw [Int.natCast_add], hfe1, hfe2, hO5.out.kept (by repeat (first | exact Ext.refl _ | refine Ext.drew ?_ | refine Ext.drewN ?_ _ | refine Ext.alloc ?_ _)), by rw [hlen5.out]; omega, hLs2, Ext.trans x5 (by repeat (first | exact Ext.refl _ | refine Ext.drew ?_ | refine Ext.drewN ?_ _ | refine Ext.alloc ?_ _))⟩, ?_⟩
            simp only [intOf]
            omega
          · have dj : decide ((j : Int) < (n : Int)) = false := by simp; omega
            replace hie := Lib.hid hie
            go_wp2_with fail
            go_ret
            exact ⟨_, L, rfl, ⟨OwnK.base hO.own hlee, fun h hh => OwnK.base (hO.ok h hh) hlee⟩, by omega, hLs.out, hxe.trans hx⟩
    · obtain rfl : z = (r : Int) := by omega
      obtain ⟨hP1, hP2, hP3, _, _⟩ := own_ge hI.own
      have hfz := own_free hI.own r
      have hlt : r < hs.length := by omega
      have hc0 := own_at H3.len hI.own (List.getElem?_eq_getElem hlt) (j := 0) rfl
      rw [Nat.mul_one, Nat.add_zero] at hc0
      have hrm : (r : Int) < (m : Int) + 1 := by omega
      have hI1 := (hI.head (by rw [hPb.out]; exact Nat.le_refl _) (by omega) (some ⟨wr.heap.size, 0, none⟩) (n + 1) (n + 1)).kept (Ext.alloc1 _ (.cells (madeCells #[Value.int .i64 0, .int .i64 0] ((n + 1) * 2)) 89))
      have hsz : (wr.setCell ⟨Pb, r, none⟩ (.slice (some ⟨wr.heap.size, 0, none⟩) (n + 1) (n + 1))).heap.size = wr.heap.size := by simp
      have hrow := made_own PL.len (by decide) (wr.setCell ⟨Pb, r, none⟩ (.slice (some ⟨wr.heap.size, 0, none⟩) (n + 1) (n + 1))) 89 #[Value.int .i64 0, .int .i64 0] ((0, 0) : PL) rfl (n + 1) (by omega)
      rw [hsz] at hrow
      have hgsz := (own_ge hrow).2.1
      have hcur : Cur _ Pb m n _ r wr.heap.size (n + 1) _ := ⟨by rw [List.getElem?_set_self hlt], OwnK.base hrow (by omega), fun j x hj h1 => absurd (List.getElem?_eq_some_iff.1 hj).1 (by simp; omega)⟩
      obtain ⟨wr0, rfl⟩ : ∃ wo : World, wo = wr := ⟨_, rfl⟩
      go_wp2_with fail
      generalize ((wr0.setCell ⟨Pb, r, none⟩ (.slice (some ⟨wr0.heap.size, 0, none⟩) (n + 1) (n + 1))).alloc (.cells (madeCells #[Value.int .i64 0, .int .i64 0] ((n + 1) * 2)) 89)) = W1 at *
      generalize hs.set r (some ⟨wr0.heap.size, 0, none⟩, n + 1, n + 1) = hs1 at *
      generalize wr0.heap.size = G at *
      clear hsz hrow hI hc0 hfz hP3 hlt
      go_loopw [14] (fun jv wr => ∃ (j : Nat) (z : Int) (P : List PL), jv = .int .i64 z ∧ z + 1 = (j : Int) ∧ j ≤ n + 1 ∧ Plans wq wr Pb m n hs1 (r + 1) top ∧ Cur wr Pb m n hs1 r G j P) (fun jv _ => (intOf jv + 1).toNat)
      case atStart => exact ⟨n + 1, _, _, rfl, by omega, Nat.le_refl _, hI1, hcur⟩
      case round =>
        clear hI1 hcur
        obtain ⟨j, z, P, rfl, hz, hjn, hI, hcur⟩ := hrel
        rcases j with _ | j
        · obtain rfl : z = -1 := by omega
          have hGs := (own_ge hcur.own).2.1
          go_wp2_with fail
          go_roundw
          case rel => exact ⟨r, (r : Int) - 1, hs1, G + 1, rfl, by omega, by omega, hGs, Cur.done hI hcur (by omega) (by omega)⟩
          case measure => (simp only [intOf]; omega)
        · obtain rfl : z = (j : Int) := by omega
          obtain ⟨ts, fs, hblk⟩ := hS.ext hI.ext
          have hGs := own_ge hcur.own
          have hjn2 : (j : Int) ≤ (n : Int) := by omega
          obtain ⟨wr1, rfl⟩ : ∃ wo : World, wo = wr := ⟨_, rfl⟩
          have hblk2 := (Below.block (Ext.alloc1 wr1 (.cells #[.int .i64 (-1), .int .i64 0] 89)).bel _ (Array.getElem?_eq_some_iff.1 hblk).1).trans hblk
          go_wp2_with (with_reducible refine wpList_load_row rfl _ _ rfl 0 rfl ts stepsC fs _ hblk2 Tryd.underlying90 rfl (by kernel_rfl) ?_)
          have hbx : Box2 (wr1.alloc (.cells #[.int .i64 (-1), .int .i64 0] 89)) wr1.heap.size (-1) 0 := heap_alloc_new _ _
          have hI2 := hI.kept (Ext.alloc1 _ (.cells #[.int .i64 (-1), .int .i64 0] 89))
          have hc2 := hcur.kept (Ext.alloc1 _ (.cells #[.int .i64 (-1), .int .i64 0] 89))
          have hGb := hGs.2.1
          have hle3 := hI.ext.le
          generalize (wr1.alloc (.cells #[.int .i64 (-1), .int .i64 0] 89)) = W2 at *
          generalize wr1.heap.size = Bb at *
          clear hblk hblk2 hI hcur hGs
          have hBG : G < Bb := hGb
          have hPG : Pb < Bb := by omega
          have hqB : wq.heap.size ≤ Bb := hle3
          have htop : top ≤ Bb := by omega
          have hGt : top ≤ G := htop0
          have hGp : Pb < G := by omega
          have hGq : wq.heap.size ≤ G := by rw [hPb.out]; omega
          clear hP1 hP2 hGb hle3 hz hx0
          go_wp2_with fail
          go_loopw [52] (fun kv wr => ∃ (k : Nat) (c b : Int), kv = .int .i64 k ∧ k ≤ 3 ∧ Plans wq wr Pb m n hs1 (r + 1) top ∧ Cur wr Pb m n hs1 r G (j + 1) P ∧ Box2 wr Bb c b ∧ BestI m n r j k c b) (fun kv _ => 3 - (intOf kv).toNat)
          case atStart => exact ⟨0, -1, 0, rfl, by omega, hI2, hc2, hbx, .inl ⟨rfl, fun s hs => absurd hs (Nat.not_lt_zero _)⟩⟩
          case round =>
            clear hI2 hc2 hbx
            obtain ⟨k, c, b1, rfl, hk3, hI, hcur, hbx, hbest⟩ := hrel
            by_cases hk : k < 3
            · have hix := step_index hk
              have hC1 : (stepC k : Int) ≤ 1 := by have := stepC_le k; omega
              have hS1 : (stepS k : Int) ≤ 1 := by have := stepS_le k; omega
              have hC0 : (0 : Int) ≤ (stepC k : Int) := by omega
              have hS0 : (0 : Int) ≤ (stepS k : Int) := by omega
              have hk2 : (k : Int) < 3 := by omega
              by_cases hf1 : (m : Int) < (r : Int) + (stepC k : Int)
              · have hnf : ¬ Feas m n r j k := fun h => by have := h.2.1; omega
                go_wp2_with fail
                (first | exact ⟨⟨k + 1, c, b1, by go_num, by omega, hI.kept (Ext.alloc1 _ _), hcur.kept (Ext.alloc1 _ _), hbx.kept (Ext.alloc1 _ _), hbest.skip hnf⟩, (by simp [intOf]; omega)⟩ | (go_roundw; case rel => exact ⟨k + 1, c, b1, by go_num, by omega, hI.kept (Ext.alloc1 _ _), hcur.kept (Ext.alloc1 _ _), hbx.kept (Ext.alloc1 _ _), hbest.skip hnf⟩; case measure => exact (by simp [intOf]; omega)))
              · have hd1 : decide ((m : Int) < (r : Int) + (stepC k : Int)) = false := by simpa using hf1
                have hf1' : (r : Int) + (stepC k : Int) ≤ (m : Int) := by omega
                by_cases hf2 : (n : Int) < (j : Int) + (stepS k : Int)
                · have hnf : ¬ Feas m n r j k := fun h => by have := h.2.2; omega
                  go_wp2_with fail
                  (first | exact ⟨⟨k + 1, c, b1, by go_num, by omega, hI.kept (Ext.alloc1 _ _), hcur.kept (Ext.alloc1 _ _), hbx.kept (Ext.alloc1 _ _), hbest.skip hnf⟩, (by simp [intOf]; omega)⟩ | (go_roundw; case rel => exact ⟨k + 1, c, b1, by go_num, by omega, hI.kept (Ext.alloc1 _ _), hcur.kept (Ext.alloc1 _ _), hbx.kept (Ext.alloc1 _ _), hbest.skip hnf⟩; case measure => exact (by simp [intOf]; omega)))
                · have hd2 : decide ((n : Int) < (j : Int) + (stepS k : Int)) = false := by simpa using hf2
                  have hf2' : (j : Int) + (stepS k : Int) ≤ (n : Int) := by omega
                  have hf : Feas m n r j k := ⟨by omega, by omega, by omega⟩
                  have hIs := hI.kept (Ext.alloc1 wr (.cells #[.int .i64 (stepC k : Int), .int .i64 (stepS k : Int), .func (.func (stepF k)) #[] #[]] 85))
                  have hcs := hcur.kept (Ext.alloc1 wr (.cells #[.int .i64 (stepC k : Int), .int .i64 (stepS k : Int), .func (.func (stepF k)) #[] #[]] 85))
                  have hbs := hbx.kept (Ext.alloc1 wr (.cells #[.int .i64 (stepC k : Int), .int .i64 (stepS k : Int), .func (.func (stepF k)) #[] #[]] 85))
                  obtain ⟨g1, x1, hcP, hcC⟩ := at_step hIs hcs hf
                  have s0 : (wr.alloc (.cells #[.int .i64 (stepC k : Int), .int .i64 (stepS k : Int), .func (.func (stepF k)) #[] #[]] 85)).cell? ⟨wr.heap.size, 0, none⟩ = some (.int .i64 (stepC k : Int)) := by go_simp
                  have s1 : (wr.alloc (.cells #[.int .i64 (stepC k : Int), .int .i64 (stepS k : Int), .func (.func (stepF k)) #[] #[]] 85)).cell? ⟨wr.heap.size, 1, none⟩ = some (.int .i64 (stepS k : Int)) := by go_simp
                  have s2 : (wr.alloc (.cells #[.int .i64 (stepC k : Int), .int .i64 (stepS k : Int), .func (.func (stepF k)) #[] #[]] 85)).cell? ⟨wr.heap.size, 2, none⟩ = some (.func (.func (stepF k)) #[] #[]) := by go_simp
                  have hwl := hI.ext.le
                  go_wp2_with fail
                  have hmade := fun W (hW : Ext (wr.alloc (.cells #[.int .i64 (stepC k : Int), .int .i64 (stepS k : Int), .func (.func (stepF k)) #[] #[]] 85)) W) => made_any' W ((hMB.ext hIs.ext).ext hW) hp k r j hf.2.1 ⟨n, hns.out, hf.2.2⟩
                  have hprice := fun W (hW : Ext (wr.alloc (.cells #[.int .i64 (stepC k : Int), .int .i64 (stepS k : Int), .func (.func (stepF k)) #[] #[]] 85)) W) a q cap L hr hL => price_any W ((hP.ext hIs.ext).ext hW) hws hok.out a q cap L hr hL
                  clear hI hcur hbx hix
                  generalize (wr.alloc (.cells #[.int .i64 (stepC k : Int), .int .i64 (stepS k : Int), .func (.func (stepF k)) #[] #[]] 85)) = wy at *
                  generalize wr.heap.size = Bs at *
                  have hw1 : IntKind.i64.wrap ((r : Int) + (stepC k : Int)) = (r : Int) + (stepC k : Int) := IntWalk.i64_in _ (by omega)
                  have hw2 : IntKind.i64.wrap ((j : Int) + (stepS k : Int)) = (j : Int) + (stepS k : Int) := IntWalk.i64_in _ (by omega)
                  have hn1 : ((r : Int) + (stepC k : Int)).toNat = r + stepC k := by omega
                  have hn2 : ((j : Int) + (stepS k : Int)).toNat = j + stepS k := by omega
                  have hl1 : (r : Int) + (stepC k : Int) < (m : Int) + 1 := by omega
                  have hl2 : (j : Int) + (stepS k : Int) < (n : Int) + 1 := by omega
                  have hl3 : (0 : Int) ≤ (r : Int) + (stepC k : Int) := by omega
                  have hl4 : (0 : Int) ≤ (j : Int) + (stepS k : Int) := by omega
                  go_region_held3 (fun w' => Ext wy w' ∧ w'.cell? ⟨Bs, 0, none⟩ = some (.int .i64 (stepC k : Int)) ∧ w'.cell? ⟨Bs, 1, none⟩ = some (.int .i64 (stepS k : Int)) ∧ w'.cell? ⟨Bs, 2, none⟩ = some (.func (.func (stepF k)) #[] #[]) ∧ w'.cell? ⟨Pb, r + stepC k, none⟩ = some (.slice (some ⟨g1, 0, none⟩) (n + 1) (n + 1)) ∧ w'.cell? ⟨g1, (j + stepS k) * 2, none⟩ = some (.int .i64 x1))
                    ((go_split_ands; refine (fun (h : Ext wy _) => And.intro h (And.intro (h.cellv s0) (And.intro (h.cellv s1) (And.intro (h.cellv s2) (And.intro (h.cellv hcP) (h.cellv hcC)))))) ?_; first | exact (Ext.refl _).drew | exact hE1 | exact hE2))
                    ((first | (go_at_call 32; refine (hmade _ (Ext.refl _).drew).mono ?_; rintro e wq1 ⟨v1, L1, rfl, hL1, hL2, hL3, hL4⟩; have hE1 : Ext wy wq1 := Ext.trans ((Ext.refl _).drew) hL4; obtain ⟨a1, q1, c1, hq1, rfl, hL5⟩ := OwnK.rdn I64.len hL1; replace hq1 := Lib.hid hq1; replace hL2 := Lib.hid hL2) | (go_at_call 30; refine (hprice _ hE1 _ _ _ _ hL5 hL3).mono ?_; rintro e wq2 ⟨z2, rfl, hL6⟩; have hE2 : Ext wy wq2 := Ext.trans hE1 hL6)))
                  clear hw1 hw2 hn1 hn2 hl1 hl2 hl3 hl4 hmade hprice s0 s1 s2 hcP hcC
                  generalize IntKind.i64.wrap (z2 + x1) = z3 at *
                  have hIq := hIs.kept hE2
                  have hcq := hcs.kept hE2
                  have hbq := hbs.kept hE2
                  clear hIs hcs hbs
                  obtain ⟨d0, d1, d2, d3⟩ := hbq.cells
                  by_cases hc0 : c < 0
                  · have dc0 : decide (c < 0) = true := by simpa using hc0
                    go_wp2_with fail
                    (first | exact ⟨⟨k + 1, z3, k, by go_num, by omega, (hIq.set htop hPG hqB).set htop hPG hqB, (hcq.off (by omega)).off (by omega), (hbq.set0 z3).set1 k, BestI.take hf⟩, (by simp [intOf]; omega)⟩ | (go_roundw; case rel => exact ⟨k + 1, z3, k, by go_num, by omega, (hIq.set htop hPG hqB).set htop hPG hqB, (hcq.off (by omega)).off (by omega), (hbq.set0 z3).set1 k, BestI.take hf⟩; case measure => exact (by simp [intOf]; omega)))
                  · have dc0 : decide (c < 0) = false := by simpa using hc0
                    have hc0' : 0 ≤ c := by omega
                    by_cases hc1 : z3 < c
                    · have dc1 : decide (z3 < c) = true := by simpa using hc1
                      go_wp2_with fail
                      (first | exact ⟨⟨k + 1, z3, k, by go_num, by omega, (hIq.set htop hPG hqB).set htop hPG hqB, (hcq.off (by omega)).off (by omega), (hbq.set0 z3).set1 k, BestI.take hf⟩, (by simp [intOf]; omega)⟩ | (go_roundw; case rel => exact ⟨k + 1, z3, k, by go_num, by omega, (hIq.set htop hPG hqB).set htop hPG hqB, (hcq.off (by omega)).off (by omega), (hbq.set0 z3).set1 k, BestI.take hf⟩; case measure => exact (by simp [intOf]; omega)))
                    · have dc1 : decide (z3 < c) = false := by simpa using hc1
                      go_wp2_with fail
                      (first | exact ⟨⟨k + 1, c, b1, by go_num, by omega, hIq, hcq, hbq, hbest.keep hc0⟩, (by simp [intOf]; omega)⟩ | (go_roundw; case rel => exact ⟨k + 1, c, b1, by go_num, by omega, hIq, hcq, hbq, hbest.keep hc0⟩; case measure => exact (by simp [intOf]; omega)))
            · obtain rfl : k = 3 := by omega
              have hrm : (r : Int) < (m : Int) + 1 := by omega
              have hjn3 : (j : Int) < (n : Int) + 1 := by omega
              obtain ⟨d0, d1, d2, d3⟩ := hbx.cells
              by_cases hend : r = m ∧ j = n
              · have dr : ((r : Int) == (m : Int)) = true := by simp; omega
                have dj : ((j : Int) == (n : Int)) = true := by simp; omega
                have hI' := hI.set (o := 0) (u := .int .i64 0) htop hPG hqB
                have hcur' := hcur.off (b := Bb) (o := 0) (u := .int .i64 0) (by omega)
                have hbx' := hbx.set0 0
                have hpl : ∀ b, ¬ (r = m ∧ j = n) → FeasB m n r j b := fun b h => absurd hend h
                replace hend := Lib.hid hend
                clear hI hcur hbx
                go_wp2_with fail
                clear d0 d1 d2 d3
                generalize (wr.setCell ⟨Bb, 0, none⟩ (.int .i64 0)) = wt at *
                obtain ⟨c0, hc0⟩ : ∃ c0 : Int, c0 = 0 := ⟨_, rfl⟩
                rw [← hc0] at hbx'
                replace hc0 := Lib.hid hc0
                obtain ⟨d0, d1, d2, d3⟩ := hbx'.cells
                have hgC := own_ge hcur'.own
                have hj0 := own_at H3.len hI'.own hcur'.hd (j := 0) rfl
                rw [Nat.mul_one, Nat.add_zero] at hj0
                have hjl : j < P.length := by omega
                have hPj := List.getElem?_eq_getElem hjl
                have hP0 := own_at PL.len hcur'.own hPj (j := 0) rfl
                have hP1 := own_at PL.len hcur'.own hPj (j := 1) rfl
                have hfz := own_free hcur'.own
                rw [Nat.add_zero] at hP0
                have hst := own_store2 PL.len hcur'.own (y := (c0, (P[j]).2)) (z := (c0, b1)) hPj rfl rfl
                have hI3 := (hI'.set (o := j * 2) (u := .int .i64 c0) hGt hGp hGq).set (o := j * 2 + 1) (u := .int .i64 b1) hGt hGp hGq
                have hpl3 : PlanR m n r j (P.set j (c0, b1)) := fun j' x hx h1 h2 => by
                  rcases Nat.eq_or_lt_of_le h1 with h3 | h3
                  · subst h3
                    rw [List.getElem?_set_self hjl] at hx
                    cases hx
                    exact hpl b1 h2
                  · rw [List.getElem?_set_ne (by omega)] at hx
                    exact hcur'.pl j' x hx (by omega) h2
                replace hpl3 := Lib.hid hpl3
                replace hgC := Lib.hid hgC
                replace hjl := Lib.hid hjl
                clear hPj
                have hhd := Lib.hid hcur'.hd
                clear hcur' hbx'
                go_region
                go_wp2_with fail
                refine ⟨⟨j, (j : Int) - 1, P.set j (c0, b1), rfl, by omega, by omega, hI3.kept (Ext.refl _).drew, hhd.out, hst.kept (Ext.refl _).drew, hpl3.out⟩, ?_⟩
                simp only [intOf]
                omega
              · have hpl := fun (h : ¬ (r = m ∧ j = n)) => hbest.done (by omega) (by omega) h
                have hI' := hI
                have hcur' := hcur
                have hbx' := hbx
                by_cases hrm2 : r = m
                · have dr : ((r : Int) == (m : Int)) = true := by simp; omega
                  have dj : ((j : Int) == (n : Int)) = false := by simp; omega
                  replace hend := Lib.hid hend
                  replace hrm2 := Lib.hid hrm2
                  clear hI hcur hbx
                  go_wp2_with fail
                  clear d0 d1 d2 d3
                  rename World => wt
                  obtain ⟨d0, d1, d2, d3⟩ := hbx'.cells
                  have hgC := own_ge hcur'.own
                  have hj0 := own_at H3.len hI'.own hcur'.hd (j := 0) rfl
                  rw [Nat.mul_one, Nat.add_zero] at hj0
                  have hjl : j < P.length := by omega
                  have hPj := List.getElem?_eq_getElem hjl
                  have hP0 := own_at PL.len hcur'.own hPj (j := 0) rfl
                  have hP1 := own_at PL.len hcur'.own hPj (j := 1) rfl
                  have hfz := own_free hcur'.own
                  rw [Nat.add_zero] at hP0
                  have hst := own_store2 PL.len hcur'.own (y := (c, (P[j]).2)) (z := (c, b1)) hPj rfl rfl
                  have hI3 := (hI'.set (o := j * 2) (u := .int .i64 c) hGt hGp hGq).set (o := j * 2 + 1) (u := .int .i64 b1) hGt hGp hGq
                  have hpl3 : PlanR m n r j (P.set j (c, b1)) := fun j' x hx h1 h2 => by
                    rcases Nat.eq_or_lt_of_le h1 with h3 | h3
                    · subst h3
                      rw [List.getElem?_set_self hjl] at hx
                      cases hx
                      exact hpl h2
                    · rw [List.getElem?_set_ne (by omega)] at hx
                      exact hcur'.pl j' x hx (by omega) h2
                  replace hpl3 := Lib.hid hpl3
                  replace hgC := Lib.hid hgC
                  replace hjl := Lib.hid hjl
                  clear hPj
                  have hhd := Lib.hid hcur'.hd
                  clear hcur' hbx'
                  go_region
                  go_wp2_with fail
                  refine ⟨⟨j, (j : Int) - 1, P.set j (c, b1), rfl, by omega, by omega, hI3.kept (Ext.refl _).drew, hhd.out, hst.kept (Ext.refl _).drew, hpl3.out⟩, ?_⟩
                  simp only [intOf]
                  omega
                · have dr : ((r : Int) == (m : Int)) = false := by simp; omega
                  replace hend := Lib.hid hend
                  replace hrm2 := Lib.hid hrm2
                  clear hI hcur hbx
                  go_wp2_with fail
                  clear d0 d1 d2 d3
                  rename World => wt
                  obtain ⟨d0, d1, d2, d3⟩ := hbx'.cells
                  have hgC := own_ge hcur'.own
                  have hj0 := own_at H3.len hI'.own hcur'.hd (j := 0) rfl
                  rw [Nat.mul_one, Nat.add_zero] at hj0
                  have hjl : j < P.length := by omega
                  have hPj := List.getElem?_eq_getElem hjl
                  have hP0 := own_at PL.len hcur'.own hPj (j := 0) rfl
                  have hP1 := own_at PL.len hcur'.own hPj (j := 1) rfl
                  have hfz := own_free hcur'.own
                  rw [Nat.add_zero] at hP0
                  have hst := own_store2 PL.len hcur'.own (y := (c, (P[j]).2)) (z := (c, b1)) hPj rfl rfl
                  have hI3 := (hI'.set (o := j * 2) (u := .int .i64 c) hGt hGp hGq).set (o := j * 2 + 1) (u := .int .i64 b1) hGt hGp hGq
                  have hpl3 : PlanR m n r j (P.set j (c, b1)) := fun j' x hx h1 h2 => by
                    rcases Nat.eq_or_lt_of_le h1 with h3 | h3
                    · subst h3
                      rw [List.getElem?_set_self hjl] at hx
                      cases hx
                      exact hpl h2
                    · rw [List.getElem?_set_ne (by omega)] at hx
                      exact hcur'.pl j' x hx (by omega) h2
                  replace hpl3 := Lib.hid hpl3
                  replace hgC := Lib.hid hgC
                  replace hjl := Lib.hid hjl
                  clear hPj
                  have hhd := Lib.hid hcur'.hd
                  clear hcur' hbx'
                  go_region
                  go_wp2_with fail
                  refine ⟨⟨j, (j : Int) - 1, P.set j (c, b1), rfl, by omega, by omega, hI3.kept (Ext.refl _).drew, hhd.out, hst.kept (Ext.refl _).drew, hpl3.out⟩, ?_⟩
                  simp only [intOf]
                  omega
end Go.Proofs.YtjfhfbobnncpkaaDoor
