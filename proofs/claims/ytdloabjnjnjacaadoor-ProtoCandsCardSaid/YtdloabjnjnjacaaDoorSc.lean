/-
  sankoff: one step, the best of a node's states.
-/
import Derived.Test.YtdloabjnjnjacaaDoorSa
import Derived.Test.YtdloabjnjnjacaaDoorDp
namespace Go.Proofs.YtdloabjnjnjacaaDoor
open Go.RowKit
/-- The costs: rows of twelve, of which k count. -/
structure RdT (w : World) (g n k : Nat) (f : Nat → Nat → Int) : Prop where
  lt : g < w.heap.size
  cell : ∀ v s, v < n → s < k → w.cell? ⟨g, v * 12 + s, none⟩ = some (.int .i64 (f v s))
theorem RdT.ext {w w' : World} {g n k : Nat} {f : Nat → Nat → Int} (h : RdT w g n k f) (hx : Ext w w') : RdT w' g n k f := ⟨Nat.lt_of_lt_of_le h.lt hx.le, fun v s hv hs => by rw [hx.cell _ h.lt]; exact h.cell v s hv hs⟩
def ent (ms : List (List Int)) (a b : Nat) : Int := (ms.getD a []).getD b (-1)
theorem smB_ent {ms : List (List Int)} (h : smB ms = true) {a b : Nat} (ha : a < ms.length) (hb : b < ms.length) : ∃ r, ms[a]? = some r ∧ r[b]? = some (ent ms a b) ∧ r.length = ms.length ∧ -1 ≤ ent ms a b ∧ ent ms a b ≤ 1073741824 := by
  obtain ⟨_, _, h3⟩ := smB_of h
  have hr : ms[a]? = some ms[a] := List.getElem?_eq_getElem ha
  obtain ⟨h4, h5⟩ := h3 ms[a] (List.getElem_mem ha)
  have hx : ms[a][b]? = some (ent ms a b) := by
    unfold ent; rw [List.getD_eq_getElem?_getD, List.getD_eq_getElem?_getD, hr, Option.getD_some, List.getElem?_eq_getElem (by omega)]; rfl
  exact ⟨_, hr, hx, h4, h5 _ (List.mem_of_getElem? hx)⟩
abbrev prV (a : Option Addr) (n cap : Nat) (am : Option Addr) (k capm : Nat) (g : Nat) : Value := .agg #[.slice a n cap, .slice am k capm, .slice (some ⟨g, 0, none⟩) n n]
/-- What the costs may be. -/
def CostOk (n k : Nat) (f : Nat → Nat → Int) : Prop := ∀ v s, v < n → s < k → -1 ≤ f v s ∧ f v s ≤ 1099511627776
set_option maxHeartbeats 1000000 in
theorem step_any (a : Option Addr) (n cap : Nat) (am : Option Addr) (k capm : Nat) (ms : List (List Int)) (g : Nat) (f : Nat → Nat → Int) (v s b : Nat) (w : World)
    (hm : RdM w am k capm ms) (hmb : smB ms = true) (hT : RdT w g n k f) (hf : CostOk n k f) (hv : v < n) (hs : s < k) (hb : b < k) :
    Calls Tryd.prog 113 #[prV a n cap am k capm g, .int .i64 v, .int .i64 s, .int .i64 b] w fun e w' => e = .returned (.int .i64 (op (ent ms s b) (f v b))) ∧ Ext w w' := by
  have hl := RdV.len hm
  obtain ⟨r0, hr0, hx0, hrl0, he1, he2⟩ := smB_ent hmb (show s < ms.length by omega) (show b < ms.length by omega)
  have hk := (smB_of hmb).2.1
  obtain ⟨f1, f2⟩ := hf v b hv hb
  obtain ⟨bm, offm, _, r, rfl, hr1, hbm, hcm, ar, nr, cr, rfl, hrr⟩ := RdV.at hm hs
  obtain rfl : r = r0 := by have := hr1.out; rw [hr0] at this; exact (Option.some.inj this).symm
  have hnr := hrr.len
  have hbr : b < nr := by omega
  obtain ⟨br, offr, x, rfl, hx1, hbr', hcr⟩ := hrr.i64 hbr
  obtain rfl : x = ent ms s b := by have := hx1.out; rw [hx0] at this; exact (Option.some.inj this).symm
  have hct := hT.cell v b hv hb
  have hb12 : b < 12 := by omega
  have hglt := hT.lt
  generalize ent ms s b = x at *
  generalize f v b = y at *
  clear hT hm hmb hf hr0 hx0 hr1 hx1 hrr hrl0
  replace hl := Lib.hid hl
  replace hnr := Lib.hid hnr
  by_cases h1 : x = -1
  · have hd : (x == -1) = true := by simpa using h1
    have ho : op x y = -1 := op_neg (.inl (by omega))
    rw [ho]
    replace h1 := Lib.hid h1
    go_enter Tryd.func113, Tryd.ntmps113
    go_wp2_with fail
    go_ret
    exact ⟨rfl, (by repeat (first | exact Ext.refl _ | assumption | refine Ext.drew ?_ | refine Ext.drewN ?_ _ | refine Ext.alloc ?_ _ | refine Ext.trans ?_ (by assumption)))⟩
  · have hd : (x == -1) = false := by simpa using h1
    by_cases h2 : y = -1
    · have hd2 : (y == -1) = true := by simpa using h2
      have ho : op x y = -1 := op_neg (.inr (by omega))
      rw [ho]
      replace h2 := Lib.hid h2
      go_enter Tryd.func113, Tryd.ntmps113
      go_wp2_with fail
      go_ret
      exact ⟨rfl, (by repeat (first | exact Ext.refl _ | assumption | refine Ext.drew ?_ | refine Ext.drewN ?_ _ | refine Ext.alloc ?_ _ | refine Ext.trans ?_ (by assumption)))⟩
    · have hd2 : (y == -1) = false := by simpa using h2
      have ho : op x y = x + y := op_pos (by omega) (by omega)
      have hwr : IntKind.i64.wrap (x + y) = x + y := IntWalk.i64_in _ (by omega)
      rw [ho]
      replace ho := Lib.hid ho
      go_enter Tryd.func113, Tryd.ntmps113
      go_wp2_with fail
      have hB := World.alloc_heap_new w (.cells #[.slice a n cap, .slice (some ⟨bm, offm, none⟩) k capm, .slice (some ⟨g, 0, none⟩) n n] 114)
      have hxA : Ext w (w.alloc (.cells #[.slice a n cap, .slice (some ⟨bm, offm, none⟩) k capm, .slice (some ⟨g, 0, none⟩) n n] 114)) := Ext.alloc1 _ _
      have hq1 : (w.alloc (.cells #[.slice a n cap, .slice (some ⟨bm, offm, none⟩) k capm, .slice (some ⟨g, 0, none⟩) n n] 114)).cell? ⟨w.heap.size, 1, none⟩ = some (.slice (some ⟨bm, offm, none⟩) k capm) := by simp only [World.cell?]; rw [hB]; rfl
      have hq2 : (w.alloc (.cells #[.slice a n cap, .slice (some ⟨bm, offm, none⟩) k capm, .slice (some ⟨g, 0, none⟩) n n] 114)).cell? ⟨w.heap.size, 2, none⟩ = some (.slice (some ⟨g, 0, none⟩) n n) := by simp only [World.cell?]; rw [hB]; rfl
      have hq3 := hxA.cellv hcm
      have hq4 := hxA.cellv hcr
      have hq5 := hxA.cellv hct
      clear hB
      generalize w.alloc (.cells #[.slice a n cap, .slice (some ⟨bm, offm, none⟩) k capm, .slice (some ⟨g, 0, none⟩) n n] 114) = wa at *
      have hp1 := fun x : ExtOf wa => x.cell hq1
      have hp2 := fun x : ExtOf wa => x.cell hq2
      have hp3 := fun x : ExtOf wa => x.cell hq3
      have hp4 := fun x : ExtOf wa => x.cell hq4
      have hp5 := fun x : ExtOf wa => x.cell hq5
      (refine wp_region_qx (by kernel_rfl) (by kernel_rfl) ?_
       repeat (go_big_quiet_step (fail))
       refine wpQuiet_nil ?_
       intro wq hw'
       have hxq := ext_of_ex hw'
       clear hw')
      go_wp2_with fail
      go_ret
      exact ⟨rfl, (by repeat (first | exact Ext.refl _ | assumption | refine Ext.drew ?_ | refine Ext.drewN ?_ _ | refine Ext.alloc ?_ _ | refine Ext.trans ?_ (by assumption)))⟩
/-- The least of k costs, and the first place of it; -1 and -1 if there is none. -/
def bstF (c : Nat → Int) : Nat → Int × Int
  | 0 => (-1, -1)
  | j + 1 => if 0 ≤ c j ∧ ((bstF c j).1 < 0 ∨ c j < (bstF c j).1) then (c j, (j : Int)) else bstF c j
theorem bstF_ge {c : Nat → Int} : ∀ j, -1 ≤ (bstF c j).1
  | 0 => by simp [bstF]
  | j + 1 => by
    rw [bstF]; split
    · rename_i h; simp only; omega
    · exact bstF_ge j
theorem bst_snoc (x : Int) : ∀ (l : List Int) (i : Nat) (p : Int × Int), bst (l ++ [x]) i p = if 0 ≤ x ∧ ((bst l i p).1 < 0 ∨ x < (bst l i p).1) then (x, ((i + l.length : Nat) : Int)) else bst l i p
  | [], i, p => by
    show (if 0 ≤ x ∧ (p.1 < 0 ∨ x < p.1) then (x, (i : Int)) else p) = (if 0 ≤ x ∧ (p.1 < 0 ∨ x < p.1) then (x, (i : Int)) else p)
    rfl
  | y :: l, i, p => by
    rw [List.cons_append, bst, bst_snoc x l (i + 1), show i + 1 + l.length = i + (y :: l).length by simp; omega]
    have e : bst (y :: l) i p = bst l (i + 1) (if 0 ≤ y ∧ (p.1 < 0 ∨ y < p.1) then (y, (i : Int)) else p) := rfl
    rw [← e]
theorem bstF_eq (c : Nat → Int) : ∀ k, bstF c k = bst ((List.range k).map c) 0 (-1, -1)
  | 0 => rfl
  | k + 1 => by
    rw [List.range_succ, List.map_append, List.map_singleton, bst_snoc, bstF, bstF_eq c k]; simp
theorem bstF_congr {c d : Nat → Int} : ∀ k, (∀ s, s < k → c s = d s) → bstF c k = bstF d k
  | 0, _ => rfl
  | k + 1, h => by rw [bstF, bstF, bstF_congr k fun s hs => h s (by omega), h k (by omega)]
set_option maxHeartbeats 1000000 in
theorem bestL_any (a : Option Addr) (n cap : Nat) (am : Option Addr) (k capm : Nat) (ms : List (List Int)) (g : Nat) (B0 B1 B2 : Nat) (c : Nat → Int) (w : World)
    (hm : RdM w am k capm ms) (hc : ∀ s, s < k → -1 ≤ c s)
    (hcall : ∀ (s : Nat) W, s < k → Ext w W → Calls Tryd.prog 112 #[.int .i64 s, .pointer (some ⟨B0, 0, none⟩), .pointer (some ⟨B1, 0, none⟩), .pointer (some ⟨B2, 0, none⟩)] W fun e w' => e = .returned (.int .i64 (c s)) ∧ Ext W w') :
    Calls Tryd.prog 108 #[prV a n cap am k capm g, .func (.func 112) #[] #[.pointer (some ⟨B0, 0, none⟩), .pointer (some ⟨B1, 0, none⟩), .pointer (some ⟨B2, 0, none⟩)]] w fun e w' =>
      e = .returned (.tuple #[.int .i64 (bstF c k).1, .int .i64 (bstF c k).2]) ∧ Ext w w' := by
  have hl := RdV.len hm
  have hmax : k ≤ 9223372036854775807 := by have := RdV.le hm; have := RdV.most hm; unfold maxLen at this; omega
  replace hl := Lib.hid hl
  go_enter Tryd.func108, Tryd.ntmps108
  go_wp2_with fail
  go_loopw [6, 7, 13] (fun lv fv i wr => ∃ j : Nat, j ≤ k ∧ i = .int .i64 j ∧ lv = .int .i64 (bstF c j).1 ∧ fv = .int .i64 (bstF c j).2 ∧ Ext w wr) (fun _ _ i _ => k - (intOf i).toNat)
  case atStart => exact ⟨0, Nat.zero_le _, rfl, rfl, rfl, (by repeat (first | exact Ext.refl _ | assumption | refine Ext.drew ?_ | refine Ext.drewN ?_ _ | refine Ext.alloc ?_ _ | refine Ext.trans ?_ (by assumption)))⟩
  case round =>
    obtain ⟨j, hj, rfl, rfl, rfl, hx⟩ := hrel
    by_cases hlt : j < k
    · have hge := bstF_ge (c := c) j
      have hcj := hc j hlt
      have hsu : bstF c (j + 1) = if 0 ≤ c j ∧ ((bstF c j).1 < 0 ∨ c j < (bstF c j).1) then (c j, (j : Int)) else bstF c j := rfl
      have hcl := hcall j wr hlt hx
      generalize c j = x at *
      generalize bstF c j = q at *
      obtain ⟨q1, q2⟩ := q
      simp only at hge hsu
      go_wp2_with fail
      refine hcl.mono ?_
      rintro e w1 ⟨rfl, hx1⟩
      clear hcl
      by_cases hx0 : x = -1
      · rw [if_neg (by omega)] at hsu
        have hd : (x != -1) = false := by simpa using hx0
        replace hsu := Lib.hid hsu
        replace hx0 := Lib.hid hx0
        go_wp2_with fail
        (first | exact ⟨⟨j + 1, by omega, by go_num, by rw [hsu.out], by rw [hsu.out], hx.trans hx1⟩, (by simp [intOf]; omega)⟩ | (go_roundw; case rel => exact ⟨j + 1, by omega, by go_num, by rw [hsu.out], by rw [hsu.out], hx.trans hx1⟩; case measure => exact (by simp [intOf]; omega)))
      · have hd : (x != -1) = true := by simpa using hx0
        by_cases hq : q1 = -1
        · rw [if_pos (by omega)] at hsu
          have hd2 : (q1 == -1) = true := by simpa using hq
          replace hsu := Lib.hid hsu
          replace hq := Lib.hid hq
          go_wp2_with fail
          (first | exact ⟨⟨j + 1, by omega, by go_num, by rw [hsu.out], by rw [hsu.out], hx.trans hx1⟩, (by simp [intOf]; omega)⟩ | (go_roundw; case rel => exact ⟨j + 1, by omega, by go_num, by rw [hsu.out], by rw [hsu.out], hx.trans hx1⟩; case measure => exact (by simp [intOf]; omega)))
        · have hd2 : (q1 == -1) = false := by simpa using hq
          by_cases hlq : x < q1
          · rw [if_pos (by omega)] at hsu
            have hd3 : decide (x < q1) = true := by simpa using hlq
            replace hsu := Lib.hid hsu
            go_wp2_with fail
            (first | exact ⟨⟨j + 1, by omega, by go_num, by rw [hsu.out], by rw [hsu.out], hx.trans hx1⟩, (by simp [intOf]; omega)⟩ | (go_roundw; case rel => exact ⟨j + 1, by omega, by go_num, by rw [hsu.out], by rw [hsu.out], hx.trans hx1⟩; case measure => exact (by simp [intOf]; omega)))
          · rw [if_neg (by omega)] at hsu
            have hd3 : decide (x < q1) = false := by simpa using hlq
            replace hsu := Lib.hid hsu
            go_wp2_with fail
            (first | exact ⟨⟨j + 1, by omega, by go_num, by rw [hsu.out], by rw [hsu.out], hx.trans hx1⟩, (by simp [intOf]; omega)⟩ | (go_roundw; case rel => exact ⟨j + 1, by omega, by go_num, by rw [hsu.out], by rw [hsu.out], hx.trans hx1⟩; case measure => exact (by simp [intOf]; omega)))
    · have hjk : j = k := by omega
      subst hjk
      go_wp2_with fail
      go_ret2
      exact ⟨rfl, hx⟩
set_option maxHeartbeats 1000000 in
theorem bestR_any (a : Option Addr) (n cap : Nat) (am : Option Addr) (k capm : Nat) (ms : List (List Int)) (g : Nat) (B0 : Nat) (c : Nat → Int) (w : World)
    (hm : RdM w am k capm ms) (hc : ∀ s, s < k → -1 ≤ c s)
    (hcall : ∀ (s : Nat) W, s < k → Ext w W → Calls Tryd.prog 109 #[.int .i64 s, .pointer (some ⟨B0, 0, none⟩)] W fun e w' => e = .returned (.int .i64 (c s)) ∧ Ext W w') :
    Calls Tryd.prog 108 #[prV a n cap am k capm g, .func (.func 109) #[] #[.pointer (some ⟨B0, 0, none⟩)]] w fun e w' =>
      e = .returned (.tuple #[.int .i64 (bstF c k).1, .int .i64 (bstF c k).2]) ∧ Ext w w' := by
  have hl := RdV.len hm
  have hmax : k ≤ 9223372036854775807 := by have := RdV.le hm; have := RdV.most hm; unfold maxLen at this; omega
  replace hl := Lib.hid hl
  go_enter Tryd.func108, Tryd.ntmps108
  go_wp2_with fail
  go_loopw [6, 7, 13] (fun lv fv i wr => ∃ j : Nat, j ≤ k ∧ i = .int .i64 j ∧ lv = .int .i64 (bstF c j).1 ∧ fv = .int .i64 (bstF c j).2 ∧ Ext w wr) (fun _ _ i _ => k - (intOf i).toNat)
  case atStart => exact ⟨0, Nat.zero_le _, rfl, rfl, rfl, (by repeat (first | exact Ext.refl _ | assumption | refine Ext.drew ?_ | refine Ext.drewN ?_ _ | refine Ext.alloc ?_ _ | refine Ext.trans ?_ (by assumption)))⟩
  case round =>
    obtain ⟨j, hj, rfl, rfl, rfl, hx⟩ := hrel
    by_cases hlt : j < k
    · have hge := bstF_ge (c := c) j
      have hcj := hc j hlt
      have hsu : bstF c (j + 1) = if 0 ≤ c j ∧ ((bstF c j).1 < 0 ∨ c j < (bstF c j).1) then (c j, (j : Int)) else bstF c j := rfl
      have hcl := hcall j wr hlt hx
      generalize c j = x at *
      generalize bstF c j = q at *
      obtain ⟨q1, q2⟩ := q
      simp only at hge hsu
      go_wp2_with fail
      refine hcl.mono ?_
      rintro e w1 ⟨rfl, hx1⟩
      clear hcl
      by_cases hx0 : x = -1
      · rw [if_neg (by omega)] at hsu
        have hd : (x != -1) = false := by simpa using hx0
        replace hsu := Lib.hid hsu
        replace hx0 := Lib.hid hx0
        go_wp2_with fail
        (first | exact ⟨⟨j + 1, by omega, by go_num, by rw [hsu.out], by rw [hsu.out], hx.trans hx1⟩, (by simp [intOf]; omega)⟩ | (go_roundw; case rel => exact ⟨j + 1, by omega, by go_num, by rw [hsu.out], by rw [hsu.out], hx.trans hx1⟩; case measure => exact (by simp [intOf]; omega)))
      · have hd : (x != -1) = true := by simpa using hx0
        by_cases hq : q1 = -1
        · rw [if_pos (by omega)] at hsu
          have hd2 : (q1 == -1) = true := by simpa using hq
          replace hsu := Lib.hid hsu
          replace hq := Lib.hid hq
          go_wp2_with fail
          (first | exact ⟨⟨j + 1, by omega, by go_num, by rw [hsu.out], by rw [hsu.out], hx.trans hx1⟩, (by simp [intOf]; omega)⟩ | (go_roundw; case rel => exact ⟨j + 1, by omega, by go_num, by rw [hsu.out], by rw [hsu.out], hx.trans hx1⟩; case measure => exact (by simp [intOf]; omega)))
        · have hd2 : (q1 == -1) = false := by simpa using hq
          by_cases hlq : x < q1
          · rw [if_pos (by omega)] at hsu
            have hd3 : decide (x < q1) = true := by simpa using hlq
            replace hsu := Lib.hid hsu
            go_wp2_with fail
            (first | exact ⟨⟨j + 1, by omega, by go_num, by rw [hsu.out], by rw [hsu.out], hx.trans hx1⟩, (by simp [intOf]; omega)⟩ | (go_roundw; case rel => exact ⟨j + 1, by omega, by go_num, by rw [hsu.out], by rw [hsu.out], hx.trans hx1⟩; case measure => exact (by simp [intOf]; omega)))
          · rw [if_neg (by omega)] at hsu
            have hd3 : decide (x < q1) = false := by simpa using hlq
            replace hsu := Lib.hid hsu
            go_wp2_with fail
            (first | exact ⟨⟨j + 1, by omega, by go_num, by rw [hsu.out], by rw [hsu.out], hx.trans hx1⟩, (by simp [intOf]; omega)⟩ | (go_roundw; case rel => exact ⟨j + 1, by omega, by go_num, by rw [hsu.out], by rw [hsu.out], hx.trans hx1⟩; case measure => exact (by simp [intOf]; omega)))
    · have hjk : j = k := by omega
      subst hjk
      go_wp2_with fail
      go_ret2
      exact ⟨rfl, hx⟩
end Go.Proofs.YtdloabjnjnjacaaDoor
