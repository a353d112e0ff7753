/-
  Plain: what proto computes.
-/
import Derived.Test.YtdloabjnjnjacaaDoorKa
import Derived.Test.YtdloabjnjnjacaaDoorSj
import Derived.Test.YtdloabjnjnjacaaDoorCa
namespace Go.Proofs.YtdloabjnjnjacaaDoor
open Go.RowKit
/-- The state of a cell: -1 (not known), the gap's, or the place of its sound. -/
def stC (cs : List Snd) (c : Cl) : Int := if c.kind = 0 then -1 else if c.kind = 1 then (cs.length : Int) else idxI cs c.s
/-- A cell that is known, and whose sound is no candidate. -/
def lostC (cs : List Snd) (c : Cl) : Bool := decide (¬ c.kind = 0) && decide (stC cs c = -1)
def stL (cs : List Snd) (x : List Cl) : List Int := x.map (stC cs)
def knownC (c : Cl) : Bool := decide (¬ c.kind = 0)
def knownB (x : List Cl) : Bool := x.any knownC
def gapC : Cl := ⟨1, nulS⟩
def zerC : Cl := ⟨0, nulS⟩
/-- A state as a cell. -/
def cellS (cs : List Snd) (s : Int) : Cl := if s = (cs.length : Int) then gapC else ⟨2, cs.getD s.toNat nulS⟩
def begE (ts : List Nd) (cs : List Snd) (ws : List Int) (g : Int) : Int := if treeB ts = false then 16 else matE cs ws g
def onE (ts : List Nd) (cs : List Snd) (x : List Cl) : Int := if x.length ≠ (leafL ts).length ∨ x.all Cl.ok = false then 2 else if x.any (lostC cs) = true then 5 else 0
theorem begE_zero {ts : List Nd} {cs : List Snd} {ws : List Int} {g : Int} (h : begE ts cs ws g = 0) : treeB ts = true ∧ matE cs ws g = 0 := by
  unfold begE at h
  split at h
  · cases h
  · rename_i ht; exact ⟨by simpa using ht, h⟩
theorem onE_zero {ts : List Nd} {cs : List Snd} {x : List Cl} (h : onE ts cs x = 0) : x.length = (leafL ts).length ∧ x.all Cl.ok = true ∧ ∀ c ∈ x, lostC cs c = false := by
  unfold onE at h
  split at h
  · cases h
  · rename_i h1
    split at h
    · cases h
    · rename_i h2
      simp only [not_or] at h1
      refine ⟨Decidable.of_not_not h1.1, by simpa using h1.2, fun c hc => ?_⟩
      rw [Bool.not_eq_true, List.any_eq_false] at h2
      simpa using h2 c hc
theorem idxI_bd {α : Type} [DecidableEq α] (xs : List α) (x : α) : -1 ≤ idxI xs x ∧ idxI xs x < (xs.length : Int) := by
  unfold idxI
  split
  · rename_i h; have := List.idxOf_lt_length_iff.2 h; omega
  · omega
theorem stC_bd (cs : List Snd) (c : Cl) : -1 ≤ stC cs c ∧ stC cs c ≤ (cs.length : Int) := by
  unfold stC
  split
  · omega
  · split
    · omega
    · have := idxI_bd cs c.s; omega
/-! ### The matrix -/
section
variable {cs : List Snd} {ws : List Int} {g : Int}
theorem matL_len : (matL cs ws g).length = cs.length + 1 := by simp [matL]
theorem matL_ent {i k : Nat} (hi : i ≤ cs.length) (hk : k ≤ cs.length) : ent (matL cs ws g) i k = costM cs ws g i k := by
  unfold ent matL matRow
  rw [List.getD_eq_getElem?_getD, List.getD_eq_getElem?_getD, List.getElem?_map, List.getElem?_range (by omega), Option.map_some, Option.getD_some, List.getElem?_map, List.getElem?_range (by omega)]; rfl
theorem overM_le (h : overM cs ws g = false) {i k : Nat} (hi : i ≤ cs.length) (hk : k ≤ cs.length) : costM cs ws g i k ≤ 1073741824 := by
  by_cases hc : 1073741824 < costM cs ws g i k
  · rw [overM_at' hi hk hc] at h; cases h
  · omega
theorem matL_ok (h : matE cs ws g = 0) : smB (matL cs ws g) = true ∧ ∀ i k, i < cs.length + 1 → k < cs.length + 1 → 0 ≤ ent (matL cs ws g) i k := by
  obtain ⟨h1, h2, h3, h4, h5⟩ := matE_zero h
  refine ⟨?_, fun i k hi hk => by rw [matL_ent (by omega) (by omega)]; exact (costM_bd h4 i k).1⟩
  simp only [smB, matL_len, Bool.and_eq_true, decide_eq_true_eq, List.all_eq_true]
  refine ⟨by omega, by omega, fun r hr => ?_⟩
  obtain ⟨i, hi, rfl⟩ := List.mem_map.1 hr
  have hi' := List.mem_range.1 hi
  simp only [rowB, Bool.and_eq_true, decide_eq_true_eq, List.all_eq_true, entB]
  refine ⟨by simp [matRow], fun y hy => ?_⟩
  obtain ⟨k, hk, rfl⟩ := List.mem_map.1 hy
  have hk' := List.mem_range.1 hk
  have b1 := (costM_bd (cs := cs) h4 i k).1
  have b2 := overM_le h5 (i := i) (k := k) (by omega) (by omega)
  omega
end
/-! ### There is always an assignment -/
theorem okS_ex {L st : List Int} {k : Nat} (hn : L.Nodup) (hl : st.length = L.length) (hk : 0 < k) (hs : st.all (staB k) = true) (v : Nat) : ∃ s, s < k ∧ okS L st v s = true := by
  by_cases h : (v : Int) ∈ L
  · obtain ⟨i, hi⟩ := List.getElem?_of_mem h
    have hlt := (List.getElem?_eq_some_iff.1 hi).1
    have ht : st[i]? = some (st[i]'(by omega)) := List.getElem?_eq_getElem (by omega)
    have hr := List.all_eq_true.1 hs _ (List.mem_of_getElem? ht)
    simp only [staB, Bool.and_eq_true, decide_eq_true_eq] at hr
    by_cases e : st[i]'(by omega) = -1
    · exact ⟨0, hk, by rw [okS_at hn hi ht]; simp [e]⟩
    · refine ⟨(st[i]'(by omega)).toNat, by omega, ?_⟩
      rw [okS_at hn hi ht]
      have : st[i]'(by omega) = (((st[i]'(by omega)).toNat : Nat) : Int) := by omega
      rw [← this]; simp
  · exact ⟨0, hk, okS_none fun i w hi e => h (by rw [← e]; exact List.mem_of_getElem? hi)⟩
theorem edge_ent {ts : List Nd} {ms : List (List Int)} {a : Nat → Nat} {v p : Nat} (hp : parF ts v = p) : edge (parF ts) (rowM ms) a v = ent ms (a p) (a v) := by
  unfold edge; rw [hp, Int.toNat_natCast]; rfl
theorem par_nat {ts : List Nd} (ht : treeB ts = true) {v : Nat} (h1 : 1 ≤ v) (hv : v < ts.length) : ∃ p : Nat, parF ts v = p ∧ p < v := by
  have hpB := tree_par ht hv
  unfold parB at hpB
  rw [if_neg (by omega), Bool.and_eq_true, decide_eq_true_eq, decide_eq_true_eq] at hpB
  exact ⟨(parF ts v).toNat, by omega, by omega⟩
theorem poss_all {ts : List Nd} {ms : List (List Int)} {st : List Int} (h0 : chkS ts ms st = 0) (hpos : ∀ i k, i < ms.length → k < ms.length → 0 ≤ ent ms i k) : possE ts ms st = 0 := by
  obtain ⟨ht, hm, hl, hs⟩ := chkS_zero h0
  have hk := (smB_of hm).1
  have hex := okS_ex (leafL_nodup ts) hl (by omega) hs
  have ha := fun v => (hex v).choose_spec
  have := least_total (st := st) h0 (fun v => (hex v).choose) (fun v _ => (ha v).1) (fun v _ => (ha v).2) (fun v h1 hv => by
    obtain ⟨p, hp, _⟩ := par_nat ht h1 hv
    rw [edge_ent hp]
    exact hpos _ _ (ha p).1 (ha v).1)
  have h1 := this.1
  unfold possE
  rw [if_neg (by simp [h0]), if_neg (by omega)]
/-! ### A correspondence -/
section
variable {ts : List Nd} {cs : List Snd} {ws : List Int} {g : Int} {x : List Cl}
theorem chk_of (hb : begE ts cs ws g = 0) (ho : onE ts cs x = 0) : chkS ts (matL cs ws g) (stL cs x) = 0 := by
  obtain ⟨ht, hm⟩ := begE_zero hb
  obtain ⟨h1, h2, h3⟩ := onE_zero ho
  have hms := (matL_ok hm).1
  unfold chkS
  rw [if_neg (by simp [ht]), if_neg (by simp [hms, stL, h1]), if_pos]
  rw [List.all_eq_true]
  intro s hs
  obtain ⟨c, hc, rfl⟩ := List.mem_map.1 hs
  have := stC_bd cs c
  simp only [staB, matL_len, Bool.and_eq_true, decide_eq_true_eq]
  omega
theorem poss_of (hb : begE ts cs ws g = 0) (ho : onE ts cs x = 0) : possE ts (matL cs ws g) (stL cs x) = 0 :=
  poss_all (chk_of hb ho) fun i k hi hk => by rw [matL_len] at hi hk; exact (matL_ok (begE_zero hb).2).2 i k hi hk
/-- What the best is: the cell, and its cost (begE is 0). -/
def bestX (ts : List Nd) (cs : List Snd) (ws : List Int) (g : Int) (x : List Cl) : Cl × Int :=
  if onE ts cs x = 0 ∧ knownB x = true then (cellS cs (rootB ts (matL cs ws g) (stL cs x)).2, (rootB ts (matL cs ws g) (stL cs x)).1) else (zerC, 0)
def tieL (ts : List Nd) (cs : List Snd) (ws : List Int) (g : Int) (x : List Cl) : List Cl :=
  if begE ts cs ws g = 0 ∧ onE ts cs x = 0 ∧ knownB x = true then (rootsL ts (matL cs ws g) (stL cs x)).map (cellS cs) else []
def tieE (ts : List Nd) (cs : List Snd) (ws : List Int) (g : Int) (x : List Cl) : Int := if begE ts cs ws g ≠ 0 then begE ts cs ws g else onE ts cs x
/-- The reconstruction of a correspondence. -/
def cellX (ts : List Nd) (cs : List Snd) (ws : List Int) (g : Int) (x : List Cl) : Cl × Int := if begE ts cs ws g = 0 then bestX ts cs ws g x else (zerC, 0)
def nodeL (ts : List Nd) (cs : List Snd) (ws : List Int) (g : Int) (x : List Cl) : List Cl :=
  if begE ts cs ws g = 0 ∧ onE ts cs x = 0 then (if knownB x = true then (bestS ts (matL cs ws g) (stL cs x)).map (cellS cs) else List.replicate ts.length zerC) else []
/-- The error of cells of all nodes. -/
def allE (ts : List Nd) (cs : List Snd) (ws : List Int) (g : Int) (x : List Cl) : Int :=
  if begE ts cs ws g ≠ 0 then begE ts cs ws g else if x.length ≠ ts.length ∨ x.all Cl.ok = false ∨ x.all knownC = false then 2 else if x.any (lostC cs) = true then 5 else 0
def allC (ts : List Nd) (cs : List Snd) (ws : List Int) (g : Int) (x : List Cl) : Int := if allE ts cs ws g x = 0 then total ts.length (parF ts) (rowM (matL cs ws g)) (asN (stL cs x)) else 0
/-! ### A word -/
/-- The first error of some correspondences. -/
def colE (ts : List Nd) (cs : List Snd) (cols : List (List Cl)) : Int := firstE (fun i => onE ts cs (cols.getD i [])) cols.length
def sndsTo (ts : List Nd) (cs : List Snd) (ws : List Int) (g : Int) (cols : List (List Cl)) (j : Nat) : List Snd := (((cols.take j).map fun x => (bestX ts cs ws g x).1).filter fun c => decide (c.kind = 2)).map Cl.s
def costTo (ts : List Nd) (cs : List Snd) (ws : List Int) (g : Int) (cols : List (List Cl)) (j : Nat) : Int := sumN (fun i => (bestX ts cs ws g (cols.getD i [])).2) j
def wordE (ts : List Nd) (cs : List Snd) (ws : List Int) (g : Int) (cols : List (List Cl)) : Int :=
  if begE ts cs ws g ≠ 0 then begE ts cs ws g else if 64 < cols.length then 12 else if colE ts cs cols ≠ 0 then colE ts cs cols else if 32 < (sndsTo ts cs ws g cols cols.length).length then 11 else 0
def wordL (ts : List Nd) (cs : List Snd) (ws : List Int) (g : Int) (cols : List (List Cl)) : List Snd := if wordE ts cs ws g cols = 0 then sndsTo ts cs ws g cols cols.length else []
def wordC (ts : List Nd) (cs : List Snd) (ws : List Int) (g : Int) (cols : List (List Cl)) : Int := if wordE ts cs ws g cols = 0 then costTo ts cs ws g cols cols.length else 0
theorem bestX_bd (hb : begE ts cs ws g = 0) (x : List Cl) : 0 ≤ (bestX ts cs ws g x).2 ∧ (bestX ts cs ws g x).2 ≤ 1099511627776 := by
  unfold bestX
  split
  · rename_i h
    have hp := poss_of hb h.1
    obtain ⟨r, h1, h2, h3, h4⟩ := root_at hp
    have hn := (tree_len (begE_zero hb).1).1
    have := acc_bds (possE_zero hp).1 hn h1
    simp only; omega
  · simp only; omega
theorem sndsTo_succ {cols : List (List Cl)} {j : Nat} {x : List Cl} (hx : cols[j]? = some x) :
    sndsTo ts cs ws g cols (j + 1) = sndsTo ts cs ws g cols j ++ if (bestX ts cs ws g x).1.kind = 2 then [(bestX ts cs ws g x).1.s] else [] := by
  unfold sndsTo
  rw [List.take_add_one, hx, Option.toList_some, List.map_append, List.filter_append, List.map_append]
  congr 1
  by_cases h : (bestX ts cs ws g x).1.kind = 2
  · rw [if_pos h, List.map_singleton, List.filter_cons, if_pos (by simpa using h)]; rfl
  · rw [if_neg h, List.map_singleton, List.filter_cons, if_neg (by simpa using h)]; rfl
theorem sndsTo_len (cols : List (List Cl)) (j : Nat) : (sndsTo ts cs ws g cols j).length ≤ j := by
  unfold sndsTo
  rw [List.length_map]
  refine Nat.le_trans (List.length_filter_le _ _) ?_
  rw [List.length_map]; exact List.length_take_le _ _
theorem costTo_succ {cols : List (List Cl)} {j : Nat} {x : List Cl} (hx : cols[j]? = some x) : costTo ts cs ws g cols (j + 1) = costTo ts cs ws g cols j + (bestX ts cs ws g x).2 := by
  unfold costTo; rw [sumN, List.getD_eq_getElem?_getD, hx]; rfl
theorem costTo_bd (hb : begE ts cs ws g = 0) (cols : List (List Cl)) : ∀ j : Nat, 0 ≤ costTo ts cs ws g cols j ∧ costTo ts cs ws g cols j ≤ 1099511627776 * j
  | 0 => by simp [costTo, sumN]
  | j + 1 => by
    have ih := costTo_bd hb cols j
    have h := bestX_bd hb (cols.getD j [])
    have e : costTo ts cs ws g cols (j + 1) = costTo ts cs ws g cols j + (bestX ts cs ws g (cols.getD j [])).2 := rfl
    rw [e]; omega
end
end Go.Proofs.YtdloabjnjnjacaaDoor
