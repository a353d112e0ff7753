/-
  Plain: what the cells of all nodes are: their states, their error, their cost.
-/
import Derived.Test.YtdloabjnjnjacaaDoorPx
namespace Go.Proofs.YtdloabjnjnjacaaDoor
open Go.RowKit
section
variable {ts : List Nd} {cs : List Snd} {ws : List Int} {g : Int} {x : List Cl}
theorem cand_at {i : Nat} {s : Snd} (h : candAt cs i = 0) (hs : cs[i]? = some s) : s.ok = true ∧ ¬ s ∈ cs.take i := by
  by_cases h1 : s.ok = true
  · by_cases h2 : s ∈ cs.take i
    · rw [candAt_have hs h1 h2] at h; cases h
    · exact ⟨h1, h2⟩
  · rw [candAt_bad hs (by simpa using h1)] at h; cases h
/-- A state's cell has this state. -/
theorem stC_cellS (hm : matE cs ws g = 0) {s : Nat} (hs : s < cs.length + 1) : stC cs (cellS cs (s : Int)) = s ∧ (cellS cs (s : Int)).ok = true ∧ knownC (cellS cs (s : Int)) = true ∧ lostC cs (cellS cs (s : Int)) = false := by
  by_cases he : s = cs.length
  · subst he
    have e : cellS cs (cs.length : Int) = gapC := by unfold cellS; rw [if_pos rfl]
    rw [e]
    refine ⟨by simp [stC, gapC], by simp [Cl.ok, gapC], by simp [knownC, gapC], by simp [lostC, stC, gapC]⟩
  · have hlt : s < cs.length := by omega
    have hget : cs[s]? = some cs[s] := List.getElem?_eq_getElem hlt
    obtain ⟨h1, h2⟩ := cand_at ((matE_zero hm).2.2.1 s hlt) hget
    have e : cellS cs (s : Int) = ⟨2, cs[s]⟩ := by
      unfold cellS
      rw [if_neg (by omega), Int.toNat_natCast, List.getD_eq_getElem?_getD, hget]; rfl
    have hi : idxI cs cs[s] = s := idxI_at hget fun i y hi hy => by
      have : cs[s] ≠ y := fun hh => h2 (by
        rw [hh]
        exact List.mem_of_getElem? (i := i) (by rw [List.getElem?_take_of_lt hi]; exact hy))
      simpa using this
    rw [e]
    have hst : stC cs ⟨2, cs[s]⟩ = s := by simp [stC, hi]
    refine ⟨hst, by simp [Cl.ok, h1], by simp [knownC], ?_⟩
    unfold lostC
    rw [hst]
    simp
/-- A known cell is that of its state. -/
theorem cellS_stC {c : Cl} (hc : c.ok = true) (hk : knownC c = true) (hl : lostC cs c = false) : cellS cs (stC cs c) = c := by
  obtain ⟨k, s⟩ := c
  have h0 : ¬ k = 0 := by simpa [knownC] using hk
  by_cases h1 : k = 1
  · subst h1
    have : s = nulS := by simpa [Cl.ok] using hc
    subst this
    simp [stC, cellS, gapC]
  · have h2 : k = 2 := by
      by_cases h2 : k = 2
      · exact h2
      · simp [Cl.ok, h0, h1, h2] at hc
    subst h2
    have e : stC cs ⟨2, s⟩ = idxI cs s := by simp [stC]
    unfold lostC at hl
    rw [e] at hl ⊢
    have hn : ¬ idxI cs s = -1 := by simpa using hl
    have hm : s ∈ cs := by
      by_cases hm : s ∈ cs
      · exact hm
      · exfalso; apply hn; unfold idxI; rw [if_neg hm]
    have hi : idxI cs s = (cs.idxOf s : Nat) := by unfold idxI; rw [if_pos hm]
    have hlt := List.idxOf_lt_length_iff.2 hm
    unfold cellS
    rw [hi, if_neg (by omega), Int.toNat_natCast, List.getD_eq_getElem?_getD, List.getElem?_eq_getElem hlt, List.getElem_idxOf]
    rfl
/-- The best states of all nodes: in range, and allowed. -/
theorem best_node (hb : begE ts cs ws g = 0) (ho : onE ts cs x = 0) :
    ∃ f : Nat → Nat, bestS ts (matL cs ws g) (stL cs x) = (List.range ts.length).map (fun v => (f v : Int)) ∧
      total ts.length (parF ts) (rowM (matL cs ws g)) f = (rootB ts (matL cs ws g) (stL cs x)).1 ∧ ((f 0 : Nat) : Int) = (rootB ts (matL cs ws g) (stL cs x)).2 ∧
      (∀ v, v < ts.length → f v < cs.length + 1 ∧ okS (leafL ts) (stL cs x) v (f v) = true) ∧ ∀ v, ts.length ≤ v → f v = 0 := by
  have hp := poss_of hb ho
  obtain ⟨r, h1, h2, h3, h4⟩ := root_at hp
  have h0 := chk_of hb ho
  obtain ⟨t1, t2, t3, _⟩ := best_total h0 h1 (by rw [h3]; exact h4)
  refine ⟨bestN ts (matL cs ws g) (stL cs x) r, ?_, by rw [t1, h3], by rw [t2, h2], fun v hv => by have := t3 v hv; rw [matL_len] at this; exact this, fun v hv => by unfold bestN; rw [List.getD_eq_getElem?_getD, List.getElem?_eq_none (by rw [bestTo_len]; exact hv)]; rfl⟩
  unfold bestS
  rw [if_pos hp, h2]
  apply List.ext_getElem?
  intro v
  by_cases hv : v < ts.length
  · obtain ⟨s, hs⟩ := best_at h0 h1 (by rw [h3]; exact h4) ts.length (Nat.le_refl _) v hv
    rw [hs.at', List.getElem?_map, List.getElem?_range hv, Option.map_some, bestN_eq hs]
  · rw [List.getElem?_eq_none (by rw [bestTo_len]; omega), List.getElem?_eq_none (by simp; omega)]
/-- What the chapter says of the cells of all nodes, where something is known. -/
theorem agree_all (hb : begE ts cs ws g = 0) (ho : onE ts cs x = 0) (hk : knownB x = true) :
    (nodeL ts cs ws g x).length = ts.length ∧ (nodeL ts cs ws g x)[0]? = some (cellX ts cs ws g x).1 ∧ (tieL ts cs ws g x)[0]? = some (cellX ts cs ws g x).1 ∧
      allE ts cs ws g (nodeL ts cs ws g x) = 0 ∧ allC ts cs ws g (nodeL ts cs ws g x) = (cellX ts cs ws g x).2 ∧
      ∀ (k : Nat) (c : Cl) (u : Nat), x[k]? = some c → knownC c = true → (leafL ts)[k]? = some (u : Int) → (nodeL ts cs ws g x)[u]? = some c := by
  obtain ⟨f, hf, h1, h2, h3, h4⟩ := best_node hb ho
  obtain ⟨ht, hm⟩ := begE_zero hb
  have hn := (tree_len ht).1
  have hX : cellX ts cs ws g x = (cellS cs (rootB ts (matL cs ws g) (stL cs x)).2, (rootB ts (matL cs ws g) (stL cs x)).1) := by
    unfold cellX bestX; rw [if_pos hb, if_pos ⟨ho, hk⟩]
  have hT : tieL ts cs ws g x = (rootsL ts (matL cs ws g) (stL cs x)).map (cellS cs) := by unfold tieL; rw [if_pos ⟨hb, ho, hk⟩]
  have hN : nodeL ts cs ws g x = (List.range ts.length).map (fun v => cellS cs (f v : Int)) := by
    unfold nodeL
    rw [if_pos ⟨hb, ho⟩, if_pos hk, hf, List.map_map]; rfl
  have hst : stL cs (nodeL ts cs ws g x) = (List.range ts.length).map (fun v => (f v : Int)) := by
    rw [hN]; unfold stL; rw [List.map_map]
    exact List.map_congr_left fun v hv => (stC_cellS hm (h3 v (List.mem_range.1 hv)).1).1
  have has : asN (stL cs (nodeL ts cs ws g x)) = f := by
    funext v
    unfold asN
    rw [hst, List.getD_eq_getElem?_getD, List.getElem?_map]
    by_cases hv : v < ts.length
    · rw [List.getElem?_range hv]; rfl
    · rw [List.getElem?_eq_none (by simp; omega)]; rw [h4 v (by omega)]; rfl
  have hall : ∀ c ∈ nodeL ts cs ws g x, c.ok = true ∧ knownC c = true ∧ lostC cs c = false := fun c hc => by
    rw [hN] at hc
    obtain ⟨v, hv, rfl⟩ := List.mem_map.1 hc
    exact (stC_cellS hm (h3 v (List.mem_range.1 hv)).1).2
  have hlen : (nodeL ts cs ws g x).length = ts.length := by rw [hN]; simp
  have hE : allE ts cs ws g (nodeL ts cs ws g x) = 0 := by
    unfold allE
    have a1 : (nodeL ts cs ws g x).all Cl.ok = true := List.all_eq_true.2 fun c hc => (hall c hc).1
    have a2 : (nodeL ts cs ws g x).all knownC = true := List.all_eq_true.2 fun c hc => (hall c hc).2.1
    have a3 : ¬ (nodeL ts cs ws g x).any (lostC cs) = true := by
      rw [Bool.not_eq_true, List.any_eq_false]; exact fun c hc => by simpa using (hall c hc).2.2
    rw [if_neg (by simp [hb]), if_neg (by simp [hlen, a1, a2]), if_neg a3]
  refine ⟨hlen, ?_, ?_, hE, ?_, ?_⟩
  · rw [hN, hX, List.getElem?_map, List.getElem?_range hn, Option.map_some, h2]
  · rw [hT, hX, List.getElem?_map, roots_head (poss_of hb ho)]; rfl
  · unfold allC
    rw [if_pos hE, has, h1, hX]
  · intro k c u hc hkc hu
    obtain ⟨u', hu', hlt⟩ := leafL_at hu
    have : u' = u := by omega
    subst this
    obtain ⟨_, o2, o3⟩ := onE_zero ho
    have hcm := List.mem_of_getElem? hc
    have hok := (h3 u' hlt).2
    unfold okS at hok
    have hz : ((u' : Int), stC cs c) ∈ (leafL ts).zip (stL cs x) := by
      refine List.mem_of_getElem? (i := k) ?_
      rw [List.getElem?_zip_eq_some]
      exact ⟨hu, by unfold stL; rw [List.getElem?_map, hc]; rfl⟩
    have := List.all_eq_true.1 hok _ hz
    have hs1 : stC cs c ≠ -1 := fun h => by
      have hl := o3 c hcm
      unfold lostC at hl
      have h0 : ¬ c.kind = 0 := by simpa [knownC] using hkc
      simp [h0, h] at hl
    have hs : stC cs c = (f u' : Int) := by simpa [hs1] using this
    rw [hN, List.getElem?_map, List.getElem?_range hlt, Option.map_some, ← hs]
    exact congrArg some (cellS_stC (List.all_eq_true.1 o2 c hcm) hkc (o3 c hcm))
/-- .. and where nothing is known. -/
theorem agree_none (hb : begE ts cs ws g = 0) (ho : onE ts cs x = 0) (hk : knownB x = false) :
    nodeL ts cs ws g x = List.replicate ts.length zerC ∧ tieL ts cs ws g x = [] ∧ cellX ts cs ws g x = (zerC, 0) ∧ ∀ c ∈ x, c.kind = 0 := by
  have hk' : ¬ knownB x = true := by simp [hk]
  refine ⟨by unfold nodeL; rw [if_pos ⟨hb, ho⟩, if_neg hk'], by unfold tieL; rw [if_neg (by simp [hk])], by unfold cellX bestX; rw [if_pos hb, if_neg (by simp [hk])], fun c hc => ?_⟩
  unfold knownB at hk
  have := List.any_eq_false.1 hk c hc
  simpa [knownC] using this
end
end Go.Proofs.YtdloabjnjnjacaaDoor
