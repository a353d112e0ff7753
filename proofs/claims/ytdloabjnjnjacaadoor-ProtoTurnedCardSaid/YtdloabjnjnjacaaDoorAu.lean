/-
  Plain: the order of the candidates does not matter.
-/
import Derived.Test.YtdloabjnjnjacaaDoorAt
namespace Go.Proofs.YtdloabjnjnjacaaDoor
open Go.RowKit
def revS (n s : Nat) : Nat := if s < n then n - 1 - s else s
theorem revS_lt {n s : Nat} (h : s < n + 1) : revS n s < n + 1 := by unfold revS; split <;> omega
theorem revS_revS (n s : Nat) : revS n (revS n s) = s := by
  unfold revS
  by_cases h : s < n
  · rw [if_pos h, if_pos (by omega)]; omega
  · rw [if_neg h, if_neg h]
section
variable {ts : List Nd} {cs : List Snd} {ws : List Int} {g : Int} {x y : List Cl}
theorem getD_rev {s : Nat} (h : s < cs.length) : cs.reverse.getD (cs.length - 1 - s) nulS = cs.getD s nulS := by
  rw [List.getD_eq_getElem?_getD, List.getD_eq_getElem?_getD, List.getElem?_reverse (by omega)]
  rw [show cs.length - 1 - (cs.length - 1 - s) = s by omega]
theorem cellS_rev {s : Nat} (h : s < cs.length + 1) : cellS cs.reverse (revS cs.length s : Nat) = cellS cs (s : Int) := by
  unfold cellS revS
  rw [List.length_reverse]
  by_cases hs : s < cs.length
  · rw [if_pos hs, if_neg (by omega), if_neg (by omega), Int.toNat_natCast, Int.toNat_natCast, getD_rev hs]
  · rw [if_neg hs, if_pos (by omega), if_pos (by omega)]
theorem costM_rev {i k : Nat} (hi : i < cs.length + 1) (hk : k < cs.length + 1) : costM cs.reverse ws g (revS cs.length i) (revS cs.length k) = costM cs ws g i k := by
  unfold costM
  rw [List.length_reverse]
  by_cases he : i = k
  · subst he; rw [if_pos rfl, if_pos rfl]
  · have hne : ¬ revS cs.length i = revS cs.length k := fun h => he (by rw [← revS_revS cs.length i, h, revS_revS])
    rw [if_neg he, if_neg hne]
    by_cases h : i < cs.length ∧ k < cs.length
    · have e1 : revS cs.length i = cs.length - 1 - i := by unfold revS; rw [if_pos h.1]
      have e2 : revS cs.length k = cs.length - 1 - k := by unfold revS; rw [if_pos h.2]
      rw [if_pos h, e1, e2, if_pos (by omega), getD_rev h.1, getD_rev h.2]
    · have : ¬ (revS cs.length i < cs.length ∧ revS cs.length k < cs.length) := by
        unfold revS; split <;> split <;> omega
      rw [if_neg h, if_neg this]
theorem matE_rev (h : matE cs ws g = 0) : matE cs.reverse ws g = 0 := by
  obtain ⟨h1, h2, h3, h4, h5⟩ := matE_zero h
  refine matE_ok (by simpa using h1) (by simpa using h2) (fun i hi => ?_) h4 ?_
  · rw [List.length_reverse] at hi
    have e : cs.reverse[i]? = cs[cs.length - 1 - i]? := List.getElem?_reverse hi
    have hs : cs[cs.length - 1 - i]? = some (cs[cs.length - 1 - i]'(by omega)) := List.getElem?_eq_getElem (by omega)
    refine candAt_ok (e.trans hs) (candAt_zero hs (h3 _ (by omega))).1 fun hm => ?_
    obtain ⟨j, hj⟩ := List.getElem?_of_mem hm
    rw [List.getElem?_take] at hj
    split at hj
    · rename_i hji
      rw [List.getElem?_reverse (by omega)] at hj
      refine (candAt_zero hj (h3 _ (by omega))).2 (List.mem_of_getElem? (i := cs.length - 1 - i) ?_)
      rw [List.getElem?_take_of_lt (by omega)]; exact hs
    · cases hj
  · refine overM_not fun i k hi hk => ?_
    rw [List.length_reverse] at hi
    have := costM_rev (cs := cs) (ws := ws) (g := g) (i := revS cs.length i) (k := revS cs.length k) (revS_lt (by omega)) (revS_lt (by omega))
    rw [revS_revS, revS_revS] at this
    rw [this]
    exact overM_le h5 (by have := revS_lt (n := cs.length) (s := i) (by omega); omega) (by have := revS_lt (n := cs.length) (s := k) (by omega); omega)
theorem begE_rev (h : begE ts cs ws g = 0) : begE ts cs.reverse ws g = 0 := by
  obtain ⟨h1, h2⟩ := begE_zero h
  unfold begE
  rw [if_neg (by simp [h1])]; exact matE_rev h2
theorem stC_none (c : Cl) : stC cs c = -1 ↔ (c.kind = 0 ∨ (¬ c.kind = 1 ∧ ¬ c.s ∈ cs)) := by
  unfold stC
  by_cases h0 : c.kind = 0
  · simp [h0]
  · rw [if_neg h0]
    by_cases h1 : c.kind = 1
    · rw [if_pos h1]; simp [h1]
    · rw [if_neg h1]
      unfold idxI
      by_cases hm : c.s ∈ cs
      · rw [if_pos hm]
        constructor
        · intro h; omega
        · rintro (h | ⟨_, h⟩)
          · exact absurd h h0
          · exact absurd hm h
      · rw [if_neg hm]; simp [h0, h1, hm]
theorem lostC_rev : lostC cs.reverse = lostC cs := by
  funext c
  unfold lostC
  congr 1
  rw [Bool.eq_iff_iff, decide_eq_true_eq, decide_eq_true_eq, stC_none, stC_none, List.mem_reverse]
theorem onE_rev : onE ts cs.reverse x = onE ts cs x := by unfold onE; rw [lostC_rev]
theorem tieE_rev (h : tieE ts cs ws g x = 0) : tieE ts cs.reverse ws g x = 0 := by
  unfold tieE at h ⊢
  by_cases h1 : begE ts cs ws g = 0
  · rw [if_neg (by simp [h1])] at h
    rw [if_neg (by simp [begE_rev h1]), onE_rev]; exact h
  · rw [if_pos h1] at h; exact absurd h h1
/-- Allowed states, told in the other order. -/
theorem asg_rev (hb : begE ts cs ws g = 0) (ho : onE ts cs x = 0) (f : Nat → Nat) (hf : ∀ v, v < ts.length → f v < cs.length + 1 ∧ okS (leafL ts) (stL cs x) v (f v) = true) :
    (∀ v, v < ts.length → revS cs.length (f v) < cs.reverse.length + 1 ∧ okS (leafL ts) (stL cs.reverse x) v (revS cs.length (f v)) = true) ∧
      total ts.length (parF ts) (rowM (matL cs.reverse ws g)) (fun v => revS cs.length (f v)) = total ts.length (parF ts) (rowM (matL cs ws g)) f := by
  obtain ⟨ht, hm⟩ := begE_zero hb
  refine ⟨fun v hv => ⟨by rw [List.length_reverse]; exact revS_lt (hf v hv).1, okS_cells (by rw [onE_rev]; exact ho) fun k c hc hkc hu => ?_⟩, ?_⟩
  · obtain ⟨s, s1, s2, s3⟩ := good_st (good_x ho (List.mem_of_getElem? hc) hkc)
    have h5 := (hf v hv).2
    rw [okS_at (leafL_nodup ts) hu (t := stC cs c) (by unfold stL; rw [List.getElem?_map, hc]; rfl), s1] at h5
    have hne : ¬ ((s : Nat) : Int) = -1 := by omega
    simp [hne] at h5
    rw [← s3, show (s : Int) = ((f v : Nat) : Int) by omega, ← cellS_rev (hf v hv).1]
    exact (stC_cellS (matE_rev hm) (by rw [List.length_reverse]; exact revS_lt (hf v hv).1)).1
  · unfold total
    refine sumN_congr _ fun i hi => ?_
    obtain ⟨p, hp, hpv⟩ := par_nat ht (v := i + 1) (by omega) (by omega)
    have b1 := (hf p (by omega)).1
    have b2 := (hf (i + 1) (by omega)).1
    have c1 := revS_lt b1
    have c2 := revS_lt b2
    rw [edge_ent hp, edge_ent hp, matL_ent (by rw [List.length_reverse]; omega) (by rw [List.length_reverse]; omega), matL_ent (by omega) (by omega), costM_rev b1 b2]
theorem roots_ex (hb : begE ts cs ws g = 0) (ho : onE ts cs x = 0) : ∃ r, r ∈ rootsL ts (matL cs ws g) (stL cs x) := ⟨_, List.mem_of_getElem? (roots_head (poss_of hb ho))⟩
theorem rootB_rev_le (hb : begE ts cs ws g = 0) (ho : onE ts cs x = 0) : (rootB ts (matL cs.reverse ws g) (stL cs.reverse x)).1 ≤ (rootB ts (matL cs ws g) (stL cs x)).1 := by
  obtain ⟨r, hr⟩ := roots_ex hb ho
  obtain ⟨f, _, f2, f3, _⟩ := roots_asg hb ho hr
  obtain ⟨a1, a2⟩ := asg_rev hb ho f f3
  have := (asg_least (x := x) (begE_rev hb) (by rw [onE_rev]; exact ho) _ (fun v hv => (a1 v hv).1) fun v hv => (a1 v hv).2).2.1
  rw [a2, f2] at this
  exact this
theorem rootB_rev (hb : begE ts cs ws g = 0) (ho : onE ts cs x = 0) : (rootB ts (matL cs.reverse ws g) (stL cs.reverse x)).1 = (rootB ts (matL cs ws g) (stL cs x)).1 := by
  have h1 := rootB_rev_le hb ho
  have h2 := rootB_rev_le (cs := cs.reverse) (begE_rev hb) (by rw [onE_rev]; exact ho)
  rw [List.reverse_reverse] at h2
  omega
theorem tie_rev (hb : begE ts cs ws g = 0) (ho : onE ts cs x = 0) (hk : knownB x = true) {c : Cl} (hc : c ∈ tieL ts cs ws g x) : c ∈ tieL ts cs.reverse ws g x := by
  have ho' : onE ts cs.reverse x = 0 := by rw [onE_rev]; exact ho
  rw [tieL_known hb ho hk] at hc
  rw [tieL_known (begE_rev hb) ho' hk]
  obtain ⟨r, hr, rfl⟩ := List.mem_map.1 hc
  obtain ⟨f, rfl, f2, f3, _⟩ := roots_asg hb ho hr
  obtain ⟨a1, a2⟩ := asg_rev hb ho f f3
  have := (asg_least (x := x) (begE_rev hb) ho' _ (fun v hv => (a1 v hv).1) fun v hv => (a1 v hv).2).2.2 (by rw [a2, f2]; exact rootB_rev hb ho)
  have hn := (tree_len (begE_zero hb).1).1
  exact List.mem_map.2 ⟨_, this, cellS_rev (f3 0 hn).1⟩
theorem nodup_map_on {α β : Type} {f : α → β} : ∀ {l : List α}, l.Nodup → (∀ a ∈ l, ∀ b ∈ l, f a = f b → a = b) → (l.map f).Nodup
  | [], _, _ => List.nodup_nil
  | a :: l, hn, h => by
    obtain ⟨h1, h2⟩ := List.nodup_cons.1 hn
    rw [List.map_cons]
    refine List.nodup_cons.2 ⟨fun hm => ?_, nodup_map_on h2 fun a ha b hb => h a (List.mem_cons_of_mem _ ha) b (List.mem_cons_of_mem _ hb)⟩
    obtain ⟨b, hb, he⟩ := List.mem_map.1 hm
    have := h b (List.mem_cons_of_mem _ hb) a (List.mem_cons_self ..) he
    subst this; exact h1 hb
theorem len_sub {α : Type} [DecidableEq α] : ∀ {l m : List α}, l.Nodup → (∀ a ∈ l, a ∈ m) → l.length ≤ m.length
  | [], _, _, _ => Nat.zero_le _
  | a :: l, m, hn, h => by
    obtain ⟨h1, h2⟩ := List.nodup_cons.1 hn
    have ha := h a (List.mem_cons_self ..)
    have := len_sub (m := m.erase a) h2 fun b hb => (List.mem_erase_of_ne (fun e => h1 (by rw [← e]; exact hb))).2 (h b (List.mem_cons_of_mem _ hb))
    rw [List.length_erase_of_mem ha] at this
    have hp : 0 < m.length := List.length_pos_of_mem ha
    rw [List.length_cons]; omega
theorem tieL_nodup (hb : begE ts cs ws g = 0) (ho : onE ts cs x = 0) (hk : knownB x = true) : (tieL ts cs ws g x).Nodup := by
  rw [tieL_known hb ho hk]
  refine nodup_map_on (rootsL_nodup _ _) fun a ha b hb' he => ?_
  have hn := (tree_len (begE_zero hb).1).1
  obtain ⟨f, rfl, _, f3, _⟩ := roots_asg hb ho ha
  obtain ⟨f', rfl, _, f3', _⟩ := roots_asg hb ho hb'
  have e1 := (stC_cellS (begE_zero hb).2 (f3 0 hn).1).1
  have e2 := (stC_cellS (begE_zero hb).2 (f3' 0 hn).1).1
  rw [he, e2] at e1
  exact e1.symm
/-- The order of the candidates does not matter. -/
theorem turned (ts : List Nd) (cs : List Snd) (ws : List Int) (g : Int) (x : List Cl) :
    (decide (tieE ts cs ws g x = 0) = decide (tieE ts cs.reverse ws g x = 0)) ∧ (cellX ts cs.reverse ws g x).2 = (cellX ts cs ws g x).2 ∧ (tieL ts cs ws g x).length = (tieL ts cs.reverse ws g x).length ∧
      ∀ c ∈ tieL ts cs ws g x, c ∈ tieL ts cs.reverse ws g x := by
  have hE : tieE ts cs ws g x = 0 ↔ tieE ts cs.reverse ws g x = 0 := ⟨tieE_rev, fun h => by have := tieE_rev h; rwa [List.reverse_reverse] at this⟩
  refine ⟨by rw [Bool.eq_iff_iff, decide_eq_true_eq, decide_eq_true_eq]; exact hE, ?_⟩
  by_cases hb : begE ts cs ws g = 0
  · by_cases hk : knownB x = true
    · by_cases ho : onE ts cs x = 0
      · have ho' : onE ts cs.reverse x = 0 := by rw [onE_rev]; exact ho
        have h1 : ∀ c ∈ tieL ts cs ws g x, c ∈ tieL ts cs.reverse ws g x := fun c => tie_rev hb ho hk
        have h2 : ∀ c ∈ tieL ts cs.reverse ws g x, c ∈ tieL ts cs ws g x := fun c hc => by
          have := tie_rev (begE_rev hb) ho' hk hc
          rwa [List.reverse_reverse] at this
        refine ⟨by rw [cellX_known (begE_rev hb) ho' hk, cellX_known hb ho hk]; exact rootB_rev hb ho, ?_, h1⟩
        have l1 := len_sub (tieL_nodup hb ho hk) h1
        have l2 := len_sub (tieL_nodup (begE_rev hb) ho' hk) h2
        omega
      · have ho' : ¬ onE ts cs.reverse x = 0 := by rw [onE_rev]; exact ho
        have t1 : tieL ts cs ws g x = [] := by unfold tieL; rw [if_neg (fun h => ho h.2.1)]
        have t2 : tieL ts cs.reverse ws g x = [] := by unfold tieL; rw [if_neg (fun h => ho' h.2.1)]
        rw [t1, t2]
        refine ⟨?_, rfl, fun c hc => by cases hc⟩
        unfold cellX bestX
        rw [if_pos hb, if_pos (begE_rev hb), if_neg (fun h => ho' h.1), if_neg (fun h => ho h.1)]
    · have t1 : ∀ cs, tieL ts cs ws g x = [] := fun cs => by unfold tieL; rw [if_neg (fun h => hk h.2.2)]
      rw [t1, t1]
      refine ⟨?_, rfl, fun c hc => by cases hc⟩
      unfold cellX bestX
      rw [if_pos hb, if_pos (begE_rev hb), if_neg (fun h => hk h.2), if_neg (fun h => hk h.2)]
  · have hb' : ¬ begE ts cs.reverse ws g = 0 := fun h => hb (by have := begE_rev h; rwa [List.reverse_reverse] at this)
    have t1 : tieL ts cs ws g x = [] := by unfold tieL; rw [if_neg (fun h => hb h.1)]
    have t2 : tieL ts cs.reverse ws g x = [] := by unfold tieL; rw [if_neg (fun h => hb' h.1)]
    rw [t1, t2]
    refine ⟨?_, rfl, fun c hc => by cases hc⟩
    unfold cellX
    rw [if_neg hb, if_neg hb']
end
end Go.Proofs.YtdloabjnjnjacaaDoor
