/-
  Plain: any cells of all nodes cost at least what the reconstruction costs; what holds where all known cells are the same; the order of the candidates does not matter.
-/
import Derived.Test.YtdloabjnjnjacaaDoorAg
namespace Go.Proofs.YtdloabjnjnjacaaDoor
open Go.RowKit
/-- A cell that is in order, known, and a candidate's or the gap. -/
def goodC (cs : List Snd) (c : Cl) : Prop := c.ok = true ∧ knownC c = true ∧ lostC cs c = false
section
variable {ts : List Nd} {cs : List Snd} {ws : List Int} {g : Int} {x y : List Cl}
theorem good_gap : goodC cs gapC := ⟨by simp [Cl.ok, gapC], by simp [knownC, gapC], by simp [lostC, stC, gapC]⟩
theorem good_cand (hm : matE cs ws g = 0) {i : Nat} {s : Snd} (h : cs[i]? = some s) : goodC cs ⟨2, s⟩ := by
  have hlt := (List.getElem?_eq_some_iff.1 h).1
  have := stC_cellS hm (s := i) (by omega)
  have e : cellS cs (i : Int) = ⟨2, s⟩ := by
    unfold cellS
    rw [if_neg (by omega), Int.toNat_natCast, List.getD_eq_getElem?_getD, h]; rfl
  rw [e] at this
  exact this.2
/-- A good cell's state. -/
theorem good_st {c : Cl} (h : goodC cs c) : ∃ s : Nat, stC cs c = s ∧ s < cs.length + 1 ∧ cellS cs (s : Int) = c := by
  obtain ⟨h1, h2, h3⟩ := h
  have hb := stC_bd cs c
  have hne : stC cs c ≠ -1 := fun e => by
    unfold lostC at h3
    have h0 : ¬ c.kind = 0 := by simpa [knownC] using h2
    simp [h0, e] at h3
  refine ⟨(stC cs c).toNat, by omega, by omega, ?_⟩
  rw [show (((stC cs c).toNat : Nat) : Int) = stC cs c by omega]
  exact cellS_stC h1 h2 h3
theorem good_x (ho : onE ts cs x = 0) {c : Cl} (hc : c ∈ x) (hk : knownC c = true) : goodC cs c := by
  obtain ⟨_, o2, o3⟩ := onE_zero ho
  exact ⟨List.all_eq_true.1 o2 c hc, hk, o3 c hc⟩
theorem allE_good (hb : begE ts cs ws g = 0) (hl : y.length = ts.length) (h : ∀ c ∈ y, goodC cs c) : allE ts cs ws g y = 0 := by
  unfold allE
  have a1 : y.all Cl.ok = true := List.all_eq_true.2 fun c hc => (h c hc).1
  have a2 : y.all knownC = true := List.all_eq_true.2 fun c hc => (h c hc).2.1
  have a3 : ¬ y.any (lostC cs) = true := by
    rw [Bool.not_eq_true, List.any_eq_false]; exact fun c hc => by simpa using (h c hc).2.2
  rw [if_neg (by simp [hb]), if_neg (by simp [hl, a1, a2]), if_neg a3]
/-- Any states of all nodes that are allowed. -/
theorem asg_least (hb : begE ts cs ws g = 0) (ho : onE ts cs x = 0) (a : Nat → Nat) (ha : ∀ v, v < ts.length → a v < cs.length + 1)
    (hok : ∀ v, v < ts.length → okS (leafL ts) (stL cs x) v (a v) = true) :
    0 ≤ (rootB ts (matL cs ws g) (stL cs x)).1 ∧ (rootB ts (matL cs ws g) (stL cs x)).1 ≤ total ts.length (parF ts) (rowM (matL cs ws g)) a ∧
      ((rootB ts (matL cs ws g) (stL cs x)).1 = total ts.length (parF ts) (rowM (matL cs ws g)) a → ((a 0 : Nat) : Int) ∈ rootsL ts (matL cs ws g) (stL cs x)) :=
  least_total (chk_of hb ho) a (fun v hv => by rw [matL_len]; exact ha v hv) hok fun v h1 hv => by
    obtain ⟨p, hp, hpv⟩ := par_nat (begE_zero hb).1 h1 hv
    rw [edge_ent hp]
    exact (matL_ok (begE_zero hb).2).2 _ _ (ha p (by omega)) (ha v hv)
theorem okS_cells (ho : onE ts cs x = 0) {v s : Nat} (h : ∀ (k : Nat) (c : Cl), x[k]? = some c → knownC c = true → (leafL ts)[k]? = some (v : Int) → stC cs c = s) : okS (leafL ts) (stL cs x) v s = true := by
  obtain ⟨h1, _, _⟩ := onE_zero ho
  by_cases hm : (v : Int) ∈ leafL ts
  · obtain ⟨k, hk⟩ := List.getElem?_of_mem hm
    have hlt := (List.getElem?_eq_some_iff.1 hk).1
    have hx : x[k]? = some (x[k]'(by omega)) := List.getElem?_eq_getElem (by omega)
    rw [okS_at (leafL_nodup ts) hk (t := stC cs (x[k]'(by omega))) (by unfold stL; rw [List.getElem?_map, hx]; rfl)]
    by_cases hkn : knownC (x[k]'(by omega)) = true
    · rw [h k _ hx hkn hk]; simp
    · have h0 : (x[k]'(by omega)).kind = 0 := by simpa [knownC] using hkn
      have : stC cs (x[k]'(by omega)) = -1 := by simp [stC, h0]
      rw [this]; rfl
  · exact okS_none fun i w hi e => hm (by rw [← e]; exact List.mem_of_getElem? hi)
theorem cellX_known (hb : begE ts cs ws g = 0) (ho : onE ts cs x = 0) (hk : knownB x = true) : cellX ts cs ws g x = (cellS cs (rootB ts (matL cs ws g) (stL cs x)).2, (rootB ts (matL cs ws g) (stL cs x)).1) := by
  unfold cellX bestX; rw [if_pos hb, if_pos ⟨ho, hk⟩]
theorem tieL_known (hb : begE ts cs ws g = 0) (ho : onE ts cs x = 0) (hk : knownB x = true) : tieL ts cs ws g x = (rootsL ts (matL cs ws g) (stL cs x)).map (cellS cs) := by
  unfold tieL; rw [if_pos ⟨hb, ho, hk⟩]
theorem asN_st {v : Nat} {c : Cl} (hv : y[v]? = some c) : asN (stL cs y) v = (stC cs c).toNat := by
  unfold asN stL; rw [List.getD_eq_getElem?_getD, List.getElem?_map, hv]; rfl
/-- No cells at all nodes, with the known cells at the leaves, cost less than the reconstruction. -/
theorem least_cells (hb : begE ts cs ws g = 0) (ho : onE ts cs x = 0) (hk : knownB x = true) (hl : y.length = ts.length) (h : ∀ c ∈ y, goodC cs c)
    (hx : ∀ (k : Nat) (c : Cl) (u : Nat), x[k]? = some c → knownC c = true → (leafL ts)[k]? = some (u : Int) → y[u]? = some c) :
    allE ts cs ws g y = 0 ∧ (cellX ts cs ws g x).2 ≤ allC ts cs ws g y ∧ ((cellX ts cs ws g x).2 = allC ts cs ws g y → ∀ c, y[0]? = some c → c ∈ tieL ts cs ws g x) := by
  have hE := allE_good hb hl h
  have hat : ∀ v, v < ts.length → ∃ c s : _, y[v]? = some c ∧ stC cs c = (s : Nat) ∧ s < cs.length + 1 ∧ cellS cs (s : Int) = c ∧ asN (stL cs y) v = s := fun v hv => by
    have hy : y[v]? = some (y[v]'(by omega)) := List.getElem?_eq_getElem (by omega)
    obtain ⟨s, s1, s2, s3⟩ := good_st (h _ (List.mem_of_getElem? hy))
    exact ⟨_, s, hy, s1, s2, s3, by rw [asN_st hy, s1]; rfl⟩
  obtain ⟨l1, l2, l3⟩ := asg_least (x := x) hb ho (asN (stL cs y)) (fun v hv => by obtain ⟨c, s, _, _, h3, _, h5⟩ := hat v hv; omega) fun v hv => okS_cells ho fun k c hc hkc hu => by
    have hy := hx k c v hc hkc hu
    obtain ⟨c', s, h1, h2, _, _, h5⟩ := hat v hv
    rw [hy] at h1; cases h1
    rw [h5]; exact h2
  have hC : allC ts cs ws g y = total ts.length (parF ts) (rowM (matL cs ws g)) (asN (stL cs y)) := by unfold allC; rw [if_pos hE]
  rw [hC, cellX_known hb ho hk, tieL_known hb ho hk]
  refine ⟨hE, l2, fun he c hc => ?_⟩
  have hn := (tree_len (begE_zero hb).1).1
  obtain ⟨c', s, h1, _, _, h4, h5⟩ := hat 0 hn
  rw [hc] at h1; cases h1
  have := l3 he
  rw [h5] at this
  exact List.mem_map.2 ⟨_, this, h4⟩
theorem cellX_kind (hb : begE ts cs ws g = 0) (ho : onE ts cs x = 0) (hk : knownB x = true) : ¬ (cellX ts cs ws g x).1.kind = 0 := by
  obtain ⟨r, h1, h2, _, _⟩ := root_at (poss_of hb ho)
  rw [cellX_known hb ho hk, h2]
  rw [matL_len] at h1
  simpa [knownC] using (stC_cellS (begE_zero hb).2 h1).2.2.1
/-! ### Lists that are written cell by cell -/
theorem good_set {j : Nat} {c : Cl} (h : ∀ (i : Nat) (d : Cl), i < j → y[i]? = some d → goodC cs d) (hc : goodC cs c) : ∀ (i : Nat) (d : Cl), i < j + 1 → (y.set j c)[i]? = some d → goodC cs d := by
  intro i d hi hd
  by_cases e : j = i
  · subst e
    rw [List.getElem?_set_self' ] at hd
    cases hy : y[j]? with
    | none => rw [hy] at hd; cases hd
    | some z => rw [hy] at hd; cases hd; exact hc
  · rw [List.getElem?_set_ne e] at hd
    exact h i d (by omega) hd
theorem good_set2 {j : Nat} {c e : Cl} (h : ∀ (i : Nat) (d : Cl), i < j → y[i]? = some d → goodC cs d) (hc : goodC cs c) : ∀ (i : Nat) (d : Cl), i < j + 1 → ((y.set j e).set j c)[i]? = some d → goodC cs d := by
  rw [List.set_set]; exact good_set h hc
theorem good_mem_set {u : Nat} {c : Cl} (h : ∀ d ∈ y, goodC cs d) (hc : goodC cs c) : ∀ d ∈ y.set u c, goodC cs d := fun d hd => by
  rcases List.mem_or_eq_of_mem_set hd with h1 | h1
  · exact h d h1
  · rw [h1]; exact hc
/-- The known cells of the first j leaves stand at their nodes. -/
def KnL (LL : List Int) (x y : List Cl) (j : Nat) : Prop := ∀ (k : Nat) (c : Cl) (u : Nat), k < j → x[k]? = some c → knownC c = true → LL[k]? = some (u : Int) → y[u]? = some c
theorem KnL.skip {LL : List Int} {j : Nat} {c : Cl} (h : KnL LL x y j) (hx : x[j]? = some c) (hc : knownC c = false) : KnL LL x y (j + 1) := fun k d u hk hd hkd hu => by
  by_cases e : k = j
  · subst e; rw [hx] at hd; cases hd; rw [hc] at hkd; cases hkd
  · exact h k d u (by omega) hd hkd hu
theorem KnL.set {LL : List Int} {j u : Nat} {c : Cl} (hn : LL.Nodup) (h : KnL LL x y j) (hx : x[j]? = some c) (hu : LL[j]? = some (u : Int)) (hl : u < y.length) : KnL LL x (y.set u c) (j + 1) := fun k d v hk hd hkd hv => by
  by_cases e : k = j
  · subst e
    rw [hx] at hd; cases hd
    rw [hu] at hv
    have : u = v := by have := Option.some.inj hv; omega
    subst this
    rw [List.getElem?_set_self hl]
  · have hne : u ≠ v := fun e2 => by
      subst e2
      obtain ⟨a1, a2⟩ := List.getElem?_eq_some_iff.1 hu
      obtain ⟨b1, b2⟩ := List.getElem?_eq_some_iff.1 hv
      have hp := List.pairwise_iff_getElem.1 hn
      exact hp k j b1 a1 (by omega) (by rw [a2, b2])
    rw [List.getElem?_set_ne hne]
    exact h k d v (by omega) hd hkd hv
/-! ### All known cells are the same -/
theorem sumN_zero {f : Nat → Int} : ∀ (n : Nat), (∀ i, i < n → 0 ≤ f i) → sumN f n = 0 → ∀ i, i < n → f i = 0
  | 0, _, _, i, hi => absurd hi (Nat.not_lt_zero _)
  | n + 1, h, h0, i, hi => by
    have hs : sumN f (n + 1) = sumN f n + f n := rfl
    have hge : 0 ≤ sumN f n := by
      have : ∀ m, m ≤ n → 0 ≤ sumN f m := fun m => by
        induction m with
        | zero => intro _; exact Int.le_refl _
        | succ m ih => intro hm; have := ih (by omega); have := h m (by omega); show 0 ≤ sumN f m + f m; omega
      exact this n (Nat.le_refl _)
    have hfn := h n (Nat.lt_succ_self _)
    by_cases e : i = n
    · subst e; omega
    · exact sumN_zero n (fun i hi => h i (by omega)) (by omega) i (by omega)
theorem sumN_all0 {f : Nat → Int} : ∀ {n : Nat}, (∀ i, i < n → f i = 0) → sumN f n = 0
  | 0, _ => rfl
  | n + 1, h => by show sumN f n + f n = 0; rw [sumN_all0 fun i hi => h i (by omega), h n (Nat.lt_succ_self _)]; rfl
theorem same_zero (hb : begE ts cs ws g = 0) (ho : onE ts cs x = 0) (hk : knownB x = true) {one : Cl} (hx : ∀ c ∈ x, knownC c = true → c = one) :
    goodC cs one ∧ (cellX ts cs ws g x).2 = 0 ∧ one ∈ tieL ts cs ws g x := by
  have hg : goodC cs one := by
    unfold knownB at hk
    obtain ⟨c, hc, hkc⟩ := List.any_eq_true.1 hk
    have := good_x ho hc hkc
    rwa [hx c hc hkc] at this
  obtain ⟨s, s1, s2, s3⟩ := good_st hg
  obtain ⟨l1, l2, l3⟩ := asg_least (x := x) hb ho (fun _ => s) (fun _ _ => s2) fun v hv => okS_cells ho fun k c hc hkc _ => by
    rw [hx c (List.mem_of_getElem? hc) hkc]; exact s1
  have ht : total ts.length (parF ts) (rowM (matL cs ws g)) (fun _ => s) = 0 := by
    unfold total
    refine sumN_all0 fun i hi => ?_
    obtain ⟨p, hp, _⟩ := par_nat (begE_zero hb).1 (v := i + 1) (by omega) (by omega)
    rw [edge_ent hp, matL_ent (by omega) (by omega), costM_self]
  rw [ht] at l2 l3
  rw [cellX_known hb ho hk, tieL_known hb ho hk]
  have h0 : (rootB ts (matL cs ws g) (stL cs x)).1 = 0 := by omega
  exact ⟨hg, h0, List.mem_map.2 ⟨_, l3 h0, s3⟩⟩
theorem matL_at {i : Nat} {r : List Int} (h : (matL cs ws g)[i]? = some r) : r.length = cs.length + 1 ∧ ∀ (k : Nat) (z : Int), r[k]? = some z → z = costM cs ws g i k := by
  unfold matL at h
  rw [List.getElem?_map] at h
  have hi : i < cs.length + 1 := by
    rcases Nat.lt_or_ge i (cs.length + 1) with h1 | h1
    · exact h1
    · rw [List.getElem?_eq_none (by simpa using h1)] at h; cases h
  rw [List.getElem?_range hi] at h
  cases h
  refine ⟨by simp [matRow], fun k z hz => ?_⟩
  unfold matRow at hz
  rw [List.getElem?_map] at hz
  have hk : k < cs.length + 1 := by
    rcases Nat.lt_or_ge k (cs.length + 1) with h1 | h1
    · exact h1
    · rw [List.getElem?_eq_none (by simpa using h1)] at hz; cases hz
  rw [List.getElem?_range hk] at hz
  cases hz; rfl
theorem rootsL_nodup (ms : List (List Int)) (st : List Int) : (rootsL ts ms st).Nodup := by
  unfold rootsL
  split
  · unfold rootsTo
    refine List.Pairwise.map (R := fun a b : Nat => a ≠ b) _ (fun a b h e => h (Int.ofNat.inj e)) ?_
    exact List.Pairwise.filter _ List.nodup_range
  · exact List.nodup_nil
/-- A root's state that costs the least: states of all nodes with this cost. -/
theorem roots_asg (hb : begE ts cs ws g = 0) (ho : onE ts cs x = 0) {r : Int} (hr : r ∈ rootsL ts (matL cs ws g) (stL cs x)) :
    ∃ f : Nat → Nat, r = (f 0 : Nat) ∧ total ts.length (parF ts) (rowM (matL cs ws g)) f = (rootB ts (matL cs ws g) (stL cs x)).1 ∧
      (∀ v, v < ts.length → f v < cs.length + 1 ∧ okS (leafL ts) (stL cs x) v (f v) = true) ∧ ∀ v, 1 ≤ v → v < ts.length → 0 ≤ edge (parF ts) (rowM (matL cs ws g)) f v := by
  have hp := poss_of hb ho
  have h0 := chk_of hb ho
  unfold rootsL at hr
  rw [if_pos hp] at hr
  obtain ⟨s, rfl, hs, he⟩ := rootsTo_lt hr
  have hge : 0 ≤ (rootB ts (matL cs ws g) (stL cs x)).1 := (possE_zero hp).2
  obtain ⟨t1, t2, t3, t4⟩ := best_total h0 hs (by rw [he]; exact hge)
  exact ⟨bestN ts (matL cs ws g) (stL cs x) s, by rw [t2], by rw [t1, he], fun v hv => by have := t3 v hv; rw [matL_len] at this; exact this, t4⟩
theorem nodup_one {α : Type} {l : List α} {a : α} (hn : l.Nodup) (hm : a ∈ l) (h : ∀ b ∈ l, b = a) : l = [a] := by
  match l, hn, hm, h with
  | [], _, hm, _ => cases hm
  | [b], _, _, h => rw [h b (List.mem_singleton.2 rfl)]
  | b :: c :: l, hn, _, h =>
    have h1 := h b (by simp)
    have h2 := h c (by simp)
    rw [h1, h2] at hn
    simp at hn
theorem same_one (hb : begE ts cs ws g = 0) (ho : onE ts cs x = 0) (hk : knownB x = true) {one : Cl} (hx : ∀ c ∈ x, knownC c = true → c = one)
    (hf : ∀ i k, i < cs.length + 1 → k < cs.length + 1 → i ≠ k → costM cs ws g i k ≠ 0) : tieL ts cs ws g x = [one] ∧ (cellX ts cs ws g x).1 = one := by
  obtain ⟨hg, h0, h1⟩ := same_zero hb ho hk hx
  obtain ⟨s, s1, s2, s3⟩ := good_st hg
  obtain ⟨ht, hm⟩ := begE_zero hb
  have hn := (tree_len ht).1
  have hall : ∀ r ∈ rootsL ts (matL cs ws g) (stL cs x), r = (s : Int) := fun r hr => by
    obtain ⟨f, f1, f2, f3, f4⟩ := roots_asg hb ho hr
    rw [cellX_known hb ho hk] at h0
    have h0' : (rootB ts (matL cs ws g) (stL cs x)).1 = 0 := h0
    rw [h0'] at f2
    unfold total at f2
    have he := sumN_zero _ (fun i hi => f4 (i + 1) (by omega) (by omega)) f2
    have hc : ∀ v, v < ts.length → f v = f 0 := fun v => by
      induction v using Nat.strongRecOn with
      | _ v ih =>
        intro hv
        by_cases e : v = 0
        · rw [e]
        · obtain ⟨p, hp, hpv⟩ := par_nat ht (v := v) (by omega) hv
          have h2 := he (v - 1) (by omega)
          rw [show v - 1 + 1 = v by omega, edge_ent hp, matL_ent (by have := (f3 p (by omega)).1; omega) (by have := (f3 v hv).1; omega)] at h2
          by_cases e2 : f p = f v
          · rw [← e2]; exact ih p hpv (by omega)
          · exact absurd h2 (hf _ _ (f3 p (by omega)).1 (f3 v hv).1 e2)
    obtain ⟨o1, o2, o3⟩ := onE_zero ho
    unfold knownB at hk
    obtain ⟨c, hcm, hkc⟩ := List.any_eq_true.1 hk
    obtain ⟨k, hkx⟩ := List.getElem?_of_mem hcm
    have hklt := (List.getElem?_eq_some_iff.1 hkx).1
    have hl : (leafL ts)[k]? = some ((leafL ts)[k]'(by omega)) := List.getElem?_eq_getElem (by omega)
    obtain ⟨u, hu, hut⟩ := leafL_at hl
    rw [hu] at hl
    have h5 := (f3 u hut).2
    rw [okS_at (leafL_nodup ts) hl (t := stC cs c) (by unfold stL; rw [List.getElem?_map, hkx]; rfl), hc u hut, hx c hcm hkc, s1] at h5
    rw [f1]
    have : ¬ ((s : Nat) : Int) = -1 := by omega
    simp [this] at h5
    omega
  have hr : rootsL ts (matL cs ws g) (stL cs x) = [(s : Int)] := by
    rw [tieL_known hb ho hk] at h1
    obtain ⟨r, hr, _⟩ := List.mem_map.1 h1
    have hm : (s : Int) ∈ rootsL ts (matL cs ws g) (stL cs x) := by rw [← hall r hr]; exact hr
    exact nodup_one (rootsL_nodup _ _) hm hall
  refine ⟨by rw [tieL_known hb ho hk, hr, List.map_singleton, s3], ?_⟩
  have hh := roots_head (poss_of hb ho)
  rw [hr] at hh
  have : (rootB ts (matL cs ws g) (stL cs x)).2 = (s : Int) := (Option.some.inj hh).symm
  rw [cellX_known hb ho hk, this]
  exact s3
end
end Go.Proofs.YtdloabjnjnjacaaDoor
