/-
  Plain: the least cost of the root, its states; the first best states of all nodes.
-/
import Derived.Test.YtdloabjnjnjacaaDoorSe
namespace Go.Proofs.YtdloabjnjnjacaaDoor
open Go.RowKit
theorem chkS_zero {ts : List Nd} {ms : List (List Int)} {st : List Int} (h : chkS ts ms st = 0) : treeB ts = true ∧ smB ms = true ∧ st.length = (leafL ts).length ∧ st.all (staB ms.length) = true := by
  unfold chkS at h
  split at h
  · cases h
  · rename_i h1
    split at h
    · cases h
    · rename_i h2
      split at h
      · rename_i h3
        simp only [not_or] at h2
        exact ⟨by simpa using h1, by simpa using h2.1, by have := h2.2; omega, h3⟩
      · cases h
/-! ### The least of some costs -/
theorem bstF_bd {c : Nat → Int} {M : Int} (hM : 0 ≤ M) : ∀ k, (∀ s, s < k → c s ≤ M) → (bstF c k).1 ≤ M
  | 0, _ => by simp [bstF]; omega
  | k + 1, h => by
    rw [bstF]; split
    · exact h k (by omega)
    · exact bstF_bd hM k fun s hs => h s (by omega)
theorem bstF_le {c : Nat → Int} : ∀ k i, i < k → 0 ≤ c i → 0 ≤ (bstF c k).1 ∧ (bstF c k).1 ≤ c i
  | 0, i, h, _ => absurd h (by omega)
  | k + 1, i, h, hc => by
    rw [bstF]
    by_cases e : i = k
    · subst e
      split
      · exact ⟨hc, Int.le_refl _⟩
      · rename_i hn
        have : ¬ ((bstF c i).1 < 0 ∨ c i < (bstF c i).1) := fun h => hn ⟨hc, h⟩
        omega
    · have ih := bstF_le k i (by omega) hc
      split
      · rename_i hn; simp only; omega
      · exact ih
theorem bstF_at {c : Nat → Int} : ∀ k, 0 ≤ (bstF c k).1 → ∃ s : Nat, s < k ∧ (bstF c k).2 = s ∧ c s = (bstF c k).1 ∧ ∀ i, i < s → c i ≠ (bstF c k).1
  | 0, h => by simp [bstF] at h
  | k + 1, h => by
    rw [bstF] at h ⊢
    by_cases hn : 0 ≤ c k ∧ ((bstF c k).1 < 0 ∨ c k < (bstF c k).1)
    · rw [if_pos hn] at h ⊢
      refine ⟨k, by omega, rfl, rfl, fun i hi e => ?_⟩
      have := bstF_le (c := c) k i hi (by rw [e]; exact hn.1)
      simp only at e; omega
    · rw [if_neg hn] at h ⊢
      obtain ⟨s, h1, h2, h3, h4⟩ := bstF_at k h
      exact ⟨s, by omega, h2, h3, h4⟩
/-! ### What is below a node whose state is possible is possible -/
theorem foldl_op_nonneg : ∀ (l : List Int) (x : Int), 0 ≤ l.foldl op x → 0 ≤ x ∧ ∀ a ∈ l, 0 ≤ a
  | [], x, h => ⟨h, by simp⟩
  | a :: l, x, h => by
    obtain ⟨h1, h2⟩ := foldl_op_nonneg l _ h
    have h3 : 0 ≤ x ∧ 0 ≤ a := by unfold op at h1; split at h1 <;> omega
    refine ⟨h3.1, fun b hb => ?_⟩
    rcases List.mem_cons.1 hb with rfl | hb
    · exact h3.2
    · exact h2 b hb
theorem acc_back {n : Nat} {par : Nat → Int} {m : Nat → List Int} {ok : Nat → Nat → Bool} {T : Nat → List Int} {j u s v : Nat} (h : 0 ≤ acc n par m ok T j u s) (hj : j ≤ n) (h1 : n - j ≤ v) (h2 : v < n) (hp : par v = u) : 0 ≤ under (m s) (T v) := by
  unfold acc at h
  refine (foldl_op_nonneg _ _ h).2 _ (List.mem_map.2 ⟨v, ?_, rfl⟩)
  unfold kids
  exact List.mem_filter.2 ⟨List.mem_range'_1.2 ⟨h1, by omega⟩, by simpa using hp⟩
theorem acc_okS {n : Nat} {par : Nat → Int} {m : Nat → List Int} {ok : Nat → Nat → Bool} {T : Nat → List Int} {j u s : Nat} (h : 0 ≤ acc n par m ok T j u s) : ok u s = true := by
  unfold acc at h
  have := (foldl_op_nonneg _ _ h).1
  cases hb : ok u s
  · rw [hb] at this; simp at this
  · rfl
/-! ### The root -/
/-- The least cost of the root's states, and the first that has it. -/
def rootB (ts : List Nd) (ms : List (List Int)) (st : List Int) : Int × Int := bstF (accS ts ms st (ts.length - 1) 0) ms.length
def possE (ts : List Nd) (ms : List (List Int)) (st : List Int) : Int := if chkS ts ms st ≠ 0 then chkS ts ms st else if (rootB ts ms st).1 = -1 then 5 else 0
theorem possE_zero {ts : List Nd} {ms : List (List Int)} {st : List Int} (h : possE ts ms st = 0) : chkS ts ms st = 0 ∧ 0 ≤ (rootB ts ms st).1 := by
  unfold possE at h
  split at h
  · rename_i h1; exact absurd h h1
  · rename_i h1
    split at h
    · cases h
    · rename_i h2
      refine ⟨Decidable.of_not_not h1, ?_⟩
      have : -1 ≤ (rootB ts ms st).1 := bstF_ge _
      omega
theorem acc_bds {ts : List Nd} {ms : List (List Int)} {st : List Int} (h : chkS ts ms st = 0) {v s : Nat} (hv : v < ts.length) (hs : s < ms.length) : -1 ≤ accS ts ms st (ts.length - 1) v s ∧ accS ts ms st (ts.length - 1) v s ≤ 1099511627776 := by
  obtain ⟨ht, hm, _, _⟩ := chkS_zero h
  have := accS_bd (st := st) ht hm (j := ts.length - 1) (u := v) (s := s) (by omega) hv hs
  omega
/-- The root's states that cost the least. -/
def rootsTo (ts : List Nd) (ms : List (List Int)) (st : List Int) (j : Nat) : List Int := ((List.range j).filter fun s => decide (accS ts ms st (ts.length - 1) 0 s = (rootB ts ms st).1)).map fun s : Nat => (s : Int)
def rootsL (ts : List Nd) (ms : List (List Int)) (st : List Int) : List Int := if possE ts ms st = 0 then rootsTo ts ms st ms.length else []
theorem rootsTo_succ (ts : List Nd) (ms : List (List Int)) (st : List Int) (j : Nat) : rootsTo ts ms st (j + 1) = rootsTo ts ms st j ++ if accS ts ms st (ts.length - 1) 0 j = (rootB ts ms st).1 then [(j : Int)] else [] := by
  unfold rootsTo
  rw [List.range_succ, List.filter_append, List.map_append]
  congr 1
  by_cases h : accS ts ms st (ts.length - 1) 0 j = (rootB ts ms st).1
  · rw [if_pos h, List.filter_cons, if_pos (by simpa using h)]; rfl
  · rw [if_neg h, List.filter_cons, if_neg (by simpa using h)]; rfl
theorem rootsTo_len (ts : List Nd) (ms : List (List Int)) (st : List Int) (j : Nat) : (rootsTo ts ms st j).length ≤ j := by
  unfold rootsTo; rw [List.length_map]; exact Nat.le_trans (List.length_filter_le _ _) (by simp)
theorem rootsTo_lt {ts : List Nd} {ms : List (List Int)} {st : List Int} {j : Nat} {x : Int} (h : x ∈ rootsTo ts ms st j) : ∃ s : Nat, x = s ∧ s < j ∧ accS ts ms st (ts.length - 1) 0 s = (rootB ts ms st).1 := by
  unfold rootsTo at h
  obtain ⟨s, hs, rfl⟩ := List.mem_map.1 h
  obtain ⟨h1, h2⟩ := List.mem_filter.1 hs
  exact ⟨s, rfl, List.mem_range.1 h1, by simpa using h2⟩
/-- The first of these states. -/
theorem roots_head {ts : List Nd} {ms : List (List Int)} {st : List Int} (h : possE ts ms st = 0) : (rootsL ts ms st)[0]? = some (rootB ts ms st).2 := by
  obtain ⟨h0, h1⟩ := possE_zero h
  obtain ⟨s, h2, h3, h4, h5⟩ := bstF_at _ h1
  have h3' : (rootB ts ms st).2 = s := h3
  have h4' : accS ts ms st (ts.length - 1) 0 s = (rootB ts ms st).1 := h4
  have h5' : ∀ i, i < s → accS ts ms st (ts.length - 1) 0 i ≠ (rootB ts ms st).1 := h5
  unfold rootsL
  rw [if_pos h]
  have hno : ∀ j, j ≤ s → rootsTo ts ms st j = [] := by
    intro j
    induction j with
    | zero => intro _; rfl
    | succ j ih =>
      intro hj
      rw [rootsTo_succ, ih (by omega), if_neg (h5' j (by omega))]; rfl
  have hs1 : rootsTo ts ms st (s + 1) = [(s : Int)] := by
    rw [rootsTo_succ, hno s (Nat.le_refl _), if_pos h4']; rfl
  have hall : ∀ d, (rootsTo ts ms st (s + 1 + d))[0]? = some (s : Int) := by
    intro d
    induction d with
    | zero => rw [Nat.add_zero, hs1]; rfl
    | succ d ih =>
      rw [show s + 1 + (d + 1) = (s + 1 + d) + 1 by omega, rootsTo_succ]
      have hne : 0 < (rootsTo ts ms st (s + 1 + d)).length := (List.getElem?_eq_some_iff.1 ih).1
      rw [List.getElem?_append_left hne]; exact ih
  have := hall (ms.length - (s + 1))
  rw [show s + 1 + (ms.length - (s + 1)) = ms.length by omega] at this
  rw [h3']; exact this
/-! ### All nodes -/
/-- What node v costs with state b, if its parent has state a. -/
def stepC (ts : List Nd) (ms : List (List Int)) (st : List Int) (v a b : Nat) : Int := op (ent ms a b) (accS ts ms st (ts.length - 1) v b)
/-- The first best states of the first j nodes, if the root has state r. -/
def bestTo (ts : List Nd) (ms : List (List Int)) (st : List Int) (r : Int) : Nat → List Int
  | 0 => []
  | j + 1 => bestTo ts ms st r j ++ [if j = 0 then r else (bstF (stepC ts ms st j ((bestTo ts ms st r j).getD (parF ts j).toNat 0).toNat) ms.length).2]
def bestS (ts : List Nd) (ms : List (List Int)) (st : List Int) : List Int := if possE ts ms st = 0 then bestTo ts ms st (rootB ts ms st).2 ts.length else []
section
variable {ts : List Nd} {ms : List (List Int)} {st : List Int}
theorem bestTo_len (r : Int) : ∀ j, (bestTo ts ms st r j).length = j
  | 0 => rfl
  | j + 1 => by rw [bestTo, List.length_append, bestTo_len r j]; rfl
theorem bestTo_pre {r : Int} {v : Nat} : ∀ {j i : Nat}, v < i → i ≤ j → (bestTo ts ms st r j)[v]? = (bestTo ts ms st r i)[v]?
  | 0, i, h1, h2 => by omega
  | j + 1, i, h1, h2 => by
    by_cases e : i = j + 1
    · subst e; rfl
    · rw [bestTo, List.getElem?_append_left (by rw [bestTo_len]; omega)]
      exact bestTo_pre h1 (by omega)
theorem step_under (ht : treeB ts = true) (hm : smB ms = true) {v a : Nat} (hv : v < ts.length) (ha : a < ms.length) :
    (bstF (stepC ts ms st v a) ms.length).1 = under (rowM ms a) (tabS ts ms st v) := by
  rw [← bst_under (st := st) ht hm hv ha]
  refine congrArg Prod.fst (bstF_congr ms.length fun b hb => ?_)
  unfold stepC
  congr 1
  exact acc_stab (task_of ht hm) hv (ts.length - 1) (by omega) (by omega)
/-- What stands of a node among the first best. -/
structure BestAt (ts : List Nd) (ms : List (List Int)) (st : List Int) (r : Nat) (L : List Int) (v : Nat) (s : Nat) : Prop where
  lt : s < ms.length
  at' : L[v]? = some (s : Int)
  ge : 0 ≤ accS ts ms st (ts.length - 1) v s
  root : v = 0 → s = r
  step : 0 < v → ∃ p a : Nat, parF ts v = p ∧ p < v ∧ a < ms.length ∧ L[p]? = some (a : Int) ∧ 0 ≤ (bstF (stepC ts ms st v a) ms.length).1 ∧ (bstF (stepC ts ms st v a) ms.length).2 = s ∧ stepC ts ms st v a s = (bstF (stepC ts ms st v a) ms.length).1 ∧ ∀ i, i < s → stepC ts ms st v a i ≠ (bstF (stepC ts ms st v a) ms.length).1
theorem best_at (h0 : chkS ts ms st = 0) {r : Nat} (hr : r < ms.length) (h1 : 0 ≤ accS ts ms st (ts.length - 1) 0 r) : ∀ j, j ≤ ts.length → ∀ v, v < j → ∃ s : Nat, BestAt ts ms st r (bestTo ts ms st r j) v s
  | 0, _, v, hv => by omega
  | j + 1, hj, v, hv => by
    obtain ⟨ht, hm, _, _⟩ := chkS_zero h0
    by_cases e : v < j
    · obtain ⟨s, hs⟩ := best_at h0 hr h1 j (by omega) v e
      refine ⟨s, hs.lt, ?_, hs.ge, hs.root, fun h0 => ?_⟩
      · rw [bestTo_pre e (Nat.le_succ j)]; exact hs.at'
      · obtain ⟨p, a, p1, p2, p3, p4, p5⟩ := hs.step h0
        exact ⟨p, a, p1, p2, p3, by rw [bestTo_pre (show p < j by omega) (Nat.le_succ j)]; exact p4, p5⟩
    · have ev : v = j := by omega
      subst ev
      have hat : (bestTo ts ms st r (v + 1))[v]? = some (if v = 0 then (r : Int) else (bstF (stepC ts ms st v ((bestTo ts ms st r v).getD (parF ts v).toNat 0).toNat) ms.length).2) := by
        rw [bestTo, List.getElem?_append_right (by rw [bestTo_len]; exact Nat.le_refl _), bestTo_len]; simp
      by_cases e0 : v = 0
      · subst e0
        rw [if_pos rfl] at hat
        exact ⟨r, hr, hat, h1, fun _ => rfl, fun h => absurd h (Nat.lt_irrefl _)⟩
      · rw [if_neg e0] at hat
        have hpB := tree_par ht (v := v) (by omega)
        unfold parB at hpB
        rw [if_neg e0, Bool.and_eq_true, decide_eq_true_eq, decide_eq_true_eq] at hpB
        obtain ⟨p, hp⟩ : ∃ p : Nat, parF ts v = (p : Int) := ⟨(parF ts v).toNat, by omega⟩
        have hpv : p < v := by omega
        obtain ⟨a, ha⟩ := best_at h0 hr h1 v (by omega) p hpv
        have hg : ((bestTo ts ms st r v).getD (parF ts v).toNat 0).toNat = a := by
          rw [hp, Int.toNat_natCast, List.getD_eq_getElem?_getD, ha.at']; rfl
        rw [hg] at hat
        have hge : 0 ≤ (bstF (stepC ts ms st v a) ms.length).1 := by
          rw [step_under ht hm (by omega) ha.lt]
          exact acc_back ha.ge (by omega) (by omega) (by omega) hp
        obtain ⟨s, h2, h3, h4, h5⟩ := bstF_at _ hge
        refine ⟨s, h2, by rw [hat, h3], ?_, fun h => absurd h e0, fun _ => ⟨p, a, hp, hpv, ha.lt, ?_, hge, h3, h4, h5⟩⟩
        · rw [← h4] at hge
          unfold stepC op at hge
          split at hge <;> omega
        · rw [bestTo_pre hpv (Nat.le_succ v)]; exact ha.at'
/-- One step of the list. -/
theorem best_succ (h0 : chkS ts ms st = 0) {r : Nat} (hr : r < ms.length) (h1 : 0 ≤ accS ts ms st (ts.length - 1) 0 r) {v : Nat} (hv0 : 0 < v) (hv : v < ts.length) {p : Nat} {a : Int} (hp : parF ts v = p) (ha : (bestTo ts ms st r v)[p]? = some a) :
    ∃ a' : Nat, a = a' ∧ a' < ms.length ∧ bestTo ts ms st r (v + 1) = bestTo ts ms st r v ++ [(bstF (stepC ts ms st v a') ms.length).2] := by
  have hpv : p < v := by have := (List.getElem?_eq_some_iff.1 ha).1; rwa [bestTo_len] at this
  obtain ⟨s, hs⟩ := best_at h0 hr h1 v (by omega) p hpv
  have e : a = s := by have := hs.at'; rw [ha] at this; exact Option.some.inj this
  refine ⟨s, e, hs.lt, ?_⟩
  rw [bestTo, if_neg (by omega), hp, Int.toNat_natCast, List.getD_eq_getElem?_getD, ha, e]; rfl
/-- The states as a function. -/
def bestN (ts : List Nd) (ms : List (List Int)) (st : List Int) (r : Int) (v : Nat) : Nat := ((bestTo ts ms st r ts.length).getD v 0).toNat
theorem bestN_eq {r : Nat} {v s : Nat} (hs : BestAt ts ms st r (bestTo ts ms st r ts.length) v s) : bestN ts ms st r v = s := by unfold bestN; rw [List.getD_eq_getElem?_getD, hs.at']; rfl
/-- The whole list costs what the root's state costs. -/
theorem best_total (h0 : chkS ts ms st = 0) {r : Nat} (hr : r < ms.length) (h1 : 0 ≤ accS ts ms st (ts.length - 1) 0 r) :
    total ts.length (parF ts) (rowM ms) (bestN ts ms st r) = accS ts ms st (ts.length - 1) 0 r ∧ bestN ts ms st r 0 = r ∧ (∀ v, v < ts.length → bestN ts ms st r v < ms.length ∧ okS (leafL ts) st v (bestN ts ms st r v) = true) ∧ (∀ v, 1 ≤ v → v < ts.length → 0 ≤ edge (parF ts) (rowM ms) (bestN ts ms st r) v) := by
  obtain ⟨ht, hm, _, _⟩ := chkS_zero h0
  have H := task_of ht hm
  have hB := best_at h0 hr h1 ts.length (Nat.le_refl _)
  have hacc : ∀ v s, v < ts.length → s < ms.length → (tabl ts.length ms.length (parF ts) (rowM ms) (okS (leafL ts) st) ts.length v).getD s (-1) = accS ts ms st (ts.length - 1) v s := fun v s hv hs => accS_last ht hm hv hs
  have hok : ∀ v, v < ts.length → bestN ts ms st r v < ms.length ∧ okS (leafL ts) st v (bestN ts ms st r v) = true := fun v hv => by
    obtain ⟨s, hs⟩ := hB v hv
    rw [bestN_eq hs]; exact ⟨hs.lt, acc_okS hs.ge⟩
  have hE : ∀ v, 1 ≤ v → v < ts.length → 0 ≤ under (rowM ms (bestN ts ms st r (parF ts v).toNat)) (tabS ts ms st v) ∧ 0 ≤ edge (parF ts) (rowM ms) (bestN ts ms st r) v ∧ 0 ≤ (tabl ts.length ms.length (parF ts) (rowM ms) (okS (leafL ts) st) ts.length v).getD (bestN ts ms st r v) (-1) ∧
      under (rowM ms (bestN ts ms st r (parF ts v).toNat)) (tabS ts ms st v) = edge (parF ts) (rowM ms) (bestN ts ms st r) v + (tabl ts.length ms.length (parF ts) (rowM ms) (okS (leafL ts) st) ts.length v).getD (bestN ts ms st r v) (-1) := fun v h1 hv => by
    obtain ⟨s, hs⟩ := hB v hv
    obtain ⟨p, a, p1, p2, p3, p4, p5, p6, p7, _⟩ := hs.step (by omega)
    have ha : bestN ts ms st r (parF ts v).toNat = a := by unfold bestN; rw [p1, Int.toNat_natCast, List.getD_eq_getElem?_getD, p4]; rfl
    have hb := step_under (st := st) ht hm hv p3
    have hent : edge (parF ts) (rowM ms) (bestN ts ms st r) v = ent ms a s := by
      unfold edge; rw [ha, bestN_eq hs]; rfl
    rw [hent, ha, bestN_eq hs, hacc v s hv hs.lt, ← hb]
    have hge := hs.ge
    have hst : op (ent ms a s) (accS ts ms st (ts.length - 1) v s) = (bstF (stepC ts ms st v a) ms.length).1 := p7
    generalize (bstF (stepC ts ms st v a) ms.length).1 = B at hst p5 ⊢
    unfold op at hst
    split at hst
    · omega
    · omega
  refine ⟨?_, ?_, hok, fun v h1 hv => (hE v h1 hv).2.1⟩
  · have := reached_root (ok := okS (leafL ts) st) H (bestN ts ms st r) (fun v hv => (hok v hv).1) hE (fun v hv => (hok v hv).2)
    rw [← this]
    obtain ⟨s, hs⟩ := hB 0 (tree_len ht).1
    rw [bestN_eq hs, hs.root rfl, hacc 0 r (tree_len ht).1 hr]
  · obtain ⟨s, hs⟩ := hB 0 (tree_len ht).1
    rw [bestN_eq hs, hs.root rfl]
theorem root_at (h : possE ts ms st = 0) : ∃ r : Nat, r < ms.length ∧ (rootB ts ms st).2 = r ∧ accS ts ms st (ts.length - 1) 0 r = (rootB ts ms st).1 ∧ 0 ≤ (rootB ts ms st).1 := by
  obtain ⟨h0, h1⟩ := possE_zero h
  obtain ⟨s, h2, h3, h4, _⟩ := bstF_at _ h1
  exact ⟨s, h2, h3, h4, h1⟩
/-- No states of all nodes that are allowed cost less. -/
theorem least_total (h0 : chkS ts ms st = 0) (a : Nat → Nat) (ha : ∀ v, v < ts.length → a v < ms.length)
    (hok : ∀ v, v < ts.length → okS (leafL ts) st v (a v) = true) (hm : ∀ v, 1 ≤ v → v < ts.length → 0 ≤ edge (parF ts) (rowM ms) a v) :
    0 ≤ (rootB ts ms st).1 ∧ (rootB ts ms st).1 ≤ total ts.length (parF ts) (rowM ms) a ∧ ((rootB ts ms st).1 = total ts.length (parF ts) (rowM ms) a → ((a 0 : Nat) : Int) ∈ rootsL ts ms st) := by
  obtain ⟨ht, hmb, _, _⟩ := chkS_zero h0
  have hn := (tree_len ht).1
  obtain ⟨l1, l2⟩ := lower_root (task_of ht hmb) a ha hok hm
  have e := accS_last (st := st) ht hmb hn (ha 0 hn)
  have e' : (tabl ts.length ms.length (parF ts) (rowM ms) (okS (leafL ts) st) ts.length 0).getD (a 0) (-1) = accS ts ms st (ts.length - 1) 0 (a 0) := e
  rw [e'] at l1 l2
  have hb := bstF_le (c := accS ts ms st (ts.length - 1) 0) ms.length (a 0) (ha 0 hn) l1
  have hb1 : 0 ≤ (rootB ts ms st).1 := hb.1
  have hb2 : (rootB ts ms st).1 ≤ accS ts ms st (ts.length - 1) 0 (a 0) := hb.2
  refine ⟨hb1, by omega, fun he => ?_⟩
  have hp : possE ts ms st = 0 := by unfold possE; rw [if_neg (by simp [h0]), if_neg (by omega)]
  unfold rootsL
  rw [if_pos hp]
  unfold rootsTo
  exact List.mem_map.2 ⟨a 0, List.mem_filter.2 ⟨List.mem_range.2 (ha 0 hn), by simp; omega⟩, rfl⟩
end
end Go.Proofs.YtdloabjnjnjacaaDoor
