/-
  Sums of correspondences: the order of what is summed does not matter, totals add up, sums are valid. Plain Lean: no walk.
-/
import Derived.Test.YtkdancoffmhjhaaLm
namespace Go.Proofs.Ytkdancoffmhjhaa
open Go.RowKit Go.Shelf
/-- All correspondences are valid, with W cells each. -/
def OkW (W : Nat) (l : List HCo) : Prop := ∀ y ∈ l, y.n = W ∧ 1 ≤ y.cnt ∧ y.cnt ≤ 2147483647 ∧ y.x.all Cl.ok = true
theorem chkE_iff (ls : List (List HCo)) : chkE ls = 0 ↔ (∀ l ∈ ls, l.length ≤ 4096 ∧ ∀ y ∈ l, y.n ≤ 64) ∧ OkW (widH ls.flatten) ls.flatten := by
  refine ⟨fun h => ⟨(chkE_all h).1, (chkE_all h).2⟩, fun ⟨h1, h2⟩ => chkE_ok ?_ fun y hy => ?_⟩
  · rw [Bool.eq_false_iff]
    intro h
    obtain ⟨l, hl, hm⟩ := List.any_eq_true.1 h
    obtain ⟨r1, r2⟩ := h1 l hl
    unfold manyB at hm
    rw [Bool.or_eq_true] at hm
    rcases hm with hm | hm
    · simp at hm; omega
    · obtain ⟨y, hy, h64⟩ := List.any_eq_true.1 hm
      have := r2 y hy; simp at h64; omega
  · obtain ⟨r1, r2, r3, r4⟩ := h2 y hy
    unfold corB cntB
    rw [r4, decide_eq_true r1, decide_eq_true r2, decide_eq_true r3]; rfl
theorem widH_of {W : Nat} {l : List HCo} (h : OkW W l) (hn : l ≠ []) : widH l = W := by
  cases l with
  | nil => exact absurd rfl hn
  | cons y l => exact (h y List.mem_cons_self).1
theorem OkW.self {W : Nat} {l : List HCo} (h : OkW W l) : OkW (widH l) l := by
  by_cases hn : l = []
  · subst hn; intro y hy; cases hy
  · rw [widH_of h hn]; exact h
theorem OkW.sub {W : Nat} {l m : List HCo} (h : OkW W l) (hs : ∀ y ∈ m, y ∈ l) : OkW W m := fun y hy => h y (hs y hy)
theorem OkW.perm {l m : List HCo} (hp : l.Perm m) (h : OkW (widH l) l) : OkW (widH m) m := (h.sub fun _ hy => hp.mem_iff.2 hy).self
theorem chkE_val (ls : List (List HCo)) : chkE ls = 0 ∨ chkE ls = 2 ∨ chkE ls = 12 := by
  unfold chkE; split
  · exact .inr (.inr rfl)
  · split
    · exact .inl rfl
    · exact .inr (.inl rfl)
theorem chkE_12 (ls : List (List HCo)) : chkE ls = 12 ↔ ls.any manyB = true := by
  unfold chkE
  constructor
  · intro h; split at h
    · assumption
    · split at h <;> cases h
  · intro h; rw [if_pos h]
theorem chkE_same {ls ms : List (List HCo)} (h0 : chkE ls = 0 ↔ chkE ms = 0) (h1 : ls.any manyB = ms.any manyB) : chkE ls = chkE ms := by
  have h12 : chkE ls = 12 ↔ chkE ms = 12 := by rw [chkE_12, chkE_12, h1]
  rcases chkE_val ls with h | h | h <;> rcases chkE_val ms with h' | h' | h' <;> omega
theorem chkE_swap (l m : List HCo) : chkE [l, m] = chkE [m, l] := by
  refine chkE_same ?_ (by simp [Bool.or_comm])
  rw [chkE_iff, chkE_iff]
  have hp : ([l, m].flatten).Perm ([m, l].flatten) := by simpa using List.perm_append_comm
  constructor
  · rintro ⟨h1, h2⟩
    exact ⟨fun l hl => h1 l (by simpa [or_comm] using hl), h2.perm hp⟩
  · rintro ⟨h1, h2⟩
    exact ⟨fun l hl => h1 l (by simpa [or_comm] using hl), h2.perm hp.symm⟩
theorem chkE_rev (l : List HCo) : chkE [l.reverse] = chkE [l] := by
  have hm : manyB l.reverse = manyB l := by
    unfold manyB
    rw [List.length_reverse]
    congr 1
    rw [Bool.eq_iff_iff, List.any_eq_true, List.any_eq_true]
    simp
  refine chkE_same ?_ (by simp [hm])
  rw [chkE_iff, chkE_iff]
  have hp : ([l.reverse].flatten).Perm ([l].flatten) := by simp
  constructor
  · rintro ⟨h1, h2⟩
    exact ⟨fun m hm' => by
      obtain ⟨r1, r2⟩ := h1 l.reverse (by simp)
      rw [List.mem_singleton] at hm'; subst hm'
      exact ⟨by simpa using r1, fun y hy => r2 y (by simpa using hy)⟩, h2.perm hp⟩
  · rintro ⟨h1, h2⟩
    exact ⟨fun m hm' => by
      obtain ⟨r1, r2⟩ := h1 l (by simp)
      rw [List.mem_singleton] at hm'; subst hm'
      exact ⟨by simpa using r1, fun y hy => r2 y (by simpa using hy)⟩, h2.perm hp.symm⟩
theorem sumL_sum (l : List (List Cl × Int)) : SumK cmpCs l (sumL l) := by unfold sumL; simpa using sumK_fold l [] [] SumK.nil
theorem sumL_perm {l m : List (List Cl × Int)} (hp : l.Perm m) : sumL l = sumL m := ((sumL_sum l).perm hp).uniq cmpCs_tot (sumL_sum m)
theorem sumL_again (l : List (List Cl × Int)) : sumL (sumL l) = sumL l := by
  have h := sumL_sum l
  refine (sumL_sum (sumL l)).uniq cmpCs_tot ⟨h.1, fun x hx => ⟨?_, x, hx, rfl⟩, fun y hy => ⟨y, hy, rfl⟩⟩
  -- each stands once
  have : ∀ (L : List (List Cl × Int)), L.Pairwise (fun x y => cmpCs x.1 y.1 < 0) → ∀ x ∈ L, x.2 = cntK L x.1 := by
    intro L hL x hx
    induction L with
    | nil => cases hx
    | cons y L ih =>
      obtain ⟨h1, h2⟩ := List.pairwise_cons.1 hL
      unfold cntK at ih ⊢
      rcases List.mem_cons.1 hx with rfl | hx
      · have hnone : L.filter (fun z => decide (z.1 = x.1)) = [] := by
          rw [List.filter_eq_nil_iff]
          intro z hz e
          have := h1 z hz
          rw [of_decide_eq_true e, cmpCs_tot.self] at this; omega
        rw [List.filter_cons_of_pos (by simp), hnone]; simp
      · have hne : y.1 ≠ x.1 := fun e => by have := h1 x hx; rw [e, cmpCs_tot.self] at this; omega
        rw [List.filter_cons_of_neg (by simpa using hne)]
        exact ih h2 hx
  exact this _ h.1 x hx
theorem addK_sum (cf : List Cl → List Cl → Int) : ∀ (L : List (List Cl × Int)) (x : List Cl × Int), ((addK cf L x).map (·.2)).sum = (L.map (·.2)).sum + x.2
  | [], x => by simp [addK]
  | y :: L, x => by
    unfold addK
    split
    · rw [List.map_cons, List.sum_cons, addK_sum cf L x, List.map_cons, List.sum_cons]; omega
    · split
      · simp only [List.map_cons, List.sum_cons]; omega
      · simp only [List.map_cons, List.sum_cons]; omega
theorem fold_sum (cf : List Cl → List Cl → Int) : ∀ (l L : List (List Cl × Int)), ((l.foldl (addK cf) L).map (·.2)).sum = (L.map (·.2)).sum + (l.map (·.2)).sum
  | [], L => by simp
  | x :: l, L => by rw [List.foldl_cons, fold_sum cf l, addK_sum, List.map_cons, List.sum_cons]; omega
theorem sumL_tot (l : List (List Cl × Int)) : ((sumL l).map (·.2)).sum = (l.map (·.2)).sum := by
  unfold sumL; rw [fold_sum]; simp
theorem sumC_kp (l : List HCo) : sumC l = ((l.map kp).map (·.2)).sum := by
  induction l with
  | nil => rfl
  | cons y l ih => simp only [sumC, List.map_cons, List.sum_cons, ih]; rfl
theorem cntK_ge {l : List (List Cl × Int)} (h : ∀ x ∈ l, 1 ≤ x.2) {c : List Cl} (hc : ∃ y ∈ l, y.1 = c) : 1 ≤ cntK l c := by
  unfold cntK
  obtain ⟨y, hy, rfl⟩ := hc
  have hpos : ∀ (m : List (List Cl × Int)), (∀ x ∈ m, 1 ≤ x.2) → 0 ≤ (m.map (·.2)).sum ∧ ∀ z ∈ m, 1 ≤ (m.map (·.2)).sum := by
    intro m
    induction m with
    | nil => intro _; exact ⟨by simp, fun z hz => by cases hz⟩
    | cons a m ih =>
      intro hm
      have h1 := hm a List.mem_cons_self
      have h2 := (ih fun x hx => hm x (List.mem_cons_of_mem _ hx)).1
      simp only [List.map_cons, List.sum_cons]
      exact ⟨by omega, fun z _ => by omega⟩
  exact (hpos _ fun x hx => h x (List.mem_filter.1 hx).1).2 y (List.mem_filter.2 ⟨hy, by simp⟩)
/-- A sum of valid correspondences is valid, where no count is too great. -/
theorem sum_valid {l hs : List HCo} {W : Nat} (hl : OkW W l) (hW : W ≤ 64) (hlen : l.length ≤ 4096) (hn : ∀ y ∈ l, y.x.length = y.n) (hs2 : hs.map kp = sumL (l.map kp)) (hx : ∀ y ∈ hs, y.x.length = y.n) (h7 : sumE (sumL (l.map kp)) = 0) : chkE [hs] = 0 ∧ OkW W hs := by
  have hS := sumL_sum (l.map kp)
  have hok : OkW W hs := fun y hy => by
    have hm : kp y ∈ sumL (l.map kp) := hs2 ▸ List.mem_map.2 ⟨y, hy, rfl⟩
    obtain ⟨r1, z, hz, r2⟩ := hS.2.1 _ hm
    obtain ⟨u, hu, rfl⟩ := List.mem_map.1 hz
    have r2 : u.x = y.x := r2
    obtain ⟨q1, q2, q3, q4⟩ := hl u hu
    have r1 : y.cnt = cntK (l.map kp) y.x := r1
    refine ⟨?_, ?_, ?_, by rw [← r2]; exact q4⟩
    · rw [← hx y hy, ← r2, hn u hu]; exact q1
    · rw [r1]
      exact cntK_ge (fun x hx => by obtain ⟨v, hv, rfl⟩ := List.mem_map.1 hx; exact (hl v hv).2.1) ⟨_, hz, r2⟩
    · refine Decidable.byContradiction fun h => ?_
      unfold sumE at h7
      rw [if_pos (List.any_eq_true.2 ⟨_, hm, decide_eq_true (show 2147483647 < y.cnt by omega)⟩)] at h7
      cases h7
  refine ⟨(chkE_iff _).2 ⟨fun m hm => ?_, ?_⟩, hok⟩
  · rw [List.mem_singleton] at hm; subst hm
    refine ⟨?_, fun y hy => by rw [(hok y hy).1]; exact hW⟩
    have := SumK.len_le hS
    rw [← hs2, List.length_map, List.length_map] at this
    omega
  · have hf : [hs].flatten = hs := by simp
    rw [hf]; exact hok.self
end Go.Proofs.Ytkdancoffmhjhaa
