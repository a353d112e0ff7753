/-
  word.Sort; the reference's Same.
-/
import Derived.Test.YtphfnmmdfnfnaaaCpf
import Derived.Test.YtphfnmmdfnfnaaaWl
namespace Go.Proofs.Ytphfnmmdfnfnaaa
open Go.RowKit
/-- L is strictly sorted and has just the words of ws. -/
def SortedOf (ws L : List (List Snd)) : Prop := L.Pairwise (fun x y => cmpW x y < 0) ∧ ∀ x, x ∈ L ↔ x ∈ ws
theorem SortedOf.eq : ∀ {L L' : List (List Snd)}, L.Pairwise (fun x y => cmpW x y < 0) → L'.Pairwise (fun x y => cmpW x y < 0) → (∀ x, x ∈ L ↔ x ∈ L') → L = L'
  | [], [], _, _, _ => rfl
  | [], y :: L', _, _, h => absurd ((h y).2 List.mem_cons_self) (by simp)
  | x :: L, [], _, _, h => absurd ((h x).1 List.mem_cons_self) (by simp)
  | x :: L, y :: L', h1, h2, h => by
    obtain ⟨h3, h4⟩ := List.pairwise_cons.1 h1
    obtain ⟨h5, h6⟩ := List.pairwise_cons.1 h2
    have hxy : x = y := by
      rcases List.mem_cons.1 ((h x).1 List.mem_cons_self) with e | e
      · exact e
      · rcases List.mem_cons.1 ((h y).2 List.mem_cons_self) with e' | e'
        · exact e'.symm
        · have a := h3 y e'
          have b := h5 x e
          rw [cmpW_anti x y] at b; omega
    subst hxy
    have hnx : ∀ z ∈ L, z ≠ x := fun z hz e => by have := h3 z hz; rw [e, cmpW_self] at this; omega
    have hny : ∀ z ∈ L', z ≠ x := fun z hz e => by have := h5 z hz; rw [e, cmpW_self] at this; omega
    rw [SortedOf.eq h4 h6 fun z => ⟨fun hz => by
      rcases List.mem_cons.1 ((h z).1 (List.mem_cons_of_mem _ hz)) with e | e
      · exact absurd e (hnx z hz)
      · exact e, fun hz => by
      rcases List.mem_cons.1 ((h z).2 (List.mem_cons_of_mem _ hz)) with e | e
      · exact absurd e (hny z hz)
      · exact e⟩]
theorem SortedOf.uniq {ws L L' : List (List Snd)} (h : SortedOf ws L) (h' : SortedOf ws L') : L = L' := SortedOf.eq h.1 h'.1 fun x => (h.2 x).trans (h'.2 x).symm
theorem keepH_sub : ∀ (l : List WH) (p : List Snd) (h : WH), h ∈ keepH p l → h ∈ l
  | [], _, _, h => h
  | a :: t, p, h, hm => by
    rw [keepH] at hm; split at hm
    · exact List.mem_cons_of_mem _ (keepH_sub t _ h hm)
    · rcases List.mem_cons.1 hm with e | e
      · rw [e]; exact List.mem_cons_self
      · exact List.mem_cons_of_mem _ (keepH_sub t _ h e)
theorem compactH_sub (l : List WH) (h : WH) (hm : h ∈ compactH l) : h ∈ l := by
  cases l with
  | nil => exact hm
  | cons a t =>
    rcases List.mem_cons.1 hm with e | e
    · rw [e]; exact List.mem_cons_self
    · exact List.mem_cons_of_mem _ (keepH_sub t _ h e)
theorem lt_of_le_ne {x y : List Snd} (h : cmpW x y ≤ 0) (hn : y ≠ x) : cmpW x y < 0 := by
  rcases cmpW_tri x y with e | e | e
  · omega
  · exact absurd (cmpW_zero e).symm hn
  · omega
theorem keepH_sorted : ∀ (l : List WH) (p : List Snd), (∀ h ∈ l, cmpW p h.x ≤ 0) → l.Pairwise (fun x y => cmpW x.x y.x ≤ 0) →
    ((keepH p l).map WH.x).Pairwise (fun x y => cmpW x y < 0) ∧ ∀ x, x ∈ (keepH p l).map WH.x ↔ x ∈ l.map WH.x ∧ x ≠ p
  | [], _, _, _ => by simp [keepH]
  | a :: t, p, hp, hs => by
    obtain ⟨h1, h2⟩ := List.pairwise_cons.1 hs
    obtain ⟨h3, h4⟩ := keepH_sorted t a.x h1 h2
    rw [keepH]
    by_cases e : a.x = p
    · rw [if_pos e]
      refine ⟨h3, fun x => ?_⟩
      rw [h4 x, List.map_cons, List.mem_cons, e]
      exact ⟨fun ⟨a, b⟩ => ⟨.inr a, b⟩, fun ⟨a, b⟩ => ⟨a.resolve_left b, b⟩⟩
    · rw [if_neg e, List.map_cons]
      have hpa := lt_of_le_ne (hp a List.mem_cons_self) e
      have hgt : ∀ y ∈ t.map WH.x, y ≠ p := by
        intro y hy e2
        obtain ⟨b, hb, rfl⟩ := List.mem_map.1 hy
        have h5 := (cmpW_trans (a := p) (b := a.x) (c := b.x) (by omega) (h1 b hb)).2 (.inl hpa)
        rw [e2, cmpW_self] at h5; omega
      refine ⟨List.pairwise_cons.2 ⟨fun y hy => ?_, h3⟩, fun x => ?_⟩
      · obtain ⟨hy1, hy2⟩ := (h4 y).1 hy
        obtain ⟨b, hb, rfl⟩ := List.mem_map.1 hy1
        exact lt_of_le_ne (h1 b hb) hy2
      · rw [List.mem_cons, List.map_cons, List.mem_cons, h4 x]
        constructor
        · rintro (h | ⟨h, _⟩)
          · exact ⟨.inl h, by rw [h]; exact e⟩
          · exact ⟨.inr h, hgt x h⟩
        · rintro ⟨h | h, _⟩
          · exact .inl h
          · by_cases ex : x = a.x
            · exact .inl ex
            · exact .inr ⟨h, ex⟩
theorem compactH_sorted {ws : List (List Snd)} {hs ts : List WH} (hw : hs.map WH.x = ws) (hp : ts.Perm hs) (hs' : ts.Pairwise (fun x y => cmpW x.x y.x ≤ 0)) : SortedOf ws ((compactH ts).map WH.x) := by
  have hm : ∀ x, x ∈ ts.map WH.x ↔ x ∈ ws := fun x => by rw [← hw]; exact (hp.map WH.x).mem_iff
  cases ts with
  | nil => exact ⟨by simp [compactH], fun x => by rw [← hm x]; simp [compactH]⟩
  | cons a t =>
    obtain ⟨h1, h2⟩ := List.pairwise_cons.1 hs'
    obtain ⟨h3, h4⟩ := keepH_sorted t a.x h1 h2
    refine ⟨?_, fun x => ?_⟩
    · rw [compactH, List.map_cons, List.pairwise_cons]
      refine ⟨fun y hy => ?_, h3⟩
      obtain ⟨hy1, hy2⟩ := (h4 y).1 hy
      obtain ⟨b, hb, rfl⟩ := List.mem_map.1 hy1
      exact lt_of_le_ne (h1 b hb) hy2
    · rw [← hm x, compactH, List.map_cons, List.mem_cons, List.map_cons, List.mem_cons, h4 x]
      by_cases ex : x = a.x <;> simp [ex]
end Go.Proofs.Ytphfnmmdfnfnaaa
