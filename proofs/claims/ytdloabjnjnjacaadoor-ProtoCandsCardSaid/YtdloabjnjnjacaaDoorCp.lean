/-
  Plain: strictly sorted lists of sounds, each once.
-/
import Derived.Test.YtdloabjnjnjacaaDoorCq
import Derived.Test.YtdloabjnjnjacaaDoorCk
namespace Go.Proofs.YtdloabjnjnjacaaDoor
open Go.RowKit
section
variable {α : Type} {cf : α → α → Int}
/-- Strictly sorted, with the members of xs. -/
def SrtOf (cf : α → α → Int) (L xs : List α) : Prop := L.Pairwise (fun x y => cf x y < 0) ∧ ∀ s, s ∈ L ↔ s ∈ xs
theorem SrtOf.nil : SrtOf cf ([] : List α) [] := ⟨List.Pairwise.nil, fun _ => Iff.rfl⟩
theorem strict_uniq (T : Tot cf) : ∀ {L L' : List α}, L.Pairwise (fun x y => cf x y < 0) → L'.Pairwise (fun x y => cf x y < 0) → (∀ s, s ∈ L ↔ s ∈ L') → L = L'
  | [], [], _, _, _ => rfl
  | [], b :: L', _, _, h => by have := (h b).2 (List.mem_cons_self ..); cases this
  | a :: L, [], _, _, h => by have := (h a).1 (List.mem_cons_self ..); cases this
  | a :: L, b :: L', h1, h2, h => by
    obtain ⟨ha, hL⟩ := List.pairwise_cons.1 h1
    obtain ⟨hb, hL'⟩ := List.pairwise_cons.1 h2
    have hab : a = b := by
      rcases List.mem_cons.1 ((h a).1 (List.mem_cons_self ..)) with e | e
      · exact e
      · rcases List.mem_cons.1 ((h b).2 (List.mem_cons_self ..)) with e2 | e2
        · exact e2.symm
        · have h3 := hb a e
          have h4 := ha b e2
          have := T.anti a b; omega
    subst hab
    congr 1
    refine strict_uniq T hL hL' fun s => ?_
    constructor
    · intro hs
      rcases List.mem_cons.1 ((h s).1 (List.mem_cons_of_mem _ hs)) with e | e
      · subst e; have := ha s hs; have := T.self s; omega
      · exact e
    · intro hs
      rcases List.mem_cons.1 ((h s).2 (List.mem_cons_of_mem _ hs)) with e | e
      · subst e; have := hb s hs; have := T.self s; omega
      · exact e
theorem SrtOf.uniq (T : Tot cf) {L L' xs : List α} (h : SrtOf cf L xs) (h' : SrtOf cf L' xs) : L = L' := strict_uniq T h.1 h'.1 fun s => (h.2 s).trans (h'.2 s).symm
theorem SrtOf.congr {L xs ys : List α} (h : SrtOf cf L xs) (he : ∀ s, s ∈ xs ↔ s ∈ ys) : SrtOf cf L ys := ⟨h.1, fun s => (h.2 s).trans (he s)⟩
/-- One element more, at its place. -/
theorem SrtOf.ins (T : Tot cf) {L xs : List α} {s : α} (h : SrtOf cf L xs) {j k : Nat} (h1 : ∀ i x, i < j → L[i]? = some x → cf x s < 0) (h2 : ∀ x, L[j]? = some x → 0 ≤ cf x s)
    (h3 : (k = j ∧ ∀ x, L[j]? = some x → x ≠ s) ∨ (k = j + 1 ∧ L[j]? = some s)) : SrtOf cf (L.take j ++ [s] ++ L.drop k) (xs ++ [s]) := by
  obtain ⟨hp, hm⟩ := h
  have hdrop : ∀ y ∈ L.drop k, cf s y < 0 := fun y hy => by
    obtain ⟨i, hi⟩ := List.getElem?_of_mem hy
    rw [List.getElem?_drop] at hi
    have hlt := (List.getElem?_eq_some_iff.1 hi).1
    have hge : ∀ x, L[j]? = some x → cf s x ≤ 0 := fun x hx => by
      have a := h2 x hx
      have b := T.anti x s
      rcases T.tri x s with c | c | c <;> omega
    rcases h3 with ⟨rfl, hne⟩ | ⟨rfl, he⟩
    · by_cases h0 : i = 0
      · subst h0
        rw [Nat.add_zero] at hi
        have a := hge y hi
        have b : cf s y ≠ 0 := fun e => hne y hi (T.zero e).symm
        omega
      · have hj : L[k]? = some (L[k]'(by omega)) := List.getElem?_eq_getElem (by omega)
        have a := hge _ hj
        have b := List.pairwise_iff_getElem.1 hp k (k + i) (by omega) hlt (by omega)
        obtain ⟨_, e⟩ := List.getElem?_eq_some_iff.1 hi
        rw [e] at b
        exact T.le_lt a b
    · obtain ⟨hjl, he2⟩ := List.getElem?_eq_some_iff.1 he
      have b := List.pairwise_iff_getElem.1 hp j (j + 1 + i) hjl hlt (by omega)
      obtain ⟨_, e⟩ := List.getElem?_eq_some_iff.1 hi
      rw [e, he2] at b
      exact b
  have htake : ∀ y ∈ L.take j, cf y s < 0 := fun y hy => by
    obtain ⟨i, hi⟩ := List.getElem?_of_mem hy
    rw [List.getElem?_take] at hi
    split at hi
    · exact h1 i y ‹_› hi
    · cases hi
  refine ⟨?_, fun z => ?_⟩
  · rw [List.append_assoc, List.pairwise_append]
    refine ⟨hp.sublist (List.take_sublist _ _), ?_, fun a ha b hb => ?_⟩
    · exact List.pairwise_cons.2 ⟨fun y hy => hdrop y hy, hp.sublist (List.drop_sublist _ _)⟩
    · rcases List.mem_cons.1 hb with e | e
      · rw [e]; exact htake a ha
      · exact T.trans (htake a ha) (hdrop b e)
  · rw [List.mem_append, List.mem_append, List.mem_append, List.mem_singleton, ← hm z]
    constructor
    · rintro ((h | h) | h)
      · exact .inl (List.mem_of_mem_take h)
      · exact .inr h
      · exact .inl (List.mem_of_mem_drop h)
    · rintro (h | h)
      · obtain ⟨i, hi⟩ := List.getElem?_of_mem h
        by_cases e : i < j
        · exact .inl (.inl (List.mem_of_getElem? (i := i) (by rw [List.getElem?_take_of_lt e]; exact hi)))
        · by_cases e2 : k ≤ i
          · refine .inr (List.mem_of_getElem? (i := i - k) ?_)
            rw [List.getElem?_drop, show k + (i - k) = i by omega]; exact hi
          · rcases h3 with ⟨rfl, _⟩ | ⟨rfl, he⟩
            · omega
            · obtain rfl : i = j := by omega
              rw [he] at hi
              exact .inl (.inr (Option.some.inj hi).symm)
      · exact .inl (.inr h)
end
/-! ### Neighbours that are alike struck out of a sorted list -/
theorem keepS_mem : ∀ {ts : List Snd} {p z : Snd}, z ∈ keepS p ts → z ∈ ts
  | [], _, _, h => by cases h
  | y :: ts, p, z, h => by
    rw [keepS] at h
    split at h
    · exact List.mem_cons_of_mem _ (keepS_mem h)
    · rcases List.mem_cons.1 h with e | e
      · rw [e]; exact List.mem_cons_self ..
      · exact List.mem_cons_of_mem _ (keepS_mem e)
theorem keepS_has : ∀ {ts : List Snd} {p z : Snd}, z ∈ ts → z = p ∨ z ∈ keepS p ts
  | [], _, _, h => by cases h
  | y :: ts, p, z, h => by
    rw [keepS]
    by_cases e : y = p
    · rw [if_pos e]
      subst e
      rcases List.mem_cons.1 h with e2 | e2
      · exact .inl e2
      · exact keepS_has e2
    · rw [if_neg e]
      rcases List.mem_cons.1 h with e2 | e2
      · rw [e2]; exact .inr (List.mem_cons_self ..)
      · rcases keepS_has (p := y) e2 with e3 | e3
        · rw [e3]; exact .inr (List.mem_cons_self ..)
        · exact .inr (List.mem_cons_of_mem _ e3)
theorem keepS_sorted : ∀ {ts : List Snd} {p : Snd}, (∀ y ∈ ts, cmpS p y ≤ 0) → ts.Pairwise (fun x y => cmpS x y ≤ 0) → (∀ y ∈ keepS p ts, cmpS p y < 0) ∧ (keepS p ts).Pairwise (fun x y => cmpS x y < 0)
  | [], _, _, _ => ⟨fun _ h => (by cases h), List.Pairwise.nil⟩
  | y :: ts, p, h1, h2 => by
    obtain ⟨h3, h4⟩ := List.pairwise_cons.1 h2
    have hp := h1 y (List.mem_cons_self ..)
    rw [keepS]
    by_cases e : y = p
    · rw [if_pos e]
      subst e
      exact keepS_sorted (fun z hz => h3 z hz) h4
    · rw [if_neg e]
      obtain ⟨h5, h6⟩ := keepS_sorted (p := y) (fun z hz => h3 z hz) h4
      have hlt : cmpS p y < 0 := by
        have : cmpS p y ≠ 0 := fun hh => e (cmpS_tot.zero hh).symm
        omega
      refine ⟨fun z hz => ?_, List.pairwise_cons.2 ⟨h5, h6⟩⟩
      rcases List.mem_cons.1 hz with e2 | e2
      · rw [e2]; exact hlt
      · exact cmpS_tot.trans hlt (h5 z e2)
theorem comp_srt {ts xs : List Snd} (hp : ts.Perm xs) (hs : ts.Pairwise (fun x y => ¬ cmpS y x < 0)) : SrtOf cmpS (compS ts) xs := by
  have hs' : ts.Pairwise (fun x y => cmpS x y ≤ 0) := hs.imp fun {x y} h => by
    have := cmpS_tot.anti x y; omega
  cases ts with
  | nil =>
    refine ⟨List.Pairwise.nil, fun s => ?_⟩
    exact hp.mem_iff
  | cons y ts =>
    obtain ⟨h3, h4⟩ := List.pairwise_cons.1 hs'
    obtain ⟨h5, h6⟩ := keepS_sorted (p := y) (fun z hz => h3 z hz) h4
    refine ⟨List.pairwise_cons.2 ⟨h5, h6⟩, fun s => ?_⟩
    rw [← hp.mem_iff]
    show s ∈ y :: keepS y ts ↔ _
    constructor
    · intro h
      rcases List.mem_cons.1 h with e | e
      · rw [e]; exact List.mem_cons_self ..
      · exact List.mem_cons_of_mem _ (keepS_mem e)
    · intro h
      rcases List.mem_cons.1 h with e | e
      · rw [e]; exact List.mem_cons_self ..
      · rcases keepS_has (p := y) e with e2 | e2
        · rw [e2]; exact List.mem_cons_self ..
        · exact List.mem_cons_of_mem _ e2
/-! ### The sounds of correspondences -/
def sndC (x : List Cl) : List Snd := (x.filter fun c => decide (c.kind = 2)).map Cl.s
def candL (l : List HCo) : List Snd := l.flatMap fun y => sndC y.x
theorem sndC_succ {x : List Cl} {q : Nat} {c : Cl} (h : x[q]? = some c) : sndC (x.take (q + 1)) = sndC (x.take q) ++ if c.kind = 2 then [c.s] else [] := by
  unfold sndC
  rw [List.take_add_one, h, Option.toList_some, List.filter_append, List.map_append]
  congr 1
  by_cases e : c.kind = 2
  · rw [if_pos e, List.filter_cons, if_pos (by simpa using e)]; rfl
  · rw [if_neg e, List.filter_cons, if_neg (by simpa using e)]; rfl
theorem sndC_len (x : List Cl) : (sndC x).length ≤ x.length := by unfold sndC; rw [List.length_map]; exact List.length_filter_le _ _
theorem candL_succ {l : List HCo} {j : Nat} {y : HCo} (h : l[j]? = some y) : candL (l.take (j + 1)) = candL (l.take j) ++ sndC y.x := by
  unfold candL
  rw [List.take_add_one, h, Option.toList_some, List.flatMap_append]
  simp
theorem candL_len {l : List HCo} (h : ∀ y ∈ l, y.x.length ≤ 64) : ∀ j : Nat, (candL (l.take j)).length ≤ 64 * j
  | 0 => by simp [candL]
  | j + 1 => by
    have ih := candL_len h j
    cases hj : l[j]? with
    | none => rw [List.take_add_one, hj]; simp; omega
    | some y =>
      rw [candL_succ hj, List.length_append]
      have := sndC_len y.x
      have := h y (List.mem_of_getElem? hj)
      omega
theorem chkE_wide {l : List HCo} (h : chkE [l] = 0) : l.length ≤ 4096 ∧ ∀ y ∈ l, y.n ≤ 64 := by
  unfold chkE at h
  split at h
  · cases h
  · rename_i h1
    simp [manyB] at h1
    exact ⟨h1.1, h1.2⟩
end Go.Proofs.YtdloabjnjnjacaaDoor
