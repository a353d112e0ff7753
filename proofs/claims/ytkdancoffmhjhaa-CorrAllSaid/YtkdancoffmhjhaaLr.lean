/-
  Some of the languages, in plain Lean: all of them; one of them.
-/
import Derived.Test.YtkdancoffmhjhaaYc
import Derived.Test.YtkdancoffmhjhaaLp
namespace Go.Proofs.Ytkdancoffmhjhaa
open Go.RowKit Go.Shelf
def rgI (W : Nat) : List Int := (List.range W).map fun i : Nat => (i : Int)
theorem rgI_succ (W : Nat) : rgI (W + 1) = rgI W ++ [(W : Int)] := by unfold rgI; rw [List.range_succ, List.map_append]; rfl
theorem rgI_len (W : Nat) : (rgI W).length = W := by unfold rgI; simp
theorem rgI_at {W i : Nat} (h : i < W) : (rgI W)[i]? = some (i : Int) := by unfold rgI; simp [h]
theorem onlyC_range {W : Nat} {y : HCo} (h : y.x.length = W) : onlyC (rgI W) y = y.x := by
  unfold onlyC rgI
  rw [List.map_map]
  apply List.ext_getElem
  · simp [h]
  · intro i h1 h2
    simp [List.getD_eq_getElem?_getD, List.getElem?_eq_getElem h2]
theorem onlyL_range {W : Nat} {l : List HCo} (h : ∀ y ∈ l, y.x.length = W) : onlyL (rgI W) l = (l.map kp).filter fun p => p.1.any knwB := by
  unfold onlyL
  congr 1
  refine List.map_congr_left fun y hy => ?_
  rw [onlyC_range (h y hy)]; rfl
theorem langE_range (W : Nat) : langE W [] (rgI W) = 0 := by
  have : ∀ (r : Nat) (seen : List Int), langE W seen (((List.range' r (W - r)).map fun i : Nat => (i : Int))) = 0 ∨ ¬ (∀ k ∈ seen, k < (r : Int)) := by
    intro r
    generalize hd : W - r = d
    induction d generalizing r with
    | zero => intro seen; exact .inl rfl
    | succ d ih =>
      intro seen
      by_cases hs : ∀ k ∈ seen, k < (r : Int)
      · left
        rw [List.range'_succ, List.map_cons]
        unfold langE
        rw [if_neg (by omega), if_neg (fun h => by have := hs _ h; omega)]
        rcases ih (r + 1) (by omega) (seen ++ [(r : Int)]) with h | h
        · exact h
        · exact absurd (fun k hk => by
            rcases List.mem_append.1 hk with h | h
            · have := hs k h; omega
            · rw [List.mem_singleton.1 h]; omega) h
      · exact .inr hs
  rcases this 0 [] with h | h
  · unfold rgI
    rw [List.range_eq_range']
    simpa using h
  · exact absurd (fun k hk => by cases hk) h
theorem langE_one {W : Nat} {k : Int} (h0 : 0 ≤ k) (h1 : k < (W : Int)) : langE W [] [k] = 0 := by
  unfold langE
  rw [if_neg (by omega), if_neg (by simp)]; rfl
theorem sumL_filter (p : List Cl → Bool) (L : List (List Cl × Int)) : sumL (L.filter fun x => p x.1) = (sumL L).filter fun x => p x.1 := by
  have h := sumL_sum L
  refine (sumL_sum _).uniq cmpCs_tot ⟨h.1.filter _, fun x hx => ?_, fun y hy => ?_⟩
  · obtain ⟨hx1, hx2⟩ := List.mem_filter.1 hx
    obtain ⟨r1, y, hy, r2⟩ := h.2.1 x hx1
    refine ⟨?_, y, List.mem_filter.2 ⟨hy, by rw [r2]; exact hx2⟩, r2⟩
    rw [r1]
    unfold cntK
    rw [List.filter_filter]
    congr 2
    refine List.filter_congr fun z _ => ?_
    by_cases e : z.1 = x.1
    · simp [e, hx2]
    · simp [e]
  · obtain ⟨hy1, hy2⟩ := List.mem_filter.1 hy
    obtain ⟨x, hx, e⟩ := h.2.2 y hy1
    exact ⟨x, List.mem_filter.2 ⟨hx, by rw [e]; exact hy2⟩, e⟩
theorem sumE_filter {p : List Cl × Int → Bool} {L : List (List Cl × Int)} (h : sumE L = 0) : sumE (L.filter p) = 0 := by
  unfold sumE at *
  split at h
  · cases h
  · rename_i h1
    rw [if_neg]
    intro h2
    obtain ⟨x, hx, hx2⟩ := List.any_eq_true.1 h2
    exact h1 (List.any_eq_true.2 ⟨x, (List.mem_filter.1 hx).1, hx2⟩)
theorem sumE_val (L : List (List Cl × Int)) : sumE L = 0 ∨ sumE L = 7 := by unfold sumE; split <;> simp
/-- Known in one language. -/
def knK (k : Nat) (y : HCo) : Bool := knwB (y.x.getD k nulC)
theorem onlyL_one (k : Nat) : ∀ l : List HCo, onlyL [(k : Int)] l = (l.filter (knK k)).map fun y => ([y.x.getD k nulC], y.cnt)
  | [] => rfl
  | y :: l => by
    have ih := onlyL_one k l
    unfold onlyL at *
    have e : onlyC [(k : Int)] y = [y.x.getD k nulC] := by unfold onlyC; simp
    rw [List.map_cons, e]
    cases h : knK k y
    · unfold knK at h
      rw [List.filter_cons_of_neg (by show ¬ ([y.x.getD k nulC].any knwB = true); rw [List.any_cons, h]; simp), List.filter_cons_of_neg (by unfold knK; rw [h]; simp)]; exact ih
    · rw [List.filter_cons_of_pos (by show [y.x.getD k nulC].any knwB = true; rw [List.any_cons, show knwB (y.x.getD k nulC) = true from h]; rfl), List.filter_cons_of_pos h, List.map_cons, ih]
theorem onlyL_one_sum (k : Nat) (l : List HCo) : ((onlyL [(k : Int)] l).map (·.2)).sum = cntSel (knK k) l := by
  rw [onlyL_one]; unfold cntSel; rw [List.map_map]; rfl
/-- The sum of one language's cells is valid. -/
theorem one_valid {k : Nat} {l hs : List HCo} (hl : ∀ y ∈ l, k < y.x.length ∧ 1 ≤ y.cnt ∧ y.cnt ≤ 2147483647 ∧ y.x.all Cl.ok = true) (hlen : l.length ≤ 4096) (hs2 : hs.map kp = sumL (onlyL [(k : Int)] l)) (hx : ∀ y ∈ hs, y.x.length = y.n) (h7 : sumE (sumL (onlyL [(k : Int)] l)) = 0) : chkE [hs] = 0 ∧ sumC hs = cntSel (knK k) l := by
  let m : List HCo := (l.filter (knK k)).map fun y => ⟨none, 1, 0, y.cnt, [y.x.getD k nulC]⟩
  have hm : m.map kp = onlyL [(k : Int)] l := by rw [onlyL_one]; show ((l.filter (knK k)).map _).map kp = _; rw [List.map_map]; rfl
  have hok : OkW 1 m := fun y hy => by
    obtain ⟨u, hu, rfl⟩ := List.mem_map.1 hy
    obtain ⟨r1, r2, r3, r4⟩ := hl u (List.mem_filter.1 hu).1
    refine ⟨rfl, r2, r3, ?_⟩
    show ([u.x.getD k nulC].all Cl.ok) = true
    rw [List.getD_eq_getElem?_getD, List.getElem?_eq_getElem r1]
    simpa using List.all_eq_true.1 r4 _ (List.getElem_mem r1)
  refine ⟨(sum_valid hok (by omega) ?_ (fun y hy => by obtain ⟨u, hu, rfl⟩ := List.mem_map.1 hy; rfl) (by rw [hm]; exact hs2) hx (by rw [hm]; exact h7)).1, ?_⟩
  · show ((l.filter (knK k)).map _).length ≤ 4096
    rw [List.length_map]; exact Nat.le_trans (List.length_filter_le _ _) hlen
  · rw [sumC_kp, hs2, sumL_tot, onlyL_one_sum]
end Go.Proofs.Ytkdancoffmhjhaa
