/-
  Orders by a function that says -1, 0 or 1; lists compared from the front; correspondences summed up. Plain Lean: no program.
  Sounds and cells: their order, their keys. Plain Lean: no program.
-/
import Derived.Test.YtilkemdecenibaaMap
namespace Go.Proofs.Ytilkemdecenibaa
/-- A total order, told by a function. -/
structure Tot {α : Type} (cf : α → α → Int) : Prop where
  anti : ∀ x y, cf y x = - cf x y
  tri : ∀ x y, cf x y = -1 ∨ cf x y = 0 ∨ cf x y = 1
  zero : ∀ {x y}, cf x y = 0 → x = y
  trans : ∀ {x y z}, cf x y < 0 → cf y z < 0 → cf x z < 0
section
variable {α : Type} {cf : α → α → Int}
theorem Tot.self (T : Tot cf) (x : α) : cf x x = 0 := by have := T.anti x x; omega
theorem Tot.le_lt (T : Tot cf) {x y z : α} (h1 : cf x y ≤ 0) (h2 : cf y z < 0) : cf x z < 0 := by
  by_cases e : cf x y = 0
  · rw [T.zero e]; exact h2
  · exact T.trans (by omega) h2
theorem Tot.lt_le (T : Tot cf) {x y z : α} (h1 : cf x y < 0) (h2 : cf y z ≤ 0) : cf x z < 0 := by
  by_cases e : cf y z = 0
  · rw [← T.zero e]; exact h1
  · exact T.trans h1 (by omega)
theorem Tot.gt (T : Tot cf) {x y : α} (h : ¬ cf x y ≤ 0) : cf y x < 0 := by have := T.anti x y; omega
/-- Lists, from the front. -/
def lexC (cf : α → α → Int) : List α → List α → Int
  | [], [] => 0
  | [], _ :: _ => -1
  | _ :: _, [] => 1
  | s :: xs, t :: ys => if cf s t = 0 then lexC cf xs ys else cf s t
theorem lexC_anti (T : Tot cf) : ∀ xs ys : List α, lexC cf ys xs = - lexC cf xs ys
  | [], [] => rfl
  | [], _ :: _ => rfl
  | _ :: _, [] => rfl
  | s :: xs, t :: ys => by
    rw [lexC, lexC, T.anti s t]
    by_cases h : cf s t = 0
    · rw [if_pos h, if_pos (by omega), lexC_anti T xs ys]
    · rw [if_neg h, if_neg (by omega)]
theorem lexC_tri (T : Tot cf) : ∀ xs ys : List α, lexC cf xs ys = -1 ∨ lexC cf xs ys = 0 ∨ lexC cf xs ys = 1
  | [], [] => .inr (.inl rfl)
  | [], _ :: _ => .inl rfl
  | _ :: _, [] => .inr (.inr rfl)
  | s :: xs, t :: ys => by
    rw [lexC]; split
    · exact lexC_tri T xs ys
    · exact T.tri s t
theorem lexC_zero (T : Tot cf) : ∀ {xs ys : List α}, lexC cf xs ys = 0 → xs = ys
  | [], [], _ => rfl
  | [], _ :: _, h => by simp [lexC] at h
  | _ :: _, [], h => by simp [lexC] at h
  | s :: xs, t :: ys, h => by
    rw [lexC] at h; split at h
    · rename_i h1; rw [T.zero h1, lexC_zero T h]
    · contradiction
theorem lexC_trans (T : Tot cf) : ∀ {a b c : List α}, lexC cf a b < 0 → lexC cf b c < 0 → lexC cf a c < 0
  | [], [], _, h, _ => by simp [lexC] at h
  | [], _ :: _, [], _, h => by simp [lexC] at h
  | [], _ :: _, _ :: _, _, _ => by simp [lexC]
  | _ :: _, [], _, h, _ => by simp [lexC] at h
  | _ :: _, _ :: _, [], _, h => by simp [lexC] at h
  | s :: a, t :: b, u :: c, h1, h2 => by
    rw [lexC] at h1 h2 ⊢
    by_cases e1 : cf s t = 0
    · rw [if_pos e1] at h1
      have e := T.zero e1
      subst e
      by_cases e2 : cf s u = 0
      · rw [if_pos e2] at h2 ⊢; exact lexC_trans T h1 h2
      · rw [if_neg e2] at h2 ⊢; exact h2
    · rw [if_neg e1] at h1
      by_cases e2 : cf t u = 0
      · have e := T.zero e2
        subst e
        rw [if_neg e1]; exact h1
      · rw [if_neg e2] at h2
        have h3 := T.trans h1 h2
        rw [if_neg (by omega)]; exact h3
theorem lexC_tot (T : Tot cf) : Tot (lexC cf) := ⟨lexC_anti T, lexC_tri T, lexC_zero T, lexC_trans T⟩
end
/-! ### Sums -/
section
variable {κ : Type} [DecidableEq κ] {cf : κ → κ → Int}
/-- Things with counts: how often c counts in l. -/
def cntK (l : List (κ × Int)) (c : κ) : Int := ((l.filter (fun x => decide (x.1 = c))).map (·.2)).sum
theorem cntK_snoc (l : List (κ × Int)) (x : κ × Int) (c : κ) : cntK (l ++ [x]) c = cntK l c + if x.1 = c then x.2 else 0 := by
  unfold cntK; rw [List.filter_append, List.map_append, List.sum_append]
  by_cases h : x.1 = c <;> simp [h]
theorem cntK_none {l : List (κ × Int)} {c : κ} (h : ∀ x ∈ l, x.1 ≠ c) : cntK l c = 0 := by
  unfold cntK; rw [List.filter_eq_nil_iff.2 (by simpa using h)]; rfl
/-- L sums up l, in strict order. -/
def SumK (cf : κ → κ → Int) (l L : List (κ × Int)) : Prop := L.Pairwise (fun x y => cf x.1 y.1 < 0) ∧ (∀ x ∈ L, x.2 = cntK l x.1 ∧ ∃ y ∈ l, y.1 = x.1) ∧ ∀ y ∈ l, ∃ x ∈ L, x.1 = y.1
/-- L sums up l, in some order, each thing once. -/
def SumA (l L : List (κ × Int)) : Prop := L.Pairwise (fun x y => x.1 ≠ y.1) ∧ (∀ x ∈ L, x.2 = cntK l x.1 ∧ ∃ y ∈ l, y.1 = x.1) ∧ ∀ y ∈ l, ∃ x ∈ L, x.1 = y.1
theorem SumK.nil : SumK cf ([] : List (κ × Int)) [] := ⟨List.Pairwise.nil, by simp, by simp⟩
theorem SumA.nil : SumA ([] : List (κ × Int)) [] := ⟨List.Pairwise.nil, by simp, by simp⟩
theorem sorted_uniq (T : Tot cf) : ∀ {L L' : List (κ × Int)}, L.Pairwise (fun x y => cf x.1 y.1 < 0) → L'.Pairwise (fun x y => cf x.1 y.1 < 0) → (∀ x, x ∈ L ↔ x ∈ L') → L = L'
  | [], [], _, _, _ => rfl
  | [], y :: L', _, _, h => absurd ((h y).2 List.mem_cons_self) (by simp)
  | x :: L, [], _, _, h => absurd ((h x).1 List.mem_cons_self) (by simp)
  | x :: L, y :: L', h1, h2, h => by
    obtain ⟨h3, h4⟩ := List.pairwise_cons.1 h1
    obtain ⟨h5, h6⟩ := List.pairwise_cons.1 h2
    have hxy : x = y := by
      rcases List.mem_cons.1 ((h x).1 List.mem_cons_self) with e | e
      · exact e
      · rcases List.mem_cons.1 ((h y).2 List.mem_cons_self) with e' | e'
        · exact e'.symm
        · have a := h3 y e'
          have b := h5 x e
          rw [T.anti x.1 y.1] at b; omega
    subst hxy
    have hn : ∀ z ∈ L, z ≠ x := fun z hz e => by have := h3 z hz; rw [e, T.self] at this; omega
    have hn' : ∀ z ∈ L', z ≠ x := fun z hz e => by have := h5 z hz; rw [e, T.self] at this; omega
    rw [sorted_uniq T h4 h6 fun z => ⟨fun hz => (List.mem_cons.1 ((h z).1 (List.mem_cons_of_mem _ hz))).resolve_left (hn z hz), fun hz => (List.mem_cons.1 ((h z).2 (List.mem_cons_of_mem _ hz))).resolve_left (hn' z hz)⟩]
theorem SumK.mem_iff {l L L' : List (κ × Int)} (h : SumK cf l L) (h' : SumK cf l L') (x : κ × Int) (hx : x ∈ L) : x ∈ L' := by
  obtain ⟨h1, y, hy, hyx⟩ := h.2.1 x hx
  obtain ⟨z, hz, hzy⟩ := h'.2.2 y hy
  have h2 := (h'.2.1 z hz).1
  have e : z = x := Prod.ext (hzy.trans hyx) (by rw [h2, h1, hzy, hyx])
  rw [← e]; exact hz
theorem SumK.uniq (T : Tot cf) {l L L' : List (κ × Int)} (h : SumK cf l L) (h' : SumK cf l L') : L = L' := sorted_uniq T h.1 h'.1 fun x => ⟨h.mem_iff h' x, h'.mem_iff h x⟩
/-- What the sorting of a sum is. -/
theorem SumA.sorted (T : Tot cf) {l L L' : List (κ × Int)} (h : SumA l L) (hp : L'.Perm L) (hs : L'.Pairwise (fun x y => cf x.1 y.1 ≤ 0)) : SumK cf l L' := by
  have hne : L'.Pairwise (fun x y => x.1 ≠ y.1) := (hp.pairwise_iff (fun {a b} (e : a.1 ≠ b.1) => e.symm)).2 h.1
  refine ⟨List.Pairwise.imp₂ (fun x y h1 h2 => ?_) hs hne, fun x hx => h.2.1 x (hp.mem_iff.1 hx), fun y hy => ?_⟩
  · rcases T.tri x.1 y.1 with e | e | e
    · omega
    · exact absurd (T.zero e) h2
    · omega
  · obtain ⟨x, hx, he⟩ := h.2.2 y hy
    exact ⟨x, hp.mem_iff.2 hx, he⟩
/-- A sum does not hang on the order. -/
theorem sum_perm {l l' : List Int} (h : l.Perm l') : l.sum = l'.sum := by
  induction h with
  | nil => rfl
  | cons x _ ih => simp [ih]
  | swap x y l => simp; omega
  | trans _ _ h1 h2 => exact h1.trans h2
theorem cntK_perm {l l' : List (κ × Int)} (h : l.Perm l') (c : κ) : cntK l c = cntK l' c := by
  unfold cntK; exact sum_perm ((h.filter _).map _)
theorem SumK.perm {l l' L : List (κ × Int)} (hp : l.Perm l') (h : SumK cf l L) : SumK cf l' L :=
  ⟨h.1, fun x hx => ⟨by rw [← cntK_perm hp]; exact (h.2.1 x hx).1, let ⟨y, hy, e⟩ := (h.2.1 x hx).2; ⟨y, hp.mem_iff.1 hy, e⟩⟩, fun y hy => h.2.2 y (hp.mem_iff.2 hy)⟩
/-- One more thing put into a sum in order. -/
def addK (cf : κ → κ → Int) : List (κ × Int) → κ × Int → List (κ × Int)
  | [], x => [x]
  | y :: L, x => if cf y.1 x.1 < 0 then y :: addK cf L x else if cf y.1 x.1 = 0 then (x.1, x.2 + y.2) :: L else x :: y :: L
omit [DecidableEq κ] in
theorem addK_mem (T : Tot cf) : ∀ (L : List (κ × Int)) (x z : κ × Int), z ∈ addK cf L x → z.1 = x.1 ∨ z ∈ L
  | [], x, z, h => by simp [addK] at h; exact .inl (by rw [h])
  | y :: L, x, z, h => by
    rw [addK] at h; split at h
    · rcases List.mem_cons.1 h with e | e
      · exact .inr (by rw [e]; exact List.mem_cons_self)
      · rcases addK_mem T L x z e with h' | h'
        · exact .inl h'
        · exact .inr (List.mem_cons_of_mem _ h')
    · split at h
      · rcases List.mem_cons.1 h with e | e
        · exact .inl (by rw [e])
        · exact .inr (List.mem_cons_of_mem _ e)
      · rcases List.mem_cons.1 h with e | e
        · exact .inl (by rw [e])
        · exact .inr e
omit [DecidableEq κ] in
theorem addK_sorted (T : Tot cf) : ∀ (L : List (κ × Int)) (x : κ × Int), L.Pairwise (fun x y => cf x.1 y.1 < 0) → (addK cf L x).Pairwise (fun x y => cf x.1 y.1 < 0)
  | [], x, _ => List.pairwise_singleton _ _
  | y :: L, x, h => by
    obtain ⟨h1, h2⟩ := List.pairwise_cons.1 h
    rw [addK]; split
    · rename_i hlt
      refine List.pairwise_cons.2 ⟨fun z hz => ?_, addK_sorted T L x h2⟩
      rcases addK_mem T L x z hz with e | e
      · rw [e]; exact hlt
      · exact h1 z e
    · split
      · rename_i he
        have e := T.zero he
        refine List.pairwise_cons.2 ⟨fun z hz => ?_, h2⟩
        have := h1 z hz; rw [e] at this; exact this
      · rename_i hn he
        have hxy : cf x.1 y.1 < 0 := by have := T.anti y.1 x.1; omega
        refine List.pairwise_cons.2 ⟨fun z hz => ?_, h⟩
        rcases List.mem_cons.1 hz with e | e
        · rw [e]; exact hxy
        · exact T.trans hxy (h1 z e)
omit [DecidableEq κ] in
theorem addK_spec (T : Tot cf) : ∀ (L : List (κ × Int)) (x : κ × Int), L.Pairwise (fun x y => cf x.1 y.1 < 0) →
    ∀ z, z ∈ addK cf L x ↔ (z ∈ L ∧ z.1 ≠ x.1) ∨ (z.1 = x.1 ∧ ((∃ y ∈ L, y.1 = x.1 ∧ z.2 = x.2 + y.2) ∨ ((∀ y ∈ L, y.1 ≠ x.1) ∧ z.2 = x.2)))
  | [], x, _, z => by
    simp only [addK, List.mem_singleton, List.not_mem_nil, false_and, false_or, exists_false, false_implies, implies_true, true_and]
    exact ⟨fun h => by rw [h]; exact ⟨rfl, rfl⟩, fun ⟨h1, h2⟩ => Prod.ext h1 h2⟩
  | y :: L, x, h, z => by
    obtain ⟨h1, h2⟩ := List.pairwise_cons.1 h
    rw [addK]; split
    · rename_i hlt
      have hyx : y.1 ≠ x.1 := fun e => by rw [e, T.self] at hlt; omega
      rw [List.mem_cons, addK_spec T L x h2 z]
      constructor
      · rintro (e | ⟨h3, h4⟩ | ⟨h3, ⟨w, hw, h4⟩ | ⟨h4, h5⟩⟩)
        · exact .inl ⟨by rw [e]; exact List.mem_cons_self, by rw [e]; exact hyx⟩
        · exact .inl ⟨List.mem_cons_of_mem _ h3, h4⟩
        · exact .inr ⟨h3, .inl ⟨w, List.mem_cons_of_mem _ hw, h4⟩⟩
        · exact .inr ⟨h3, .inr ⟨fun w hw => by
            rcases List.mem_cons.1 hw with e | e
            · rw [e]; exact hyx
            · exact h4 w e, h5⟩⟩
      · rintro (⟨h3, h4⟩ | ⟨h3, ⟨w, hw, h4⟩ | ⟨h4, h5⟩⟩)
        · rcases List.mem_cons.1 h3 with e | e
          · exact .inl e
          · exact .inr (.inl ⟨e, h4⟩)
        · rcases List.mem_cons.1 hw with e | e
          · exact absurd (e ▸ h4.1) hyx
          · exact .inr (.inr ⟨h3, .inl ⟨w, e, h4⟩⟩)
        · exact .inr (.inr ⟨h3, .inr ⟨fun w hw => h4 w (List.mem_cons_of_mem _ hw), h5⟩⟩)
    · have hL : ∀ w ∈ L, cf y.1 x.1 = 0 ∨ cf x.1 y.1 < 0 → w.1 ≠ x.1 := fun w hw hc e => by
        have h3 := h1 w hw
        rw [e] at h3
        rcases hc with hc | hc
        · omega
        · have := T.anti y.1 x.1; omega
      split
      · rename_i hn he
        have e := T.zero he
        rw [List.mem_cons]
        constructor
        · rintro (e2 | h3)
          · subst e2; exact .inr ⟨rfl, .inl ⟨y, List.mem_cons_self, e, rfl⟩⟩
          · exact .inl ⟨List.mem_cons_of_mem _ h3, hL z h3 (.inl he)⟩
        · rintro (⟨h3, h4⟩ | ⟨h3, ⟨w, hw, h4, h5⟩ | ⟨h4, _⟩⟩)
          · rcases List.mem_cons.1 h3 with e2 | e2
            · exact absurd (by rw [e2]; exact e) h4
            · exact .inr e2
          · rcases List.mem_cons.1 hw with e2 | e2
            · subst e2; exact .inl (Prod.ext h3 h5)
            · exact absurd h4 (hL w e2 (.inl he))
          · exact absurd e (h4 y List.mem_cons_self)
      · rename_i hn he
        have hxy : cf x.1 y.1 < 0 := by have := T.anti y.1 x.1; omega
        have hyx : y.1 ≠ x.1 := fun e => by rw [e, T.self] at hxy; omega
        have hall : ∀ w ∈ y :: L, w.1 ≠ x.1 := fun w hw => by
          rcases List.mem_cons.1 hw with e | e
          · rw [e]; exact hyx
          · exact hL w e (.inr hxy)
        rw [List.mem_cons]
        constructor
        · rintro (e | h3)
          · subst e; exact .inr ⟨rfl, .inr ⟨hall, rfl⟩⟩
          · exact .inl ⟨h3, hall z h3⟩
        · rintro (⟨h3, _⟩ | ⟨h3, ⟨w, hw, h4, _⟩ | ⟨_, h5⟩⟩)
          · exact .inr h3
          · exact absurd h4 (hall w hw)
          · exact .inl (Prod.ext h3 h5)
theorem SumK.add (T : Tot cf) {l L : List (κ × Int)} (h : SumK cf l L) (x : κ × Int) : SumK cf (l ++ [x]) (addK cf L x) := by
  refine ⟨addK_sorted T L x h.1, fun z hz => ?_, fun y hy => ?_⟩
  · rw [cntK_snoc]
    rcases (addK_spec T L x h.1 z).1 hz with ⟨h1, h2⟩ | ⟨h1, ⟨y, hy, h2, h3⟩ | ⟨h2, h3⟩⟩
    · obtain ⟨h3, y, hy, h4⟩ := h.2.1 z h1
      exact ⟨by rw [if_neg (Ne.symm h2), Int.add_zero]; exact h3, y, List.mem_append_left _ hy, h4⟩
    · refine ⟨?_, x, by simp, h1.symm⟩
      rw [if_pos h1.symm, h3, (h.2.1 y hy).1, h1, h2]; omega
    · refine ⟨?_, x, by simp, h1.symm⟩
      rw [if_pos h1.symm, h3, h1, cntK_none fun y hy => ?_]
      · omega
      · intro e
        obtain ⟨w, hw, hwy⟩ := h.2.2 y hy
        exact h2 w hw (hwy.trans e)
  · by_cases hyx : y.1 = x.1
    · by_cases hL : ∃ w ∈ L, w.1 = x.1
      · obtain ⟨w, hw, hwx⟩ := hL
        exact ⟨(x.1, x.2 + w.2), (addK_spec T L x h.1 _).2 (.inr ⟨rfl, .inl ⟨w, hw, hwx, rfl⟩⟩), hyx.symm⟩
      · exact ⟨x, (addK_spec T L x h.1 _).2 (.inr ⟨rfl, .inr ⟨fun w hw e => hL ⟨w, hw, e⟩, rfl⟩⟩), hyx.symm⟩
    · rcases List.mem_append.1 hy with hy | hy
      · obtain ⟨w, hw, hwy⟩ := h.2.2 y hy
        exact ⟨w, (addK_spec T L x h.1 _).2 (.inl ⟨hw, by rw [hwy]; exact hyx⟩), hwy⟩
      · simp at hy; exact absurd (by rw [hy]) hyx
/-- One more thing counted where it stands. -/
theorem SumA.hit {l L : List (κ × Int)} (h : SumA l L) {i : Nat} {x y : κ × Int} (hi : L[i]? = some y) (hx : y.1 = x.1) : SumA (l ++ [x]) (L.set i (y.1, y.2 + x.2)) := by
  obtain ⟨hlt, hy⟩ := List.getElem?_eq_some_iff.1 hi
  have hmap : (L.set i (y.1, y.2 + x.2)).map (·.1) = L.map (·.1) := by
    rw [List.map_set]
    apply List.ext_getElem?; intro j
    rw [List.getElem?_set]
    by_cases e : i = j
    · subst e; simp [hlt, hy]
    · rw [if_neg e]
  have hpw : (L.map (·.1)).Pairwise (fun a b => a ≠ b) := List.pairwise_map.2 h.1
  refine ⟨List.pairwise_map.1 (by rw [hmap]; exact hpw), fun z hz => ?_, fun w hw => ?_⟩
  · rw [cntK_snoc]
    obtain ⟨j, hj⟩ := List.getElem?_of_mem hz
    rw [List.getElem?_set] at hj
    by_cases e : i = j
    · subst e
      rw [if_pos rfl, if_pos hlt] at hj
      cases hj
      exact ⟨by rw [if_pos hx.symm, (h.2.1 y (List.mem_of_getElem? hi)).1], x, by simp, hx.symm⟩
    · rw [if_neg e] at hj
      have hzL := List.mem_of_getElem? hj
      obtain ⟨h1, u, hu, h2⟩ := h.2.1 z hzL
      have hzx : x.1 ≠ z.1 := by
        rw [← hx]
        obtain ⟨hjl, hzj⟩ := List.getElem?_eq_some_iff.1 hj
        have := h.1
        rw [List.pairwise_iff_getElem] at this
        rw [← hy, ← hzj]
        rcases Nat.lt_or_gt_of_ne e with e' | e'
        · exact this i j hlt hjl e'
        · exact (this j i hjl hlt e').symm
      exact ⟨by rw [if_neg hzx, Int.add_zero]; exact h1, u, List.mem_append_left _ hu, h2⟩
  · have hk : ∃ v ∈ L, v.1 = w.1 := by
      rcases List.mem_append.1 hw with hw | hw
      · exact h.2.2 w hw
      · simp at hw; subst hw; exact ⟨y, List.mem_of_getElem? hi, hx⟩
    obtain ⟨v, hv, hvw⟩ := hk
    have : v.1 ∈ (L.set i (y.1, y.2 + x.2)).map (·.1) := by rw [hmap]; exact List.mem_map_of_mem hv
    obtain ⟨u, hu, huv⟩ := List.mem_map.1 this
    exact ⟨u, hu, huv.trans hvw⟩
/-- One more thing that has not come before. -/
theorem SumA.miss {l L : List (κ × Int)} (h : SumA l L) {x : κ × Int} (hx : ∀ y ∈ L, y.1 ≠ x.1) : SumA (l ++ [x]) (L ++ [x]) := by
  have hl : ∀ y ∈ l, y.1 ≠ x.1 := fun y hy e => by obtain ⟨w, hw, hwy⟩ := h.2.2 y hy; exact hx w hw (hwy.trans e)
  refine ⟨List.pairwise_append.2 ⟨h.1, List.pairwise_singleton _ _, fun y hy z hz => by simp at hz; subst hz; exact hx y hy⟩, fun z hz => ?_, fun y hy => ?_⟩
  · rw [cntK_snoc]
    rcases List.mem_append.1 hz with hz | hz
    · obtain ⟨h1, u, hu, h2⟩ := h.2.1 z hz
      exact ⟨by rw [if_neg (Ne.symm (hx z hz)), Int.add_zero]; exact h1, u, List.mem_append_left _ hu, h2⟩
    · simp at hz; subst hz
      exact ⟨by rw [if_pos rfl, cntK_none hl]; omega, z, by simp, rfl⟩
  · rcases List.mem_append.1 hy with hy | hy
    · obtain ⟨w, hw, hwy⟩ := h.2.2 y hy
      exact ⟨w, List.mem_append_left _ hw, hwy⟩
    · simp at hy; subst hy; exact ⟨y, by simp, rfl⟩
end
end Go.Proofs.Ytilkemdecenibaa
namespace Go.Proofs.Ytilkemdecenibaa
open Go.RowKit
def cmpI (x y : Int) : Int := if x < y then -1 else if y < x then 1 else 0
theorem cmpI_lt {x y : Int} (h : x < y) : cmpI x y = -1 := by simp [cmpI, h]
theorem cmpI_gt {x y : Int} (h : y < x) : cmpI x y = 1 := by rw [cmpI, if_neg (by omega), if_pos h]
theorem cmpI_eq {x y : Int} (h : x = y) : cmpI x y = 0 := by subst h; simp [cmpI]
theorem cmpI_spec (x y : Int) : (cmpI x y = -1 ∧ x < y) ∨ (cmpI x y = 0 ∧ x = y) ∨ (cmpI x y = 1 ∧ y < x) := by
  unfold cmpI; split
  · exact .inl ⟨rfl, ‹_›⟩
  · split
    · exact .inr (.inr ⟨rfl, ‹_›⟩)
    · exact .inr (.inl ⟨rfl, by omega⟩)
theorem cmpI_tot : Tot cmpI := by
  refine ⟨fun x y => ?_, fun x y => ?_, fun {x y} h => ?_, fun {x y z} h1 h2 => ?_⟩
  · rcases cmpI_spec x y with h | h | h <;> rcases cmpI_spec y x with h' | h' | h' <;> omega
  · rcases cmpI_spec x y with h | h | h <;> omega
  · rcases cmpI_spec x y with h' | h' | h' <;> omega
  · rcases cmpI_spec x y with h | h | h <;> rcases cmpI_spec y z with h' | h' | h' <;> rcases cmpI_spec x z with h'' | h'' | h'' <;> omega
/-- Two orders, one behind the other. -/
theorem Tot.then {α β γ : Type} {c1 : β → β → Int} {c2 : γ → γ → Int} (T1 : Tot c1) (T2 : Tot c2) (f : α → β) (g : α → γ) (hfg : ∀ x y, f x = f y → g x = g y → x = y) :
    Tot (fun x y : α => if c1 (f x) (f y) = 0 then c2 (g x) (g y) else c1 (f x) (f y)) := by
  refine ⟨fun x y => ?_, fun x y => ?_, fun {x y} h => ?_, fun {x y z} h1 h2 => ?_⟩
  · have := T1.anti (f x) (f y)
    by_cases e : c1 (f x) (f y) = 0
    · rw [if_pos e, if_pos (by omega)]; exact T2.anti _ _
    · rw [if_neg e, if_neg (by omega)]; exact this
  · show (if c1 (f x) (f y) = 0 then c2 (g x) (g y) else c1 (f x) (f y)) = -1 ∨ _
    by_cases e : c1 (f x) (f y) = 0
    · simp only [if_pos e]; exact T2.tri _ _
    · simp only [if_neg e]; exact T1.tri _ _
  · by_cases e : c1 (f x) (f y) = 0
    · rw [if_pos e] at h; exact hfg x y (T1.zero e) (T2.zero h)
    · rw [if_neg e] at h; exact absurd h e
  · by_cases e1 : c1 (f x) (f y) = 0
    · rw [if_pos e1] at h1
      by_cases e2 : c1 (f y) (f z) = 0
      · rw [if_pos e2] at h2
        have e3 : c1 (f x) (f z) = 0 := by rw [T1.zero e1, T1.zero e2]; exact T1.self _
        rw [if_pos e3]; exact T2.trans h1 h2
      · rw [if_neg e2] at h2
        rw [T1.zero e1, if_neg e2]; exact h2
    · rw [if_neg e1] at h1
      by_cases e2 : c1 (f y) (f z) = 0
      · rw [← T1.zero e2, if_neg e1]; exact h1
      · rw [if_neg e2] at h2
        have h3 := T1.trans h1 h2
        rw [if_neg (by omega)]; exact h3
/-- The order of sounds. -/
def cmpS (s t : Snd) : Int := if cmpI s.p.toNat t.p.toNat = 0 then cmpI s.m.toNat t.m.toNat else cmpI s.p.toNat t.p.toNat
theorem cmpS_tot : Tot cmpS := Tot.then cmpI_tot cmpI_tot (fun s : Snd => (s.p.toNat : Int)) (fun s : Snd => (s.m.toNat : Int)) (fun x y h1 h2 => by
  cases x; cases y; simp only [Snd.mk.injEq]; dsimp only at h1 h2; exact ⟨BitVec.eq_of_toNat_eq (by omega), BitVec.eq_of_toNat_eq (by omega)⟩)
end Go.Proofs.Ytilkemdecenibaa
