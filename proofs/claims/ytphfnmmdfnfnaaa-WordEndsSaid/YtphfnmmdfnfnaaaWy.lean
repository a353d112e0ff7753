/-
  Walks of layer 2: the reference's Sort.
-/
import Derived.Test.YtphfnmmdfnfnaaaWq
import Derived.Test.YtphfnmmdfnfnaaaApp
namespace Go.Proofs.Ytphfnmmdfnfnaaa
open Go.RowKit
/-! ### Lists of words that the call has made -/
theorem OwnS.grown {B B' e : Nat} {w w' : World} {v u : Value} {x : List Snd} {cur : List WH} (h : OwnS B 39 w v x) (hg : OwnH B' e w u cur) (he : e ≠ 39) (hgr : w.grownBy w' u.ownBlock) : OwnS B 39 w' v x := by
  obtain ⟨h1, h2⟩ := h
  refine ⟨h1, ?_⟩
  rcases h2 with h2 | ⟨g', cap', cur', h3, hB, hh, r⟩
  · exact .inl h2
  · refine .inr ⟨g', cap', cur', h3, hB, (hgr.block g' (Array.getElem?_eq_some_iff.1 hh).1 (fun e2 => ?_)).trans hh, r⟩
    rcases hg.2 with ⟨h7, _⟩ | ⟨g2, cap2, cur2, h7, _, hh2, _⟩
    · rw [h7] at e2; cases e2
    · rw [h7] at e2
      simp only [Value.ownBlock, Option.some.injEq] at e2
      subst e2
      rw [hh] at hh2
      simp only [Option.some.injEq, Obj.cells.injEq] at hh2
      exact he hh2.2.1.symm
theorem OwnWs.kept {B : Nat} {w w' : World} {v : Value} {L : List (List Snd)} (h : OwnWs B w v L) (hx : Ext w w') : OwnWs B w' v L :=
  let ⟨hs, h1, h2, h3⟩ := h; ⟨hs, OwnK.kept h1 hx, h2, fun y hy => OwnK.kept (h3 y hy) hx⟩
theorem OwnWs.base {B B' : Nat} {w : World} {v : Value} {L : List (List Snd)} (h : OwnWs B w v L) (hB : B' ≤ B) : OwnWs B' w v L :=
  let ⟨hs, h1, h2, h3⟩ := h; ⟨hs, OwnK.base h1 hB, h2, fun y hy => OwnK.base (h3 y hy) hB⟩
theorem OwnWs.nil (B : Nat) (w : World) : OwnWs B w (.slice none 0 0) [] := ⟨[], OwnK.nil _ _ _, rfl, by simp⟩
theorem OwnWs.rdn {B : Nat} {w : World} {v : Value} {L : List (List Snd)} (h : OwnWs B w v L) : ∃ a n cap, n = L.length ∧ v = .slice a n cap ∧ RdWs w a n cap L := by
  obtain ⟨a, cap, hv, hr⟩ := OwnWs.rd h
  exact ⟨a, _, cap, rfl, hv, hr⟩
/-- append of one word of the call's own to a list of the call's own. -/
theorem wp_appW {ops : Array Oper} {rest : List Oper} {o : Oper} {a : Act} {Q : Exit → Act → World → Prop} (w00 w0 : World) (am : Option Addr) (m c : Nat) (x : List Snd) (hgd : o.guard = none) (s xo : Operand)
    (ho : o.op = .call { callee := .builtin .append, args := #[s, xo], argTypes := #[32, 32] })
    (v : Value) (L : List (List Snd)) (hs : a.eval s = v) (hown : OwnWs w00.heap.size w0 v L) (hx0 : Ext w00 w0) (hword : OwnS w00.heap.size 39 w0 (.slice am m c) x) (hx : a.eval xo = .slice (some ⟨w0.heap.size, 0, none⟩) 1 1)
    (hN : L.length ≤ 60000)
    (h : ∀ v' w', OwnWs w00.heap.size w' v' (L ++ [x]) → Ext w00 w' → wpList Try.prog ops Q rest (a.put o.dst v') w') :
    wpList Try.prog ops Q (o :: rest) a (w0.alloc (.cells #[.slice am m c] 22)) := by
  obtain ⟨hs', h1, h2, h3⟩ := hown
  have hl : hs'.length = L.length := by rw [← h2]; simp
  refine wp_app1 w00 w0 (⟨am, m, c, x⟩ : WH) hgd s xo 32 ho 22 Try.underlying32 info_word rfl (by decide) v hs' hs h1 hx0 hx rfl (WH.one _) (by omega) (by unfold maxLen; omega) ?_
  intro v' w' h4 h5 h6
  refine h v' w' ⟨hs' ++ [⟨am, m, c, x⟩], h4, by rw [List.map_append, h2]; rfl, fun y hy => ?_⟩ h5
  have ha := Ext.alloc1 w0 (.cells #[.slice am m c] 22)
  have hH := OwnK.kept h1 ha
  rcases List.mem_append.1 hy with hy | hy
  · exact OwnS.grown (OwnK.kept (h3 y hy) ha) hH (by decide) h6
  · simp at hy; subst hy
    exact OwnS.grown (OwnK.kept hword ha) hH (by decide) h6
/-! ### Selection -/
/-- L is strictly sorted, of words of ws, and each word of ws that is not in L is greater than all of L. -/
def Pre (ws L : List (List Snd)) : Prop := L.Pairwise (fun x y => cmpW x y < 0) ∧ (∀ x ∈ L, x ∈ ws) ∧ ∀ x ∈ ws, x ∈ L ∨ ∀ y ∈ L, cmpW y x < 0
theorem Pre.nil (ws : List (List Snd)) : Pre ws [] := ⟨List.Pairwise.nil, by simp, fun x _ => .inr (by simp)⟩
theorem Pre.last {ws L : List (List Snd)} {m : Nat} {y x : List Snd} (h : Pre ws L) (hm : L.length = m) (hy : L[m - 1]? = some y) (h0 : 0 < m) (hx : x ∈ ws) : x ∈ L ↔ cmpW x y ≤ 0 := by
  obtain ⟨h1, h2, h3⟩ := h
  have hyL : y ∈ L := List.mem_of_getElem? hy
  constructor
  · intro hxL
    obtain ⟨i, hi⟩ := List.getElem?_of_mem hxL
    have hil := (List.getElem?_eq_some_iff.1 hi).1
    by_cases e : i = m - 1
    · subst e; rw [hi] at hy; cases hy; rw [cmpW_self]; omega
    · rw [List.pairwise_iff_getElem] at h1
      have hlt : m - 1 < L.length := by omega
      have := h1 i (m - 1) hil hlt (by omega)
      rw [(List.getElem?_eq_some_iff.1 hi).2, (List.getElem?_eq_some_iff.1 hy).2] at this
      omega
  · intro hc
    rcases h3 x hx with h | h
    · exact h
    · have := h y hyL; rw [cmpW_anti x y] at this; omega
/-- What the inner loop has found among the first k words. -/
def Best (ws L : List (List Snd)) (k : Nat) (b : Int) : Prop :=
  (b = -1 ∧ ∀ j x, j < k → ws[j]? = some x → x ∈ L) ∨ ∃ (j : Nat) (x : List Snd), b = j ∧ j < k ∧ ws[j]? = some x ∧ x ∉ L ∧ ∀ i y, i < k → ws[i]? = some y → y ∉ L → cmpW x y ≤ 0
theorem Best.start (ws L : List (List Snd)) : Best ws L 0 (-1) := .inl ⟨rfl, fun _ _ h => absurd h (Nat.not_lt_zero _)⟩
theorem Best.skip {ws L : List (List Snd)} {k : Nat} {b : Int} {z : List Snd} (h : Best ws L k b) (hz : ws[k]? = some z) (hm : z ∈ L) : Best ws L (k + 1) b := by
  rcases h with ⟨hb, h⟩ | ⟨j, x, hb, hj, hx, hn, h⟩
  · refine .inl ⟨hb, fun i y hi hy => ?_⟩
    by_cases e : i = k
    · subst e; rw [hz] at hy; cases hy; exact hm
    · exact h i y (by omega) hy
  · refine .inr ⟨j, x, hb, by omega, hx, hn, fun i y hi hy hyn => ?_⟩
    by_cases e : i = k
    · subst e; rw [hz] at hy; cases hy; exact absurd hm hyn
    · exact h i y (by omega) hy hyn
theorem Best.first {ws L : List (List Snd)} {k : Nat} {z : List Snd} (h : ∀ j x, j < k → ws[j]? = some x → x ∈ L) (hz : ws[k]? = some z) (hm : z ∉ L) : Best ws L (k + 1) k := by
  refine .inr ⟨k, z, rfl, by omega, hz, hm, fun i y hi hy hyn => ?_⟩
  by_cases e : i = k
  · subst e; rw [hz] at hy; cases hy; rw [cmpW_self]; omega
  · exact absurd (h i y (by omega) hy) hyn
theorem Best.less {ws L : List (List Snd)} {k : Nat} {x z : List Snd} (h : ∀ i y, i < k → ws[i]? = some y → y ∉ L → cmpW x y ≤ 0) (hz : ws[k]? = some z) (hm : z ∉ L) (hc : cmpW z x < 0) : Best ws L (k + 1) k := by
  refine .inr ⟨k, z, rfl, by omega, hz, hm, fun i y hi hy hyn => ?_⟩
  by_cases e : i = k
  · subst e; rw [hz] at hy; cases hy; rw [cmpW_self]; omega
  · exact (cmpW_trans (Int.le_of_lt hc) (h i y (by omega) hy hyn)).1
theorem Best.keep {ws L : List (List Snd)} {k j : Nat} {x z : List Snd} (hj : j < k) (hx : ws[j]? = some x) (hn : x ∉ L) (h : ∀ i y, i < k → ws[i]? = some y → y ∉ L → cmpW x y ≤ 0) (hz : ws[k]? = some z) (hc : ¬ cmpW z x < 0) : Best ws L (k + 1) j := by
  refine .inr ⟨j, x, rfl, by omega, hx, hn, fun i y hi hy hyn => ?_⟩
  by_cases e : i = k
  · subst e; rw [hz] at hy; cases hy; have := cmpW_anti x z; omega
  · exact h i y (by omega) hy hyn
theorem Pre.done {ws L : List (List Snd)} (h : Pre ws L) {n : Nat} (hn : ws.length = n) (hall : ∀ j x, j < n → ws[j]? = some x → x ∈ L) : SortedOf ws L :=
  ⟨h.1, fun x => ⟨h.2.1 x, fun hx => by obtain ⟨i, hi⟩ := List.getElem?_of_mem hx; exact hall i x (by have := (List.getElem?_eq_some_iff.1 hi).1; omega) hi⟩⟩
theorem Pre.snoc {ws L : List (List Snd)} {x : List Snd} (h : Pre ws L) (hx : x ∈ ws) (hn : x ∉ L) (hmin : ∀ y ∈ ws, y ∉ L → cmpW x y ≤ 0) : Pre ws (L ++ [x]) := by
  obtain ⟨h1, h2, h3⟩ := h
  have hgt : ∀ y ∈ L, cmpW y x < 0 := (h3 x hx).resolve_left hn
  refine ⟨List.pairwise_append.2 ⟨h1, List.pairwise_singleton _ _, fun y hy z hz => by simp at hz; subst hz; exact hgt y hy⟩, fun y hy => ?_, fun z hz => ?_⟩
  · rcases List.mem_append.1 hy with h | h
    · exact h2 y h
    · simp at h; subst h; exact hx
  · by_cases hzL : z ∈ L
    · exact .inl (List.mem_append.2 (.inl hzL))
    · by_cases e : z = x
      · subst e; exact .inl (by simp)
      · refine .inr fun y hy => ?_
        rcases List.mem_append.1 hy with h | h
        · exact ((h3 z hz).resolve_left hzL) y h
        · simp at h; subst h
          exact lt_of_le_ne (hmin z hz hzL) e
theorem nodup_len : ∀ {L ws : List (List Snd)}, L.Pairwise (fun x y => cmpW x y < 0) → (∀ x ∈ L, x ∈ ws) → L.length ≤ ws.length
  | [], _, _, _ => Nat.zero_le _
  | x :: L, ws, h, hs => by
    obtain ⟨h1, h2⟩ := List.pairwise_cons.1 h
    have hx := hs x List.mem_cons_self
    have := nodup_len (ws := ws.erase x) h2 fun y hy => (List.mem_erase_of_ne (fun e => by have := h1 y hy; rw [e, cmpW_self] at this; omega)).2 (hs y (List.mem_cons_of_mem _ hy))
    rw [List.length_erase_of_mem hx] at this
    have := List.length_pos_of_mem hx
    simp only [List.length_cons]; omega
theorem Pre.full {ws L : List (List Snd)} (h : Pre ws L) (hl : ws.length ≤ L.length) : SortedOf ws L := by
  refine ⟨h.1, fun x => ⟨h.2.1 x, fun hx => ?_⟩⟩
  rcases h.2.2 x hx with h' | h'
  · exact h'
  · have := nodup_len (L := L ++ [x]) (ws := ws) (List.pairwise_append.2 ⟨h.1, List.pairwise_singleton _ _, fun y hy z hz => by simp at hz; subst hz; exact h' y hy⟩) (fun y hy => by
      rcases List.mem_append.1 hy with h2 | h2
      · exact h.2.1 y h2
      · simp at h2; subst h2; exact hx)
    simp at this; omega
end Go.Proofs.Ytphfnmmdfnfnaaa
