/-
  The cells of the columns of an entry, plain: each row is valid, each language has as many sounds as its word.
-/
import Derived.Test.YtjfhfbobnncpkaaDoorEe
import Derived.Test.YtjfhfbobnncpkaaDoorT6
namespace Go.Proofs.YtjfhfbobnncpkaaDoor
open Go.RowKit
/-- How many rows have a sound in place i. -/
def cntS (L : List (List Cl)) (i : Nat) : Nat := (L.filter fun r => decide ((r.getD i noC).kind = 2)).length
theorem cntS_nil (i : Nat) : cntS [] i = 0 := rfl
theorem cntS_app (L L' : List (List Cl)) (i : Nat) : cntS (L ++ L') i = cntS L i + cntS L' i := by unfold cntS; rw [List.filter_append, List.length_append]
theorem cntS_cons (r : List Cl) (L : List (List Cl)) (i : Nat) : cntS (r :: L) i = (if (r.getD i noC).kind = 2 then 1 else 0) + cntS L i := by
  unfold cntS
  by_cases e : (r.getD i noC).kind = 2
  · rw [if_pos e, List.filter_cons_of_pos (by simpa using e), List.length_cons, Nat.add_comm]
  · rw [if_neg e, List.filter_cons_of_neg (by simpa using e), Nat.zero_add]
structure GoodR (fs : List HF) (L : List (List Cl)) : Prop where
  row : ∀ r ∈ L, r.length = fs.length ∧ r.all Cl.ok = true
  cnt : ∀ (i : Nat) (f : HF), fs[i]? = some f → cntS L i = f.n
  len : L.length ≤ 256
  small : fs.length ≤ 64
theorem rowM_at {l : List HS} {c : List Int} {k : Nat} {y : HS} {x : Int} (hy : l[k]? = some y) (hx : c[k]? = some x) : (rowM l c)[k]? = some (cellOf y.x x) := by
  unfold rowM; rw [List.getElem?_map, (List.getElem?_zip_eq_some (z := (y, x))).2 ⟨hy, hx⟩]; rfl
theorem cellOf_ok {xs : List Snd} {x : Int} (h : ∀ s ∈ xs, s.ok = true) (hx : x = -1 ∨ (0 ≤ x ∧ x < (xs.length : Int))) : (cellOf xs x).ok = true ∧ ((cellOf xs x).kind = 2 ↔ x ≠ -1) := by
  unfold cellOf
  by_cases e : x = -1
  · rw [if_pos e]; exact ⟨by decide, by simp [e]⟩
  · rw [if_neg e]
    obtain ⟨h1, h2⟩ := hx.resolve_left e
    have hlt : x.toNat < xs.length := by omega
    have hg : xs.getD x.toNat nulSnd = xs[x.toNat] := by simp [hlt]
    have ho := h _ (List.getElem_mem hlt)
    rw [hg]
    refine ⟨?_, by simp [e]⟩
    show Cl.ok ⟨2, xs[x.toNat]⟩ = true
    unfold Cl.ok
    simpa using ho
/-- What stands in a row, and where its sounds are. -/
theorem rowF_good {fs : List HF} {cs : List HI} (hlen : ∀ f ∈ fs, f.x.length = f.n) (h : chkM (wordsOf fs) cs = 0) {j : Nat} {c : HI} (hc : cs[j]? = some c) {i : Nat} {f : HF} (hf : fs[i]? = some f) :
    ∃ z, (rowF fs (rowM (wordsOf fs) c.x))[i]? = some z ∧ z.ok = true ∧ (z.kind = 2 ↔ f.has = true ∧ c.x.getD (rk fs i) (-1) ≠ -1) := by
  rw [rowF_at, hf, Option.map_some]
  by_cases hh : f.has = true
  · refine ⟨_, rfl, ?_⟩
    rw [if_pos hh]
    have hwx : ∀ y ∈ wordsOf fs, y.x.length = y.n := fun y hy => by
      unfold wordsOf at hy
      obtain ⟨f', hf', rfl⟩ := List.mem_map.1 hy
      exact hlen f' (List.mem_filter.1 hf').1
    obtain ⟨hal, _, _, _⟩ := chkM_zero hwx h
    have hcx : (cs.map HI.x)[j]? = some c.x := by rw [List.getElem?_map, hc]; rfl
    have hw := wordsOf_at hf hh
    obtain ⟨hl, hv⟩ := al_at hal hcx hw
    have hrk := (List.getElem?_eq_some_iff.1 hw).1
    have hcv : c.x[rk fs i]? = some (c.x.getD (rk fs i) (-1)) := by
      rw [List.getD_eq_getElem?_getD]
      have : rk fs i < c.x.length := by rw [hl]; exact hrk
      rw [List.getElem?_eq_getElem this]; rfl
    have hz : (rowM (wordsOf fs) c.x).getD (rk fs i) noC = cellOf f.x (c.x.getD (rk fs i) (-1)) := by
      rw [List.getD_eq_getElem?_getD, rowM_at hw hcv]; rfl
    rw [hz]
    have hok : ∀ s ∈ f.x, s.ok = true := by
      have hw0 : wordsE (wordsOf fs) = 0 := by
        unfold chkM at h
        split at h
        · rename_i h1; exact absurd h h1
        · rename_i h1; exact Decidable.byContradiction h1
      have := firstE_zero (wordsE_len hw0).2 f.hs (List.mem_of_getElem? hw)
      exact checkS_all this
    have hfn : f.x.length = f.n := hlen f (List.mem_of_getElem? hf)
    obtain ⟨h1, h2⟩ := cellOf_ok hok (x := c.x.getD (rk fs i) (-1)) (by
      rcases hv with hv | ⟨hv, hlt⟩
      · exact .inl hv
      · right
        rw [hv, hfn]
        have : f.hs.n = f.n := rfl
        rw [this] at hlt
        omega)
    exact ⟨h1, by rw [h2]; simp [hh]⟩
  · refine ⟨_, rfl, ?_⟩
    rw [if_neg hh]
    exact ⟨by decide, by simp [hh, noC]⟩
theorem good_of {fs : List HF} {cs : List HI} (hlen : ∀ f ∈ fs, f.x.length = f.n) (hno : ∀ f ∈ fs, f.has = false → f.n = 0) (h : cellsE fs cs = 0) : GoodR fs (cellsL fs cs) := by
  have hL : cellsL fs cs = cs.map (fun c => rowF fs (rowM (wordsOf fs) c.x)) := by unfold cellsL; rw [if_pos h]
  have hk : chkM (wordsOf fs) cs = 0 := by
    unfold cellsE at h
    split at h
    · rename_i h1; exact absurd h h1
    · exact h
  have hwx : ∀ y ∈ wordsOf fs, y.x.length = y.n := fun y hy => by
    unfold wordsOf at hy
    obtain ⟨f', hf', rfl⟩ := List.mem_map.1 hy
    exact hlen f' (List.mem_filter.1 hf').1
  obtain ⟨hal, _, _, hm⟩ := chkM_zero hwx hk
  rw [hL]
  have hsm : fs.length ≤ 64 := by
    unfold cellsE at h
    split at h
    · rename_i h1; exact absurd h h1
    · rename_i h1
      have h2 : formE fs = 0 := Decidable.byContradiction h1
      unfold formE at h2
      split at h2
      · cases h2
      · omega
  refine ⟨fun r hr => ?_, fun i f hf => ?_, by rw [List.length_map]; exact hm, hsm⟩
  · obtain ⟨c, hc, rfl⟩ := List.mem_map.1 hr
    refine ⟨rowF_len _ _, List.all_eq_true.2 fun z hz => ?_⟩
    obtain ⟨j, hj⟩ := List.getElem?_of_mem hc
    obtain ⟨i, hi⟩ := List.getElem?_of_mem hz
    have hlt := (List.getElem?_eq_some_iff.1 hi).1
    rw [rowF_len] at hlt
    obtain ⟨z', h1, h2, _⟩ := rowF_good hlen hk hj (List.getElem?_eq_getElem hlt)
    rw [hi] at h1; cases h1; exact h2
  · have hcnt : ∀ C : List HI, (∀ c ∈ C, c ∈ cs) → cntS (C.map (fun c => rowF fs (rowM (wordsOf fs) c.x))) i = if f.has = true then cntG (C.map HI.x) (rk fs i) else 0 := fun C => by
      induction C with
      | nil => intro _; simp [cntS, cntG]
      | cons c C ih =>
        intro hm
        have ih' := ih fun d hd => hm d (List.mem_cons_of_mem _ hd)
        rw [List.map_cons, List.map_cons, cntS_cons, ih', cntG_cons]
        obtain ⟨j, hj⟩ := List.getElem?_of_mem (hm c List.mem_cons_self)
        obtain ⟨z, h1, _, h3⟩ := rowF_good hlen hk hj hf
        rw [List.getD_eq_getElem?_getD, h1, Option.getD_some]
        by_cases hh : f.has = true
        · rw [if_pos hh, if_pos hh]
          by_cases e : c.x.getD (rk fs i) (-1) = -1
          · rw [if_neg (fun h => (h3.1 h).2 e), if_pos e]
          · rw [if_pos (h3.2 ⟨hh, e⟩), if_neg e]
        · rw [if_neg hh, if_neg hh, if_neg (fun h => hh (h3.1 h).1)]
    rw [hcnt cs (fun c hc => hc)]
    by_cases hh : f.has = true
    · rw [if_pos hh]
      have hw := wordsOf_at hf hh
      exact hal.2 _ f.n (by rw [List.getElem?_map, hw]; rfl)
    · rw [if_neg hh]
      exact (hno f (List.mem_of_getElem? hf) (by simpa using hh)).symm
end Go.Proofs.YtjfhfbobnncpkaaDoor
