/-
  How many natural classes there are: the plain half.
-/
import Derived.Test.YtbnbfdbliokcaaaDoorJs
namespace Go.Proofs.YtbnbfdbliokcaaaDoor
open Go.RowKit
/-! ### Parts of an inventory -/
def partTo (xs : List Snd) (p : Nat) : Nat → List Snd
  | 0 => []
  | i + 1 => partTo xs p i ++ match xs[i]? with
    | some s => if p.testBit i then [s] else []
    | none => []
def partS (xs : List Snd) (p : Nat) : List Snd := partTo xs p xs.length
theorem partTo_succ {xs : List Snd} {p i : Nat} {s : Snd} (h : xs[i]? = some s) : partTo xs p (i + 1) = if p.testBit i then partTo xs p i ++ [s] else partTo xs p i := by
  simp only [partTo, h]
  split <;> simp
theorem mem_partTo {xs : List Snd} {p : Nat} {s : Snd} : ∀ {k}, s ∈ partTo xs p k ↔ ∃ i, i < k ∧ xs[i]? = some s ∧ p.testBit i = true
  | 0 => by simp [partTo]
  | k + 1 => by
    simp only [partTo, List.mem_append, mem_partTo]
    constructor
    · rintro (⟨i, h1, h2, h3⟩ | h)
      · exact ⟨i, by omega, h2, h3⟩
      · cases hx : xs[k]? with
        | none => rw [hx] at h; simp at h
        | some x =>
          rw [hx] at h
          simp only at h
          split at h
          · rename_i hb; simp at h; subst h; exact ⟨k, by omega, hx, hb⟩
          · simp at h
    · rintro ⟨i, h1, h2, h3⟩
      by_cases e : i = k
      · subst e; right; rw [h2]; simp [h3]
      · exact .inl ⟨i, by omega, h2, h3⟩
theorem mem_partS {xs : List Snd} {p : Nat} {s : Snd} : s ∈ partS xs p ↔ ∃ i, xs[i]? = some s ∧ p.testBit i = true := by
  unfold partS
  rw [mem_partTo]
  constructor
  · rintro ⟨i, _, h⟩; exact ⟨i, h⟩
  · rintro ⟨i, h1, h2⟩; exact ⟨i, (List.getElem?_eq_some_iff.1 h1).1, h1, h2⟩
theorem partTo_len (xs : List Snd) (p : Nat) : ∀ k, (partTo xs p k).length ≤ k
  | 0 => by simp [partTo]
  | k + 1 => by
    have := partTo_len xs p k
    simp only [partTo, List.length_append]
    split
    · split <;> simp <;> omega
    · simp; omega
def condP (xs : List Snd) (p : Nat) : Snd := comS (partS xs p)
theorem snd_ext {a b : Snd} (h1 : ∀ i, i < 32 → a.p.getLsbD i = b.p.getLsbD i) (h2 : ∀ i, i < 32 → a.m.getLsbD i = b.m.getLsbD i) : a = b := by
  cases a; cases b
  simp only [Snd.mk.injEq]
  exact ⟨BitVec.eq_of_getLsbD_eq h1, BitVec.eq_of_getLsbD_eq h2⟩
theorem comS_more {x : Snd} {l l' : List Snd} (hne : l ≠ []) (h : ∀ s, s ∈ l' ↔ s = x ∨ s ∈ l) : comS l' = meetS x (comS l) := by
  have hne' : l' ≠ [] := fun e => by have := (h x).2 (.inl rfl); rw [e] at this; cases this
  refine snd_ext (fun i _ => ?_) (fun i _ => ?_)
  · rw [Bool.eq_iff_iff, comS_p hne', meetS, BitVec.getLsbD_and, Bool.and_eq_true, comS_p hne]
    exact ⟨fun k => ⟨k x ((h x).2 (.inl rfl)), fun s hs => k s ((h s).2 (.inr hs))⟩, fun k s hs => by rcases (h s).1 hs with rfl | h2; exact k.1; exact k.2 s h2⟩
  · rw [Bool.eq_iff_iff, comS_m hne', meetS, BitVec.getLsbD_and, Bool.and_eq_true, comS_m hne]
    exact ⟨fun k => ⟨k x ((h x).2 (.inl rfl)), fun s hs => k s ((h s).2 (.inr hs))⟩, fun k s hs => by rcases (h s).1 hs with rfl | h2; exact k.1; exact k.2 s h2⟩
theorem comS_only {x : Snd} {l : List Snd} (h : ∀ s, s ∈ l ↔ s = x) : comS l = x := by
  have hne : l ≠ [] := fun e => by have := (h x).2 rfl; rw [e] at this; cases this
  refine snd_ext (fun i _ => ?_) (fun i _ => ?_)
  · rw [Bool.eq_iff_iff, comS_p hne]
    exact ⟨fun k => k x ((h x).2 rfl), fun k s hs => by rw [(h s).1 hs]; exact k⟩
  · rw [Bool.eq_iff_iff, comS_m hne]
    exact ⟨fun k => k x ((h x).2 rfl), fun k s hs => by rw [(h s).1 hs]; exact k⟩
/-! ### The lowest bit -/
theorem low_bit {p : Nat} (hp : p ≠ 0) (h64 : p < 2 ^ 64) : ∃ k m, Lib.ctz 64 p = k ∧ p = 2 ^ k * (2 * m + 1) ∧ k < 64 := by
  obtain ⟨m, hm, hk⟩ := Lib.ctzFrom_spec 64 p (by omega) h64
  refine ⟨_, m, ?_, hm, hk⟩
  unfold Lib.ctz
  rw [if_neg hp]
theorem split_add (k m b : Nat) (hb : b < 2 ^ k) (j : Nat) : (2 ^ k * m + b).testBit j = if j < k then b.testBit j else m.testBit (j - k) := Nat.testBit_two_pow_mul_add m hb j
theorem low_testBit (k m i : Nat) : (2 ^ k * (2 * m + 1)).testBit i = if i < k then false else if i = k then true else m.testBit (i - k - 1) := by
  have h := split_add k (2 * m + 1) 0 (Nat.two_pow_pos k) i
  rw [Nat.add_zero] at h
  rw [h]
  by_cases h1 : i < k
  · rw [if_pos h1, if_pos h1]; simp
  · rw [if_neg h1, if_neg h1]
    by_cases h2 : i = k
    · subst h2; rw [if_pos rfl, Nat.sub_self]; simp [Nat.testBit_zero]
    · rw [if_neg h2]
      obtain ⟨j, hj⟩ : ∃ j, i - k = j + 1 := ⟨i - k - 1, by omega⟩
      rw [hj, Nat.testBit_succ]
      congr 1; omega
theorem rest_testBit (k m i : Nat) : (2 ^ k * (2 * m + 1) &&& (2 ^ k * (2 * m + 1) - 1)).testBit i = ((2 ^ k * (2 * m + 1)).testBit i && decide (i ≠ k)) := by
  have hp := Nat.two_pow_pos k
  have e : 2 ^ k * (2 * m + 1) - 1 = 2 ^ k * (2 * m) + (2 ^ k - 1) := by
    rw [Nat.mul_add, Nat.mul_one]; omega
  rw [Nat.testBit_and, low_testBit, e, split_add k (2 * m) (2 ^ k - 1) (by omega)]
  by_cases h1 : i < k
  · rw [if_pos h1]; simp
  · rw [if_neg h1, if_neg h1]
    by_cases h2 : i = k
    · subst h2; rw [if_pos rfl, Nat.sub_self]; simp [Nat.testBit_zero]
    · rw [if_neg h2]
      obtain ⟨j, hj⟩ : ∃ j, i - k = j + 1 := ⟨i - k - 1, by omega⟩
      rw [hj, Nat.testBit_succ]
      have : 2 * m / 2 = m := by omega
      rw [this]
      simp [h2]
/-- What natural.Count finds by the lowest bit of a part. -/
theorem condP_step {xs : List Snd} {p : Nat} (hp : p ≠ 0) (hN : p < 2 ^ xs.length) (h64 : xs.length ≤ 64) :
    ∃ s, xs[Lib.ctz 64 p]? = some s ∧ (p &&& (p - 1) = 0 → condP xs p = s) ∧ (p &&& (p - 1) ≠ 0 → condP xs p = meetS s (condP xs (p &&& (p - 1))) ∧ p &&& (p - 1) < p ∧ partS xs (p &&& (p - 1)) ≠ []) := by
  obtain ⟨k, m, hk, he, hk64⟩ := low_bit hp (Nat.lt_of_lt_of_le hN (Nat.pow_le_pow_right (by decide) h64))
  have hkn : k < xs.length := by
    rcases Nat.lt_or_ge k xs.length with h | h
    · exact h
    · have h1 : 2 ^ xs.length ≤ 2 ^ k := Nat.pow_le_pow_right (by decide) h
      have h2 : 2 ^ k ≤ 2 ^ k * (2 * m + 1) := Nat.le_mul_of_pos_right _ (by omega)
      omega
  have hs : xs[k]? = some xs[k] := List.getElem?_eq_getElem hkn
  have hbit : p.testBit k = true := by rw [he, low_testBit, if_neg (by omega), if_pos rfl]
  have hrest : ∀ i, (p &&& (p - 1)).testBit i = (p.testBit i && decide (i ≠ k)) := fun i => by
    rw [he]; exact rest_testBit k m i
  have hmem : ∀ s, s ∈ partS xs p ↔ s = xs[k] ∨ s ∈ partS xs (p &&& (p - 1)) := fun s => by
    rw [mem_partS, mem_partS]
    constructor
    · rintro ⟨i, h1, h2⟩
      by_cases e : i = k
      · subst e; rw [hs] at h1; exact .inl (Option.some.inj h1).symm
      · exact .inr ⟨i, h1, by rw [hrest, h2]; simpa using e⟩
    · rintro (rfl | ⟨i, h1, h2⟩)
      · exact ⟨k, hs, hbit⟩
      · rw [hrest, Bool.and_eq_true] at h2; exact ⟨i, h1, h2.1⟩
  refine ⟨xs[k], by rw [hk]; exact hs, fun h0 => ?_, fun h0 => ?_⟩
  · refine comS_only fun s => ?_
    rw [hmem]
    constructor
    · rintro (h | h)
      · exact h
      · obtain ⟨i, _, h2⟩ := mem_partS.1 h
        rw [h0] at h2; simp at h2
    · exact .inl
  · have hlt : p &&& (p - 1) < p := by
      have : p &&& (p - 1) ≤ p - 1 := Nat.and_le_right
      omega
    have hne : partS xs (p &&& (p - 1)) ≠ [] := by
      obtain ⟨i, hi⟩ := Nat.exists_testBit_of_ne_zero h0
      have hin : i < xs.length := by
        rcases Nat.lt_or_ge i xs.length with h | h
        · exact h
        · have h2 := Nat.testBit_lt_two_pow (x := p &&& (p - 1)) (i := i) (by
            have : 2 ^ xs.length ≤ 2 ^ i := Nat.pow_le_pow_right (by decide) h
            omega)
          rw [h2] at hi; cases hi
      intro e
      have : xs[i] ∈ partS xs (p &&& (p - 1)) := mem_partS.2 ⟨i, List.getElem?_eq_getElem hin, hi⟩
      rw [e] at this; cases this
    exact ⟨comS_more hne hmem, hlt, hne⟩
theorem partS_ne {xs : List Snd} {p : Nat} (hp : p ≠ 0) (hN : p < 2 ^ xs.length) : partS xs p ≠ [] := by
  obtain ⟨i, hi⟩ := Nat.exists_testBit_of_ne_zero hp
  have hin : i < xs.length := by
    rcases Nat.lt_or_ge i xs.length with h | h
    · exact h
    · have h2 := Nat.testBit_lt_two_pow (x := p) (i := i) (by
        have : 2 ^ xs.length ≤ 2 ^ i := Nat.pow_le_pow_right (by decide) h
        omega)
      rw [h2] at hi; cases hi
  intro e
  have : xs[i] ∈ partS xs p := mem_partS.2 ⟨i, List.getElem?_eq_getElem hin, hi⟩
  rw [e] at this; cases this
theorem condP_ok {xs : List Snd} {p : Nat} (hok : ∀ x ∈ xs, x.ok = true) (hp : p ≠ 0) (hN : p < 2 ^ xs.length) : (condP xs p).ok = true :=
  comS_ok (partS_ne hp hN) fun x hx => by obtain ⟨i, h1, _⟩ := mem_partS.1 hx; exact hok x (List.mem_of_getElem? h1)
/-! ### Sets of members -/
def maskTo (L : List Int) : Nat → Nat
  | 0 => 0
  | k + 1 => maskTo L k ||| match L[k]? with
    | some x => 2 ^ x.toNat
    | none => 0
def maskN (L : List Int) : Nat := maskTo L L.length
theorem maskTo_succ {L : List Int} {k : Nat} {x : Int} (h : L[k]? = some x) : maskTo L (k + 1) = maskTo L k ||| 2 ^ x.toNat := by simp only [maskTo, h]
theorem maskTo_bit {L : List Int} {i : Nat} : ∀ {k}, (maskTo L k).testBit i = true ↔ ∃ j x, j < k ∧ L[j]? = some x ∧ x.toNat = i
  | 0 => by simp [maskTo]
  | k + 1 => by
    simp only [maskTo, Nat.testBit_or, Bool.or_eq_true, maskTo_bit]
    constructor
    · rintro (⟨j, x, h1, h2, h3⟩ | h)
      · exact ⟨j, x, by omega, h2, h3⟩
      · cases hx : L[k]? with
        | none => rw [hx] at h; simp at h
        | some x =>
          rw [hx] at h
          simp only at h
          rw [Nat.testBit_two_pow] at h
          exact ⟨k, x, by omega, hx, of_decide_eq_true h⟩
    · rintro ⟨j, x, h1, h2, h3⟩
      by_cases e : j = k
      · subst e; right; rw [h2]; simp only; rw [Nat.testBit_two_pow]; simpa using h3
      · exact .inl ⟨j, x, by omega, h2, h3⟩
theorem maskTo_lt {L : List Int} {n : Nat} (h : ∀ x ∈ L, x.toNat < n) : ∀ k, maskTo L k < 2 ^ n
  | 0 => Nat.two_pow_pos n
  | k + 1 => by
    have ih := maskTo_lt h k
    simp only [maskTo]
    cases hx : L[k]? with
    | none => simpa using ih
    | some x => exact Nat.or_lt_two_pow ih (Nat.pow_lt_pow_right (by decide) (h x (List.mem_of_getElem? hx)))
theorem memL_lt {xs : List Snd} {c : Snd} : ∀ x ∈ memL xs c, 0 ≤ x ∧ x.toNat < xs.length := by
  intro x hx
  obtain ⟨i, s, rfl, h, _⟩ := mem_memL.1 hx
  exact ⟨by omega, by rw [show ((i : Int)).toNat = i by omega]; exact (List.getElem?_eq_some_iff.1 h).1⟩
theorem memTo_congr {xs : List Snd} {c c' : Snd} (h : ∀ (i : Nat) (s : Snd), xs[i]? = some s → satB s c = satB s c') : ∀ k, memTo xs c k = memTo xs c' k
  | 0 => rfl
  | k + 1 => by
    have ih := memTo_congr h k
    simp only [memTo, ih]
    cases hx : xs[k]? with
    | none => rfl
    | some s => simp only [h k s hx]
theorem maskN_inj {xs : List Snd} {c c' : Snd} (h : maskN (memL xs c) = maskN (memL xs c')) : memL xs c = memL xs c' := by
  have hb : ∀ (d : Snd) (i : Nat) (s : Snd), xs[i]? = some s → ((maskN (memL xs d)).testBit i = true ↔ satB s d = true) := fun d i s hs => by
    unfold maskN
    rw [maskTo_bit]
    constructor
    · rintro ⟨j, x, _, h2, h3⟩
      obtain ⟨i2, s2, rfl, h4, h5⟩ := mem_memL.1 (List.mem_of_getElem? h2)
      have : i2 = i := by omega
      subst this
      rw [hs] at h4; cases h4; exact h5
    · intro h1
      obtain ⟨j, hj⟩ := List.getElem?_of_mem (mem_memL.2 ⟨i, s, rfl, hs, h1⟩)
      exact ⟨j, i, (List.getElem?_eq_some_iff.1 hj).1, hj, by omega⟩
  unfold memL
  refine memTo_congr (fun i s hs => ?_) _
  rw [Bool.eq_iff_iff, ← hb c i s hs, ← hb c' i s hs, h]
/-! ### How many -/
def clsL (xs : List Snd) : List (List Int) := (List.range (2 ^ xs.length - 1)).map fun q => memL xs (condP xs (q + 1))
def clsM (xs : List Snd) : List Nat := (clsL xs).map maskN
theorem clsL_len (xs : List Snd) : (clsL xs).length = 2 ^ xs.length - 1 := by simp [clsL]
theorem clsL_at {xs : List Snd} {q : Nat} (h : q + 1 < 2 ^ xs.length) : (clsL xs)[q]? = some (memL xs (condP xs (q + 1))) := by
  unfold clsL; rw [List.getElem?_map, List.getElem?_range (by omega)]; rfl
theorem clsM_at {xs : List Snd} {q : Nat} (h : q + 1 < 2 ^ xs.length) : (clsM xs)[q]? = some (maskN (memL xs (condP xs (q + 1)))) := by
  unfold clsM; rw [List.getElem?_map, clsL_at h]; rfl
theorem dif_map {α β : Type} [DecidableEq α] [DecidableEq β] {f : α → β} {xs : List α} (hinj : ∀ x ∈ xs, ∀ y ∈ xs, f x = f y → x = y) : ∀ k, dif (xs.map f) k = dif xs k
  | 0 => rfl
  | k + 1 => by
    have ih := dif_map hinj k
    cases hx : xs[k]? with
    | none => simp only [dif, ih, List.getElem?_map, hx, Option.map_none]
    | some x =>
      have hx2 : (xs.map f)[k]? = some (f x) := by rw [List.getElem?_map, hx]; rfl
      rw [dif_succ hx, dif_succ hx2, ih]
      have : (f x ∈ (xs.map f).take k) ↔ x ∈ xs.take k := by
        rw [← List.map_take, List.mem_map]
        constructor
        · rintro ⟨y, hy, e⟩
          rw [← hinj y (List.mem_of_mem_take hy) x (List.mem_of_getElem? hx) e]; exact hy
        · intro h; exact ⟨x, h, rfl⟩
      by_cases h : x ∈ xs.take k
      · rw [if_pos h, if_pos (this.2 h)]
      · rw [if_neg h, if_neg (fun e => h (this.1 e))]
theorem dif_cls (xs : List Snd) (k : Nat) : dif (clsM xs) k = dif (clsL xs) k := by
  refine dif_map (fun x hx y hy e => ?_) k
  obtain ⟨q, _, rfl⟩ := List.mem_map.1 hx
  obtain ⟨q', _, rfl⟩ := List.mem_map.1 hy
  exact maskN_inj e
def countN (xs : List Snd) : Nat := dif (clsL xs) (2 ^ xs.length - 1)
def cntE (xs : List Snd) : Int := chkI 12 xs
def cntV (xs : List Snd) : Int := if chkI 12 xs = 0 then (countN xs : Nat) else 0
def RetCn (xs : List Snd) (w : World) (e : Ending) (w' : World) : Prop := e = .returned (.tuple #[.int .i64 (cntV xs), .int .i64 (chkI 12 xs)]) ∧ Ext w w'
end Go.Proofs.YtbnbfdbliokcaaaDoor
