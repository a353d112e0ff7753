/-
  Gaps: the plain half; triples of integers as keys; what a range over a map needs.
-/
import Derived.Test.YtbnbfdbliokcaaaDoorJx
import Derived.Maps.RangeWalk
namespace Go.Proofs.YtbnbfdbliokcaaaDoor
open Go.RowKit Go.Maps
/-! ### Plain -/
/-- A feature, the value that a sound has, and the one that it gets. -/
abbrev T3 := Nat × Int × Int
def gapsTo (xs : List Snd) (t : T3) : Nat → List Snd
  | 0 => []
  | k + 1 => gapsTo xs t k ++ match xs[k]? with
    | some s => if getS s t.1 = t.2.1 ∧ putS s t.1 t.2.2 ∉ xs then [putS s t.1 t.2.2] else []
    | none => []
def gapsOf (xs : List Snd) (t : T3) : List Snd := gapsTo xs t xs.length
theorem gapsTo_succ {xs : List Snd} {t : T3} {k : Nat} {s : Snd} (h : xs[k]? = some s) : gapsTo xs t (k + 1) = gapsTo xs t k ++ if getS s t.1 = t.2.1 ∧ putS s t.1 t.2.2 ∉ xs then [putS s t.1 t.2.2] else [] := by simp only [gapsTo, h]
theorem gapsTo_len (xs : List Snd) (t : T3) : ∀ k, (gapsTo xs t k).length ≤ k
  | 0 => Nat.le_refl _
  | k + 1 => by
    have := gapsTo_len xs t k
    simp only [gapsTo, List.length_append]
    split
    · split <;> simp <;> omega
    · simp; omega
theorem mem_gapsTo {xs : List Snd} {t : T3} {g : Snd} : ∀ {k}, g ∈ gapsTo xs t k ↔ ∃ i s, i < k ∧ xs[i]? = some s ∧ getS s t.1 = t.2.1 ∧ g = putS s t.1 t.2.2 ∧ g ∉ xs
  | 0 => by simp [gapsTo]
  | k + 1 => by
    simp only [gapsTo, List.mem_append, mem_gapsTo]
    constructor
    · rintro (⟨i, s, h1, h2⟩ | h)
      · exact ⟨i, s, by omega, h2⟩
      · cases hx : xs[k]? with
        | none => rw [hx] at h; simp at h
        | some s =>
          rw [hx] at h
          simp only at h
          split at h
          · rename_i hc; simp at h; subst h; exact ⟨k, s, by omega, hx, hc.1, rfl, hc.2⟩
          · simp at h
    · rintro ⟨i, s, h1, h2, h3, h4, h5⟩
      by_cases e : i = k
      · subst e; right; rw [h2]; simp only; rw [if_pos ⟨h3, by rw [← h4]; exact h5⟩, h4]; simp
      · exact .inl ⟨i, s, by omega, h2, h3, h4, h5⟩
theorem mem_gapsOf {xs : List Snd} {t : T3} {g : Snd} : g ∈ gapsOf xs t ↔ g ∉ xs ∧ ∃ s ∈ xs, getS s t.1 = t.2.1 ∧ g = putS s t.1 t.2.2 := by
  unfold gapsOf
  rw [mem_gapsTo]
  constructor
  · rintro ⟨i, s, _, h2, h3, h4, h5⟩; exact ⟨h5, s, List.mem_of_getElem? h2, h3, h4⟩
  · rintro ⟨h5, s, hs, h3, h4⟩
    obtain ⟨i, hi⟩ := List.getElem?_of_mem hs
    exact ⟨i, s, (List.getElem?_eq_some_iff.1 hi).1, hi, h3, h4, h5⟩
/-- What is exchanged by a pair. -/
def turnF (xs : List Snd) (x : Nat × Nat) : List T3 := match xs[x.1]?, xs[x.2]? with
  | some s, some t => match aloneF s t with
    | some f => [(f, getS s f, getS t f), (f, getS t f, getS s f)]
    | none => []
  | _, _ => []
def turnTo (xs : List Snd) (L : List (Nat × Nat)) : Nat → List T3
  | 0 => []
  | k + 1 => turnTo xs L k ++ match L[k]? with
    | some x => turnF xs x
    | none => []
theorem turnTo_succ {xs : List Snd} {L : List (Nat × Nat)} {k f : Nat} {x : Nat × Nat} {s t : Snd} (h : L[k]? = some x) (h1 : xs[x.1]? = some s) (h2 : xs[x.2]? = some t) (h3 : aloneF s t = some f) :
    turnTo xs L (k + 1) = turnTo xs L k ++ [(f, getS s f, getS t f)] ++ [(f, getS t f, getS s f)] := by
  have : turnF xs x = [(f, getS s f, getS t f), (f, getS t f, getS s f)] := by unfold turnF; rw [h1, h2]; simp only; rw [h3]
  simp only [turnTo, h, this, List.append_assoc]
  rfl
theorem mem_turnTo {xs : List Snd} {L : List (Nat × Nat)} {t : T3} : ∀ {k}, t ∈ turnTo xs L k ↔ ∃ j x, j < k ∧ L[j]? = some x ∧ t ∈ turnF xs x
  | 0 => by simp [turnTo]
  | k + 1 => by
    simp only [turnTo, List.mem_append, mem_turnTo]
    constructor
    · rintro (⟨j, x, h1, h2⟩ | h)
      · exact ⟨j, x, by omega, h2⟩
      · cases hx : L[k]? with
        | none => rw [hx] at h; simp at h
        | some x => rw [hx] at h; exact ⟨k, x, by omega, hx, h⟩
    · rintro ⟨j, x, h1, h2, h3⟩
      by_cases e : j = k
      · subst e; right; rw [h2]; exact h3
      · exact .inl ⟨j, x, by omega, h2, h3⟩
def turnL (xs : List Snd) : List T3 := turnTo xs (prL xs) (prL xs).length
/-- A gap: not in the inventory; some sound with a value of a feature exchanged as in some pair. -/
def GapP (xs : List Snd) (g : Snd) : Prop := g ∉ xs ∧ ∃ x ∈ xs, ∃ y ∈ xs, ∃ f, aloneF x y = some f ∧ ∃ s ∈ xs, getS s f = getS x f ∧ g = putS s f (getS y f)
theorem diffS_comm (a b : Snd) : diffS a b = diffS b a := by simp [diffS, BitVec.xor_comm]
theorem alone_comm (a b : Snd) : aloneF a b = aloneF b a := by unfold aloneF; rw [diffS_comm]
theorem alone_self (a : Snd) : aloneF a a = none := by
  cases e : aloneF a a with
  | none => rfl
  | some f =>
    obtain ⟨h1, h2⟩ := aloneTo_some e
    rw [diffS_zero.2 rfl] at h2
    have := bt_self f (by omega)
    rw [← h2] at this; simp at this
theorem mem_turnF {xs : List Snd} {x : Nat × Nat} {t : T3} : t ∈ turnF xs x ↔ ∃ s u f, xs[x.1]? = some s ∧ xs[x.2]? = some u ∧ aloneF s u = some f ∧ (t = (f, getS s f, getS u f) ∨ t = (f, getS u f, getS s f)) := by
  unfold turnF
  cases h1 : xs[x.1]? with
  | none => simp
  | some s =>
    cases h2 : xs[x.2]? with
    | none => simp
    | some u =>
      simp only
      cases h3 : aloneF s u with
      | none => simp [h3]
      | some f => simp [h3]
theorem gap_turns {xs : List Snd} (hc : chkI 256 xs = 0) {g : Snd} : GapP xs g ↔ ∃ t ∈ turnL xs, g ∈ gapsOf xs t := by
  have hok := (chkI_zero hc).2.1
  have hpr : prL xs = pairL xs := by unfold prL; rw [if_pos hc]
  constructor
  · rintro ⟨hg, x, hx, y, hy, f, hf, s, hs, h1, h2⟩
    obtain ⟨i, hi⟩ := List.getElem?_of_mem hx
    obtain ⟨j, hj⟩ := List.getElem?_of_mem hy
    have hij : i ≠ j := fun e => by
      subst e; rw [hi] at hj; cases hj
      rw [alone_self] at hf; cases hf
    have hil := (List.getElem?_eq_some_iff.1 hi).1
    have hjl := (List.getElem?_eq_some_iff.1 hj).1
    have hone : cntB (diffS x y) = 1 := by
      have := alone_one (hok x hx) (hok y hy)
      rw [hf] at this
      exact of_decide_eq_true this.symm
    refine ⟨(f, getS x f, getS y f), ?_, mem_gapsOf.2 ⟨hg, s, hs, h1, h2⟩⟩
    unfold turnL
    rcases Nat.lt_or_gt_of_ne hij with h | h
    · have hm : (i, j) ∈ prL xs := by rw [hpr]; exact mem_pairTo.2 ⟨hil, h, hjl, by rw [adjB_at hi hj]; simpa using hone⟩
      obtain ⟨k, hk⟩ := List.getElem?_of_mem hm
      exact mem_turnTo.2 ⟨k, _, (List.getElem?_eq_some_iff.1 hk).1, hk, mem_turnF.2 ⟨x, y, f, hi, hj, hf, .inl rfl⟩⟩
    · have hm : (j, i) ∈ prL xs := by rw [hpr]; exact mem_pairTo.2 ⟨hjl, h, hil, by rw [adjB_at hj hi, diffS_comm]; simpa using hone⟩
      obtain ⟨k, hk⟩ := List.getElem?_of_mem hm
      exact mem_turnTo.2 ⟨k, _, (List.getElem?_eq_some_iff.1 hk).1, hk, mem_turnF.2 ⟨y, x, f, hj, hi, by rw [alone_comm]; exact hf, .inr rfl⟩⟩
  · rintro ⟨t, ht, hg⟩
    obtain ⟨h1, s, hs, h2, h3⟩ := mem_gapsOf.1 hg
    obtain ⟨k, x, _, _, hx⟩ := mem_turnTo.1 ht
    obtain ⟨a, b, f, ha, hb, hf, h | h⟩ := mem_turnF.1 hx
    · subst h; exact ⟨h1, a, List.mem_of_getElem? ha, b, List.mem_of_getElem? hb, f, hf, s, hs, h2, h3⟩
    · subst h; exact ⟨h1, b, List.mem_of_getElem? hb, a, List.mem_of_getElem? ha, f, by rw [alone_comm]; exact hf, s, hs, h2, h3⟩
/-- The gaps, in strict order. -/
def SrtG (xs L : List Snd) : Prop := L.Pairwise (fun x y => cmpS x y < 0) ∧ ∀ g, g ∈ L ↔ GapP xs g
theorem SrtG.uniq {xs L L' : List Snd} (h : SrtG xs L) (h' : SrtG xs L') : L = L' := strict_uniq cmpS_tot h.1 h'.1 fun s => (h.2 s).trans (h'.2 s).symm
def RetG (xs : List Snd) (w : World) (e : Ending) (w' : World) : Prop :=
  ∃ v L, e = .returned (.tuple #[v, .int .i64 (chkI 256 xs)]) ∧ OwnS w.heap.size 27 w' v L ∧ (chkI 256 xs = 0 → SrtG xs L) ∧ (chkI 256 xs ≠ 0 → L = []) ∧ Ext w w'
/-! ### Keys -/
theorem keyed_t3 : Keyed Tryd.prog 84 := Keyed.of_law (deep_law_laid (by kernel_rfl) (m := 2) (by omega) (of_decide_eq_true (by kernel_rfl)) (by kernel_rfl) (by rw [Tryd.underlying84]))
def klT (x : T3) : Lit := .string (keyBytes [.int .i64 (x.1 : Int), .int .i64 x.2.1, .int .i64 x.2.2])
abbrev mkT (x : Int × Int × Int) : Value := .agg #[.int .i64 x.1, .int .i64 x.2.1, .int .i64 x.2.2]
theorem wf_small (x : Int) (h : -5000 ≤ x ∧ x ≤ 5000) : (Lit.int .i64 x).wf = true := by
  have h0 : IntKind.i64.min = -9223372036854775808 := by decide
  have h1 : IntKind.i64.max = 9223372036854775807 := by decide
  show (decide (IntKind.i64.min ≤ x) && decide (x ≤ IntKind.i64.max)) = true
  rw [h0, h1, Bool.and_eq_true, decide_eq_true_eq, decide_eq_true_eq]; omega
theorem keyT3 (a b c : Int) (ha : (Lit.int .i64 a).wf = true) (hb : (Lit.int .i64 b).wf = true) (hc : (Lit.int .i64 c).wf = true) : keyOf Tryd.prog 84 (mkT (a, b, c)) = some (.string (keyBytes [.int .i64 a, .int .i64 b, .int .i64 c])) := by
  have hk : Tryd.prog.keyType 84 = true := by kernel_rfl
  have hc1 : Tryd.prog.cellsOf 3 = 1 := by kernel_rfl
  have hc3 : Tryd.prog.cellsOf 84 = 3 := by kernel_rfl
  obtain ⟨d, hd⟩ : ∃ d, Tryd.prog.types.size = d + 1 := ⟨Tryd.prog.types.size - 1, by have : 0 < Tryd.prog.types.size := of_decide_eq_true (by kernel_rfl); omega⟩
  unfold keyOf
  rw [Tryd.underlying84, hd]
  have hr : List.range 3 = [0, 1, 2] := by decide
  simp [hk, Value.formed, Tryd.underlying84, hc3, Program.keyLits, Tryd.underlying3, hc1, ha, hb, hc, Value.cells, hr]
theorem three_of {α : Type} {l : List α} (h : l.length = 3) : ∃ x y z, l = [x, y, z] := by
  match l, h with
  | [x, y, z], _ => exact ⟨x, y, z, rfl⟩
theorem keyT3_inv {key : Value} {kl : Lit} (h : keyOf Tryd.prog 84 key = some kl) : ∃ a b c, key = mkT (a, b, c) ∧ (Lit.int .i64 a).wf = true ∧ (Lit.int .i64 b).wf = true ∧ (Lit.int .i64 c).wf = true := by
  have hk : Tryd.prog.keyType 84 = true := by kernel_rfl
  have hc1 : Tryd.prog.cellsOf 3 = 1 := by kernel_rfl
  have hc3 : Tryd.prog.cellsOf 84 = 3 := by kernel_rfl
  obtain ⟨d, hd⟩ : ∃ d, Tryd.prog.types.size = d + 1 := ⟨Tryd.prog.types.size - 1, by have : 0 < Tryd.prog.types.size := of_decide_eq_true (by kernel_rfl); omega⟩
  have hr : List.range 3 = [0, 1, 2] := by decide
  have hun := Tryd.underlying84
  unfold keyOf at h
  generalize Tryd.prog.underlying 84 = U at h hun
  subst hun
  replace h : (if (Tryd.prog.keyType 84 && key.formed Tryd.prog 84) = true then (Tryd.prog.keyLits (Tryd.prog.types.size + 1) 84 key.cells.toList).map (fun ls => Lit.string (keyBytes ls)) else none) = some kl := h
  rw [hk, Bool.true_and] at h
  by_cases hf : key.formed Tryd.prog 84 = true
  · rw [if_pos hf] at h
    obtain ⟨ls, hls, _⟩ := Option.map_eq_some_iff.1 h
    cases key with
    | agg cs =>
      have hsz : cs.size = 3 := by
        have hun := Tryd.underlying84
        unfold Value.formed at hf
        generalize Tryd.prog.underlying 84 = U at hf hun
        subst hun
        replace hf : (cs.size == Tryd.prog.cellsOf 84) = true := hf
        rw [hc3] at hf; simpa using hf
      obtain ⟨l⟩ := cs
      have hl3 : l.length = 3 := hsz
      obtain ⟨x, y, z, rfl⟩ := three_of hl3
      · clear hf h hsz hl3
        replace hls : Tryd.prog.keyLits (Tryd.prog.types.size + 1) 84 [x, y, z] = some ls := hls
        rw [hd] at hls
        have hun := Tryd.underlying84
        unfold Program.keyLits at hls
        generalize Tryd.prog.underlying 84 = U at hls hun
        subst hun
        replace hls : (if [x, y, z].length = Tryd.prog.cellsOf 84 then ((List.range 3).mapM fun i => Tryd.prog.keyLits (d + 1) 3 (([x, y, z].drop (i * Tryd.prog.cellsOf 3)).take (Tryd.prog.cellsOf 3))).map List.flatten else none) = some ls := hls
        rw [hc3, if_pos (show [x, y, z].length = 3 from rfl), hr, hc1] at hls
        have one : ∀ v, (Tryd.prog.keyLits (d + 1) 3 [v]).isSome = true → ∃ a, v = .int .i64 a ∧ (Lit.int .i64 a).wf = true := fun v hv => by
          have hun := Tryd.underlying3
          unfold Program.keyLits at hv
          generalize Tryd.prog.underlying 3 = U at hv hun
          subst hun
          cases v with
          | int q a =>
            replace hv : (if q = .i64 ∧ (Lit.int .i64 a).wf = true then some [Lit.int .i64 a] else none).isSome = true := hv
            split at hv
            · rename_i h1; exact ⟨a, by rw [h1.1], h1.2⟩
            · cases hv
          | _ => cases hv
        simp only [List.mapM_cons, List.mapM_nil] at hls
        cases e1 : Tryd.prog.keyLits (d + 1) 3 [x] with
        | none => exfalso; simp [e1] at hls
        | some l1 =>
          cases e2 : Tryd.prog.keyLits (d + 1) 3 [y] with
          | none => exfalso; simp [e1, e2] at hls
          | some l2 =>
            cases e3 : Tryd.prog.keyLits (d + 1) 3 [z] with
            | none => exfalso; simp [e1, e2, e3] at hls
            | some l3 =>
              obtain ⟨a, rfl, ha⟩ := one x (by rw [e1]; rfl)
              obtain ⟨b, rfl, hb⟩ := one y (by rw [e2]; rfl)
              obtain ⟨c, rfl, hc⟩ := one z (by rw [e3]; rfl)
              exact ⟨a, b, c, rfl, ha, hb, hc⟩
    | _ =>
      have hun := Tryd.underlying84
      unfold Value.formed at hf
      generalize Tryd.prog.underlying 84 = U at hf hun
      subst hun
      cases hf
  · rw [if_neg hf] at h; cases h
end Go.Proofs.YtbnbfdbliokcaaaDoor
