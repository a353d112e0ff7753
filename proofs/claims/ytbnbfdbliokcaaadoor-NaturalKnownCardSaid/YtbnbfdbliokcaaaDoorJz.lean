/-
  natural.Gaps, walked.
-/
import Derived.Test.YtbnbfdbliokcaaaDoorJy
namespace Go.Proofs.YtbnbfdbliokcaaaDoor
open Go.RowKit Go.Maps Go.MapKept Go.ChangeMaps
/-! ### Keys that are small -/
/-- A triple that fits. -/
abbrev ST := {x : T3 // x.1 ≤ 5000 ∧ (-5000 ≤ x.2.1 ∧ x.2.1 ≤ 5000) ∧ (-5000 ≤ x.2.2 ∧ x.2.2 ≤ 5000)}
def klU (x : ST) : Lit := klT x.1
theorem keyU (x : ST) : keyOf Tryd.prog 84 (mkT ((x.1.1 : Int), x.1.2.1, x.1.2.2)) = some (klU x) := by
  obtain ⟨⟨a, b, c⟩, h1, h2, h3⟩ := x
  have h1' : a ≤ 5000 := h1
  exact keyT3 _ _ _ (wf_small (a : Int) ⟨by omega, by omega⟩) (wf_small _ h2) (wf_small _ h3)
theorem klU_inj (x y : ST) (h : klU x = klU y) : x = y := by
  have hx := keyU x
  rw [h] at hx
  have := keyed_t3.inj hx (keyU y)
  obtain ⟨⟨a, b, c⟩, _⟩ := x
  obtain ⟨⟨a', b', c'⟩, _⟩ := y
  simp only [Value.agg.injEq] at this
  simp at this
  obtain ⟨h1, h2, h3⟩ := this
  subst h2; subst h3
  have : a = a' := by omega
  subst this; rfl
theorem klU_lit (x : ST) : WideAt.IsKeyLit (klU x) := isKeyLit_string _
def fT (TA : List T3) (x : ST) : Option Lit := if x.1 ∈ TA then some (.int .i64 ((TA.count x.1 : Nat) : Int)) else none
theorem fT_get (TA : List T3) (x : ST) : (fT TA x).getD (.int .i64 0) = .int .i64 ((TA.count x.1 : Nat) : Int) := by
  unfold fT
  split
  · rfl
  · rename_i h; rw [List.count_eq_zero_of_not_mem h]; rfl
theorem fT_snoc (TA : List T3) (x : ST) : (fun y => if y = x then some (Lit.int .i64 (((TA.count x.1 : Nat) : Int) + 1)) else fT TA y) = fT (TA ++ [x.1]) := by
  funext y
  unfold fT
  by_cases e : y = x
  · subst e
    rw [if_pos rfl, if_pos (by simp), List.count_append]
    simp
  · have e1 : y.1 ≠ x.1 := fun h => e (Subtype.ext h)
    rw [if_neg e, List.count_append]
    have h1 : (y.1 ∈ TA ++ [x.1]) ↔ y.1 ∈ TA := by simp [e1]
    by_cases hm : y.1 ∈ TA
    · rw [if_pos hm, if_pos (h1.2 hm), List.count_singleton]
      have : (x.1 == y.1) = false := by simpa using fun h => e1 h.symm
      rw [this]; simp
    · rw [if_neg hm, if_neg (fun h => hm (h1.1 h))]
theorem ctz_bt : ∀ f : Fin 24, Lib.ctz 32 (bt f.1).toNat = f.1 := by decide +kernel
theorem bt_ne (f : Nat) (hf : f < 32) : (bt f).toNat ≠ 0 := fun h => by
  have : bt f = 0#32 := BitVec.eq_of_toNat_eq (by simpa using h)
  have h2 := bt_self f hf
  rw [this] at h2; simp at h2
theorem Ext.to_grown {w w' : World} (h : Ext w w') : w.grownBy w' none := ⟨h.bel.os, h.bel.tape, h.bel.output, h.bel.size, fun i hi _ => h.bel.block i hi⟩
theorem OwnK.ne_obj {α : Type} {k : Nat} {enc : α → List Value} {B0 B : Nat} {e : TypeId} {w : World} {v : Value} {xs : List α} {o : Obj} (h : OwnK k enc B0 e w v xs) (hB : w.heap[B]? = some o) (hne : ∀ cs e fr, o ≠ .cells cs e fr) : some B ≠ v.ownBlock := by
  rcases h.2 with ⟨rfl, _⟩ | ⟨g, cap, cur, rfl, _, hh, _⟩
  · intro h; cases h
  · intro h
    have : B = g := by simpa [Value.ownBlock] using h
    subst this
    rw [hB] at hh
    injection hh with h1
    exact hne _ _ _ h1
theorem turnTo_len (xs : List Snd) (L : List (Nat × Nat)) : ∀ k, (turnTo xs L k).length ≤ 2 * k
  | 0 => by simp [turnTo]
  | k + 1 => by
    have := turnTo_len xs L k
    simp only [turnTo, List.length_append]
    have h2 : ∀ x, (turnF xs x).length ≤ 2 := fun x => by
      unfold turnF
      split
      · split <;> simp
      · simp
    split
    · rename_i x _; have := h2 x; omega
    · simp; omega
/-- What natural.Gaps has laid of the turns. -/
abbrev MT (W : World) (Bm n : Nat) (TA : List T3) : Prop := ∃ c, MapC Tryd.prog 84 3 klU W Bm n c (fT TA)
/-- 'turns[x]++', operation by operation, as a whole. -/
theorem MT.inc {W : World} {Bm n : Nat} {TA : List T3} (h : MT W Bm n TA) (x : ST) (hn : n < maxLen) (hc : TA.length ≤ 1000000) :
    ∃ (v : Int) (v0 : Value) (st : Nat) (es1 es2 : Array MapEntry) (clk1 clk2 : Nat), (0 ≤ v ∧ v ≤ 1000000) ∧ (∃ es clk, W.heap[Bm]? = some (.map es clk)) ∧
      (Instr.mapEntry 83 (.map (some Bm)) (mkT ((x.1.1 : Int), x.1.2.1, x.1.2.2))).run Tryd.prog W = .ok (.tuple #[v0, goInt st]) (setBlock W Bm (.map es1 clk1)) ∧
      (∀ w2 : World, (w2.heap[Bm]? = W.heap[Bm]? ∨ w2.heap[Bm]? = some (.map es1 clk1)) → (Instr.lookup 83 (.map (some Bm)) (mkT ((x.1.1 : Int), x.1.2.1, x.1.2.2)) false).run Tryd.prog w2 = .ok (.int .i64 v) w2) ∧
      (∀ w2 : World, w2.heap[Bm]? = some (.map es1 clk1) → (Instr.entryStore 83 (.map (some Bm)) (goInt st) (.int .i64 (v + 1))).run Tryd.prog w2 = .ok () (setBlock w2 Bm (.map es2 clk2)) ∧
        MT (setBlock w2 Bm (.map es2 clk2)) Bm (n + 1) (TA ++ [x.1])) := by
  obtain ⟨c, h⟩ := h
  have hle := List.count_le_length (a := x.1) (l := TA)
  have hget := fT_get TA x
  obtain ⟨v0, st, es1, es2, clk1, clk2, hb, r1, r2, r3⟩ := h.inc (t := 83) keyed_t3 Tryd.underlying83 Tryd.underlying3 zero_int hn klU_inj klU_lit (keyU x) hget (by omega)
  refine ⟨((TA.count x.1 : Nat) : Int), v0, st, es1, es2, clk1, clk2, ⟨by omega, by omega⟩, hb, r1, r2, fun w2 hw2 => ?_⟩
  obtain ⟨s1, s2⟩ := r3 w2 hw2
  rw [fT_snoc] at s2
  exact ⟨s1, _, s2⟩
theorem MT.kept {W W' : World} {Bm n : Nat} {TA : List T3} (h : MT W Bm n TA) (hx : Ext W W') : MT W' Bm n TA := let ⟨c, h⟩ := h; ⟨c, h.kept hx⟩
theorem MT.lt {W : World} {Bm n : Nat} {TA : List T3} (h : MT W Bm n TA) : Bm < W.heap.size := let ⟨_, h⟩ := h; h.lt
theorem turnF_small {xs : List Snd} {x : Nat × Nat} {t : T3} (h : t ∈ turnF xs x) : t.1 < 24 ∧ (t.2.1 = 0 ∨ t.2.1 = 1 ∨ t.2.1 = -1) ∧ (t.2.2 = 0 ∨ t.2.2 = 1 ∨ t.2.2 = -1) := by
  obtain ⟨a, b, f, _, _, hf, h | h⟩ := mem_turnF.1 h
  · subst h; exact ⟨(aloneTo_some hf).1, getS_range _ _, getS_range _ _⟩
  · subst h; exact ⟨(aloneTo_some hf).1, getS_range _ _, getS_range _ _⟩
theorem small_of {f : Nat} {a b : Int} (hf : f < 24) (ha : a = 0 ∨ a = 1 ∨ a = -1) (hb : b = 0 ∨ b = 1 ∨ b = -1) : f ≤ 5000 ∧ (-5000 ≤ a ∧ a ≤ 5000) ∧ (-5000 ≤ b ∧ b ≤ 5000) := by omega
/-- A triple in a box. -/
def TriB (w : World) (B : Nat) (t : T3) : Prop := w.heap[B]? = some (.cells #[.int .i64 (t.1 : Int), .int .i64 t.2.1, .int .i64 t.2.2] 84 (0, 0))
theorem TriB.ext {w w' : World} {B : Nat} {t : T3} (h : TriB w B t) (hx : Ext w w') : TriB w' B t := (Below.block hx.bel B (Array.getElem?_eq_some_iff.1 h).1).trans h
theorem TriB.lt {w : World} {B : Nat} {t : T3} (h : TriB w B t) : B < w.heap.size := (Array.getElem?_eq_some_iff.1 h).1
theorem TriB.cells {w : World} {B : Nat} {t : T3} (h : TriB w B t) : w.cell? ⟨B, 0, none⟩ = some (.int .i64 (t.1 : Int)) ∧ w.cell? ⟨B, 1, none⟩ = some (.int .i64 t.2.1) ∧ w.cell? ⟨B, 2, none⟩ = some (.int .i64 t.2.2) := by
  unfold TriB at h
  refine ⟨?_, ?_, ?_⟩ <;> simp only [World.cell?] <;> rw [h] <;> rfl
theorem TriB.grown {w w' : World} {B : Nat} {t : T3} {row : Option Nat} (h : TriB w B t) (hg : w.grownBy w' row) (hr : some B ≠ row) : TriB w' B t := (hg.block B h.lt hr).trans h
theorem ranges_has {w : World} {P : Program} {k : TypeId} {R : Value → Option (DataW Unit × List MemPlace)} {b r n : Nat} {D : DataW Unit} {left : Lit → Bool} {cnt : Nat} (h : w.ranges P k R b r n D left cnt) (K : Keyed P k) {kl : Lit} (hl : left kl = true) : Maps.has D kl = true := by
  obtain ⟨es, clock, since, seen, c0, hb, F, hs, hD, hr, hold, hc, hl1, hl2, hsc, hsk⟩ := h
  obtain ⟨x, hx, rfl⟩ := hl2 kl hl
  obtain ⟨y, hy⟩ := F.reads x hx
  rw [hD]
  exact List.any_eq_true.2 ⟨Go.WideElems.rg P k R x, mem_sorted.2 (List.mem_map.2 ⟨x, hx, rfl⟩), WideAt.sameKey_self (by rw [Go.WideElems.rg_of hy]; exact K.key (Go.WideElems.rd_key hy))⟩
theorem compact_none (cap : Nat) (w : World) : Calls Tryd.prog 63 #[.slice none 0 cap] w fun e w' => e = .returned (.slice none 0 cap) ∧ w' = w := by
  go_enter Tryd.func63, Tryd.ntmps63
  go_wp2_with fail
  go_ret
  exact ⟨rfl, rfl⟩
end Go.Proofs.YtbnbfdbliokcaaaDoor
