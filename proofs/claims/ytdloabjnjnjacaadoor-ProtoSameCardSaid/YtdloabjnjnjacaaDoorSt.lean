/-
  A list of cells of the call's own, written cell by cell.
-/
import Derived.Test.YtdloabjnjnjacaaDoorPe
namespace Go.Proofs.YtdloabjnjnjacaaDoor
open Go.RowKit
/-- Block G is a list of n cells of the call's own, which reads as xs. -/
structure RowC (w : World) (G n : Nat) (xs : List Cl) : Prop where
  len : xs.length = n
  blk : ∃ cur, w.heap[G]? = some (.cells cur 40 (0, 0)) ∧ ∀ (i : Nat) (c : Cl), xs[i]? = some c → cur[i * 3]? = some (.int .i64 c.kind) ∧ cur[i * 3 + 1]? = some (.int .u32 c.s.p.toNat) ∧ cur[i * 3 + 2]? = some (.int .u32 c.s.m.toNat)
theorem RowC.lt {w : World} {G n : Nat} {xs : List Cl} (h : RowC w G n xs) : G < w.heap.size := let ⟨_, hc, _⟩ := h.blk; (Array.getElem?_eq_some_iff.1 hc).1
theorem RowC.ext {w w' : World} {G n : Nat} {xs : List Cl} (h : RowC w G n xs) (hx : Ext w w') : RowC w' G n xs :=
  ⟨h.len, let ⟨cur, hc, r⟩ := h.blk; ⟨cur, (Below.block hx.bel G h.lt).trans hc, r⟩⟩
theorem RowC.cells {w : World} {G n : Nat} {xs : List Cl} (h : RowC w G n xs) {i : Nat} (hi : i < n) : ∃ c, Hid (xs[i]? = some c) ∧ w.cell? ⟨G, i * 3, none⟩ = some (.int .i64 c.kind) ∧ w.cell? ⟨G, i * 3 + 1, none⟩ = some (.int .u32 c.s.p.toNat) ∧ w.cell? ⟨G, i * 3 + 2, none⟩ = some (.int .u32 c.s.m.toNat) := by
  obtain ⟨cur, hc, r⟩ := h.blk
  have hl := h.len
  have hx : xs[i]? = some (xs[i]'(by omega)) := List.getElem?_eq_getElem (by omega)
  obtain ⟨r0, r1, r2⟩ := r i _ hx
  refine ⟨_, Lib.hid hx, ?_, ?_, ?_⟩ <;> (simp only [World.cell?, hc]; assumption)
theorem RowC.rd {w : World} {G n : Nat} {xs : List Cl} (h : RowC w G n xs) (hn : n ≤ maxLen) : RdC w (some ⟨G, 0, none⟩) n n xs := by
  obtain ⟨cur, hc, r⟩ := h.blk
  refine ⟨h.len, Nat.le_refl _, hn, (fun h => by cases h), fun _ => ⟨G, 0, rfl, h.lt, fun i x hx j u hu => ?_⟩⟩
  obtain ⟨r0, r1, r2⟩ := r i x hx
  simp only [World.cell?, hc, Nat.zero_add]
  match j, hu with
  | 0, hu => simp [Cl.enc] at hu; subst hu; simpa using r0
  | 1, hu => simp [Cl.enc] at hu; subst hu; exact r1
  | 2, hu => simp [Cl.enc] at hu; subst hu; exact r2
  | j + 3, hu => simp [Cl.enc] at hu
theorem RowC.start (w : World) (n : Nat) : RowC (w.alloc (.cells (madeCells (Value.agg #[.int .i64 0, .int .u32 0, .int .u32 0]).cells (n * 3)) 40)) w.heap.size n (List.replicate n zerC) := by
  refine ⟨List.length_replicate, _, World.alloc_heap_new w _, fun i c hi => ?_⟩
  rw [List.getElem?_replicate] at hi
  split at hi
  · rename_i hlt
    cases hi
    have e : (Value.agg #[.int .i64 0, .int .u32 0, .int .u32 0]).cells = #[.int .i64 0, .int .u32 0, .int .u32 0] := by kernel_rfl
    rw [e]
    refine ⟨?_, ?_, ?_⟩
    · simp [madeCells, zerC, nulS, show i * 3 < n * 3 by omega]
    · simp [madeCells, zerC, nulS, show i * 3 + 1 < n * 3 by omega]
    · simp [madeCells, zerC, nulS, show i * 3 + 2 < n * 3 by omega]
  · cases hi
/-- One cell is written. -/
theorem RowC.set {w : World} {G n : Nat} {xs : List Cl} (h : RowC w G n xs) {i : Nat} (hi : i < n) (c : Cl) :
    RowC (((w.setCell ⟨G, i * 3, none⟩ (.int .i64 c.kind)).setCell ⟨G, i * 3 + 1, none⟩ (.int .u32 c.s.p.toNat)).setCell ⟨G, i * 3 + 2, none⟩ (.int .u32 c.s.m.toNat)) G n (xs.set i c) := by
  obtain ⟨cur, hc, r⟩ := h.blk
  have hl := h.len
  refine ⟨by simp [hl], _, heap_set (heap_set (heap_set hc _) _) _, fun j d hj => ?_⟩
  have hx : xs[i]? = some (xs[i]'(by omega)) := List.getElem?_eq_getElem (by omega)
  obtain ⟨r0, r1, r2⟩ := r i _ hx
  have s0 := (Array.getElem?_eq_some_iff.1 r0).1
  have s1 := (Array.getElem?_eq_some_iff.1 r1).1
  have s2 := (Array.getElem?_eq_some_iff.1 r2).1
  by_cases e : i = j
  · subst e
    rw [List.getElem?_set_self (by omega)] at hj
    cases hj
    refine ⟨?_, ?_, ?_⟩
    · rw [Array.getElem?_setIfInBounds_ne (by omega), Array.getElem?_setIfInBounds_ne (by omega), Array.getElem?_setIfInBounds_self_of_lt (by simpa using s0)]
    · rw [Array.getElem?_setIfInBounds_ne (by omega), Array.getElem?_setIfInBounds_self_of_lt (by simpa using s1)]
    · rw [Array.getElem?_setIfInBounds_self_of_lt (by simpa using s2)]
  · rw [List.getElem?_set_ne e] at hj
    obtain ⟨t0, t1, t2⟩ := r j d hj
    refine ⟨?_, ?_, ?_⟩
    · rw [Array.getElem?_setIfInBounds_ne (by omega), Array.getElem?_setIfInBounds_ne (by omega), Array.getElem?_setIfInBounds_ne (by omega)]; exact t0
    · rw [Array.getElem?_setIfInBounds_ne (by omega), Array.getElem?_setIfInBounds_ne (by omega), Array.getElem?_setIfInBounds_ne (by omega)]; exact t1
    · rw [Array.getElem?_setIfInBounds_ne (by omega), Array.getElem?_setIfInBounds_ne (by omega), Array.getElem?_setIfInBounds_ne (by omega)]; exact t2
theorem RowC.frz {w : World} {G n : Nat} {xs : List Cl} (h : RowC w G n xs) : (∀ i, w.frozen? ⟨G, i, none⟩ = false) ∧ (∀ i j v, (w.setCell ⟨G, j, none⟩ v).frozen? ⟨G, i, none⟩ = false) ∧ ∀ i j k v v', ((w.setCell ⟨G, j, none⟩ v).setCell ⟨G, k, none⟩ v').frozen? ⟨G, i, none⟩ = false := by
  obtain ⟨cur, hc, _⟩ := h.blk
  exact frz3 hc
end Go.Proofs.YtdloabjnjnjacaaDoor
