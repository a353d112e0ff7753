/-
  Cells of correspondences: read, compared.
-/
import Derived.Test.YtjfhfbobnncpkaaDoorFv
namespace Go.Proofs.YtjfhfbobnncpkaaDoor
open Go.RowKit
def nulS : Snd := ⟨0, 0⟩
/-- A cell: its kind, and its sound. -/
structure Cl where
  kind : Int
  s : Snd
deriving DecidableEq
def Cl.enc (c : Cl) : List Value := [.int .i64 c.kind, .int .u32 c.s.p.toNat, .int .u32 c.s.m.toNat]
theorem Cl.len (c : Cl) : c.enc.length = 3 := rfl
theorem Cl.one (c : Cl) : ∀ u ∈ c.enc, u.oneCell' = true := by intro u hu; simp [Cl.enc] at hu; rcases hu with rfl | rfl | rfl <;> rfl
abbrev RdC := RdK 3 Cl.enc
abbrev OwnC := OwnK 3 Cl.enc
abbrev clV (c : Cl) : Value := .agg #[.int .i64 c.kind, .int .u32 c.s.p.toNat, .int .u32 c.s.m.toNat]
theorem RdK.cl {w : World} {a : Option Addr} {n cap : Nat} {xs : List Cl} (h : RdK 3 Cl.enc w a n cap xs) {i : Nat} (hi : i < n) :
    ∃ b off c, a = some ⟨b, off, none⟩ ∧ Hid (xs[i]? = some c) ∧ b < w.heap.size ∧ w.cell? ⟨b, off + i * 3, none⟩ = some (.int .i64 c.kind) ∧ w.cell? ⟨b, off + i * 3 + 1, none⟩ = some (.int .u32 c.s.p.toNat) ∧ w.cell? ⟨b, off + i * 3 + 2, none⟩ = some (.int .u32 c.s.m.toNat) := by
  obtain ⟨b, off, x, ha, hx, hb, hc⟩ := h.get hi
  exact ⟨b, off, x, ha, hx, hb, by simpa using hc 0 _ rfl, hc 1 _ rfl, hc 2 _ rfl⟩
theorem cl_eq_iff (c d : Cl) : c = d ↔ c.kind = d.kind ∧ c.s.p.toNat = d.s.p.toNat ∧ c.s.m.toNat = d.s.m.toNat := by
  refine ⟨fun h => by rw [h]; exact ⟨rfl, rfl, rfl⟩, fun ⟨h1, h2, h3⟩ => ?_⟩
  cases c; cases d; simp only [Cl.mk.injEq]; exact ⟨h1, (snd_eq_iff _ _).2 ⟨h2, h3⟩⟩
theorem equalIn_snd (s t : Snd) (w : World) (k : Nat) : (Op.equalIn (k + 2) 48 (.agg #[.int .u32 s.p.toNat, .int .u32 s.m.toNat]) (.agg #[.int .u32 t.p.toNat, .int .u32 t.m.toNat])).run Tryd.prog w = .ok (decide (s = t)) w := by
  have hS : Tryd.prog.underlying 48 = some (.struct (Tryd.prog.fieldsOf 48)) := by kernel_rfl
  have hp : Tryd.prog.stoodInHeld 48 = false := by kernel_rfl
  have p0 : ∀ (a b : Value) (w : World), (part 46 #[a, b] 0).run Tryd.prog w = .ok a w := fun a b w => by kernel_rfl
  have p1 : ∀ (a b : Value) (w : World), (part 46 #[a, b] 1).run Tryd.prog w = .ok b w := fun a b w => by kernel_rfl
  rw [show k + 2 = (k + 1) + 1 from rfl, run_equalIn_agg w (k + 1) 48 _ _ hS hp]
  simp [Program.fieldsOf, Tryd.underlying48, Op.eqFields, Sem.run_bind, p0, p1, Result.andThen_ok, run_equalIn_int w k 46 .u32 .u32 _ _ Tryd.underlying46]
  by_cases h1 : s.p.toNat = t.p.toNat <;> by_cases h2 : s.m.toNat = t.m.toNat <;> simp [h1, h2, snd_eq_iff] <;> omega
theorem Cl.eta2 (c d : Cl) : c = d ↔ c.kind = d.kind ∧ c.s = d.s := by cases c; cases d; simp
theorem equalIn_cl (c d : Cl) (w : World) (k : Nat) : (Op.equalIn (k + 3) 50 (clV c) (clV d)).run Tryd.prog w = .ok (decide (c = d)) w := by
  have hS : Tryd.prog.underlying 50 = some (.struct (Tryd.prog.fieldsOf 50)) := by kernel_rfl
  have hp : Tryd.prog.stoodInHeld 50 = false := by kernel_rfl
  have p0 : ∀ (a b c : Value) (w : World), (part 3 #[a, b, c] 0).run Tryd.prog w = .ok a w := fun a b c w => by kernel_rfl
  have p1 : ∀ (a b c : Value) (w : World), (part 48 #[a, b, c] 1).run Tryd.prog w = .ok (.agg #[b, c]) w := fun a b c w => by kernel_rfl
  rw [show k + 3 = (k + 2) + 1 from rfl, run_equalIn_agg w (k + 2) 50 _ _ hS hp]
  simp [Program.fieldsOf, Tryd.underlying50, Op.eqFields, Sem.run_bind, p0, p1, Result.andThen_ok, run_equalIn_int w (k + 1) 3 .i64 .i64 _ _ Tryd.underlying3, equalIn_snd c.s d.s _ k]
  by_cases h0 : c.kind = d.kind <;> by_cases h1 : c.s = d.s <;> simp [h0, h1, Cl.eta2]
theorem eql_cl (c d : Cl) (w : World) : (binOp .eql 50 (clV c) (clV d)).run Tryd.prog w = .ok (.bool (decide (c = d))) w := by
  rw [run_eql_struct, show (10000 : Nat) = 9997 + 3 from rfl, equalIn_cl]; rfl
theorem neq_cl (c d : Cl) (w : World) : (binOp .neq 50 (clV c) (clV d)).run Tryd.prog w = .ok (.bool (!decide (c = d))) w := by
  rw [run_neq_struct, show (10000 : Nat) = 9997 + 3 from rfl, equalIn_cl]; rfl
theorem info_cl : (Tryd.prog.info? 50).map (fun i => (i.zero, i.size, i.bytes)) = some (some (.agg #[.int .i64 0, .int .u32 0, .int .u32 0]), 3, 16) := by kernel_rfl
/-! ### Looked for in a list -/
/-- The first place of x; -1: there is none. -/
def idxI {α : Type} [DecidableEq α] (xs : List α) (x : α) : Int := if x ∈ xs then (xs.idxOf x : Nat) else -1
theorem idxI_at {α : Type} [DecidableEq α] {xs : List α} {x : α} {k : Nat} (hk : xs[k]? = some x) (h : ∀ (i : Nat) (y : α), i < k → xs[i]? = some y → decide (x ≠ y) = true) : idxI xs x = k := by
  have hm := List.mem_of_getElem? hk
  have hlt := (List.getElem?_eq_some_iff.1 hk).1
  unfold idxI
  rw [if_pos hm]
  have hi : xs.idxOf x < xs.length := List.idxOf_lt_length_iff.2 hm
  have he : xs[xs.idxOf x]? = some x := by rw [List.getElem?_eq_getElem hi, List.getElem_idxOf]
  congr 1
  rcases Nat.lt_trichotomy (xs.idxOf x) k with hl | hl | hl
  · have := h _ _ hl he; simp at this
  · exact hl
  · have hle : xs.idxOf x ≤ k := by
      have h2 := List.getElem?_eq_some_iff.1 hk
      have : xs.idxOf x = (xs.take k ++ xs.drop k).idxOf x := by rw [List.take_append_drop]
      rw [this, List.idxOf_append]
      split
      · rename_i hin
        have := List.idxOf_lt_length_iff.2 hin
        simp at this; omega
      · have hd : xs.drop k = x :: xs.drop (k + 1) := by rw [List.drop_eq_getElem_cons hlt, h2.2]
        rw [hd]; simp; omega
    omega
theorem idxI_none {α : Type} [DecidableEq α] {xs : List α} {x : α} {n : Nat} (hl : xs.length = n) (h : ∀ (i : Nat) (y : α), i < n → xs[i]? = some y → decide (x ≠ y) = true) : idxI xs x = -1 := by
  unfold idxI
  rw [if_neg]
  intro hm
  obtain ⟨i, hi⟩ := List.getElem?_of_mem hm
  have := h i x (by have := (List.getElem?_eq_some_iff.1 hi).1; omega) hi
  simp at this
end Go.Proofs.YtjfhfbobnncpkaaDoor
