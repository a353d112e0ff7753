/-
  Small words that all chapters share: returned values, rounds of a loop over a list, sounds compared, slices of integers, strings by bytes.
-/
import Derived.Test.YtjfhfbobnncpkaaDoorProg
import Derived.Test.YtjfhfbobnncpkaaDoorQt
import Derived.Test.YtjfhfbobnncpkaaDoorApp
import Derived.Test.YtjfhfbobnncpkaaDoorMk
import Derived.Test.YtjfhfbobnncpkaaDoorMap
import Derived.Laws.StructEq
namespace Go.Proofs.YtjfhfbobnncpkaaDoor
open Go.RowKit
theorem ret_bool {a b : Bool} (h : a = b) : Ending.returned (.bool a) = .returned (.bool b) := by rw [h]
theorem ret_int {k : IntKind} {a b : Int} (h : a = b) : Ending.returned (.int k a) = .returned (.int k b) := by rw [h]
theorem all_succ {α : Type} {xs : List α} {p : α → Bool} {k : Nat} {s : α} (h : ∀ (i : Nat) (x : α), i < k → xs[i]? = some x → p x = true) (hs : xs[k]? = some s) (hp : p s = true) : ∀ (i : Nat) (x : α), i < k + 1 → xs[i]? = some x → p x = true := by
  intro i x hi hx
  by_cases e : i = k
  · subst e; rw [hs] at hx; cases hx; exact hp
  · exact h i x (by omega) hx
theorem all_of_each {α : Type} {xs : List α} {p : α → Bool} {n : Nat} (hl : xs.length = n) (h : ∀ (i : Nat) (x : α), i < n → xs[i]? = some x → p x = true) : xs.all p = true := by
  rw [List.all_eq_true]; intro x hx
  obtain ⟨i, hi⟩ := List.getElem?_of_mem hx
  exact h i x (by have := (List.getElem?_eq_some_iff.1 hi).1; omega) hi
theorem all_not {α : Type} {xs : List α} {p : α → Bool} {i : Nat} {x : α} (hi : xs[i]? = some x) (hp : p x = false) : xs.all p = false := by
  rw [List.all_eq_false]; exact ⟨x, List.mem_of_getElem? hi, by simp [hp]⟩
section
variable {α : Type} {xs ys : List α} {n k : Nat}
theorem eq_succ (h : xs.take k = ys.take k) {s : α} (h1 : xs[k]? = some s) (h2 : ys[k]? = some s) : xs.take (k + 1) = ys.take (k + 1) := by
  rw [List.take_add_one, List.take_add_one, h, h1, h2]
theorem eq_end (hx : xs.length = n) (hy : ys.length = n) (hk : ¬ k < n) (h : xs.take k = ys.take k) : xs = ys := by
  rwa [List.take_of_length_le (by omega), List.take_of_length_le (by omega)] at h
theorem ne_at {s t : α} (h1 : xs[k]? = some s) (h2 : ys[k]? = some t) (h : s ≠ t) : xs ≠ ys := by
  rintro rfl; rw [h1] at h2; exact h (Option.some.inj h2)
theorem ne_len {m : Nat} (hx : xs.length = n) (hy : ys.length = m) (h : n ≠ m) : xs ≠ ys := by rintro rfl; exact h (hx.symm.trans hy)
end
theorem take_succ_at {α : Type} {xs : List α} {k : Nat} {x : α} (h : xs[k]? = some x) : xs.take (k + 1) = xs.take k ++ [x] := by
  rw [List.take_add_one, h]; rfl
/-- The element at a place, and its cells. -/
theorem RdK.get {α : Type} {k : Nat} {enc : α → List Value} {w : World} {a : Option Addr} {n cap : Nat} {xs : List α} (h : RdK k enc w a n cap xs) {i : Nat} (hi : i < n) :
    ∃ b off x, a = some ⟨b, off, none⟩ ∧ Hid (xs[i]? = some x) ∧ b < w.heap.size ∧ ∀ j u, (enc x)[j]? = some u → w.cell? ⟨b, off + i * k + j, none⟩ = some u := by
  obtain ⟨b, off, ha, hb, hc⟩ := h.pos (by omega)
  have hl := h.len
  have hs : xs[i]? = some xs[i] := List.getElem?_eq_getElem (by omega)
  exact ⟨b, off, xs[i], ha, hs, hb, hc i _ hs⟩
/-! ### Sounds -/
/-- A sound is valid: no feature has both values, and all its features are below 24. -/
def Snd.ok (s : Snd) : Bool := (s.p.toNat &&& s.m.toNat == 0) && decide ((s.p.toNat ||| s.m.toNat) < 16777216)
theorem snd_eq_iff (s t : Snd) : s = t ↔ s.p.toNat = t.p.toNat ∧ s.m.toNat = t.m.toNat := by
  refine ⟨fun h => by rw [h]; exact ⟨rfl, rfl⟩, fun ⟨h1, h2⟩ => ?_⟩
  cases s; cases t; simp only [Snd.mk.injEq]; exact ⟨BitVec.eq_of_toNat_eq h1, BitVec.eq_of_toNat_eq h2⟩
theorem eql_snd (s t : Snd) (w : World) : (binOp .eql 48 (.agg #[.int .u32 s.p.toNat, .int .u32 s.m.toNat]) (.agg #[.int .u32 t.p.toNat, .int .u32 t.m.toNat])).run Tryd.prog w = .ok (.bool (decide (s = t))) w := by
  have hS : Tryd.prog.underlying 48 = some (.struct (Tryd.prog.fieldsOf 48)) := by kernel_rfl
  have hp : Tryd.prog.stoodInHeld 48 = false := by kernel_rfl
  rw [run_eql_struct, show (10000 : Nat) = 9999 + 1 from rfl, run_equalIn_agg w 9999 48 _ _ hS hp]
  simp only [Program.fieldsOf, Tryd.underlying48]
  go_simp
  by_cases h1 : s.p.toNat = t.p.toNat <;> by_cases h2 : s.m.toNat = t.m.toNat <;> simp [h1, h2, snd_eq_iff] <;> omega
theorem neq_snd (s t : Snd) (w : World) : (binOp .neq 48 (.agg #[.int .u32 s.p.toNat, .int .u32 s.m.toNat]) (.agg #[.int .u32 t.p.toNat, .int .u32 t.m.toNat])).run Tryd.prog w = .ok (.bool (!decide (s = t))) w := by
  have hS : Tryd.prog.underlying 48 = some (.struct (Tryd.prog.fieldsOf 48)) := by kernel_rfl
  have hp : Tryd.prog.stoodInHeld 48 = false := by kernel_rfl
  rw [run_neq_struct, show (10000 : Nat) = 9999 + 1 from rfl, run_equalIn_agg w 9999 48 _ _ hS hp]
  simp only [Program.fieldsOf, Tryd.underlying48]
  go_simp
  by_cases h1 : s.p.toNat = t.p.toNat <;> by_cases h2 : s.m.toNat = t.m.toNat <;> simp [h1, h2, snd_eq_iff] <;> omega
theorem info_snd : (Tryd.prog.info? 48).map (fun i => (i.zero, i.size, i.bytes)) = some (some (.agg #[.int .u32 0, .int .u32 0]), 2, 8) := by kernel_rfl
theorem Snd.one (s : Snd) : ∀ u ∈ s.enc, u.oneCell' = true := by intro u hu; simp [Snd.enc] at hu; rcases hu with rfl | rfl <;> rfl
theorem div24 (x : Nat) : ((x : Int) / 16777216 == 0) = decide (x < 16777216) := by
  rw [Bool.eq_iff_iff]; simp only [beq_iff_eq, decide_eq_true_eq]; omega
/-! ### Integers -/
/-- An int in a cell. -/
def I64.enc (x : Int) : List Value := [.int .i64 x]
theorem I64.len (x : Int) : (I64.enc x).length = 1 := rfl
theorem I64.one (x : Int) : ∀ u ∈ I64.enc x, u.oneCell' = true := by intro u hu; simp [I64.enc] at hu; subst hu; rfl
abbrev RdI := RdK 1 I64.enc
abbrev OwnI := OwnK 1 I64.enc
theorem RdK.i64 {w : World} {a : Option Addr} {n cap : Nat} {xs : List Int} (h : RdK 1 I64.enc w a n cap xs) {i : Nat} (hi : i < n) :
    ∃ b off x, a = some ⟨b, off, none⟩ ∧ Hid (xs[i]? = some x) ∧ b < w.heap.size ∧ w.cell? ⟨b, off + i, none⟩ = some (.int .i64 x) := by
  obtain ⟨b, off, x, ha, hx, hb, hc⟩ := h.get hi
  exact ⟨b, off, x, ha, hx, hb, by have := hc 0 _ rfl; simpa using this⟩
end Go.Proofs.YtjfhfbobnncpkaaDoor
