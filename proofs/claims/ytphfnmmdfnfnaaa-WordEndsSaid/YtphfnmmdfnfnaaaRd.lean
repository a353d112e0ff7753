/-
  Runs compared; a word that still reads where all that lay has stayed.
-/
import Derived.Test.YtphfnmmdfnfnaaaRc
namespace Go.Proofs.Ytphfnmmdfnfnaaa
open Go.RowKit
theorem eqIn_run (a b c d : Int) (w : World) : (Op.equalIn 10000 55 (.agg #[.int .i64 a, .int .i64 b]) (.agg #[.int .i64 c, .int .i64 d])).run Try.prog w = .ok (decide (a = c ∧ b = d)) w := by
  have hS : Try.prog.underlying 55 = some (.array 2 3) := by kernel_rfl
  have hI : (sizeOf 3).run Try.prog w = .ok 1 w := by kernel_rfl
  have p0 : ∀ (x y : Int), (part 3 #[.int .i64 x, .int .i64 y] 0).run Try.prog w = .ok (.int .i64 x) w := fun x y => by
    unfold part; simp [Sem.run_bind, Result.andThen]
  have p1 : ∀ (x y : Int), (part 3 #[.int .i64 x, .int .i64 y] 1).run Try.prog w = .ok (.int .i64 y) w := fun x y => by
    unfold part; simp [Sem.run_bind, Result.andThen]
  rw [show (10000 : Nat) = 9998 + 1 + 1 from rfl, Op.equalIn]
  simp [run_underlying hS, Sem.run_bind, hI, Result.andThen, List.range', p0, run_equalIn_int w _ 3 .i64 .i64 _ _ Try.underlying3]
  by_cases h1 : a = c <;> by_cases h2 : b = d <;> simp [h1, h2, p1, Sem.run_bind, Result.andThen, run_equalIn_int w _ 3 .i64 .i64 _ _ Try.underlying3]
theorem neq_run (a b c d : Int) (w : World) : (binOp .neq 55 (.agg #[.int .i64 a, .int .i64 b]) (.agg #[.int .i64 c, .int .i64 d])).run Try.prog w = .ok (.bool (!decide (a = c ∧ b = d))) w := by
  rw [run_neq_struct, eqIn_run]; rfl
theorem eql_run (a b c d : Int) (w : World) : (binOp .eql 55 (.agg #[.int .i64 a, .int .i64 b]) (.agg #[.int .i64 c, .int .i64 d])).run Try.prog w = .ok (.bool (decide (a = c ∧ b = d))) w := by
  rw [run_eql_struct, eqIn_run]; rfl
theorem RdK.bel {α : Type} {k : Nat} {enc : α → List Value} {w w' : World} {a : Option Addr} {n cap : Nat} {xs : List α} (h : RdK k enc w a n cap xs) (hB : Below w.heap.size w w') : RdK k enc w' a n cap xs := h.agr hB.size hB.block
theorem bel_ext {w w1 w2 : World} (h : Below w.heap.size w w1) (hx : Ext w1 w2) : Below w.heap.size w w2 := h.trans (hx.bel.mono h.size)
theorem ext_bel {w w1 w2 : World} (hx : Ext w w1) (h : Below w1.heap.size w1 w2) : Below w.heap.size w w2 := hx.bel.trans (h.mono hx.le)
abbrev RdR := RdK 2 runEnc
theorem RdK.run {w : World} {a : Option Addr} {n cap : Nat} {xs : List (Nat × Nat)} (h : RdK 2 runEnc w a n cap xs) {i : Nat} (hi : i < n) :
    ∃ b off r, a = some ⟨b, off, none⟩ ∧ Hid (xs[i]? = some r) ∧ b < w.heap.size ∧ w.cell? ⟨b, off + i * 2, none⟩ = some (.int .i64 r.1) ∧ w.cell? ⟨b, off + i * 2 + 1, none⟩ = some (.int .i64 r.2) := by
  obtain ⟨b, off, ha, hb, hc⟩ := h.pos (by omega)
  have hl := h.len
  have hs : xs[i]? = some xs[i] := List.getElem?_eq_getElem (by omega)
  exact ⟨b, off, xs[i], ha, hs, hb, by simpa using hc i _ hs 0 _ rfl, hc i _ hs 1 _ rfl⟩
end Go.Proofs.Ytphfnmmdfnfnaaa
