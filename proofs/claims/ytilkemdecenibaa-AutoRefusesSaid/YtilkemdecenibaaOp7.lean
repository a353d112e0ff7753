/-
  Arguments that are words, opened.
-/
import Derived.Test.YtilkemdecenibaaMap
import Derived.Deep.SlicePairs
import Derived.Deep.Slices
import Derived.ProofKit
import Derived.Lib.SmallJoins
namespace Go.Proofs.Ytilkemdecenibaa
open Go.ChangeShapes Go.WideShapes Go.ChangeAt Go.RowKit
theorem own : ownKnob Try.prog.godebug = none := by kernel_rfl
theorem laidOut : laidOutB Try.prog = true := by kernel_rfl
theorem addr_of {w : World} {x : Addr} {V : Value} (h : w.cell? (x.add 0) = some V) : ∃ b o, x = ⟨b, o, none⟩ := by
  obtain ⟨b, o, s⟩ := x
  have hs : s = none := by simpa [Addr.add] using World.cell?_spot h
  exact ⟨b, o, by rw [hs]⟩
theorem add_none (b o j : Nat) : (⟨b, o, none⟩ : Addr).add j = ⟨b, o + j, none⟩ := by
  unfold Addr.add
  by_cases hj : j = 0 <;> simp [hj]
theorem u32_of {n : Int} (h : (Lit.int .u32 n).wf = true) : ∃ x : BitVec 32, n = (x.toNat : Int) := by
  have := bounds_u32 h
  exact ⟨BitVec.ofNat 32 n.toNat, by simp; omega⟩
/-- A word that came in, as it reads. -/
theorem open_word {H : Type} {enc : TypeId × Value → H} {w : World} {a : Option Addr} {n cap : Nat} {d : DataW H} {p : List MemPlace}
    (h : DataW.Trod enc Try.prog w 0 (fun _ => true) true 28 (.slice a n cap) d p) : ∃ xs, RdS w a n cap xs := by
  obtain ⟨fuel, hf⟩ := h
  rcases Go.Deep.open_slice_pairs Try.underlying28 Try.underlying24 (by kernel_rfl) rfl rfl (by kernel_rfl) (by kernel_rfl) hf with ⟨hcs, _⟩ | ⟨x, l, c, m, n', V0, V1, D0, D1, P0, P1, hcs, _, hl, hm, hmm, _, hall⟩
  · simp [Value.cells] at hcs
    obtain ⟨rfl, rfl, rfl⟩ := hcs
    exact ⟨[], RdK.nilS w⟩
  · simp [Value.cells] at hcs
    obtain ⟨rfl, rfl, rfl⟩ := hcs
    have hmc : n ≤ m := by rw [hmm]; simp; exact hl
    have each : ∀ i, i < n → ∃ s : Snd, w.cell? (x.add (i * 2)) = some (.int .u32 s.p.toNat) ∧ w.cell? (x.add (i * 2 + 1)) = some (.int .u32 s.m.toNat) := by
      intro i hi
      obtain ⟨h0, h1, h2, h3⟩ := hall i (by omega)
      obtain ⟨z0, e0, _, w0⟩ := DataW.trod_int Try.underlying22 h2
      obtain ⟨z1, e1, _, w1⟩ := DataW.trod_int Try.underlying22 h3
      simp only [List.cons.injEq, and_true] at e0 e1
      obtain ⟨b0, rfl⟩ := u32_of w0
      obtain ⟨b1, rfl⟩ := u32_of w1
      exact ⟨⟨b0, b1⟩, by rw [h0, e0], by rw [h1, e1]⟩
    have : Inhabited Snd := ⟨⟨0, 0⟩⟩
    obtain ⟨f, hf'⟩ := Go.Deep.choose_lt (p := fun i (s : Snd) => w.cell? (x.add (i * 2)) = some (.int .u32 s.p.toNat) ∧ w.cell? (x.add (i * 2 + 1)) = some (.int .u32 s.m.toNat)) each
    refine ⟨(List.range n).map f, ⟨by simp, hl, hm, fun h => by simp at h, fun hn => ?_⟩⟩
    obtain ⟨b, o, rfl⟩ := addr_of (hf' 0 hn).1
    simp only [add_none] at hf'
    refine ⟨b, o, rfl, cell_lt (hf' 0 hn).1, fun i s hi j u hu => ?_⟩
    have hlt : i < n := by have := (List.getElem?_eq_some_iff.1 hi).1; simpa using this
    have hs : f i = s := by simpa [hlt] using hi
    subst hs
    match j, hu with
    | 0, hu => simp [Snd.enc] at hu; subst hu; exact (hf' i hlt).1
    | 1, hu => simp [Snd.enc] at hu; subst hu; exact (hf' i hlt).2
    | j + 2, hu => simp [Snd.enc] at hu
theorem u8_of {n : Int} (h : (Lit.int .u8 n).wf = true) : ∃ x : Nat, x < 256 ∧ n = (x : Int) := by
  have := bounds_u8 h
  exact ⟨n.toNat, by omega, by omega⟩
end Go.Proofs.Ytilkemdecenibaa
