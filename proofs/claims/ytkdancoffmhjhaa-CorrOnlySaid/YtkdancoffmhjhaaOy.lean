/-
  More arguments opened: lists of numbers.
-/
import Derived.Test.YtkdancoffmhjhaaOx
namespace Go.Proofs.Ytkdancoffmhjhaa
open Go.ChangeShapes Go.WideShapes Go.ChangeAt Go.RowKit
theorem open_intl {H : Type} {enc : TypeId × Value → H} {w : World} {a : Option Addr} {n cap : Nat} {d : DataW H} {p : List MemPlace}
    (h : DataW.Trod enc Try.prog w 0 (fun _ => true) true 54 (.slice a n cap) d p) : ∃ xs, RdI w a n cap xs := by
  obtain ⟨fuel, hf⟩ := h
  rcases open_ints Try.underlying54 Try.underlying3 (by kernel_rfl) hf with ⟨hcs, _⟩ | ⟨x, l, c, zs, hcs, _, hl, hm, hmm, _, hall, _⟩
  · simp [Value.cells] at hcs
    obtain ⟨rfl, rfl, rfl⟩ := hcs
    exact ⟨[], RdK.nilS w⟩
  · simp [Value.cells] at hcs
    obtain ⟨rfl, rfl, rfl⟩ := hcs
    have hmc : n ≤ zs.length := by rw [hmm]; simp; exact hl
    refine ⟨zs.take n, ⟨by simp; omega, hl, hm, fun h => by simp at h, fun hn => ?_⟩⟩
    obtain ⟨b, o, rfl⟩ := addr_of (hall 0 (by omega))
    simp only [add_none] at hall
    refine ⟨b, o, rfl, cell_lt (hall 0 (by omega)), fun i s hi j u hu => ?_⟩
    have hlt : i < n := by have := (List.getElem?_eq_some_iff.1 hi).1; simp at this; omega
    rw [List.getElem?_take_of_lt hlt] at hi
    match j, hu with
    | 0, hu =>
      simp [I64.enc] at hu; subst hu
      have := hall i (by omega)
      rw [List.getD_eq_getElem?_getD, hi] at this
      simpa using this
    | j + 1, hu => simp [I64.enc] at hu
end Go.Proofs.Ytkdancoffmhjhaa
