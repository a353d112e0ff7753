/-
  Arguments that are sounds, small numbers, or lists of words, opened.
-/
import Derived.Test.YtphfnmmdfnfnaaaOpen
import Derived.Lib.SmallJoins
namespace Go.Proofs.Ytphfnmmdfnfnaaa
open Go.ChangeShapes Go.WideShapes Go.ChangeAt Go.RowKit
theorem u8_of {n : Int} (h : (Lit.int .u8 n).wf = true) : ∃ x : Nat, x < 256 ∧ n = (x : Int) := by
  have := bounds_u8 h
  exact ⟨n.toNat, by omega, by omega⟩
theorem u16_of {n : Int} (h : (Lit.int .u16 n).wf = true) : ∃ x : Nat, x < 65536 ∧ n = (x : Int) := by
  have := bounds_u16 h
  exact ⟨n.toNat, by omega, by omega⟩
/-- A sound that came in by value. -/
theorem open_sound {H : Type} {enc : TypeId × Value → H} {w : World} {r : Reach} {b0 : Nat} {v : Value} {d : DataW H} {p : List MemPlace} (hval : Value.okWide Try.prog w r b0 39 v)
    (h : DataW.Trod enc Try.prog w 0 (fun _ => true) true 39 v d p) : ∃ s : Snd, v = .agg #[.int .u32 s.p.toNat, .int .u32 s.m.toNat] := by
  obtain ⟨v0, v1, y0, y1, n, rfl, _, _, h0, h1⟩ := Go.Joins.open_agg2 Try.underlying39 (by kernel_rfl) (by kernel_rfl) hval h
  obtain ⟨z0, e0, _, w0⟩ := DataW.trod_int Try.underlying37 h0
  obtain ⟨z1, e1, _, w1⟩ := DataW.trod_int Try.underlying37 h1
  simp only [List.cons.injEq, and_true] at e0 e1
  obtain ⟨b0, rfl⟩ := u32_of w0
  obtain ⟨b1, rfl⟩ := u32_of w1
  exact ⟨⟨b0, b1⟩, by rw [e0, e1]⟩
theorem open_wordV {H : Type} {enc : TypeId × Value → H} {w : World} {v : Value} {d : DataW H} {p : List MemPlace} {n : Nat}
    (h : DataW.trod enc Try.prog w 0 (fun _ => true) true n 22 [v] = some (d, p)) : ∃ xs, WS w v xs := by
  rcases Go.Deep.open_slice Try.underlying22 h with ⟨hcs, _⟩ | ⟨a, len, cap, m, n', D, Pl, hcs, _⟩
  · simp only [List.cons.injEq, and_true] at hcs
    subst hcs
    exact ⟨[], none, 0, 0, rfl, RdK.nilS w⟩
  · simp only [List.cons.injEq, and_true] at hcs
    subst hcs
    obtain ⟨xs, hr⟩ := open_word (enc := enc) (w := w) (d := d) (p := p) ⟨n, by simpa [Value.cells] using h⟩
    exact ⟨xs, _, _, _, rfl, hr⟩
/-- A list of words that came in, as it reads. -/
theorem open_words {H : Type} {enc : TypeId × Value → H} {w : World} {a : Option Addr} {n cap : Nat} {d : DataW H} {p : List MemPlace}
    (h : DataW.Trod enc Try.prog w 0 (fun _ => true) true 32 (.slice a n cap) d p) : ∃ ws, RdWs w a n cap ws := by
  obtain ⟨fuel, hf⟩ := h
  rcases Go.Deep.open_slice1 Try.underlying32 (by kernel_rfl) hf with ⟨hcs, _⟩ | ⟨x, l, c, m, n', V, D, Pl, hcs, _, hl, hm, hmm, _, hall⟩
  · simp [Value.cells] at hcs
    obtain ⟨rfl, rfl, rfl⟩ := hcs
    exact ⟨[], rfl, Nat.le_refl _, Nat.zero_le _, fun _ => rfl, fun h => absurd h (Nat.lt_irrefl _)⟩
  · simp [Value.cells] at hcs
    obtain ⟨rfl, rfl, rfl⟩ := hcs
    have hmc : n ≤ m := by rw [hmm]; simp; exact hl
    have each : ∀ i, i < n → ∃ y : List Snd, ∃ v, w.cell? (x.add i) = some v ∧ WS w v y := by
      intro i hi
      obtain ⟨h0, h1⟩ := hall i (by omega)
      obtain ⟨xs, hx⟩ := open_wordV h1
      exact ⟨xs, V i, h0, hx⟩
    obtain ⟨f, hf'⟩ := Go.Deep.choose_lt (p := fun i (y : List Snd) => ∃ v, w.cell? (x.add i) = some v ∧ WS w v y) each
    refine ⟨(List.range n).map f, by simp, hl, hm, (fun h => by simp at h), fun hn => ?_⟩
    obtain ⟨v0, hv0, _⟩ := hf' 0 hn
    obtain ⟨b, o, rfl⟩ := addr_of hv0
    simp only [add_none] at hf' hv0
    refine ⟨b, o, rfl, cell_lt hv0, fun i s hi => ?_⟩
    have hlt : i < n := by have := (List.getElem?_eq_some_iff.1 hi).1; simpa using this
    have hs : f i = s := by simpa [hlt] using hi
    subst hs
    obtain ⟨v, h1, h2⟩ := hf' i hlt
    exact ⟨v, h1, h2⟩
end Go.Proofs.Ytphfnmmdfnfnaaa
