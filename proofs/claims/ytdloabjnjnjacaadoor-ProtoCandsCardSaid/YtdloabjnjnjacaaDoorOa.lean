/-
  Arguments opened (chapter 24): words, lists of ints, costs; the table of bits off the row's condition; the door's own heap.
-/
import Derived.Test.YtdloabjnjnjacaaDoorOg
import Derived.Test.YtdloabjnjnjacaaDoorFd
import Derived.Deep.SlicePairs
import Derived.Deep.Slices
import Derived.Lib.SmallJoins
import Derived.Lib.LaidTab
import Derived.ProofKit
import Derived.LaidMore
import Derived.OpenShut
import Derived.Stop.Joined
namespace Go.Proofs.YtdloabjnjnjacaaDoor
open Go.ChangeShapes Go.WideShapes Go.ChangeAt Go.RowKit
/-- A list of ints that came in, as it reads. -/
theorem open_ints64 {H : Type} {enc : TypeId × Value → H} {w : World} {a : Option Addr} {n cap : Nat} {d : DataW H} {p : List MemPlace}
    (h : DataW.Trod enc Tryd.prog w 0 (fun _ => true) true 23 (.slice a n cap) d p) : ∃ xs, RdI w a n cap xs := by
  obtain ⟨fuel, hf⟩ := h
  rcases open_ints Tryd.underlying23 Tryd.underlying2 (by kernel_rfl) hf with ⟨hcs, _⟩ | ⟨x, l, c, zs, hcs, _, hl, hm, hmm, _, hall, _⟩
  · simp [Value.cells] at hcs
    obtain ⟨rfl, rfl, rfl⟩ := hcs
    exact ⟨[], RdK.nilS w⟩
  · simp [Value.cells] at hcs
    obtain ⟨rfl, rfl, rfl⟩ := hcs
    have hmc : n ≤ zs.length := by rw [hmm]; simp; exact hl
    refine ⟨zs.take n, ⟨by simp; omega, hl, hm, fun h => by simp at h, fun hn => ?_⟩⟩
    obtain ⟨b, o, rfl⟩ := addr_of (hall 0 (by omega))
    simp only [add_none] at hall
    refine ⟨b, o, rfl, cell_lt (hall 0 (by omega)), fun i s hi j u hu => ?_⟩
    have hlt : i < n := by have := (List.getElem?_eq_some_iff.1 hi).1; simp at this; omega
    rw [List.getElem?_take_of_lt hlt] at hi
    match j, hu with
    | 0, hu =>
      simp [I64.enc] at hu; subst hu
      have := hall i (by omega)
      rw [List.getD_eq_getElem?_getD, hi] at this
      simpa using this
    | j + 1, hu => simp [I64.enc] at hu
set_option maxRecDepth 100000 in
/-- Costs that came in by value. -/
theorem open_costs {H : Type} {enc : TypeId × Value → H} {w : World} {r : Reach} {b0 : Nat} {v : Value} {d : DataW H} {p : List MemPlace} (hval : Value.okWide Tryd.prog w r b0 25 v)
    (h : DataW.Trod enc Tryd.prog w 0 (fun _ => true) true 25 v d p) : ∃ a n cap ws g, v = cstV a n cap g ∧ RdI w a n cap ws ∧ (Lit.int .i64 g).wf = true := by
  obtain ⟨v0, v1, y0, y1, n, rfl, _, _, h0, h1⟩ := Go.Joins.open_agg2 Tryd.underlying25 (by kernel_rfl) (by kernel_rfl) hval h
  obtain ⟨z1, e1, _, w1⟩ := DataW.trod_int Tryd.underlying2 h1
  simp only [List.cons.injEq, and_true] at e1
  subst e1
  obtain ⟨a, l, c, rfl⟩ : ∃ a l c, v0 = .slice a l c := by
    rcases Go.Deep.open_slice Tryd.underlying23 h0 with ⟨hcs, _⟩ | ⟨a, len, cap, m, n', D, Pl, hcs, _⟩ <;> (simp only [List.cons.injEq, and_true] at hcs; exact ⟨_, _, _, hcs⟩)
  obtain ⟨ws, hw⟩ := open_ints64 (enc := enc) (w := w) (d := y0.1) (p := y0.2) ⟨n, by simpa [Value.cells] using h0⟩
  exact ⟨a, l, c, ws, z1, rfl, hw, w1⟩
/-! ### The table, and the door's own heap -/
theorem gTab : Tryd.prog.globalNamed "math/bits.deBruijn32tab" = some 0 := by kernel_rfl
theorem gTabT : (Tryd.prog.globals[0]?).map (·.type) = some 162 := by kernel_rfl
theorem tabZ : ∀ j, j < 32 → (Lib.deBruijn32tab.map Int.ofNat).getD j 0 = ((Lib.deBruijn32tab.getD j 0 : Nat) : Int) := by decide +kernel
theorem laidTab_eq : (Rows.laid_math_bits_deBruijn32tab : DataW Unit) = Lib.tabData .u8 (Lib.deBruijn32tab.map Int.ofNat) := by rfl
theorem tab_ok {W : World} (h : laidMetH Tryd.prog [("math/bits.deBruijn32tab", Rows.laid_math_bits_deBruijn32tab)] W) : TabOk W := by
  rw [MakeChecks.laidMetH_plain _ _ _ (by kernel_rfl), laidTab_eq] at h
  have hT := Lib.tabIs_of_head gTab gTabT Tryd.underlying162 Tryd.underlying5 (by kernel_rfl) (by kernel_rfl) h
  intro j hj
  have := hT.cell gTab j (show j < (List.map Int.ofNat Lib.deBruijn32tab).length from hj)
  rw [this, tabZ j hj]
set_option maxRecDepth 100000 in
theorem door_met (os : Os) (args : Array Value) : laidMetH Tryd.prog [("math/bits.deBruijn32tab", Rows.laid_math_bits_deBruijn32tab)] ((World.doorLaid Tryd.prog 400 os).forCall (fun _ _ => 0) ⟨#[], args, []⟩).memory :=
  laidMetH_of_parts3 (fuel := 8) (laidMet_of_run' 8 (by kernel_rfl) (by kernel_rfl)) (by kernel_rfl) (by kernel_rfl)
end Go.Proofs.YtdloabjnjnjacaaDoor
