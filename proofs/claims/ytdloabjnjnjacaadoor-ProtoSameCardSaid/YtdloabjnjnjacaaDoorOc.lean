/-
  Arguments opened (chapter 24): lists of bools and of bytes, a byte.
-/
import Derived.Test.YtdloabjnjnjacaaDoorOb
namespace Go.Proofs.YtdloabjnjnjacaaDoor
open Go.ChangeShapes Go.WideShapes Go.ChangeAt Go.RowKit
/-- A bool in a cell. -/
def BoE.enc (b : Bool) : List Value := [.bool b]
theorem BoE.len (b : Bool) : (BoE.enc b).length = 1 := rfl
/-- A byte in a cell. -/
def U8.enc (x : Nat) : List Value := [.int .u8 (x : Int)]
theorem U8.len (x : Nat) : (U8.enc x).length = 1 := rfl
theorem u8_of {n : Int} (h : (Lit.int .u8 n).wf = true) : ∃ x : Nat, x < 256 ∧ n = (x : Int) := by
  have := bounds_u8 h
  exact ⟨n.toNat, by omega, by omega⟩
/-- A list of bytes that came in, as it reads. -/
theorem open_bytes {H : Type} {enc : TypeId × Value → H} {w : World} {a : Option Addr} {n cap : Nat} {d : DataW H} {p : List MemPlace}
    (h : DataW.Trod enc Tryd.prog w 0 (fun _ => true) true 59 (.slice a n cap) d p) : ∃ xs, RdK 1 U8.enc w a n cap xs ∧ ∀ y ∈ xs, y < 256 := by
  obtain ⟨fuel, hf⟩ := h
  rcases Go.Deep.open_slice1 Tryd.underlying59 (by kernel_rfl) hf with ⟨hcs, _⟩ | ⟨x, l, c, m, n', V, D, Pl, hcs, _, hl, hm, hmm, _, hall⟩
  · simp [Value.cells] at hcs
    obtain ⟨rfl, rfl, rfl⟩ := hcs
    exact ⟨[], RdK.nilS w, fun y hy => by simp at hy⟩
  · simp [Value.cells] at hcs
    obtain ⟨rfl, rfl, rfl⟩ := hcs
    have hmc : n ≤ m := by rw [hmm]; simp; exact hl
    exact rdk_of (k := 1) (enc := U8.enc) (w := w) (x := x) (fun y => y < 256) hl hm (fun y => ⟨_, rfl⟩) (by
      intro i hi
      obtain ⟨h0, h1⟩ := hall i (by omega)
      obtain ⟨z, e, _, hw⟩ := DataW.trod_int Tryd.underlying5 h1
      simp only [List.cons.injEq, and_true] at e
      obtain ⟨b, hb, rfl⟩ := u8_of hw
      refine ⟨b, fun j u hu => ?_, hb⟩
      match j, hu with
      | 0, hu => simp [U8.enc] at hu; subst hu; rw [← e]; simpa using h0
      | j + 1, hu => simp [U8.enc] at hu)
/-- A list of bools that came in, as it reads. -/
theorem open_bools {H : Type} {enc : TypeId × Value → H} {w : World} {a : Option Addr} {n cap : Nat} {d : DataW H} {p : List MemPlace}
    (h : DataW.Trod enc Tryd.prog w 0 (fun _ => true) true 51 (.slice a n cap) d p) : ∃ xs, RdK 1 BoE.enc w a n cap xs := by
  obtain ⟨fuel, hf⟩ := h
  rcases Go.Deep.open_slice1 Tryd.underlying51 (by kernel_rfl) hf with ⟨hcs, _⟩ | ⟨x, l, c, m, n', V, D, Pl, hcs, _, hl, hm, hmm, _, hall⟩
  · simp [Value.cells] at hcs
    obtain ⟨rfl, rfl, rfl⟩ := hcs
    exact ⟨[], RdK.nilS w⟩
  · simp [Value.cells] at hcs
    obtain ⟨rfl, rfl, rfl⟩ := hcs
    have hmc : n ≤ m := by rw [hmm]; simp; exact hl
    obtain ⟨xs, hxs, _⟩ := rdk_of (k := 1) (enc := BoE.enc) (w := w) (x := x) (fun _ => True) hl hm (fun y => ⟨_, rfl⟩) (by
      intro i hi
      obtain ⟨h0, h1⟩ := hall i (by omega)
      obtain ⟨b, e, _⟩ := DataW.trod_bool Tryd.underlying4 h1
      simp only [List.cons.injEq, and_true] at e
      refine ⟨b, fun j u hu => ?_, trivial⟩
      match j, hu with
      | 0, hu => simp [BoE.enc] at hu; subst hu; rw [← e]; simpa using h0
      | j + 1, hu => simp [BoE.enc] at hu)
    exact ⟨xs, hxs⟩
end Go.Proofs.YtdloabjnjnjacaaDoor
