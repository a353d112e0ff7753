/-
  A list of pairs of small numbers that came in (chapter 05).
-/
import Derived.Test.YtbnbfdbliokcaaaDoorO5
import Derived.Test.YtbnbfdbliokcaaaDoorJ9
namespace Go.Proofs.YtbnbfdbliokcaaaDoor
open Go.ChangeShapes Go.WideShapes Go.ChangeAt Go.RowKit
theorem trod_array2 {H : Type} {enc : TypeId × Value → H} {P : Program} {w : World} {base : Nat} {spare : Nat → Bool} {held : Bool} {t e : TypeId} {fuel : Nat} {c0 c1 : Value} {x : DataW H × List MemPlace} (ht : P.underlying t = some (.array 2 e)) (hce : P.cellsOf e = 1)
    (h : DataW.trod enc P w base spare held fuel t [c0, c1] = some x) :
    ∃ y0 y1 n, DataW.trod enc P w base spare held n e [c0] = some y0 ∧ DataW.trod enc P w base spare held n e [c1] = some y1 := by
  obtain ⟨xs, m, _, _, _, hl, hall⟩ := DataW.trod_array ht h
  have h0 := hall 0 (by omega)
  have h1 := hall 1 (by omega)
  rw [hce] at h0 h1
  rw [List.getElem?_eq_getElem (by omega)] at h0 h1
  exact ⟨_, _, m, by simpa using h0, by simpa using h1⟩
theorem c24_u8 : Tryd.prog.cellsOf 5 = 1 := by kernel_rfl
theorem c24_p8 : Tryd.prog.cellsOf 92 = 2 := by kernel_rfl
theorem b8_of {n : Int} (h : (Lit.int .u8 n).wf = true) : ∃ x : BitVec 8, n = (x.toNat : Int) := by
  have := bounds_u8 h
  exact ⟨BitVec.ofNat 8 n.toNat, by simp; omega⟩
instance : Inhabited P8 := ⟨(0, 0)⟩
set_option maxRecDepth 100000 in
theorem open_pairs8 {H : Type} {enc : TypeId × Value → H} {w : World} {a : Option Addr} {n cap : Nat} {d : DataW H} {p : List MemPlace}
    (h : DataW.Trod enc Tryd.prog w 0 (fun _ => true) true 48 (.slice a n cap) d p) : ∃ xs, RdK 2 P8.enc w a n cap xs := by
  obtain ⟨fuel, hf⟩ := h
  rcases Go.Deep.open_slice Tryd.underlying48 hf with ⟨hcs, _⟩ | ⟨x, l, c, m, n', D, Pl, hcs, _, hl, hm, hmm, _, hall⟩
  · simp [Value.cells] at hcs
    obtain ⟨rfl, rfl, rfl⟩ := hcs
    exact ⟨[], RdK.nilS w⟩
  · simp [Value.cells] at hcs
    obtain ⟨rfl, rfl, rfl⟩ := hcs
    have hmc : n ≤ m := by rw [hmm]; simp; exact hl
    obtain ⟨xs, hxs, _⟩ := rdk_of (k := 2) (enc := P8.enc) (w := w) (x := x) (fun _ => True) hl hm (fun y => ⟨_, rfl⟩) (by
      intro i hi
      obtain ⟨cs', h1, h2⟩ := hall i (by omega)
      rw [c24_p8] at h1
      obtain ⟨_, hlen, hcell⟩ := World.cells?_some h1
      match cs', hlen with
      | [v0, v1], _ =>
        obtain ⟨y0, y1, n2, g0, g1⟩ := trod_array2 Tryd.underlying92 c24_u8 h2
        obtain ⟨z0, e0, _, w0⟩ := DataW.trod_int Tryd.underlying5 g0
        obtain ⟨z1, e1, _, w1⟩ := DataW.trod_int Tryd.underlying5 g1
        simp only [List.cons.injEq, and_true] at e0 e1
        subst e0 e1
        obtain ⟨b0, rfl⟩ := b8_of w0
        obtain ⟨b1, rfl⟩ := b8_of w1
        have f0 := hcell 0 (by omega)
        have f1 := hcell 1 (by omega)
        rw [Go.Deep.add_add] at f0 f1
        refine ⟨(b0, b1), fun j u hu => ?_, trivial⟩
        match j, hu with
        | 0, hu => simp [P8.enc] at hu; subst hu; simpa using f0
        | 1, hu => simp [P8.enc] at hu; subst hu; simpa using f1
        | j + 2, hu => simp [P8.enc] at hu)
    exact ⟨xs, hxs⟩
end Go.Proofs.YtbnbfdbliokcaaaDoor
