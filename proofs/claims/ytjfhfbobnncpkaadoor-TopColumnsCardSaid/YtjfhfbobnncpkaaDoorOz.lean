/-
  More arguments opened: lists of lists of numbers, an entry with its forms.
-/
import Derived.Test.YtjfhfbobnncpkaaDoorOx
import Derived.Test.YtjfhfbobnncpkaaDoorEa
namespace Go.Proofs.YtjfhfbobnncpkaaDoor
open Go.ChangeShapes Go.WideShapes Go.ChangeAt Go.RowKit
theorem open_intss {H : Type} {enc : TypeId × Value → H} {w : World} {a : Option Addr} {n cap : Nat} {d : DataW H} {p : List MemPlace}
    (h : DataW.Trod enc Tryd.prog w 0 (fun _ => true) true 55 (.slice a n cap) d p) : ∃ hs, RdN2 w a n cap hs := by
  obtain ⟨fuel, hf⟩ := h
  rcases Go.Deep.open_slice1 Tryd.underlying55 (by kernel_rfl) hf with ⟨hcs, _⟩ | ⟨x, l, c, m, n', V, D, Pl, hcs, _, hl, hm, hmm, _, hall⟩
  · simp [Value.cells] at hcs
    obtain ⟨rfl, rfl, rfl⟩ := hcs
    exact ⟨[], RdK.nilS w, fun x hx => by simp at hx⟩
  · simp [Value.cells] at hcs
    obtain ⟨rfl, rfl, rfl⟩ := hcs
    have hmc : n ≤ m := by rw [hmm]; simp; exact hl
    have : Inhabited HI := ⟨⟨none, 0, 0, []⟩⟩
    obtain ⟨xs, hxs, hq⟩ := rdk_of (k := 1) (enc := HI.enc) (w := w) (x := x) (fun y => RdI w y.a y.n y.cap y.x) hl hm (fun y => ⟨_, rfl⟩) (by
      intro i hi
      obtain ⟨h0, h1⟩ := hall i (by omega)
      obtain ⟨a1, l1, c1, hv, t1⟩ := slice_of Tryd.underlying28 h1
      obtain ⟨xs, hx⟩ := open_intl t1
      refine ⟨⟨a1, l1, c1, xs⟩, fun j u hu => ?_, hx⟩
      match j, hu with
      | 0, hu => simp [HI.enc] at hu; subst hu; rw [← hv]; simpa using h0
      | j + 1, hu => simp [HI.enc] at hu)
    exact ⟨xs, hxs, hq⟩
/-- Forms that came in, as they read. -/
theorem open_forms {H : Type} {enc : TypeId × Value → H} {w : World} {a : Option Addr} {n cap : Nat} {d : DataW H} {p : List MemPlace}
    (h : DataW.Trod enc Tryd.prog w 0 (fun _ => true) true 29 (.slice a n cap) d p) : ∃ hs, RdF w a n cap hs := by
  obtain ⟨fuel, hf⟩ := h
  rcases Go.Deep.open_slice_pairs Tryd.underlying29 Tryd.underlying36 (by kernel_rfl) rfl rfl (by kernel_rfl) (by kernel_rfl) hf with ⟨hcs, _⟩ | ⟨x, l, c, m, n', V0, V1, D0, D1, P0, P1, hcs, _, hl, hm, hmm, _, hall⟩
  · simp [Value.cells] at hcs
    obtain ⟨rfl, rfl, rfl⟩ := hcs
    exact ⟨[], RdK.nilS w, fun x hx => by simp at hx⟩
  · simp [Value.cells] at hcs
    obtain ⟨rfl, rfl, rfl⟩ := hcs
    have hmc : n ≤ m := by rw [hmm]; simp; exact hl
    have : Inhabited HF := ⟨⟨false, none, 0, 0, []⟩⟩
    obtain ⟨xs, hxs, hq⟩ := rdk_of (k := 2) (enc := HF.enc) (w := w) (x := x) (fun y => RdS w y.a y.n y.cap y.x) hl hm (fun y => ⟨_, rfl⟩) (by
      intro i hi
      obtain ⟨h0, h1, h2, h3⟩ := hall i (by omega)
      obtain ⟨bb, e0, _⟩ := DataW.trod_bool Tryd.underlying4 h2
      obtain ⟨a1, l1, c1, hv, t1⟩ := slice_of Tryd.underlying34 h3
      obtain ⟨xs, hx⟩ := open_word t1
      simp only [List.cons.injEq, and_true] at e0
      refine ⟨⟨bb, a1, l1, c1, xs⟩, fun j u hu => ?_, hx⟩
      match j, hu with
      | 0, hu => simp [HF.enc] at hu; subst hu; rw [← e0]; exact h0
      | 1, hu => simp [HF.enc] at hu; subst hu; rw [← hv]; exact h1
      | j + 2, hu => simp [HF.enc] at hu)
    exact ⟨xs, hxs, hq⟩
theorem c20_str : Tryd.prog.cellsOf 9 = 1 := by kernel_rfl
theorem c20_forms : Tryd.prog.cellsOf 29 = 1 := by kernel_rfl
theorem c20_entry : Tryd.prog.cellsOf 31 = 2 := by kernel_rfl
set_option maxRecDepth 100000 in
/-- An entry that came in by value. -/
theorem open_entry {H : Type} {enc : TypeId × Value → H} {w : World} {r : Reach} {b0 : Nat} {v : Value} {d : DataW H} {p : List MemPlace} (hval : Value.okWide Tryd.prog w r b0 31 v)
    (h : DataW.Trod enc Tryd.prog w 0 (fun _ => true) true 31 v d p) : ∃ (g : ByteArray) (a : Option Addr) (n cap : Nat) (fs : List HF), v = .agg #[.string g, .slice a n cap] ∧ RdF w a n cap fs := by
  obtain ⟨cs, rfl, hsz⟩ := okWide_struct Tryd.underlying31 hval
  obtain ⟨v0, v1, rfl⟩ := arr2 (hsz.trans c20_entry)
  obtain ⟨fuel, hf⟩ := h
  obtain ⟨y0, y1, n2, _, _, g0, g1⟩ := trod_struct2 Tryd.underlying31 (show DataW.trod enc Tryd.prog w 0 (fun _ => true) true fuel 31 [v0, v1] = some _ by simpa [Value.cells] using hf)
  have g0' : DataW.trod enc Tryd.prog w 0 (fun _ => true) true n2 9 [v0] = some y0 := by simpa [c20_str] using g0
  have g1' : DataW.trod enc Tryd.prog w 0 (fun _ => true) true n2 29 [v1] = some y1 := by simpa [c20_str, c20_forms] using g1
  obtain ⟨s1, e1, _, w1⟩ := DataW.trod_string Tryd.underlying9 g0'
  obtain ⟨a1, l1, c1, rfl, t1⟩ := slice_of Tryd.underlying29 g1'
  obtain ⟨fs, hfs⟩ := open_forms t1
  simp only [List.cons.injEq, and_true] at e1
  subst e1
  exact ⟨s1, a1, l1, c1, fs, rfl, hfs⟩
end Go.Proofs.YtjfhfbobnncpkaaDoor
