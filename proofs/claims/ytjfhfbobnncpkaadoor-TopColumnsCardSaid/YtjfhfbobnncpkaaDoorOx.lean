/-
  More arguments opened: a cell, pairs of numbers and of cells by value, lists of lists of cells, lists of numbers.
  More arguments opened: lists of numbers.
-/
import Derived.Test.YtjfhfbobnncpkaaDoorOg
import Derived.Test.YtjfhfbobnncpkaaDoorKc2
import Derived.Test.YtjfhfbobnncpkaaDoorK
namespace Go.Proofs.YtjfhfbobnncpkaaDoor
open Go.ChangeShapes Go.WideShapes Go.ChangeAt Go.RowKit
theorem cell_of {H : Type} {enc : TypeId × Value → H} {w : World} {n : Nat} {v0 v1 v2 : Value} {y : DataW H × List MemPlace} (h : DataW.trod enc Tryd.prog w 0 (fun _ => true) true n 50 [v0, v1, v2] = some y) :
    ∃ c : Cl, v0 = .int .i64 c.kind ∧ v1 = .int .u32 c.s.p.toNat ∧ v2 = .int .u32 c.s.m.toNat ∧ (Lit.int .i64 c.kind).wf = true := by
  obtain ⟨y0, y1, n2, _, _, g0, g1⟩ := trod_struct2 Tryd.underlying50 h
  have g0' : DataW.trod enc Tryd.prog w 0 (fun _ => true) true n2 3 [v0] = some y0 := by simpa [c24_int] using g0
  have g1' : DataW.trod enc Tryd.prog w 0 (fun _ => true) true n2 48 [v1, v2] = some y1 := by simpa [c24_snd] using g1
  obtain ⟨z0, e0, _, w0⟩ := DataW.trod_int Tryd.underlying3 g0'
  obtain ⟨u0, u1, n3, _, _, k0, k1⟩ := trod_struct2 Tryd.underlying48 g1'
  have k0' : DataW.trod enc Tryd.prog w 0 (fun _ => true) true n3 46 [v1] = some u0 := by simpa [c24_u32] using k0
  have k1' : DataW.trod enc Tryd.prog w 0 (fun _ => true) true n3 46 [v2] = some u1 := by simpa [c24_u32] using k1
  obtain ⟨z1, e1, _, w1⟩ := DataW.trod_int Tryd.underlying46 k0'
  obtain ⟨z2, e2, _, w2⟩ := DataW.trod_int Tryd.underlying46 k1'
  simp only [List.cons.injEq, and_true] at e0 e1 e2
  subst e0 e1 e2
  obtain ⟨b1, rfl⟩ := u32_of w1
  obtain ⟨b2, rfl⟩ := u32_of w2
  exact ⟨⟨z0, ⟨b1, b2⟩⟩, rfl, rfl, rfl, w0⟩
theorem list3 {α : Type} {l : List α} (h : l.length = 3) : ∃ a b c, l = [a, b, c] := by
  match l, h with
  | [a, b, c], _ => exact ⟨a, b, c, rfl⟩
theorem list6 {α : Type} {l : List α} (h : l.length = 6) : ∃ a b c d e f, l = [a, b, c, d, e, f] := by
  match l, h with
  | [a, b, c, d, e, f], _ => exact ⟨a, b, c, d, e, f, rfl⟩
theorem arr3 {cs : Array Value} (h : cs.size = 3) : ∃ a b c, cs = #[a, b, c] := by
  obtain ⟨l⟩ := cs
  obtain ⟨a, b, c, rfl⟩ := list3 (l := l) h
  exact ⟨a, b, c, rfl⟩
theorem arr6 {cs : Array Value} (h : cs.size = 6) : ∃ a b c d e f, cs = #[a, b, c, d, e, f] := by
  obtain ⟨l⟩ := cs
  obtain ⟨a, b, c, d, e, f, rfl⟩ := list6 (l := l) h
  exact ⟨a, b, c, d, e, f, rfl⟩
theorem list2 {α : Type} {l : List α} (h : l.length = 2) : ∃ a b, l = [a, b] := by
  match l, h with
  | [a, b], _ => exact ⟨a, b, rfl⟩
theorem arr2 {cs : Array Value} (h : cs.size = 2) : ∃ a b, cs = #[a, b] := by
  obtain ⟨l⟩ := cs
  obtain ⟨a, b, rfl⟩ := list2 (l := l) h
  exact ⟨a, b, rfl⟩
set_option maxRecDepth 100000 in
theorem open_cell {H : Type} {enc : TypeId × Value → H} {w : World} {r : Reach} {b0 : Nat} {v : Value} {d : DataW H} {p : List MemPlace} (hval : Value.okWide Tryd.prog w r b0 50 v)
    (h : DataW.Trod enc Tryd.prog w 0 (fun _ => true) true 50 v d p) : ∃ c : Cl, v = clV c ∧ (Lit.int .i64 c.kind).wf = true := by
  obtain ⟨cs, rfl, hsz⟩ := okWide_struct Tryd.underlying50 hval
  obtain ⟨v0, v1, v2, rfl⟩ := arr3 (hsz.trans c24_cell)
  obtain ⟨fuel, hf⟩ := h
  obtain ⟨c, rfl, rfl, rfl, hw⟩ := cell_of (show DataW.trod enc Tryd.prog w 0 (fun _ => true) true fuel 50 [v0, v1, v2] = some _ by simpa [Value.cells] using hf)
  exact ⟨c, rfl, hw⟩
set_option maxRecDepth 100000 in
theorem okWide_array {w : World} {r : Reach} {b0 n : Nat} {t e : TypeId} {v : Value} (ht : Tryd.prog.underlying t = some (.array n e)) (h : Value.okWide Tryd.prog w r b0 t v) : ∃ xs : Array Value, v = .agg xs ∧ xs.size = Tryd.prog.cellsOf t := by
  simp only [Value.okWide, ht] at h
  obtain ⟨cs, h1, h2, _⟩ := h
  exact ⟨cs, h1, h2⟩
theorem open_hws {H : Type} {enc : TypeId × Value → H} {w : World} {a : Option Addr} {n cap : Nat} {d : DataW H} {p : List MemPlace}
    (h : DataW.Trod enc Tryd.prog w 0 (fun _ => true) true 27 (.slice a n cap) d p) : ∃ hs, RdHW w a n cap hs := by
  obtain ⟨fuel, hf⟩ := h
  rcases Go.Deep.open_slice1 Tryd.underlying27 (by kernel_rfl) hf with ⟨hcs, _⟩ | ⟨x, l, c, m, n', V, D, Pl, hcs, _, hl, hm, hmm, _, hall⟩
  · simp [Value.cells] at hcs
    obtain ⟨rfl, rfl, rfl⟩ := hcs
    exact ⟨[], RdK.nilS w, fun x hx => by simp at hx⟩
  · simp [Value.cells] at hcs
    obtain ⟨rfl, rfl, rfl⟩ := hcs
    have hmc : n ≤ m := by rw [hmm]; simp; exact hl
    have : Inhabited HW := ⟨⟨none, 0, 0, []⟩⟩
    obtain ⟨xs, hxs, hq⟩ := rdk_of (k := 1) (enc := HW.enc) (w := w) (x := x) (fun y => RdC w y.a y.n y.cap y.x) hl hm (fun y => ⟨_, rfl⟩) (by
      intro i hi
      obtain ⟨h0, h1⟩ := hall i (by omega)
      obtain ⟨a1, l1, c1, hv, t1⟩ := slice_of Tryd.underlying43 h1
      obtain ⟨xs, hx⟩ := open_cells t1
      refine ⟨⟨a1, l1, c1, xs⟩, fun j u hu => ?_, hx⟩
      match j, hu with
      | 0, hu => simp [HW.enc] at hu; subst hu; rw [← hv]; simpa using h0
      | j + 1, hu => simp [HW.enc] at hu)
    exact ⟨xs, hxs, hq⟩
end Go.Proofs.YtjfhfbobnncpkaaDoor
namespace Go.Proofs.YtjfhfbobnncpkaaDoor
open Go.ChangeShapes Go.WideShapes Go.ChangeAt Go.RowKit
theorem open_intl {H : Type} {enc : TypeId × Value → H} {w : World} {a : Option Addr} {n cap : Nat} {d : DataW H} {p : List MemPlace}
    (h : DataW.Trod enc Tryd.prog w 0 (fun _ => true) true 28 (.slice a n cap) d p) : ∃ xs, RdI w a n cap xs := by
  obtain ⟨fuel, hf⟩ := h
  rcases open_ints Tryd.underlying28 Tryd.underlying3 (by kernel_rfl) hf with ⟨hcs, _⟩ | ⟨x, l, c, zs, hcs, _, hl, hm, hmm, _, hall, _⟩
  · simp [Value.cells] at hcs
    obtain ⟨rfl, rfl, rfl⟩ := hcs
    exact ⟨[], RdK.nilS w⟩
  · simp [Value.cells] at hcs
    obtain ⟨rfl, rfl, rfl⟩ := hcs
    have hmc : n ≤ zs.length := by rw [hmm]; simp; exact hl
    refine ⟨zs.take n, ⟨by simp; omega, hl, hm, fun h => by simp at h, fun hn => ?_⟩⟩
    obtain ⟨b, o, rfl⟩ := addr_of (hall 0 (by omega))
    simp only [add_none] at hall
    refine ⟨b, o, rfl, cell_lt (hall 0 (by omega)), fun i s hi j u hu => ?_⟩
    have hlt : i < n := by have := (List.getElem?_eq_some_iff.1 hi).1; simp at this; omega
    rw [List.getElem?_take_of_lt hlt] at hi
    match j, hu with
    | 0, hu =>
      simp [I64.enc] at hu; subst hu
      have := hall i (by omega)
      rw [List.getD_eq_getElem?_getD, hi] at this
      simpa using this
    | j + 1, hu => simp [I64.enc] at hu
end Go.Proofs.YtjfhfbobnncpkaaDoor
