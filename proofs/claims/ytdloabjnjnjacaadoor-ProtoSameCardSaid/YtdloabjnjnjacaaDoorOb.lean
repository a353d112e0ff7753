/-
  Arguments opened (chapter 24): lists of cells, trees, a case by value.
-/
import Derived.Test.YtdloabjnjnjacaaDoorOa
import Derived.Test.YtdloabjnjnjacaaDoorLs
import Derived.ChangeSame
import Derived.Deep.Strs
namespace Go.Proofs.YtdloabjnjnjacaaDoor
open Go.ChangeShapes Go.WideShapes Go.ChangeAt Go.RowKit
/-- A list is read off its cells. -/
theorem rdk_of {α : Type} [Inhabited α] {k : Nat} {enc : α → List Value} (Q : α → Prop) {w : World} {x : Addr} {n cap : Nat} (hl : n ≤ cap) (hm : cap ≤ maxLen) (hk : ∀ y, ∃ u, (enc y)[0]? = some u)
    (each : ∀ i, i < n → ∃ y : α, (∀ j u, (enc y)[j]? = some u → w.cell? (x.add (i * k + j)) = some u) ∧ Q y) : ∃ xs, RdK k enc w (some x) n cap xs ∧ ∀ y ∈ xs, Q y := by
  obtain ⟨f, hf⟩ := Go.Deep.choose_lt (p := fun i (y : α) => (∀ j u, (enc y)[j]? = some u → w.cell? (x.add (i * k + j)) = some u) ∧ Q y) each
  refine ⟨(List.range n).map f, ⟨by simp, hl, hm, fun h => by simp at h, fun hn => ?_⟩, fun y hy => ?_⟩
  · obtain ⟨u0, hu0⟩ := hk (f 0)
    have h0 := (hf 0 hn).1 0 u0 hu0
    rw [Nat.zero_mul] at h0
    obtain ⟨b, o, rfl⟩ := addr_of h0
    simp only [add_none] at hf h0
    refine ⟨b, o, rfl, cell_lt h0, fun i s hi j u hu => ?_⟩
    have hlt : i < n := by have := (List.getElem?_eq_some_iff.1 hi).1; simpa using this
    have hs : f i = s := by simpa [hlt] using hi
    subst hs
    rw [Nat.add_assoc]
    exact (hf i hlt).1 j u hu
  · obtain ⟨i, hi, rfl⟩ := List.mem_map.1 hy
    exact (hf i (List.mem_range.1 hi)).2
instance : Inhabited Cl := ⟨⟨0, ⟨0, 0⟩⟩⟩
instance : Inhabited Nd := ⟨⟨0, ByteArray.empty⟩⟩
theorem c24_int : Tryd.prog.cellsOf 3 = 1 := by kernel_rfl
theorem c24_int64 : Tryd.prog.cellsOf 2 = 1 := by kernel_rfl
theorem c24_u32 : Tryd.prog.cellsOf 36 = 1 := by kernel_rfl
theorem c24_snd : Tryd.prog.cellsOf 38 = 2 := by kernel_rfl
theorem c24_cell : Tryd.prog.cellsOf 40 = 3 := by kernel_rfl
theorem c24_nodes : Tryd.prog.cellsOf 32 = 1 := by kernel_rfl
theorem c24_snds : Tryd.prog.cellsOf 22 = 1 := by kernel_rfl
theorem c24_ints : Tryd.prog.cellsOf 23 = 1 := by kernel_rfl
theorem c24_costs : Tryd.prog.cellsOf 25 = 2 := by kernel_rfl
theorem c24_case : Tryd.prog.cellsOf 34 = 4 := by kernel_rfl
set_option maxRecDepth 100000 in
/-- A list of cells that came in, as it reads. -/
theorem open_cells {H : Type} {enc : TypeId × Value → H} {w : World} {a : Option Addr} {n cap : Nat} {d : DataW H} {p : List MemPlace}
    (h : DataW.Trod enc Tryd.prog w 0 (fun _ => true) true 35 (.slice a n cap) d p) : ∃ xs, RdC w a n cap xs := by
  obtain ⟨fuel, hf⟩ := h
  rcases Go.Deep.open_slice Tryd.underlying35 hf with ⟨hcs, _⟩ | ⟨x, l, c, m, n', D, Pl, hcs, _, hl, hm, hmm, _, hall⟩
  · simp [Value.cells] at hcs
    obtain ⟨rfl, rfl, rfl⟩ := hcs
    exact ⟨[], RdK.nilS w⟩
  · simp [Value.cells] at hcs
    obtain ⟨rfl, rfl, rfl⟩ := hcs
    have hmc : n ≤ m := by rw [hmm]; simp; exact hl
    obtain ⟨xs, hxs, _⟩ := rdk_of (k := 3) (enc := Cl.enc) (w := w) (x := x) (fun _ => True) hl hm (fun y => ⟨_, rfl⟩) (by
      intro i hi
      obtain ⟨cs', h1, h2⟩ := hall i (by omega)
      rw [c24_cell] at h1
      obtain ⟨_, hlen, hcell⟩ := World.cells?_some h1
      obtain ⟨y0, y1, n2, _, _, g0, g1⟩ := trod_struct2 Tryd.underlying40 h2
      match cs', hlen with
      | [v0, v1, v2], _ =>
        have g0' : DataW.trod enc Tryd.prog w 0 (fun _ => true) true n2 3 [v0] = some y0 := by simpa [c24_int] using g0
        have g1' : DataW.trod enc Tryd.prog w 0 (fun _ => true) true n2 38 [v1, v2] = some y1 := by simpa [c24_snd] using g1
        obtain ⟨z0, e0, _, w0⟩ := DataW.trod_int Tryd.underlying3 g0'
        obtain ⟨u0, u1, n3, _, _, k0, k1⟩ := trod_struct2 Tryd.underlying38 g1'
        have k0' : DataW.trod enc Tryd.prog w 0 (fun _ => true) true n3 36 [v1] = some u0 := by simpa [c24_u32] using k0
        have k1' : DataW.trod enc Tryd.prog w 0 (fun _ => true) true n3 36 [v2] = some u1 := by simpa [c24_u32] using k1
        obtain ⟨z1, e1, _, w1⟩ := DataW.trod_int Tryd.underlying36 k0'
        obtain ⟨z2, e2, _, w2⟩ := DataW.trod_int Tryd.underlying36 k1'
        simp only [List.cons.injEq, and_true] at e0 e1 e2
        subst e0 e1 e2
        obtain ⟨b1, rfl⟩ := u32_of w1
        obtain ⟨b2, rfl⟩ := u32_of w2
        have f0 := hcell 0 (by omega)
        have f1 := hcell 1 (by omega)
        have f2 := hcell 2 (by omega)
        rw [Go.Deep.add_add] at f0 f1 f2
        refine ⟨⟨z0, ⟨b1, b2⟩⟩, fun j u hu => ?_, trivial⟩
        match j, hu with
        | 0, hu => simp [Cl.enc] at hu; subst hu; simpa using f0
        | 1, hu => simp [Cl.enc] at hu; subst hu; simpa using f1
        | 2, hu => simp [Cl.enc] at hu; subst hu; simpa using f2
        | j + 3, hu => simp [Cl.enc] at hu)
    exact ⟨xs, hxs⟩
set_option maxRecDepth 100000 in
/-- A tree that came in, as it reads. -/
theorem open_nodes {H : Type} {enc : TypeId × Value → H} {w : World} {a : Option Addr} {n cap : Nat} {d : DataW H} {p : List MemPlace}
    (h : DataW.Trod enc Tryd.prog w 0 (fun _ => true) true 32 (.slice a n cap) d p) : ∃ ts, RdN w a n cap ts := by
  obtain ⟨fuel, hf⟩ := h
  rcases Go.Deep.open_slice_pairs Tryd.underlying32 Tryd.underlying95 (by kernel_rfl) rfl rfl (by kernel_rfl) (by kernel_rfl) hf with ⟨hcs, _⟩ | ⟨x, l, c, m, n', V0, V1, D0, D1, P0, P1, hcs, _, hl, hm, hmm, _, hall⟩
  · simp [Value.cells] at hcs
    obtain ⟨rfl, rfl, rfl⟩ := hcs
    exact ⟨[], RdK.nilS w, fun x hx => by simp at hx⟩
  · simp [Value.cells] at hcs
    obtain ⟨rfl, rfl, rfl⟩ := hcs
    have hmc : n ≤ m := by rw [hmm]; simp; exact hl
    obtain ⟨xs, hxs, hq⟩ := rdk_of (k := 2) (enc := Nd.enc) (w := w) (x := x) (fun y => y.name.size ≤ maxLen) hl hm (fun y => ⟨_, rfl⟩) (by
      intro i hi
      obtain ⟨h0, h1, h2, h3⟩ := hall i (by omega)
      obtain ⟨z0, e0, _, w0⟩ := DataW.trod_int Tryd.underlying3 h2
      obtain ⟨s1, e1, _, w1⟩ := DataW.trod_string Tryd.underlying9 h3
      simp only [List.cons.injEq, and_true] at e0 e1
      refine ⟨⟨z0, s1⟩, fun j u hu => ?_, w1⟩
      match j, hu with
      | 0, hu => simp [Nd.enc] at hu; subst hu; rw [← e0]; exact h0
      | 1, hu => simp [Nd.enc] at hu; subst hu; rw [← e1]; exact h1
      | j + 2, hu => simp [Nd.enc] at hu)
    exact ⟨xs, hxs, hq⟩
theorem slice_of {H : Type} {enc : TypeId × Value → H} {w : World} {t e : TypeId} (ht : Tryd.prog.underlying t = some (.slice e)) {n : Nat} {v : Value} {y : DataW H × List MemPlace} (h : DataW.trod enc Tryd.prog w 0 (fun _ => true) true n t [v] = some y) :
    ∃ a l c, v = .slice a l c ∧ DataW.Trod enc Tryd.prog w 0 (fun _ => true) true t (.slice a l c) y.1 y.2 := by
  obtain ⟨a, l, c, rfl⟩ : ∃ a l c, v = .slice a l c := by
    rcases Go.Deep.open_slice ht h with ⟨hcs, _⟩ | ⟨a, len, cap, m, n', D, Pl, hcs, _⟩ <;> (simp only [List.cons.injEq, and_true] at hcs; exact ⟨_, _, _, hcs⟩)
  exact ⟨a, l, c, rfl, n, by simpa [Value.cells] using h⟩
set_option maxRecDepth 100000 in
/-- A case that came in by value. -/
theorem open_case {H : Type} {enc : TypeId × Value → H} {w : World} {r : Reach} {b0 : Nat} {v : Value} {d : DataW H} {p : List MemPlace} (hval : Value.okWide Tryd.prog w r b0 34 v)
    (h : DataW.Trod enc Tryd.prog w 0 (fun _ => true) true 34 v d p) : ∃ a n cap ts ac nc cc cs aw nw cw ws g, v = caseV a n cap ac nc cc aw nw cw g ∧ RdN w a n cap ts ∧ RdS w ac nc cc cs ∧ RdI w aw nw cw ws := by
  obtain ⟨vs, rfl, hsz⟩ := okWide_struct Tryd.underlying34 hval
  obtain ⟨v0, v1, v2, v3, rfl⟩ := Go.Joins.array4 (hsz.trans c24_case)
  obtain ⟨fuel, hf⟩ := h
  obtain ⟨y0, y1, y2, n1, _, _, h0, h1, h2⟩ := Go.Deep.trod_struct3 Tryd.underlying34 hf
  have h0' : DataW.trod enc Tryd.prog w 0 (fun _ => true) true n1 32 [v0] = some y0 := by simpa [Value.cells, c24_nodes] using h0
  have h1' : DataW.trod enc Tryd.prog w 0 (fun _ => true) true n1 22 [v1] = some y1 := by simpa [Value.cells, c24_snds] using h1
  have h2' : DataW.trod enc Tryd.prog w 0 (fun _ => true) true n1 25 [v2, v3] = some y2 := by simpa [Value.cells, c24_costs] using h2
  obtain ⟨u0, u1, n3, _, _, k0, k1⟩ := trod_struct2 Tryd.underlying25 h2'
  have k0' : DataW.trod enc Tryd.prog w 0 (fun _ => true) true n3 23 [v2] = some u0 := by simpa [c24_ints] using k0
  have k1' : DataW.trod enc Tryd.prog w 0 (fun _ => true) true n3 2 [v3] = some u1 := by simpa [c24_int64] using k1
  obtain ⟨a0, l0, c0, rfl, t0⟩ := slice_of Tryd.underlying32 h0'
  obtain ⟨a1, l1, c1, rfl, t1⟩ := slice_of Tryd.underlying22 h1'
  obtain ⟨a2, l2, c2, rfl, t2⟩ := slice_of Tryd.underlying23 k0'
  obtain ⟨z, e, _, _⟩ := DataW.trod_int Tryd.underlying2 k1'
  simp only [List.cons.injEq, and_true] at e
  subst e
  obtain ⟨ts, ht⟩ := open_nodes t0
  obtain ⟨cs, hc⟩ := open_word t1
  obtain ⟨ws, hw⟩ := open_ints64 t2
  exact ⟨a0, l0, c0, ts, a1, l1, c1, cs, a2, l2, c2, ws, z, rfl, ht, hc, hw⟩
/-- A list of lists of cells that came in, as it reads. -/
theorem open_cellss {H : Type} {enc : TypeId × Value → H} {w : World} {a : Option Addr} {n cap : Nat} {d : DataW H} {p : List MemPlace}
    (h : DataW.Trod enc Tryd.prog w 0 (fun _ => true) true 47 (.slice a n cap) d p) : ∃ ws, RdCs w a n cap ws := by
  obtain ⟨fuel, hf⟩ := h
  rcases Go.Deep.open_slice1 Tryd.underlying47 (by kernel_rfl) hf with ⟨hcs, _⟩ | ⟨x, l, c, m, n', V, D, Pl, hcs, _, hl, hm, hmm, _, hall⟩
  · simp [Value.cells] at hcs
    obtain ⟨rfl, rfl, rfl⟩ := hcs
    exact ⟨[], rfl, Nat.le_refl _, Nat.zero_le _, fun _ => rfl, fun h => absurd h (Nat.lt_irrefl _)⟩
  · simp [Value.cells] at hcs
    obtain ⟨rfl, rfl, rfl⟩ := hcs
    have hmc : n ≤ m := by rw [hmm]; simp; exact hl
    have each : ∀ i, i < n → ∃ y : List Cl, ∃ v, w.cell? (x.add i) = some v ∧ RC w v y := by
      intro i hi
      obtain ⟨h0, h1⟩ := hall i (by omega)
      obtain ⟨a1, l1, c1, hv, t1⟩ := slice_of Tryd.underlying35 h1
      obtain ⟨xs, hx⟩ := open_cells t1
      exact ⟨xs, V i, h0, a1, l1, c1, hv, hx⟩
    obtain ⟨f, hf'⟩ := Go.Deep.choose_lt (p := fun i (y : List Cl) => ∃ v, w.cell? (x.add i) = some v ∧ RC w v y) each
    refine ⟨(List.range n).map f, by simp, hl, hm, (fun h => by simp at h), fun hn => ?_⟩
    obtain ⟨v0, hv0, _⟩ := hf' 0 hn
    obtain ⟨b, o, rfl⟩ := addr_of hv0
    simp only [add_none] at hf' hv0
    refine ⟨b, o, rfl, cell_lt hv0, fun i s hi => ?_⟩
    have hlt : i < n := by have := (List.getElem?_eq_some_iff.1 hi).1; simpa using this
    have hs : f i = s := by simpa [hlt] using hi
    subst hs
    exact hf' i hlt
end Go.Proofs.YtdloabjnjnjacaaDoor
