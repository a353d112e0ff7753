/-
  Arguments opened: words, lists of cells, lists of correspondences.
-/
import Derived.Test.YtjfhfbobnncpkaaDoorRows
import Derived.Test.YtjfhfbobnncpkaaDoorCa
import Derived.Deep.SlicePairs
import Derived.Deep.Slices
import Derived.Deep.Strs
import Derived.Lib.SmallJoins
import Derived.ProofKit
import Derived.ChangeSame
namespace Go.Proofs.YtjfhfbobnncpkaaDoor
open Go.ChangeShapes Go.WideShapes Go.ChangeAt Go.RowKit
theorem own : ownKnob Tryd.prog.godebug = none := by kernel_rfl
theorem laidOut : laidOutB Tryd.prog = true := by kernel_rfl
theorem addr_of {w : World} {x : Addr} {V : Value} (h : w.cell? (x.add 0) = some V) : ∃ b o, x = ⟨b, o, none⟩ := by
  obtain ⟨b, o, s⟩ := x
  have hs : s = none := by simpa [Addr.add] using World.cell?_spot h
  exact ⟨b, o, by rw [hs]⟩
theorem add_none (b o j : Nat) : (⟨b, o, none⟩ : Addr).add j = ⟨b, o + j, none⟩ := by
  unfold Addr.add
  by_cases hj : j = 0 <;> simp [hj]
theorem u32_of {n : Int} (h : (Lit.int .u32 n).wf = true) : ∃ x : BitVec 32, n = (x.toNat : Int) := by
  have := bounds_u32 h
  exact ⟨BitVec.ofNat 32 n.toNat, by simp; omega⟩
/-- A word that came in, as it reads. -/
theorem open_word {H : Type} {enc : TypeId × Value → H} {w : World} {a : Option Addr} {n cap : Nat} {d : DataW H} {p : List MemPlace}
    (h : DataW.Trod enc Tryd.prog w 0 (fun _ => true) true 34 (.slice a n cap) d p) : ∃ xs, RdS w a n cap xs := by
  obtain ⟨fuel, hf⟩ := h
  rcases Go.Deep.open_slice_pairs Tryd.underlying34 Tryd.underlying48 (by kernel_rfl) rfl rfl (by kernel_rfl) (by kernel_rfl) hf with ⟨hcs, _⟩ | ⟨x, l, c, m, n', V0, V1, D0, D1, P0, P1, hcs, _, hl, hm, hmm, _, hall⟩
  · simp [Value.cells] at hcs
    obtain ⟨rfl, rfl, rfl⟩ := hcs
    exact ⟨[], RdK.nilS w⟩
  · simp [Value.cells] at hcs
    obtain ⟨rfl, rfl, rfl⟩ := hcs
    have hmc : n ≤ m := by rw [hmm]; simp; exact hl
    have each : ∀ i, i < n → ∃ s : Snd, w.cell? (x.add (i * 2)) = some (.int .u32 s.p.toNat) ∧ w.cell? (x.add (i * 2 + 1)) = some (.int .u32 s.m.toNat) := by
      intro i hi
      obtain ⟨h0, h1, h2, h3⟩ := hall i (by omega)
      obtain ⟨z0, e0, _, w0⟩ := DataW.trod_int Tryd.underlying46 h2
      obtain ⟨z1, e1, _, w1⟩ := DataW.trod_int Tryd.underlying46 h3
      simp only [List.cons.injEq, and_true] at e0 e1
      obtain ⟨b0, rfl⟩ := u32_of w0
      obtain ⟨b1, rfl⟩ := u32_of w1
      exact ⟨⟨b0, b1⟩, by rw [h0, e0], by rw [h1, e1]⟩
    have : Inhabited Snd := ⟨⟨0, 0⟩⟩
    obtain ⟨f, hf'⟩ := Go.Deep.choose_lt (p := fun i (s : Snd) => w.cell? (x.add (i * 2)) = some (.int .u32 s.p.toNat) ∧ w.cell? (x.add (i * 2 + 1)) = some (.int .u32 s.m.toNat)) each
    refine ⟨(List.range n).map f, ⟨by simp, hl, hm, fun h => by simp at h, fun hn => ?_⟩⟩
    obtain ⟨b, o, rfl⟩ := addr_of (hf' 0 hn).1
    simp only [add_none] at hf'
    refine ⟨b, o, rfl, cell_lt (hf' 0 hn).1, fun i s hi j u hu => ?_⟩
    have hlt : i < n := by have := (List.getElem?_eq_some_iff.1 hi).1; simpa using this
    have hs : f i = s := by simpa [hlt] using hi
    subst hs
    match j, hu with
    | 0, hu => simp [Snd.enc] at hu; subst hu; exact (hf' i hlt).1
    | 1, hu => simp [Snd.enc] at hu; subst hu; exact (hf' i hlt).2
    | j + 2, hu => simp [Snd.enc] at hu
/-- A list is read off its cells. -/
theorem rdk_of {α : Type} [Inhabited α] {k : Nat} {enc : α → List Value} (Q : α → Prop) {w : World} {x : Addr} {n cap : Nat} (hl : n ≤ cap) (hm : cap ≤ maxLen) (hk : ∀ y, ∃ u, (enc y)[0]? = some u)
    (each : ∀ i, i < n → ∃ y : α, (∀ j u, (enc y)[j]? = some u → w.cell? (x.add (i * k + j)) = some u) ∧ Q y) : ∃ xs, RdK k enc w (some x) n cap xs ∧ ∀ y ∈ xs, Q y := by
  obtain ⟨f, hf⟩ := Go.Deep.choose_lt (p := fun i (y : α) => (∀ j u, (enc y)[j]? = some u → w.cell? (x.add (i * k + j)) = some u) ∧ Q y) each
  refine ⟨(List.range n).map f, ⟨by simp, hl, hm, fun h => by simp at h, fun hn => ?_⟩, fun y hy => ?_⟩
  · obtain ⟨u0, hu0⟩ := hk (f 0)
    have h0 := (hf 0 hn).1 0 u0 hu0
    rw [Nat.zero_mul] at h0
    obtain ⟨b, o, rfl⟩ := addr_of h0
    simp only [add_none] at hf h0
    refine ⟨b, o, rfl, cell_lt h0, fun i s hi j u hu => ?_⟩
    have hlt : i < n := by have := (List.getElem?_eq_some_iff.1 hi).1; simpa using this
    have hs : f i = s := by simpa [hlt] using hi
    subst hs
    rw [Nat.add_assoc]
    exact (hf i hlt).1 j u hu
  · obtain ⟨i, hi, rfl⟩ := List.mem_map.1 hy
    exact (hf i (List.mem_range.1 hi)).2
instance : Inhabited Cl := ⟨⟨0, ⟨0, 0⟩⟩⟩
theorem c24_int : Tryd.prog.cellsOf 3 = 1 := by kernel_rfl
theorem c24_u32 : Tryd.prog.cellsOf 46 = 1 := by kernel_rfl
theorem c24_snd : Tryd.prog.cellsOf 48 = 2 := by kernel_rfl
theorem c24_cell : Tryd.prog.cellsOf 50 = 3 := by kernel_rfl
set_option maxRecDepth 100000 in
/-- A list of cells that came in, as it reads. -/
theorem open_cells {H : Type} {enc : TypeId × Value → H} {w : World} {a : Option Addr} {n cap : Nat} {d : DataW H} {p : List MemPlace}
    (h : DataW.Trod enc Tryd.prog w 0 (fun _ => true) true 43 (.slice a n cap) d p) : ∃ xs, RdC w a n cap xs := by
  obtain ⟨fuel, hf⟩ := h
  rcases Go.Deep.open_slice Tryd.underlying43 hf with ⟨hcs, _⟩ | ⟨x, l, c, m, n', D, Pl, hcs, _, hl, hm, hmm, _, hall⟩
  · simp [Value.cells] at hcs
    obtain ⟨rfl, rfl, rfl⟩ := hcs
    exact ⟨[], RdK.nilS w⟩
  · simp [Value.cells] at hcs
    obtain ⟨rfl, rfl, rfl⟩ := hcs
    have hmc : n ≤ m := by rw [hmm]; simp; exact hl
    obtain ⟨xs, hxs, _⟩ := rdk_of (k := 3) (enc := Cl.enc) (w := w) (x := x) (fun _ => True) hl hm (fun y => ⟨_, rfl⟩) (by
      intro i hi
      obtain ⟨cs', h1, h2⟩ := hall i (by omega)
      rw [c24_cell] at h1
      obtain ⟨_, hlen, hcell⟩ := World.cells?_some h1
      obtain ⟨y0, y1, n2, _, _, g0, g1⟩ := trod_struct2 Tryd.underlying50 h2
      match cs', hlen with
      | [v0, v1, v2], _ =>
        have g0' : DataW.trod enc Tryd.prog w 0 (fun _ => true) true n2 3 [v0] = some y0 := by simpa [c24_int] using g0
        have g1' : DataW.trod enc Tryd.prog w 0 (fun _ => true) true n2 48 [v1, v2] = some y1 := by simpa [c24_snd] using g1
        obtain ⟨z0, e0, _, w0⟩ := DataW.trod_int Tryd.underlying3 g0'
        obtain ⟨u0, u1, n3, _, _, k0, k1⟩ := trod_struct2 Tryd.underlying48 g1'
        have k0' : DataW.trod enc Tryd.prog w 0 (fun _ => true) true n3 46 [v1] = some u0 := by simpa [c24_u32] using k0
        have k1' : DataW.trod enc Tryd.prog w 0 (fun _ => true) true n3 46 [v2] = some u1 := by simpa [c24_u32] using k1
        obtain ⟨z1, e1, _, w1⟩ := DataW.trod_int Tryd.underlying46 k0'
        obtain ⟨z2, e2, _, w2⟩ := DataW.trod_int Tryd.underlying46 k1'
        simp only [List.cons.injEq, and_true] at e0 e1 e2
        subst e0 e1 e2
        obtain ⟨b1, rfl⟩ := u32_of w1
        obtain ⟨b2, rfl⟩ := u32_of w2
        have f0 := hcell 0 (by omega)
        have f1 := hcell 1 (by omega)
        have f2 := hcell 2 (by omega)
        rw [Go.Deep.add_add] at f0 f1 f2
        refine ⟨⟨z0, ⟨b1, b2⟩⟩, fun j u hu => ?_, trivial⟩
        match j, hu with
        | 0, hu => simp [Cl.enc] at hu; subst hu; simpa using f0
        | 1, hu => simp [Cl.enc] at hu; subst hu; simpa using f1
        | 2, hu => simp [Cl.enc] at hu; subst hu; simpa using f2
        | j + 3, hu => simp [Cl.enc] at hu)
    exact ⟨xs, hxs⟩
theorem slice_of {H : Type} {enc : TypeId × Value → H} {w : World} {t e : TypeId} (ht : Tryd.prog.underlying t = some (.slice e)) {n : Nat} {v : Value} {y : DataW H × List MemPlace} (h : DataW.trod enc Tryd.prog w 0 (fun _ => true) true n t [v] = some y) :
    ∃ a l c, v = .slice a l c ∧ DataW.Trod enc Tryd.prog w 0 (fun _ => true) true t (.slice a l c) y.1 y.2 := by
  obtain ⟨a, l, c, rfl⟩ : ∃ a l c, v = .slice a l c := by
    rcases Go.Deep.open_slice ht h with ⟨hcs, _⟩ | ⟨a, len, cap, m, n', D, Pl, hcs, _⟩ <;> (simp only [List.cons.injEq, and_true] at hcs; exact ⟨_, _, _, hcs⟩)
  exact ⟨a, l, c, rfl, n, by simpa [Value.cells] using h⟩
/-- A list of correspondences that came in, as it reads. -/
theorem open_corrs {H : Type} {enc : TypeId × Value → H} {w : World} {a : Option Addr} {n cap : Nat} {d : DataW H} {p : List MemPlace}
    (h : DataW.Trod enc Tryd.prog w 0 (fun _ => true) true 37 (.slice a n cap) d p) : ∃ hs, RdH w a n cap hs := by
  obtain ⟨fuel, hf⟩ := h
  rcases Go.Deep.open_slice_pairs Tryd.underlying37 Tryd.underlying45 (by kernel_rfl) rfl rfl (by kernel_rfl) (by kernel_rfl) hf with ⟨hcs, _⟩ | ⟨x, l, c, m, n', V0, V1, D0, D1, P0, P1, hcs, _, hl, hm, hmm, _, hall⟩
  · simp [Value.cells] at hcs
    obtain ⟨rfl, rfl, rfl⟩ := hcs
    exact ⟨[], RdK.nilS w, fun x hx => by simp at hx⟩
  · simp [Value.cells] at hcs
    obtain ⟨rfl, rfl, rfl⟩ := hcs
    have hmc : n ≤ m := by rw [hmm]; simp; exact hl
    have : Inhabited HCo := ⟨⟨none, 0, 0, 0, []⟩⟩
    obtain ⟨xs, hxs, hq⟩ := rdk_of (k := 2) (enc := HCo.enc) (w := w) (x := x) (fun y => RdC w y.a y.n y.cap y.x) hl hm (fun y => ⟨_, rfl⟩) (by
      intro i hi
      obtain ⟨h0, h1, h2, h3⟩ := hall i (by omega)
      obtain ⟨a1, l1, c1, hv, t1⟩ := slice_of Tryd.underlying43 h2
      obtain ⟨xs, hx⟩ := open_cells t1
      obtain ⟨z1, e1, _, w1⟩ := DataW.trod_int Tryd.underlying3 h3
      simp only [List.cons.injEq, and_true] at e1
      refine ⟨⟨a1, l1, c1, z1, xs⟩, fun j u hu => ?_, hx⟩
      match j, hu with
      | 0, hu => simp [HCo.enc] at hu; subst hu; rw [← hv]; exact h0
      | 1, hu => simp [HCo.enc] at hu; subst hu; rw [← e1]; exact h1
      | j + 2, hu => simp [HCo.enc] at hu)
    exact ⟨xs, hxs, hq⟩
end Go.Proofs.YtjfhfbobnncpkaaDoor
