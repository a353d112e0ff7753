/-
  Arguments opened (chapter 05): words, sounds; the two tables of bits off the row's condition; the door's own heap.
-/
import Derived.Test.YtbnbfdbliokcaaaDoorJ5
import Derived.Deep.SlicePairs
import Derived.Deep.Slices
import Derived.Lib.SmallJoins
import Derived.Lib.LaidTab
import Derived.ProofKit
import Derived.LaidMore
import Derived.OpenShut
import Derived.Stop.Joined
import Derived.Test.YtbnbfdbliokcaaaDoorRows
namespace Go.Proofs.YtbnbfdbliokcaaaDoor
open Go.ChangeShapes Go.WideShapes Go.ChangeAt Go.RowKit
theorem own : ownKnob Tryd.prog.godebug = none := by kernel_rfl
theorem laidOut : laidOutB Tryd.prog = true := by kernel_rfl
theorem addr_of {w : World} {x : Addr} {V : Value} (h : w.cell? (x.add 0) = some V) : ∃ b o, x = ⟨b, o, none⟩ := by
  obtain ⟨b, o, s⟩ := x
  have hs : s = none := by simpa [Addr.add] using World.cell?_spot h
  exact ⟨b, o, by rw [hs]⟩
theorem add_none (b o j : Nat) : (⟨b, o, none⟩ : Addr).add j = ⟨b, o + j, none⟩ := by
  unfold Addr.add
  by_cases hj : j = 0 <;> simp [hj]
theorem u32_of {n : Int} (h : (Lit.int .u32 n).wf = true) : ∃ x : BitVec 32, n = (x.toNat : Int) := by
  have := bounds_u32 h
  exact ⟨BitVec.ofNat 32 n.toNat, by simp; omega⟩
/-- A word that came in, as it reads. -/
theorem open_word {H : Type} {enc : TypeId × Value → H} {w : World} {a : Option Addr} {n cap : Nat} {d : DataW H} {p : List MemPlace}
    (h : DataW.Trod enc Tryd.prog w 0 (fun _ => true) true 22 (.slice a n cap) d p) : ∃ xs, RdS w a n cap xs := by
  obtain ⟨fuel, hf⟩ := h
  rcases Go.Deep.open_slice_pairs Tryd.underlying22 Tryd.underlying27 (by kernel_rfl) rfl rfl (by kernel_rfl) (by kernel_rfl) hf with ⟨hcs, _⟩ | ⟨x, l, c, m, n', V0, V1, D0, D1, P0, P1, hcs, _, hl, hm, hmm, _, hall⟩
  · simp [Value.cells] at hcs
    obtain ⟨rfl, rfl, rfl⟩ := hcs
    exact ⟨[], RdK.nilS w⟩
  · simp [Value.cells] at hcs
    obtain ⟨rfl, rfl, rfl⟩ := hcs
    have hmc : n ≤ m := by rw [hmm]; simp; exact hl
    have each : ∀ i, i < n → ∃ s : Snd, w.cell? (x.add (i * 2)) = some (.int .u32 s.p.toNat) ∧ w.cell? (x.add (i * 2 + 1)) = some (.int .u32 s.m.toNat) := by
      intro i hi
      obtain ⟨h0, h1, h2, h3⟩ := hall i (by omega)
      obtain ⟨z0, e0, _, w0⟩ := DataW.trod_int Tryd.underlying25 h2
      obtain ⟨z1, e1, _, w1⟩ := DataW.trod_int Tryd.underlying25 h3
      simp only [List.cons.injEq, and_true] at e0 e1
      obtain ⟨b0, rfl⟩ := u32_of w0
      obtain ⟨b1, rfl⟩ := u32_of w1
      exact ⟨⟨b0, b1⟩, by rw [h0, e0], by rw [h1, e1]⟩
    have : Inhabited Snd := ⟨⟨0, 0⟩⟩
    obtain ⟨f, hf'⟩ := Go.Deep.choose_lt (p := fun i (s : Snd) => w.cell? (x.add (i * 2)) = some (.int .u32 s.p.toNat) ∧ w.cell? (x.add (i * 2 + 1)) = some (.int .u32 s.m.toNat)) each
    refine ⟨(List.range n).map f, ⟨by simp, hl, hm, fun h => by simp at h, fun hn => ?_⟩⟩
    obtain ⟨b, o, rfl⟩ := addr_of (hf' 0 hn).1
    simp only [add_none] at hf'
    refine ⟨b, o, rfl, cell_lt (hf' 0 hn).1, fun i s hi j u hu => ?_⟩
    have hlt : i < n := by have := (List.getElem?_eq_some_iff.1 hi).1; simpa using this
    have hs : f i = s := by simpa [hlt] using hi
    subst hs
    match j, hu with
    | 0, hu => simp [Snd.enc] at hu; subst hu; exact (hf' i hlt).1
    | 1, hu => simp [Snd.enc] at hu; subst hu; exact (hf' i hlt).2
    | j + 2, hu => simp [Snd.enc] at hu
/-- A list is read off its cells. -/
theorem rdk_of {α : Type} [Inhabited α] {k : Nat} {enc : α → List Value} (Q : α → Prop) {w : World} {x : Addr} {n cap : Nat} (hl : n ≤ cap) (hm : cap ≤ maxLen) (hk : ∀ y, ∃ u, (enc y)[0]? = some u)
    (each : ∀ i, i < n → ∃ y : α, (∀ j u, (enc y)[j]? = some u → w.cell? (x.add (i * k + j)) = some u) ∧ Q y) : ∃ xs, RdK k enc w (some x) n cap xs ∧ ∀ y ∈ xs, Q y := by
  obtain ⟨f, hf⟩ := Go.Deep.choose_lt (p := fun i (y : α) => (∀ j u, (enc y)[j]? = some u → w.cell? (x.add (i * k + j)) = some u) ∧ Q y) each
  refine ⟨(List.range n).map f, ⟨by simp, hl, hm, fun h => by simp at h, fun hn => ?_⟩, fun y hy => ?_⟩
  · obtain ⟨u0, hu0⟩ := hk (f 0)
    have h0 := (hf 0 hn).1 0 u0 hu0
    rw [Nat.zero_mul] at h0
    obtain ⟨b, o, rfl⟩ := addr_of h0
    simp only [add_none] at hf h0
    refine ⟨b, o, rfl, cell_lt h0, fun i s hi j u hu => ?_⟩
    have hlt : i < n := by have := (List.getElem?_eq_some_iff.1 hi).1; simpa using this
    have hs : f i = s := by simpa [hlt] using hi
    subst hs
    rw [Nat.add_assoc]
    exact (hf i hlt).1 j u hu
  · obtain ⟨i, hi, rfl⟩ := List.mem_map.1 hy
    exact (hf i (List.mem_range.1 hi)).2
theorem u8_of {n : Int} (h : (Lit.int .u8 n).wf = true) : ∃ x : Nat, x < 256 ∧ n = (x : Int) := by
  have := bounds_u8 h
  exact ⟨n.toNat, by omega, by omega⟩
set_option maxRecDepth 100000 in
/-- A sound that came in by value. -/
theorem open_sound {H : Type} {enc : TypeId × Value → H} {w : World} {r : Reach} {b0 : Nat} {v : Value} {d : DataW H} {p : List MemPlace} (hval : Value.okWide Tryd.prog w r b0 27 v)
    (h : DataW.Trod enc Tryd.prog w 0 (fun _ => true) true 27 v d p) : ∃ s : Snd, v = .agg #[.int .u32 s.p.toNat, .int .u32 s.m.toNat] := by
  obtain ⟨v0, v1, y0, y1, n, rfl, _, _, h0, h1⟩ := Go.Joins.open_agg2 Tryd.underlying27 (by kernel_rfl) (by kernel_rfl) hval h
  obtain ⟨z0, e0, _, w0⟩ := DataW.trod_int Tryd.underlying25 h0
  obtain ⟨z1, e1, _, w1⟩ := DataW.trod_int Tryd.underlying25 h1
  simp only [List.cons.injEq, and_true] at e0 e1
  obtain ⟨b0, rfl⟩ := u32_of w0
  obtain ⟨b1, rfl⟩ := u32_of w1
  exact ⟨⟨b0, b1⟩, by rw [e0, e1]⟩
/-! ### The tables, and the door's own heap -/
theorem gTab : Tryd.prog.globalNamed "math/bits.deBruijn32tab" = some 0 := by kernel_rfl
theorem gTabT : (Tryd.prog.globals[0]?).map (·.type) = some 98 := by kernel_rfl
theorem gTab6 : Tryd.prog.globalNamed "math/bits.deBruijn64tab" = some 1 := by kernel_rfl
theorem gTabT6 : (Tryd.prog.globals[1]?).map (·.type) = some 112 := by kernel_rfl
theorem tabZ : ∀ j, j < 32 → (Lib.deBruijn32tab.map Int.ofNat).getD j 0 = ((Lib.deBruijn32tab.getD j 0 : Nat) : Int) := by decide +kernel
set_option maxRecDepth 100000 in
theorem tabZ6 : ∀ j, j < 64 → (Lib.deBruijn64tab.map Int.ofNat).getD j 0 = ((Lib.deBruijn64tab.getD j 0 : Nat) : Int) := by decide +kernel
theorem laidTab_eq : (Rows.laid_math_bits_deBruijn32tab : DataW Unit) = Lib.tabData .u8 (Lib.deBruijn32tab.map Int.ofNat) := by rfl
set_option maxRecDepth 100000 in
theorem laidTab6_eq : (Rows.laid_math_bits_deBruijn64tab : DataW Unit) = Lib.tabData .u8 (Lib.deBruijn64tab.map Int.ofNat) := by rfl
abbrev laidL : List (String × DataW Unit) := [("math/bits.deBruijn32tab", Rows.laid_math_bits_deBruijn32tab), ("math/bits.deBruijn64tab", Rows.laid_math_bits_deBruijn64tab)]
theorem tab_ok {W : World} (h : laidMetH Tryd.prog laidL W) : TabOk W := by
  rw [MakeChecks.laidMetH_plain _ _ _ (by kernel_rfl), laidL, laidTab_eq] at h
  have hT := Lib.tabIs_of_head gTab gTabT Tryd.underlying98 Tryd.underlying5 (by kernel_rfl) (by kernel_rfl) h
  intro j hj
  have := hT.cell gTab j (show j < (List.map Int.ofNat Lib.deBruijn32tab).length from hj)
  rw [this, tabZ j hj]
/-- The second table on the list. -/
theorem tabIs_of_second {P : Program} {W : World} {x : String × DataW Unit} {name : String} {k : IntKind} {zs : List Int} {rest : List (String × DataW Unit)} {g : Nat} {t e : TypeId} {n : Nat}
    (hg : P.globalNamed name = some g) (hty : (P.globals[g]?).map (·.type) = some t) (ht : P.underlying t = some (.array n e)) (he : P.underlying e = some (.int k)) (hce : P.cellsOf e = 1) (hct : P.cellsOf t = n)
    (h : laidMet P (x :: (name, Lib.tabData k zs) :: rest) W) : Lib.TabIs P W name k zs := by
  obtain ⟨ps, ⟨_, _, _, _, _, _, _, _, _, _, ⟨g', t', cs, fuel, p, q, hg', ht', hvar, hd, _, _⟩, _⟩, _⟩ := h
  obtain rfl := Option.some.inj (hg.symm.trans hg')
  obtain rfl := Option.some.inj (hty.symm.trans ht')
  unfold Lib.TabIs
  rw [hvar, ← Lib.cells_of_tab ht he hce hct hd]
theorem tab_ok6 {W : World} (h : laidMetH Tryd.prog laidL W) : Tab64 W := by
  rw [MakeChecks.laidMetH_plain _ _ _ (by kernel_rfl), laidL, laidTab6_eq] at h
  have hT := tabIs_of_second gTab6 gTabT6 Tryd.underlying112 Tryd.underlying5 (by kernel_rfl) (by kernel_rfl) h
  intro j hj
  have := hT.cell gTab6 j (show j < (List.map Int.ofNat Lib.deBruijn64tab).length from hj)
  rw [this, tabZ6 j hj]
set_option maxRecDepth 100000 in
theorem door_met (os : Os) (args : Array Value) : laidMetH Tryd.prog laidL ((World.doorLaid Tryd.prog 400 os).forCall (fun _ _ => 0) ⟨#[], args, []⟩).memory :=
  laidMetH_of_parts3 (fuel := 8) (laidMet_of_run' 8 (by kernel_rfl) (by kernel_rfl)) (by kernel_rfl) (by kernel_rfl)
end Go.Proofs.YtbnbfdbliokcaaaDoor
