/-
  Arguments opened (TopColumns): entries, costs; the table of bits and the table of steps off the row's condition; the door's own heap.
  TopColumns: the two tables off the row's condition; the door's own heap.
-/
import Derived.Test.YtjfhfbobnncpkaaDoorOz
import Derived.Test.YtjfhfbobnncpkaaDoorT9
import Derived.Lib.LaidTab
import Derived.ProofKit
import Derived.LaidMore
import Derived.LaidSub
import Derived.SizedLaws
import Derived.OpenShut
import Derived.Stop.Joined
import Derived.Deep.Strs
namespace Go.Proofs.YtjfhfbobnncpkaaDoor
open Go.ChangeShapes Go.WideShapes Go.ChangeAt Go.RowKit
theorem open_ints64 {H : Type} {enc : TypeId × Value → H} {w : World} {a : Option Addr} {n cap : Nat} {d : DataW H} {p : List MemPlace}
    (h : DataW.Trod enc Tryd.prog w 0 (fun _ => true) true 23 (.slice a n cap) d p) : ∃ xs, RdI w a n cap xs := by
  obtain ⟨fuel, hf⟩ := h
  rcases Go.Deep.open_slice1 Tryd.underlying23 (by kernel_rfl) hf with ⟨hcs, _⟩ | ⟨x, l, c, m, n', V, D, Pl, hcs, _, hl, hm, hmm, _, hall⟩
  · simp [Value.cells] at hcs
    obtain ⟨rfl, rfl, rfl⟩ := hcs
    exact ⟨[], RdK.nilS w⟩
  · simp [Value.cells] at hcs
    obtain ⟨rfl, rfl, rfl⟩ := hcs
    have hmc : n ≤ m := by rw [hmm]; simp; exact hl
    obtain ⟨xs, hxs, _⟩ := rdk_of (k := 1) (enc := I64.enc) (w := w) (x := x) (fun _ => True) hl hm (fun y => ⟨_, rfl⟩) (by
      intro i hi
      obtain ⟨h0, h1⟩ := hall i (by omega)
      obtain ⟨z, e, _, _⟩ := DataW.trod_int Tryd.underlying2 h1
      simp only [List.cons.injEq, and_true] at e
      refine ⟨z, fun j u hu => ?_, trivial⟩
      match j, hu with
      | 0, hu => simp [I64.enc] at hu; subst hu; rw [← e]; simpa using h0
      | j + 1, hu => simp [I64.enc] at hu)
    exact ⟨xs, hxs⟩
set_option maxRecDepth 100000 in
theorem open_costs {H : Type} {enc : TypeId × Value → H} {w : World} {r : Reach} {b0 : Nat} {v : Value} {d : DataW H} {p : List MemPlace} (hval : Value.okWide Tryd.prog w r b0 25 v)
    (h : DataW.Trod enc Tryd.prog w 0 (fun _ => true) true 25 v d p) : ∃ a n cap ws g, v = .agg #[.slice a n cap, .int .i64 g] ∧ RdI w a n cap ws := by
  obtain ⟨v0, v1, y0, y1, n, rfl, _, _, h0, h1⟩ := Go.Joins.open_agg2 Tryd.underlying25 (by kernel_rfl) (by kernel_rfl) hval h
  obtain ⟨z1, e1, _, w1⟩ := DataW.trod_int Tryd.underlying2 h1
  simp only [List.cons.injEq, and_true] at e1
  subst e1
  obtain ⟨a, l, c, rfl⟩ : ∃ a l c, v0 = .slice a l c := by
    rcases Go.Deep.open_slice Tryd.underlying23 h0 with ⟨hcs, _⟩ | ⟨a, len, cap, m, n', D, Pl, hcs, _⟩ <;> (simp only [List.cons.injEq, and_true] at hcs; exact ⟨_, _, _, hcs⟩)
  obtain ⟨ws, hw⟩ := open_ints64 (enc := enc) (w := w) (d := y0.1) (p := y0.2) ⟨n, by simpa [Value.cells] using h0⟩
  exact ⟨a, l, c, ws, z1, rfl, hw⟩
theorem bytes_form : Tryd.prog.bytesOf 36 = 32 := by kernel_rfl
/-- How many forms there are at most. -/
theorem forms_len {H : Type} {enc : TypeId × Value → H} {w : World} {a : Option Addr} {n cap : Nat} {d : DataW H} {p : List MemPlace}
    (h : DataW.Trod enc Tryd.prog w 0 (fun _ => true) true 29 (.slice a n cap) d p) (hz : ∀ x ∈ d.weights Tryd.prog 29, x ≤ reachBytes) : n ≤ 4398046511104 := by
  obtain ⟨fuel, hf⟩ := h
  rcases Go.Deep.open_slice Tryd.underlying29 hf with ⟨hcs, _⟩ | ⟨x, l, c, m, n', D, Pl, hcs, _, hl, hm, hmm, hx, _⟩
  · simp [Value.cells] at hcs
    obtain ⟨rfl, rfl, rfl⟩ := hcs
    omega
  · simp [Value.cells] at hcs
    obtain ⟨rfl, rfl, rfl⟩ := hcs
    have h1 := hz ((((List.range n).map D).length + ((List.range (m - n)).map fun j => D (n + j)).length) * Tryd.prog.bytesOf 36) (by
      have := congrArg Prod.fst hx
      simp only at this
      rw [this]
      simp only [DataW.weights, Tryd.underlying29]
      exact List.mem_cons_self)
    rw [bytes_form] at h1
    simp only [List.length_map, List.length_range, reachBytes] at h1
    omega
/-- Entries that came in, as they read. -/
theorem open_entries {H : Type} {enc : TypeId × Value → H} {w : World} {a : Option Addr} {n cap : Nat} {d : DataW H} {p : List MemPlace}
    (h : DataW.Trod enc Tryd.prog w 0 (fun _ => true) true 22 (.slice a n cap) d p) (hz : ∀ x ∈ d.weights Tryd.prog 22, x ≤ reachBytes) : ∃ es, RdE w a n cap es ∧ ∀ y ∈ es, y.n ≤ 4398046511104 := by
  obtain ⟨fuel, hf⟩ := h
  rcases Go.Deep.open_slice_pairs Tryd.underlying22 Tryd.underlying31 (by kernel_rfl) rfl rfl (by kernel_rfl) (by kernel_rfl) hf with ⟨hcs, _⟩ | ⟨x, l, c, m, n', V0, V1, D0, D1, P0, P1, hcs, _, hl, hm, hmm, hx, hall⟩
  · simp [Value.cells] at hcs
    obtain ⟨rfl, rfl, rfl⟩ := hcs
    exact ⟨[], ⟨RdK.nilS w, fun x hx => by simp at hx⟩, fun x hx => by simp at hx⟩
  · simp [Value.cells] at hcs
    obtain ⟨rfl, rfl, rfl⟩ := hcs
    have hmc : n ≤ m := by rw [hmm]; simp; exact hl
    have hxd := congrArg Prod.fst hx
    simp only at hxd
    have : Inhabited HE := ⟨⟨⟨#[]⟩, none, 0, 0, []⟩⟩
    obtain ⟨xs, hxs, hq⟩ := rdk_of (k := 2) (enc := HE.enc) (w := w) (x := x) (fun y => RdF w y.a y.n y.cap y.fs ∧ y.n ≤ 4398046511104) hl hm (fun y => ⟨_, rfl⟩) (by
      intro i hi
      obtain ⟨h0, h1, h2, h3⟩ := hall i (by omega)
      obtain ⟨s1, e0, _, _⟩ := DataW.trod_string Tryd.underlying9 h2
      obtain ⟨a1, l1, c1, hv, t1⟩ := slice_of Tryd.underlying29 h3
      obtain ⟨xs, hx⟩ := open_forms t1
      simp only [List.cons.injEq, and_true] at e0
      have hn1 := forms_len t1 (fun u hu => hz u (by
        rw [hxd]
        simp only [DataW.weights, Tryd.underlying22]
        refine List.mem_cons_of_mem _ (List.mem_append_left _ ?_)
        have hal : ∀ (L : List (DataW H)) (d : DataW H), d ∈ L → u ∈ d.weights Tryd.prog 31 → u ∈ DataW.weightsAll Tryd.prog 31 L := fun L => by
          induction L with
          | nil => intro d hd; cases hd
          | cons z L ih =>
            intro d hd hu'
            simp only [DataW.weightsAll, List.mem_append]
            rcases List.mem_cons.1 hd with rfl | hd
            · exact .inl hu'
            · exact .inr (ih d hd hu')
        refine hal _ (.agg [D0 i, D1 i]) (List.mem_map.2 ⟨i, List.mem_range.2 hi, rfl⟩) ?_
        simp only [DataW.weights, Tryd.underlying31]
        exact DataW.weights_mem_each (j := 1) rfl rfl u hu))
      refine ⟨⟨s1, a1, l1, c1, xs⟩, fun j u hu => ?_, hx, hn1⟩
      match j, hu with
      | 0, hu => simp [HE.enc] at hu; subst hu; rw [← e0]; exact h0
      | 1, hu => simp [HE.enc] at hu; subst hu; rw [← hv]; exact h1
      | j + 2, hu => simp [HE.enc] at hu)
    exact ⟨xs, ⟨hxs, fun y hy => (hq y hy).1⟩, fun y hy => (hq y hy).2⟩
end Go.Proofs.YtjfhfbobnncpkaaDoor
namespace Go.Proofs.YtjfhfbobnncpkaaDoor
open Go.ChangeShapes Go.WideShapes Go.ChangeAt Go.RowKit
theorem gTab : Tryd.prog.globalNamed "math/bits.deBruijn32tab" = some 1 := by kernel_rfl
theorem gTabT : (Tryd.prog.globals[1]?).map (·.type) = some 130 := by kernel_rfl
theorem gSteps : Tryd.prog.globalNamed "ablaut/multi.steps" = some 0 := by kernel_rfl
theorem gStepsT : (Tryd.prog.globals[0]?).map (·.type) = some 90 := by kernel_rfl
theorem tabZ : ∀ j, j < 32 → (Lib.deBruijn32tab.map Int.ofNat).getD j 0 = ((Lib.deBruijn32tab.getD j 0 : Nat) : Int) := by decide +kernel
theorem laidTab_eq : (Rows.laid_math_bits_deBruijn32tab : DataW Unit) = Lib.tabData .u8 (Lib.deBruijn32tab.map Int.ofNat) := by rfl
abbrev laidL : List (String × DataW Unit) := [("math/bits.deBruijn32tab", Rows.laid_math_bits_deBruijn32tab), ("ablaut/multi.steps", Rows.laid_ablaut_multi_steps)]
theorem laidL_plain : (laidL.filter fun x => x.2.handleName?.isNone) = [("math/bits.deBruijn32tab", Rows.laid_math_bits_deBruijn32tab)] := by kernel_rfl
theorem tab_ok {W : World} (h : laidMetH Tryd.prog laidL W) : TabOk W := by
  have h1 := (laidMetH_iff.1 h).1
  rw [laidL_plain, laidTab_eq] at h1
  have hT := Lib.tabIs_of_head gTab gTabT Tryd.underlying130 Tryd.underlying5 (by kernel_rfl) (by kernel_rfl) h1
  intro j hj
  have := hT.cell gTab j (show j < (List.map Int.ofNat Lib.deBruijn32tab).length from hj)
  rw [this, tabZ j hj]
theorem list9 {l : List Value} (h : l.length = 9) : ∃ c0 c1 c2 c3 c4 c5 c6 c7 c8, l = [c0, c1, c2, c3, c4, c5, c6, c7, c8] := by
  match l, h with
  | [c0, c1, c2, c3, c4, c5, c6, c7, c8], _ => exact ⟨_, _, _, _, _, _, _, _, _, rfl⟩
theorem trod_arr3x3 {H : Type} {enc : TypeId × Value → H} {P : Program} {w : World} {base : Nat} {spare : Nat → Bool} {held : Bool} {t e : TypeId} {fuel : Nat} {cs : List Value} {x : DataW H × List MemPlace} (ht : P.underlying t = some (.array 3 e)) (hce : P.cellsOf e = 3) (hct : P.cellsOf t = 9)
    (h : DataW.trod enc P w base spare held fuel t cs = some x) :
    ∃ c0 c1 c2 c3 c4 c5 c6 c7 c8, cs = [c0, c1, c2, c3, c4, c5, c6, c7, c8] ∧
    ∃ y0 y1 y2 n, x = (.agg [y0.1, y1.1, y2.1], y0.2 ++ (y1.2 ++ y2.2)) ∧ DataW.trod enc P w base spare held n e [c0, c1, c2] = some y0 ∧ DataW.trod enc P w base spare held n e [c3, c4, c5] = some y1 ∧ DataW.trod enc P w base spare held n e [c6, c7, c8] = some y2 := by
  cases fuel with
  | zero => simp [DataW.trod] at h
  | succ n =>
    unfold DataW.trod at h
    rw [ht] at h
    have r3 : List.range 3 = [0, 1, 2] := rfl
    simp only [hct] at h
    split at h
    · rename_i hl
      obtain ⟨c0, c1, c2, c3, c4, c5, c6, c7, c8, rfl⟩ := list9 (by simpa using hl)
      refine ⟨c0, c1, c2, c3, c4, c5, c6, c7, c8, rfl, ?_⟩
      simp [r3, hce] at h
      cases h0 : DataW.trod enc P w base spare held n e [c0, c1, c2] with
      | none => simp [h0] at h
      | some y0 =>
        cases h1 : DataW.trod enc P w base spare held n e [c3, c4, c5] with
        | none => simp [h0, h1] at h
        | some y1 =>
          cases h2 : DataW.trod enc P w base spare held n e [c6, c7, c8] with
          | none => simp [h0, h1, h2] at h
          | some y2 =>
            simp [h0, h1, h2] at h
            exact ⟨y0, y1, y2, n, h.symm, h0, h1, h2⟩
    · cases h
theorem c_step : Tryd.prog.cellsOf 85 = 3 := by kernel_rfl
theorem c_steps : Tryd.prog.cellsOf 90 = 9 := by kernel_rfl
theorem c_int : Tryd.prog.cellsOf 3 = 1 := by kernel_rfl
theorem c_fn : Tryd.prog.cellsOf 83 = 1 := by kernel_rfl
/-- One step of the table. -/
theorem step_of {w : World} {n : Nat} {v0 v1 v2 : Value} {y : DataW (List UInt8) × List MemPlace} (h : DataW.trod (funcToken Tryd.prog) Tryd.prog w 0 (fun _ => true) true n 85 [v0, v1, v2] = some y) :
    ∃ y0 y1 y2 m, y.1 = .agg [y0.1, y1.1, y2.1] ∧ DataW.trod (funcToken Tryd.prog) Tryd.prog w 0 (fun _ => true) true m 3 [v0] = some y0 ∧ DataW.trod (funcToken Tryd.prog) Tryd.prog w 0 (fun _ => true) true m 3 [v1] = some y1 ∧ DataW.trod (funcToken Tryd.prog) Tryd.prog w 0 (fun _ => true) true m 83 [v2] = some y2 := by
  obtain ⟨y0, y1, y2, m, hy, _, g0, g1, g2⟩ := Go.Deep.trod_struct3 Tryd.underlying85 h
  exact ⟨y0, y1, y2, m, by rw [hy], by simpa [c_int] using g0, by simpa [c_int] using g1, by simpa [c_int, c_fn] using g2⟩
theorem step_is {w : World} {n : Nat} {v0 v1 v2 : Value} {y : DataW (List UInt8) × List MemPlace} (h : DataW.trod (funcToken Tryd.prog) Tryd.prog w 0 (fun _ => true) true n 85 [v0, v1, v2] = some y) {a b : Int} {c : UInt8} {r : List UInt8} {f0 : FuncId}
    (hy : y.1 = .agg [.lit (.int .i64 a), .lit (.int .i64 b), .held (c :: r)]) (hone : ((List.range Tryd.prog.funcs.size).filter fun f => (Tryd.prog.funcs[f]?).any (·.name.toUTF8.data.toList == c :: r)) = [f0]) : v0 = .int .i64 a ∧ v1 = .int .i64 b ∧ v2 = .func (.func f0) #[] #[] := by
  obtain ⟨y0, y1, y2, m, e, g0, g1, g2⟩ := step_of h
  rw [e] at hy
  simp only [DataW.agg.injEq, List.cons.injEq, and_true] at hy
  obtain ⟨k0, k1, k2⟩ := hy
  obtain ⟨z0, e0, f0', _⟩ := DataW.trod_int Tryd.underlying3 g0
  obtain ⟨z1, e1, f1', _⟩ := DataW.trod_int Tryd.underlying3 g1
  refine ⟨?_, ?_, ?_⟩
  · rw [f0'] at k0
    simp only [DataW.lit.injEq, Lit.int.injEq, true_and] at k0
    simp only [List.cons.injEq, and_true] at e0
    rw [e0, k0]
  · rw [f1'] at k1
    simp only [DataW.lit.injEq, Lit.int.injEq, true_and] at k1
    simp only [List.cons.injEq, and_true] at e1
    rw [e1, k1]
  · obtain ⟨d2, p2⟩ := y2
    simp only at k2
    subst k2
    exact func_of_trod Tryd.underlying83 hone g2
theorem steps_ok {W : World} (h : laidMetH Tryd.prog laidL W) : StepsOk W := by
  obtain ⟨g, t, cs, fuel, p, hg, ht, hv, hd⟩ := h.funcs (n := "ablaut/multi.steps") (List.mem_cons_of_mem _ (List.mem_singleton.2 rfl))
  obtain rfl := Option.some.inj (gSteps.symm.trans hg)
  obtain rfl := Option.some.inj (gStepsT.symm.trans ht)
  obtain ⟨c0, c1, c2, c3, c4, c5, c6, c7, c8, hcs, y0, y1, y2, n, hx, h0, h1, h2⟩ := trod_arr3x3 Tryd.underlying90 c_step c_steps hd
  have hx1 := congrArg Prod.fst hx
  simp only [DataW.funcsOut, DataW.funcsOutAll, beq_self_eq_true, if_true, DataW.agg.injEq, List.cons.injEq, and_true] at hx1
  obtain ⟨k0, k1, k2⟩ := hx1
  obtain ⟨rfl, rfl, rfl⟩ := step_is h0 (f0 := 93) k0.symm (by kernel_rfl)
  obtain ⟨rfl, rfl, rfl⟩ := step_is h1 (f0 := 96) k1.symm (by kernel_rfl)
  obtain ⟨rfl, rfl, rfl⟩ := step_is h2 (f0 := 97) k2.symm (by kernel_rfl)
  have hcs2 : cs = stepsC := by rw [← Array.toList_inj, hcs]; rfl
  unfold World.var? at hv
  rw [gSteps] at hv
  simp only [Option.bind_some] at hv
  split at hv
  · rename_i cs' t fr hh
    cases hv
    exact ⟨t, fr, by rw [hh, hcs2]⟩
  · cases hv
set_option maxRecDepth 100000 in
theorem door_met (os : Os) (args : Array Value) : laidMetH Tryd.prog laidL ((World.doorLaid Tryd.prog 600 os).forCall (fun _ _ => 0) ⟨#[], args, []⟩).memory :=
  laidMetH_of_parts3 (fuel := 8) (laidMet_of_run' 8 (by kernel_rfl) (by kernel_rfl)) (by kernel_rfl) (by kernel_rfl)
end Go.Proofs.YtjfhfbobnncpkaaDoor
