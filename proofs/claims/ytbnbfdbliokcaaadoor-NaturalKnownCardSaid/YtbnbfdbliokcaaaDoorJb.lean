/-
  natural.check; the reference's Has and Check; sounds as keys.
-/
import Derived.Test.YtbnbfdbliokcaaaDoorJa
import Derived.Test.YtbnbfdbliokcaaaDoorJm
import Derived.Test.YtbnbfdbliokcaaaDoorBg
namespace Go.Proofs.YtbnbfdbliokcaaaDoor
open Go.RowKit Go.Maps Go.MapKept Go.ChangeMaps
/-! ### Sounds as keys -/
theorem keyed_snd : Keyed Tryd.prog 27 := Keyed.of_law (deep_law_laid (by kernel_rfl) (m := 2) (by omega) (of_decide_eq_true (by kernel_rfl)) (by kernel_rfl) (by rw [Tryd.underlying27]))
def klS (s : Snd) : Lit := .string (keyBytes [.int .u32 s.p.toNat, .int .u32 s.m.toNat])
theorem wf_u32 (x : BitVec 32) : (Lit.int .u32 (x.toNat : Int)).wf = true := by
  have h := x.isLt
  have h0 : IntKind.u32.min = 0 := by decide
  have h1 : IntKind.u32.max = 4294967295 := by decide
  show (decide (IntKind.u32.min ≤ (x.toNat : Int)) && decide ((x.toNat : Int) ≤ IntKind.u32.max)) = true
  rw [h0, h1, Bool.and_eq_true, decide_eq_true_eq, decide_eq_true_eq]; omega
theorem wf_i64 (x : Int) (h0 : 0 ≤ x) (hx : x ≤ 4294967295) : (Lit.int .i64 x).wf = true := by
  have h0 : IntKind.i64.min = -9223372036854775808 := by decide
  have h1 : IntKind.i64.max = 9223372036854775807 := by decide
  show (decide (IntKind.i64.min ≤ x) && decide (x ≤ IntKind.i64.max)) = true
  rw [h0, h1, Bool.and_eq_true, decide_eq_true_eq, decide_eq_true_eq]; omega
theorem keyS (s : Snd) : keyOf Tryd.prog 27 (sndV s) = some (klS s) := by
  have hk : Tryd.prog.keyType 27 = true := by kernel_rfl
  have hc : Tryd.prog.cellsOf 27 = 2 := by kernel_rfl
  have hc1 : Tryd.prog.cellsOf 25 = 1 := by kernel_rfl
  obtain ⟨d, hd⟩ : ∃ d, Tryd.prog.types.size = d + 1 := ⟨Tryd.prog.types.size - 1, by have : 0 < Tryd.prog.types.size := of_decide_eq_true (by kernel_rfl); omega⟩
  have w1 := wf_u32 s.p
  have w2 := wf_u32 s.m
  unfold keyOf
  rw [Tryd.underlying27, hd]
  simp [hk, Value.formed, Tryd.underlying27, hc, Program.keyLits, Tryd.underlying25, hc1, w1, w2, klS, Value.cells]
theorem klS_inj (x y : Snd) (h : klS x = klS y) : x = y := by
  have hx := keyS x
  rw [h] at hx
  have := keyed_snd.inj hx (keyS y)
  simp only [Value.agg.injEq] at this
  refine (snd_eq_iff x y).2 ?_
  simp at this
  omega
theorem klS_lit (x : Snd) : WideAt.IsKeyLit (klS x) := isKeyLit_string _

/-! ### The question -/
def chkI (m : Nat) (xs : List Snd) : Int := if m < xs.length then 12 else if xs.all Snd.ok = false then 14 else if decide xs.Nodup = false then 6 else 0
theorem chkI_zero {m : Nat} {xs : List Snd} (h : chkI m xs = 0) : xs.length ≤ m ∧ (∀ x ∈ xs, x.ok = true) ∧ xs.Nodup := by
  unfold chkI at h
  split at h
  · cases h
  · rename_i h1
    split at h
    · cases h
    · rename_i h2
      split at h
      · cases h
      · rename_i h3
        refine ⟨by omega, List.all_eq_true.1 (by simpa using h2), by simpa using h3⟩
/-- How many different ones there are. -/
def dif {α : Type} [DecidableEq α] : List α → Nat → Nat
  | _, 0 => 0
  | xs, k + 1 => dif xs k + match xs[k]? with
    | some x => if x ∈ xs.take k then 0 else 1
    | none => 0
theorem dif_le {α : Type} [DecidableEq α] (xs : List α) : ∀ k, dif xs k ≤ k
  | 0 => Nat.le_refl _
  | k + 1 => by
    have := dif_le xs k
    unfold dif
    split
    · split <;> omega
    · omega
theorem dif_succ {α : Type} [DecidableEq α] {xs : List α} {k : Nat} {x : α} (h : xs[k]? = some x) : dif xs (k + 1) = if x ∈ xs.take k then dif xs k else dif xs k + 1 := by
  simp only [dif, h]
  split <;> rfl
theorem dif_nodup {α : Type} [DecidableEq α] (xs : List α) : ∀ k, k ≤ xs.length → (dif xs k = k ↔ (xs.take k).Nodup)
  | 0, _ => by simp [dif]
  | k + 1, hk => by
    have ih := dif_nodup xs k (by omega)
    have hx : xs[k]? = some xs[k] := List.getElem?_eq_getElem (by omega)
    have hle := dif_le xs k
    rw [dif_succ hx, take_succ_at hx, List.nodup_append]
    by_cases hm : xs[k] ∈ xs.take k
    · rw [if_pos hm]
      refine ⟨fun h => by omega, fun h => absurd rfl (h.2.2 _ hm _ (by simp))⟩
    · rw [if_neg hm]
      refine ⟨fun h => ⟨ih.1 (by omega), by simp, fun a ha b hb e => ?_⟩, fun h => by have := ih.2 h.1; omega⟩
      simp at hb
      subst hb; subst e; exact hm ha
def cntM {α : Type} [DecidableEq α] (xs : List α) (k : Nat) (x : α) : Option Lit := if x ∈ xs.take k then some (.int .i64 (((xs.take k).count x : Nat) : Int)) else none
theorem cntM_get {α : Type} [DecidableEq α] (xs : List α) (k : Nat) (x : α) : (cntM xs k x).getD (.int .i64 0) = .int .i64 (((xs.take k).count x : Nat) : Int) := by
  unfold cntM
  split
  · rfl
  · rename_i h; rw [List.count_eq_zero_of_not_mem h]; rfl
theorem cntM_succ {α : Type} [DecidableEq α] {xs : List α} {k : Nat} {x : α} (h : xs[k]? = some x) : (fun y => if y = x then some (Lit.int .i64 ((((xs.take k).count x : Nat) : Int) + 1)) else cntM xs k y) = cntM xs (k + 1) := by
  funext y
  unfold cntM
  rw [take_succ_at h]
  by_cases e : y = x
  · subst e
    rw [if_pos rfl, if_pos (by simp), List.count_append]
    simp
  · rw [if_neg e, List.count_append]
    have h1 : (y ∈ xs.take k ++ [x]) ↔ y ∈ xs.take k := by simp [e]
    by_cases hm : y ∈ xs.take k
    · rw [if_pos hm, if_pos (h1.2 hm), List.count_singleton]
      have : (x == y) = false := by simpa using fun h => e h.symm
      rw [this]; simp
    · rw [if_neg hm, if_neg (fun h => hm (h1.1 h))]
/-! ### natural.check -/
theorem step_of_list3 {P : Program} {Q : Exit → Act → World → Prop} {o : Oper} {a : Act} {w : World} {K : Act → World → Prop} (hw : Region.wanted o (yielded #[] a.tmps) = true) (h : wpList P #[] (Exit.then K (fun e a w => e ≠ .outgrown ∧ Q e a w)) [o] a w) : o.wp P a w K Q := by
  have h1 := step_of_list (ops := #[]) (Q := fun e a w => e ≠ .outgrown ∧ Q e a w) hw (by rintro ⟨_, _, h⟩; exact h.1 rfl) h
  clear h
  unfold Oper.wp at *
  generalize (execOp a.eval o).run P w = r at *
  cases r with
  | ok x w' =>
    cases x with
    | enter f args =>
      refine Calls.mono h1 fun e w'' he => ?_
      cases e with
      | returned v => exact he
      | panicked ch => exact he.2
      | outgrown => obtain ⟨_, _, h⟩ := he; exact absurd rfl h.1
    | _ => exact h1
  | halt x w' =>
    cases x with
    | panic v => exact h1.2
    | _ => exact h1
theorem zero_int (u : World) : (zeroValue 3).run Tryd.prog u = .ok (.int .i64 0) u := by kernel_rfl
set_option maxHeartbeats 2000000 in
theorem check_any (m : Nat) (hm : m ≤ 60000) (a : Option Addr) (n cap : Nat) (xs : List Snd) (w : World) (hr : RdS w a n cap xs) :
    Calls Tryd.prog 46 #[.slice a n cap, .int .i64 m] w fun e w' => e = .returned (.int .i64 (chkI m xs)) ∧ Ext w w' := by
  have hl := hr.len
  have hmax : n ≤ 9223372036854775807 := by have := hr.le; have := hr.most; unfold maxLen at this; omega
  by_cases hbig : m < n
  · have d1 : decide ((m : Int) < (n : Int)) = true := by simp; omega
    have hE : chkI m xs = 12 := by unfold chkI; rw [if_pos (by omega)]
    replace hE := Lib.hid hE
    replace hl := Lib.hid hl
    go_enter Tryd.func46, Tryd.ntmps46
    go_wp2_with fail
    go_ret
    exact ⟨ret_int hE.out.symm, Ext.refl _⟩
  · have d1 : decide ((m : Int) < (n : Int)) = false := by simp; omega
    have hE1 : ¬ m < xs.length := by omega
    have hn : n ≤ 60000 := by omega
    have hmm := @run_makeMap Tryd.prog
    replace hl := Lib.hid hl
    replace hE1 := Lib.hid hE1
    go_enter Tryd.func46, Tryd.ntmps46
    go_wp2_with fail
    have hM0 := MapC.made w Tryd.prog 27 3 klS
    have hx0 : Ext w (w.alloc (.map #[] 0)) := Ext.alloc1 _ _
    generalize (w.alloc (.map #[] 0)) = wB at *
    go_loopw [15] (fun i wr => ∃ k : Nat, k ≤ n ∧ i = .int .i64 k ∧ Hid (MapC Tryd.prog 27 3 klS wr w.heap.size k (dif xs k) (cntM xs k)) ∧ Hid (∀ (i : Nat) (x : Snd), i < k → xs[i]? = some x → x.ok = true) ∧ Ext w wr) (fun i _ => n - (intOf i).toNat)
    case atStart => exact ⟨0, Nat.zero_le _, rfl, Lib.hid (by have : cntM xs 0 = fun _ => none := by funext y; simp [cntM]
                                                              rw [this]; exact hM0), Lib.hid (fun i x h => absurd h (Nat.not_lt_zero _)), hx0⟩
    case round =>
      obtain ⟨k, hk, rfl, hM, hall, hx⟩ := hrel
      by_cases hlt : k < n
      · have hki : (k : Int) < (n : Int) := by omega
        obtain ⟨b, off, s, rfl, hs, hb, p0, p1⟩ := (hr.ext hx).snd hlt
        have hBlt := hM.out.lt
        cases hok : s.ok
        · have hE : chkI m xs = 14 := by
            unfold chkI
            rw [if_neg hE1.out, if_pos]
            rw [List.all_eq_false]
            exact ⟨s, List.mem_of_getElem? hs, by rw [hok]; simp⟩
          replace hE := Lib.hid hE
          replace hs := Lib.hid hs
          go_wp2_with fail
          refine (cbool (fvalid_any s _) hok).mono ?_
          rintro e w1 ⟨rfl, hx1⟩
          replace hok := Lib.hid hok
          go_wp2_with fail
          go_ret
          exact ⟨ret_int hE.out.symm, (hx.trans (Ext.alloc1 _ _)).trans hx1⟩
        · have hall2 := Lib.hid (all_succ hall.out hs hok)
          go_wp2_with fail
          refine (cbool (fvalid_any s _) hok).mono ?_
          rintro e w1 ⟨rfl, hx1⟩
          obtain ⟨c0, c1⟩ := ((SndB.new wr s).ext hx1).cells
          have hxw1 := (hx.trans (Ext.alloc1 _ _)).trans hx1
          have hMd := hM.out.kept ((((Ext.refl _).alloc _).trans hx1).drew)
          have hBl1 : wr.heap.size < w1.heap.size := cell_lt c0
          obtain ⟨v, hv⟩ : ∃ v : Int, v = (((xs.take k).count s : Nat) : Int) := ⟨_, rfl⟩
          have hvb : 0 ≤ v ∧ v < 9223372036854775807 := by
            have h1 := List.count_le_length (a := s) (l := xs.take k)
            rw [List.length_take] at h1; omega
          have hwv : IntKind.i64.wrap (v + 1) = v + 1 := IntWalk.i64_in _ (by omega)
          have hget := cntM_get xs k s
          rw [← hv] at hget
          obtain ⟨v0, st, es1, es2, clk1, clk2, ⟨es0, clk0, hb0⟩, r1, r2, r3⟩ := hMd.inc (t := 96) keyed_snd Tryd.underlying96 Tryd.underlying3 zero_int (by unfold maxLen; omega) klS_inj klS_lit (keyS s) hget hvb
          have hsuc := cntM_succ hs
          rw [← hv] at hsuc
          rw [hsuc] at r3
          have hdif := dif_succ hs
          have hisS : (cntM xs k s).isSome = decide (s ∈ xs.take k) := by unfold cntM; split <;> simp [*]
          have hdif2 : (if (cntM xs k s).isSome = true then dif xs k else dif xs k + 1) = dif xs (k + 1) := by rw [hdif, hisS]; simp
          rw [hdif2] at r3
          replace hs := Lib.hid hs
          replace hv := Lib.hid hv
          replace hok := Lib.hid hok
          replace hdif := Lib.hid hdif
          replace hisS := Lib.hid hisS
          replace hdif2 := Lib.hid hdif2
          replace hsuc := Lib.hid hsuc
          replace hget := Lib.hid hget
          have hBne : some wr.heap.size ≠ some w.heap.size := by intro e; injection e; omega
          go_wp2_with fail
          have hS0 : (fun W' : World => w1.drew.grownBy W' (some w.heap.size) ∧ (W'.heap[w.heap.size]? = w1.drew.heap[w.heap.size]? ∨ W'.heap[w.heap.size]? = some (.map es1 clk1))) w1.drew := ⟨World.grownBy.refl _ _, .inl rfl⟩
          refine wp_region_F (fun W' : World => w1.drew.grownBy W' (some w.heap.size) ∧ (W'.heap[w.heap.size]? = w1.drew.heap[w.heap.size]? ∨ W'.heap[w.heap.size]? = some (.map es1 clk1))) [0, 1, 2, 3] (by kernel_rfl) ?_
          show wpF _ _ _ _ _ _ 7 _ _ _
          refine wpF_take (i := 0) (v := .map (some w.heap.size)) rfl (by kernel_rfl) (by kernel_rfl) (by kernel_rfl) (by kernel_rfl) (fun _ _ _ h => h) (.inl ⟨rfl, fun W' hW' => ?_⟩) hS0 ?_
          · go_simp
          refine wpF_take (i := 1) (v := sndV s) rfl (by kernel_rfl) (by kernel_rfl) (by kernel_rfl) (by kernel_rfl) (fun _ _ _ h => h) (.inl ⟨rfl, fun W' hW' => ?_⟩) hS0 ?_
          · have s0 := hW'.1.cell (show w1.drew.cell? ⟨wr.heap.size, 0, none⟩ = some (.int .u32 s.p.toNat) from c0) hBne
            have s1 := hW'.1.cell (show w1.drew.cell? ⟨wr.heap.size, 1, none⟩ = some (.int .u32 s.m.toNat) from c1) hBne
            clear hW' hS0 r1 r2 r3
            go_simp
          refine wpF_take (i := 2) (v := .int .i64 v) rfl (by kernel_rfl) (by kernel_rfl) (by kernel_rfl) (by kernel_rfl) (fun _ _ _ h => h) (.inl ⟨rfl, fun W' hW' => ?_⟩) hS0 ?_
          · have s0 := r2 W' hW'.2
            clear hW' hS0 r1 r2 r3
            go_simp
          refine wpF_take (i := 3) (v := .int .i64 (v + 1)) rfl (by kernel_rfl) (by kernel_rfl) (by kernel_rfl) (by kernel_rfl) (fun _ _ _ h => h) (.inl ⟨rfl, fun W' hW' => ?_⟩) hS0 ?_
          · clear hW' hS0 r1 r2 r3
            go_simp
          refine wpF_step (k := 4) rfl (by kernel_rfl) rfl fun K4 hK4 => ?_
          have hmt1 : World.mapTurned w1.drew (setBlock w1.drew w.heap.size (.map es1 clk1)) w.heap.size := ⟨es0, clk0, es1, clk1, hb0, rfl⟩
          have hS1 : (fun W' : World => w1.drew.grownBy W' (some w.heap.size) ∧ (W'.heap[w.heap.size]? = w1.drew.heap[w.heap.size]? ∨ W'.heap[w.heap.size]? = some (.map es1 clk1))) (setBlock w1.drew w.heap.size (.map es1 clk1)) := ⟨hmt1.grown, .inr (heap_setBlock_same hb0 _)⟩
          clear hS0
          go_simp
          refine hK4 _ _ hS1 ?_
          refine wpF_step (k := 5) rfl (by kernel_rfl) rfl fun K5 hK5 => ?_
          clear r1
          go_simp
          refine hK5 _ _ hS1 ?_
          obtain ⟨r4, r5⟩ := r3 _ (heap_setBlock_same hb0 (.map es1 clk1))
          replace r4 : (Instr.entryStore 96 (.map (some w.heap.size)) (.int .i64 (st : Int)) (.int .i64 (v + 1))).run Tryd.prog (setBlock w1.drew w.heap.size (.map es1 clk1)) = .ok () (setBlock (setBlock w1.drew w.heap.size (.map es1 clk1)) w.heap.size (.map es2 clk2)) := r4
          have hmt2 : World.mapTurned (setBlock w1.drew w.heap.size (.map es1 clk1)) (setBlock (setBlock w1.drew w.heap.size (.map es1 clk1)) w.heap.size (.map es2 clk2)) w.heap.size := ⟨es1, clk1, es2, clk2, heap_setBlock_same hb0 _, rfl⟩
          have hgr := hmt1.trans hmt2
          refine wpF_last (k := 6) rfl (by kernel_rfl) (by kernel_rfl) (by kernel_rfl) rfl fun K6 hK6 => ?_
          have hxw3 := (hxw1.drew).grown hgr.grown (fun q e => by injection e with e; omega)
          clear r3 hS1
          go_simp
          refine hK6 _ _ ?_
          replace r5 := Lib.hid r5
          generalize (setBlock (setBlock w1.drew w.heap.size (.map es1 clk1)) w.heap.size (.map es2 clk2)) = w3 at *
          clear r4 hmt1 hmt2 hgr
          go_wp2_with fail
          (first | exact ⟨⟨k + 1, by omega, by go_num, r5, hall2, hxw3⟩, (by simp [intOf]; omega)⟩ | (go_roundw; case rel => exact ⟨k + 1, by omega, by go_num, r5, hall2, hxw3⟩; case measure => exact (by simp [intOf]; omega)))
      · obtain rfl : k = n := by omega
        have hml := fun ty => hM.out.len (t := 96) Tryd.underlying96 ty
        have hle := dif_le xs k
        have hnd := dif_nodup xs k (by rw [hl.out]; exact Nat.le_refl _)
        have hful : xs.take k = xs := List.take_of_length_le (by rw [hl.out]; exact Nat.le_refl _)
        rw [hful] at hnd
        have hallB : xs.all Snd.ok = true := List.all_eq_true.2 fun x hx => by
          obtain ⟨i, hi⟩ := List.getElem?_of_mem hx
          exact hall.out i x (by have := (List.getElem?_eq_some_iff.1 hi).1; have := hl.out; omega) hi
        by_cases hd : dif xs k = k
        · have d2 : decide ((dif xs k : Int) < (k : Int)) = false := by simp; omega
          have d3 : decide (dif xs k < k) = false := by simp; omega
          have d4 : ¬ dif xs k < k := by omega
          have hE : chkI m xs = 0 := by
            unfold chkI
            rw [if_neg hE1.out, if_neg (by rw [hallB]; simp), if_neg (by simpa using hnd.1 hd)]
          generalize dif xs k = D at *
          replace hE := Lib.hid hE
          replace hd := Lib.hid hd
          replace hful := Lib.hid hful
          replace hallB := Lib.hid hallB
          replace hnd := Lib.hid hnd
          go_wp2_with fail
          go_ret
          exact ⟨ret_int hE.out.symm, hx⟩
        · have d2 : decide ((dif xs k : Int) < (k : Int)) = true := by simp; omega
          have d3 : decide (dif xs k < k) = true := by simp; omega
          have d4 : dif xs k < k := by omega
          have hE : chkI m xs = 6 := by
            unfold chkI
            rw [if_neg hE1.out, if_neg (by rw [hallB]; simp), if_pos (by simpa using fun h => hd (hnd.2 h))]
          generalize dif xs k = D at *
          replace hE := Lib.hid hE
          replace hd := Lib.hid hd
          replace hful := Lib.hid hful
          replace hallB := Lib.hid hallB
          replace hnd := Lib.hid hnd
          go_wp2_with fail
          go_ret
          exact ⟨ret_int hE.out.symm, hx⟩
end Go.Proofs.YtbnbfdbliokcaaaDoor
