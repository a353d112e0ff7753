/-
  least: the walk.
-/
import Derived.Test.YtilkemdecenibaaV5
import Derived.BigRegion
namespace Go.Proofs.Ytilkemdecenibaa
open Go.RowKit Go.Maps
theorem pad_app (l : List Nat) (N v : Nat) {i : Nat} (hl : l.length = i) (hi : i < N) : (l ++ List.replicate (N - i) 0).set i v = (l ++ [v]) ++ List.replicate (N - (i + 1)) 0 := by
  subst hl
  rw [List.set_append_right _ _ (Nat.le_refl _), Nat.sub_self, show N - l.length = (N - (l.length + 1)) + 1 by omega, List.replicate_succ, List.set_cons_zero]
  simp
theorem pad_set (l : List Nat) {N i v : Nat} (hl : l.length = N) (hi : l[i]? = some v) : (l.take i ++ List.replicate (N - i) 0).set i v = l.take (i + 1) ++ List.replicate (N - (i + 1)) 0 := by
  have h := (List.getElem?_eq_some_iff.1 hi).1
  rw [pad_app _ N v (by rw [List.length_take]; omega) (by omega), take_succ_at hi]
theorem pad_same (l : List Nat) {N i : Nat} (hl : l.length = N) (hi : l[i]? = some 0) : l.take i ++ List.replicate (N - i) 0 = l.take (i + 1) ++ List.replicate (N - (i + 1)) 0 := by
  have h := (List.getElem?_eq_some_iff.1 hi).1
  rw [← pad_set l hl hi]
  rw [List.set_append_right _ _ (by rw [List.length_take]; omega), show i - (l.take i).length = 0 by rw [List.length_take]; omega, show N - i = (N - (i + 1)) + 1 by omega, List.replicate_succ, List.set_cons_zero]
theorem anyTo_succ {l : List Bool} {p : Bool → Bool} {i : Nat} {b : Bool} (h : l[i]? = some b) : (l.take (i + 1)).any p = ((l.take i).any p || p b) := by
  rw [take_succ_at h, List.any_append]; simp
set_option maxHeartbeats 4000000 in
set_option maxRecDepth 20000 in
theorem least_any (A : Au) (hok : A.okB = true) (N : Nat) (hN : A.next.length = N) (hN0 : 0 < N) (hN5 : N ≤ 5000) (J : Nat) (hJ : LeastAt A J) (w : World) (Ba : Nat) (hA : AuAt w Ba A) :
    Calls Try.prog 72 #[.pointer (some ⟨Ba, 0, none⟩)] w (RetAu (leastM A J) w) := by
  obtain ⟨hs8, hfl, hrow⟩ := Au.ok_at hok
  obtain ⟨sa, sc, na, nc, fa, fc, hbox, hS, hX, hF⟩ := hA
  have hC1 := clsN_len A hfl
  have hCl := clsN_lt A
  have hCle := clsN_le A
  have hcl0 : (cls0 A).length = N := by simp [cls0, hfl, hN]
  obtain ⟨L, hL⟩ : ∃ L, L = leastM A J := ⟨_, rfl⟩
  rw [← hL]
  obtain ⟨xs, next, fin⟩ := A
  change next.length = N at hN
  change fin.length = next.length at hfl
  change xs.length ≤ 8 at hs8
  rw [hN] at hfl
  simp only at hbox hS hX hF hrow hC1 hCle
  obtain ⟨n, hn⟩ : ∃ n, xs.length = n := ⟨_, rfl⟩
  rw [hn] at hbox hS hrow hs8
  rw [hN] at hbox hX hrow hC1 hCle
  rw [hfl] at hbox hF
  have q0 : w.cell? ⟨Ba, 0, none⟩ = some (.slice sa n sc) := by simp [World.cell?, hbox]
  have q1 : w.cell? ⟨Ba, 1, none⟩ = some (.slice na N nc) := by simp [World.cell?, hbox]
  have q2 : w.cell? ⟨Ba, 2, none⟩ = some (.slice fa N fc) := by simp [World.cell?, hbox]
  have hBl : Ba < w.heap.size := (Array.getElem?_eq_some_iff.1 hbox).1
  have hmk : ∀ W : World, (Instr.makeSlice 102 (.int .i64 (N : Int)) (.int .i64 (N : Int))).run Try.prog W = .ok (.slice (some ⟨W.heap.size, 0, none⟩) N N) (W.alloc (.cells (madeCells #[.int .i64 0] (N * 1)) 3)) := fun W => run_mk (P := Try.prog) 102 Try.underlying102 info_int2 N (by omega) (by decide) W
  have hmm := @run_makeMap Try.prog
  have hown := made_own NN.len (by decide) w 3 #[.int .i64 0] 0 rfl N (by omega)
  have hx0 : Ext w (w.alloc (.cells (madeCells #[.int .i64 0] (N * 1)) 3)) := Ext.alloc1 _ _
  obtain ⟨b0, hb0⟩ : ∃ b, fin[0]? = some b := ⟨_, List.getElem?_eq_getElem (by omega)⟩
  have hb0' : fin.getD 0 false = b0 := by rw [List.getD_eq_getElem?_getD, hb0]; rfl
  have hcd : ∀ i b, fin[i]? = some b → (cls0 ⟨xs, next, fin⟩)[i]? = some (if b != b0 then 1 else 0) := fun i b h => by
    unfold cls0; rw [List.getElem?_map, h]; show some (if b != fin.getD 0 false then 1 else 0) = _; rw [hb0']
  have hcn : cnt0 ⟨xs, next, fin⟩ = if fin.any (fun b => b != b0) then 2 else 1 := by unfold cnt0; show (if fin.any (fun b => b != fin.getD 0 false) then 2 else 1) = _; rw [hb0']
  obtain ⟨c0, hc0⟩ : ∃ c, c = cls0 ⟨xs, next, fin⟩ := ⟨_, rfl⟩
  rw [← hc0] at hcd hcl0
  replace hn := Lib.hid hn
  replace hN := Lib.hid hN
  replace hfl := Lib.hid hfl
  replace hcl0 := Lib.hid hcl0
  replace hC1 := Lib.hid hC1
  replace hCl := Lib.hid hCl
  replace hCle := Lib.hid hCle
  replace hrow := Lib.hid hrow
  replace hcd := Lib.hid hcd
  replace hcn := Lib.hid hcn
  replace hb0 := Lib.hid hb0
  replace hb0' := Lib.hid hb0'
  replace hc0 := Lib.hid hc0
  replace hJ := Lib.hid hJ
  replace hL := Lib.hid hL
  replace hok := Lib.hid hok
  go_enter Try.func72, Try.ntmps72
  go_wp2_with fail
  rw [Nat.mul_one] at hown hx0
  obtain ⟨C, hC⟩ : ∃ C, C = w.heap.size := ⟨_, rfl⟩
  have hpad0 : List.replicate N 0 = c0.take 0 ++ List.replicate (N - 0) 0 := by simp
  rw [hpad0, ← hC] at hown
  rw [← hC]
  replace hpad0 := Lib.hid hpad0
  generalize w.alloc (.cells (madeCells #[.int .i64 0] N) 3) = w1 at *
  have hCw : w.heap.size ≤ C := by omega
  replace hC := Lib.hid hC
  replace hown : OwnK 1 NN.enc w.heap.size 3 w1 (.slice (some ⟨C, 0, none⟩) N N) (c0.take 0 ++ List.replicate (N - 0) 0) := by rw [← hC.out]; exact hown
  go_loopw [4, 30] (fun cv iv wr => ∃ i : Nat, i ≤ N ∧ iv = .int .i64 i ∧ cv = .int .i64 ((if (fin.take i).any (fun b => b != b0) then (1 : Nat) else 0 : Nat) : Int) ∧ OwnK 1 NN.enc w.heap.size 3 wr (.slice (some ⟨C, 0, none⟩) N N) (c0.take i ++ List.replicate (N - i) 0) ∧ Ext w wr) (fun _ iv _ => N - (intOf iv).toNat)
  case atStart => exact ⟨0, Nat.zero_le _, rfl, by simp, hown, hx0⟩
  case round =>
    clear hown hx0
    obtain ⟨i, hi, rfl, rfl, ho, hxr⟩ := hrel
    have k0 := hxr.cellv q0
    have k1 := hxr.cellv q1
    have k2 := hxr.cellv q2
    by_cases hlt : i < N
    · obtain ⟨fb, fo, bz, rfl, hz, hfb, hzc⟩ := (hF.ext hxr).get hN0
      have hz0 := hzc 0 _ rfl
      obtain rfl : bz = b0 := by have := hz.out; rw [hb0.out] at this; exact (Option.some.inj this).symm
      obtain ⟨_, _, bv, e, hbi, _, hbc⟩ := (hF.ext hxr).get hlt
      cases e
      have hbc0 := hbc 0 _ rfl
      rw [Nat.mul_one, Nat.add_zero] at hbc0
      simp only [Nat.zero_mul, Nat.add_zero] at hz0
      clear hbc hzc
      have hat := hcd.out i bv hbi.out
      have hany := anyTo_succ (p := fun b => b != bz) hbi.out
      obtain ⟨bz0, hbz0⟩ : ∃ b, b = bz := ⟨_, rfl⟩
      rw [← hbz0] at hany
      simp only [← hbz0]
      replace hbz0 := Lib.hid hbz0
      cases bz
      · cases bv
        · simp only [bne_self_eq_false, Bool.false_eq_true, if_false] at hat
          have hpd := Lib.hid (pad_same c0 hcl0.out hat)
          replace hat := Lib.hid hat
          have hcnt : ((if (fin.take i).any (fun b => b != bz0) then (1 : Nat) else 0 : Nat) : Int) = ((if (fin.take (i + 1)).any (fun b => b != bz0) then (1 : Nat) else 0 : Nat) : Int) := by rw [hany, hbz0.out]; simp
          replace hcnt := Lib.hid hcnt
          replace hany := Lib.hid hany
          go_wp2_with fail
          (first | exact ⟨⟨i + 1, hlt, by go_num, congrArg (Value.int .i64) hcnt.out, by rw [← hpd.out]; exact ho, hxr⟩, (by simp [intOf]; omega)⟩ | (go_roundw; case rel => exact ⟨i + 1, hlt, by go_num, congrArg (Value.int .i64) hcnt.out, by rw [← hpd.out]; exact ho, hxr⟩; case measure => exact (by simp [intOf]; omega)))
        · simp at hat
          have hpd := Lib.hid (pad_set c0 hcl0.out hat)
          replace hat := Lib.hid hat
          have hcnt : (1 : Int) = ((if (fin.take (i + 1)).any (fun b => b != bz0) then (1 : Nat) else 0 : Nat) : Int) := by rw [hany, hbz0.out]; simp
          replace hany := Lib.hid hany
          replace hcnt := Lib.hid hcnt
          have hfr := own_free ho i
          obtain ⟨y, hy⟩ : ∃ y, (c0.take i ++ List.replicate (N - i) 0)[i]? = some y := ⟨_, List.getElem?_eq_getElem (by have := (own_ge ho).2.2.1; omega)⟩
          have hcs := own_at NN.len ho hy (j := 0) rfl
          rw [Nat.mul_one, Nat.add_zero] at hcs
          have hst := own_set1 NN.len ho (i := i) (y := 1) (u := .int .i64 1) hlt rfl
          have hxs := ext_set hxr hCw i (.int .i64 1)
          replace hy := Lib.hid hy
          go_wp2_with fail
          (first | exact ⟨⟨i + 1, hlt, by go_num, congrArg (Value.int .i64) hcnt.out, by rw [← hpd.out]; exact hst, hxs⟩, (by simp [intOf]; omega)⟩ | (go_roundw; case rel => exact ⟨i + 1, hlt, by go_num, congrArg (Value.int .i64) hcnt.out, by rw [← hpd.out]; exact hst, hxs⟩; case measure => exact (by simp [intOf]; omega)))
      · cases bv
        · simp at hat
          have hpd := Lib.hid (pad_set c0 hcl0.out hat)
          replace hat := Lib.hid hat
          have hcnt : (1 : Int) = ((if (fin.take (i + 1)).any (fun b => b != bz0) then (1 : Nat) else 0 : Nat) : Int) := by rw [hany, hbz0.out]; simp
          replace hany := Lib.hid hany
          replace hcnt := Lib.hid hcnt
          have hfr := own_free ho i
          obtain ⟨y, hy⟩ : ∃ y, (c0.take i ++ List.replicate (N - i) 0)[i]? = some y := ⟨_, List.getElem?_eq_getElem (by have := (own_ge ho).2.2.1; omega)⟩
          have hcs := own_at NN.len ho hy (j := 0) rfl
          rw [Nat.mul_one, Nat.add_zero] at hcs
          have hst := own_set1 NN.len ho (i := i) (y := 1) (u := .int .i64 1) hlt rfl
          have hxs := ext_set hxr hCw i (.int .i64 1)
          replace hy := Lib.hid hy
          go_wp2_with fail
          (first | exact ⟨⟨i + 1, hlt, by go_num, congrArg (Value.int .i64) hcnt.out, by rw [← hpd.out]; exact hst, hxs⟩, (by simp [intOf]; omega)⟩ | (go_roundw; case rel => exact ⟨i + 1, hlt, by go_num, congrArg (Value.int .i64) hcnt.out, by rw [← hpd.out]; exact hst, hxs⟩; case measure => exact (by simp [intOf]; omega)))
        · simp only [bne_self_eq_false, Bool.false_eq_true, if_false] at hat
          have hpd := Lib.hid (pad_same c0 hcl0.out hat)
          replace hat := Lib.hid hat
          have hcnt : ((if (fin.take i).any (fun b => b != bz0) then (1 : Nat) else 0 : Nat) : Int) = ((if (fin.take (i + 1)).any (fun b => b != bz0) then (1 : Nat) else 0 : Nat) : Int) := by rw [hany, hbz0.out]; simp
          replace hcnt := Lib.hid hcnt
          replace hany := Lib.hid hany
          go_wp2_with fail
          (first | exact ⟨⟨i + 1, hlt, by go_num, congrArg (Value.int .i64) hcnt.out, by rw [← hpd.out]; exact ho, hxr⟩, (by simp [intOf]; omega)⟩ | (go_roundw; case rel => exact ⟨i + 1, hlt, by go_num, congrArg (Value.int .i64) hcnt.out, by rw [← hpd.out]; exact ho, hxr⟩; case measure => exact (by simp [intOf]; omega)))
    · obtain rfl : i = N := by omega
      clear k0 k1 k2
      have hft : fin.take i = fin := List.take_of_length_le (by rw [hfl.out]; exact Nat.le_refl _)
      have hct : c0.take i ++ List.replicate (i - i) 0 = c0 := by rw [Nat.sub_self, List.take_of_length_le (by rw [hcl0.out]; exact Nat.le_refl _)]; simp
      rw [hct] at ho
      rw [hft]
      obtain ⟨q, hq⟩ : ∃ q : Nat, q = if fin.any (fun b => b != b0) then (1 : Nat) else 0 := ⟨_, rfl⟩
      rw [← hq]
      have hq1 : q ≤ 1 := by rw [hq]; split <;> omega
      have hcn2 : cnt0 ⟨xs, next, fin⟩ = q + 1 := by rw [hcn.out, hq]; split <;> rfl
      obtain ⟨CL, hCL⟩ : ∃ f : Nat → List Nat × Nat, f = clsN ⟨xs, next, fin⟩ := ⟨_, rfl⟩
      obtain ⟨KS, hKS⟩ : ∃ f : Nat → Nat → List Nat × List (List Nat), f = fun j s => numKeys ((keysOf ⟨xs, next, fin⟩ (CL j).1).take s) [] := ⟨_, rfl⟩
      rw [← hCL] at hC1 hCl hCle
      have hC00 : (CL 0).1 = c0 := by rw [hCL, hc0.out]; rfl
      have hC01 : ((CL 0).2 : Int) = (q : Int) + 1 := by rw [hCL]; show ((cnt0 _ : Nat) : Int) = _; rw [hcn2]; rfl
      have hKl : ∀ j, (keysOf ⟨xs, next, fin⟩ (CL j).1).length = i := fun j => by unfold keysOf; rw [List.length_map, List.length_range]; exact hN.out
      have hsuc : ∀ j, (CL (j + 1)).1 = (KS j i).1 ∧ (CL (j + 1)).2 = (KS j i).2.length := fun j => by
        rw [hKS]; simp only; rw [List.take_of_length_le (by rw [hKl]; exact Nat.le_refl _), hCL]; exact ⟨rfl, rfl⟩
      have hKs : ∀ j s, s < i → KS j (s + 1) = ((KS j s).1 ++ [(putKey (KS j s).2 (key9 n ⟨xs, next, fin⟩ (CL j).1 s)).1], (putKey (KS j s).2 (key9 n ⟨xs, next, fin⟩ (CL j).1 s)).2) := fun j s hs => by
        have hk : (keysOf ⟨xs, next, fin⟩ (CL j).1)[s]? = some (key9 n ⟨xs, next, fin⟩ (CL j).1 s) := by
          unfold keysOf; rw [List.getElem?_map, List.getElem?_range (by rw [hN.out]; exact hs)]; show some (key9 xs.length _ _ _) = _; rw [hn.out]
        rw [hKS]; simp only; rw [take_succ_at hk, numKeys_snoc]
      have hKn : ∀ j s, s ≤ i → (KS j s).1.length = s := fun j s hs => by rw [hKS]; simp only; rw [numKeys_len, List.length_take, hKl]; omega
      have hKm : ∀ j s, s ≤ i → (KS j s).2.length ≤ s := fun j s hs => by
        rw [hKS]; have := (numKeys_lt ((keysOf ⟨xs, next, fin⟩ (CL j).1).take s) []).2.2; simp only [List.length_take, hKl, List.length_nil] at this ⊢; omega
      have hCb : ∀ j, ∀ x ∈ (CL j).1, x ≤ 5000 := fun j => by
        cases j with
        | zero =>
          rw [hC00, hc0.out]; intro x hx
          obtain ⟨b, _, rfl⟩ := List.mem_map.1 hx
          split <;> omega
        | succ j =>
          intro x hx
          have h1 := hCl.out j x hx
          have h2 := hCle.out j
          omega
      have hC1' := hC1.out
      have hJ1 := hJ.out.1
      have hJ2 := hJ.out.2
      rw [← hCL] at hJ1 hJ2
      rw [← hC00] at ho
      replace hft := Lib.hid hft
      replace hct := Lib.hid hct
      replace hq := Lib.hid hq
      replace hcn2 := Lib.hid hcn2
      replace hCL := Lib.hid hCL
      replace hKS := Lib.hid hKS
      replace hC00 := Lib.hid hC00
      replace hC01 := Lib.hid hC01
      replace hKl := Lib.hid hKl
      replace hsuc := Lib.hid hsuc
      replace hKs := Lib.hid hKs
      replace hKn := Lib.hid hKn
      replace hKm := Lib.hid hKm
      replace hCb := Lib.hid hCb
      replace hC1' := Lib.hid hC1'
      replace hJ1 := Lib.hid hJ1
      replace hJ2 := Lib.hid hJ2
      obtain ⟨xb, xo, rfl, _, _⟩ := hX.pos hN0
      obtain ⟨fb, fo, rfl, _, _⟩ := hF.pos hN0
      have hX' := Lib.hid hX
      have hF' := Lib.hid hF
      have hS' := Lib.hid hS
      clear hX hF hS hcd hcn hb0 hb0'
      go_wp2_with fail
      go_loopg [3, 4] (J + 1) (fun gk cv nv wr => ∃ j Cj : Nat, Hid (j + gk = J + 1) ∧ Hid (j ≤ J) ∧ cv = .slice (some ⟨Cj, 0, none⟩) i i ∧ nv = .int .i64 ((CL j).2 : Int) ∧ OwnK 1 NN.enc w.heap.size 3 wr (.slice (some ⟨Cj, 0, none⟩) i i) (CL j).1 ∧ Ext w wr)
      case atStart => exact ⟨0, C, Lib.hid (by omega), Lib.hid (Nat.zero_le _), rfl, congrArg (Value.int .i64) hC01.out.symm, ho, hxr⟩
      case round =>
        clear ho hxr hcn2 hq1
        obtain ⟨j, Cj, hjk, hjJ, rfl, rfl, ho, hxr⟩ := hrel
        have k0 := hxr.cellv q0
        have k1 := hxr.cellv q1
        have hM0 := (MapC.made wr Try.prog 165 3 klK).kept (Ext.alloc1 _ (.cells (madeCells #[.int .i64 0] (i * 1)) 3))
        have hn0 := made_own NN.len (by decide) (wr.alloc (.map #[] 0)) 3 #[.int .i64 0] 0 rfl i (by omega)
        have hx2 : Ext wr ((wr.alloc (.map #[] 0)).alloc (.cells (madeCells #[.int .i64 0] (i * 1)) 3)) := (Ext.alloc1 _ _).alloc _
        have hBr : Ba < wr.heap.size := Nat.lt_of_lt_of_le hBl hxr.le
        have hwr := hxr.le
        have hCj := (own_ge ho).2.1
        go_wp2_with fail
        rw [Nat.mul_one] at hM0 hn0 hx2
        rw [World.size_alloc] at hn0
        obtain ⟨Bm, hBm⟩ : ∃ B, B = wr.heap.size := ⟨_, rfl⟩
        have ho2 := ho.kept hx2
        have hNb : w.heap.size ≤ Bm + 1 := by omega
        have hBw : w.heap.size ≤ Bm := by omega
        have hCN : (Value.slice (some ⟨Cj, 0, none⟩) i i).ownBlock ≠ some (Bm + 1) := by intro e; simp [Value.ownBlock] at e; omega
        have hMN : some Bm ≠ some (Bm + 1) := by intro e; simp at e
        have hx3 := hxr.trans hx2
        rw [← hBm] at hM0 hn0 ⊢
        generalize ((wr.alloc (.map #[] 0)).alloc (.cells (madeCells #[.int .i64 0] i) 3)) = w2 at *
        have hn3 : OwnK 1 NN.enc w.heap.size 3 w2 (.slice (some ⟨Bm + 1, 0, none⟩) i i) ((KS j 0).1 ++ List.replicate (i - 0) 0) := by
          have : (KS j 0).1 = [] := List.eq_nil_of_length_eq_zero (hKn.out j 0 (Nat.zero_le _))
          rw [this]
          exact OwnK.base hn0 hNb
        have hM3 : MapC Try.prog 165 3 klK w2 Bm 0 (KS j 0).2.length (fK (KS j 0).2) := by
          have : (KS j 0).2 = [] := List.eq_nil_of_length_eq_zero (by have := hKm.out j 0 (Nat.zero_le _); omega)
          rw [this]
          have e : fK [] = fun _ => none := by funext y; simp [fK]
          rw [e]; exact hM0
        replace hM3 := Lib.hid hM3
        replace hBm := Lib.hid hBm
        obtain ⟨Nb, hNbe⟩ : ∃ B, B = Bm + 1 := ⟨_, rfl⟩
        rw [← hNbe] at hn3 hNb hCN hMN ⊢
        replace hNbe := Lib.hid hNbe
        clear hM0 hn0 hx2 ho k0 k1 hCj hBr hwr hxr
        go_loopw [58] (fun iv wr => ∃ s : Nat, s ≤ i ∧ iv = .int .i64 s ∧ OwnK 1 NN.enc w.heap.size 3 wr (.slice (some ⟨Nb, 0, none⟩) i i) ((KS j s).1 ++ List.replicate (i - s) 0) ∧ Hid (MapC Try.prog 165 3 klK wr Bm s (KS j s).2.length (fK (KS j s).2)) ∧ OwnK 1 NN.enc w.heap.size 3 wr (.slice (some ⟨Cj, 0, none⟩) i i) (CL j).1 ∧ Ext w wr) (fun iv _ => i - (intOf iv).toNat)
        case atStart => exact ⟨0, Nat.zero_le _, rfl, hn3, hM3, ho2, hx3⟩
        case round =>
          clear hn3 hM3 ho2 hx3
          obtain ⟨s, hs, rfl, hn3, hM3, ho, hx⟩ := hrel
          have k0 := hx.cellv q0
          have k1 := hx.cellv q1
          by_cases hlt : s < i
          · obtain ⟨_, _, r, e, hri, hb, r0, r1, r2, r3, r4, r5, r6, r7⟩ := row_at (hX'.out.ext hx) hlt
            cases e
            have hcl := hC1.out j
            obtain ⟨o, ho0⟩ : ∃ o, (CL j).1[s]? = some o := ⟨_, List.getElem?_eq_getElem (by rw [hcl]; exact hlt)⟩
            have hoc := own_at NN.len ho ho0 (j := 0) rfl
            rw [Nat.mul_one, Nat.add_zero] at hoc
            have hrb := RowB.new wr r
            have hkb := KindB.new (wr.alloc (.cells (rowCells r) 101)) (kdTo 0 (fun q => (CL j).1.getD (r.getD q 0) 0) o)
            have hrb2 := hrb.ext (Ext.alloc1 _ (.cells (kindCells (kdTo 0 (fun q => (CL j).1.getD (r.getD q 0) 0) o)) 165))
            have hx4 : Ext wr ((wr.alloc (.cells (rowCells r) 101)).alloc (.cells (kindCells (kdTo 0 (fun q => (CL j).1.getD (r.getD q 0) 0) o)) 165)) := (Ext.alloc1 _ _).alloc _
            rw [World.size_alloc] at hkb
            replace hri := Lib.hid hri.out
            replace ho0 := Lib.hid ho0
            replace hrb2 := Lib.hid hrb2
            replace hkb := Lib.hid hkb
            clear hrb
            have hwx := hx.le
            have hBx := cell_lt k0
            have hCx := (own_ge ho).2.1
            go_wp2_with fail
            replace hrb2 := hrb2.out
            replace hkb := hkb.out
            change RowB (((wr.alloc (.cells (rowCells r) 101)).alloc (.cells #[.int .i64 (o : Int), .int .i64 0, .int .i64 0, .int .i64 0, .int .i64 0, .int .i64 0, .int .i64 0, .int .i64 0, .int .i64 0] 165))) _ _ at hrb2
            change KindB (((wr.alloc (.cells (rowCells r) 101)).alloc (.cells #[.int .i64 (o : Int), .int .i64 0, .int .i64 0, .int .i64 0, .int .i64 0, .int .i64 0, .int .i64 0, .int .i64 0, .int .i64 0] 165))) _ _ at hkb
            change Ext wr (((wr.alloc (.cells (rowCells r) 101)).alloc (.cells #[.int .i64 (o : Int), .int .i64 0, .int .i64 0, .int .i64 0, .int .i64 0, .int .i64 0, .int .i64 0, .int .i64 0, .int .i64 0] 165))) at hx4
            generalize ((wr.alloc (.cells (rowCells r) 101)).alloc (.cells #[.int .i64 (o : Int), .int .i64 0, .int .i64 0, .int .i64 0, .int .i64 0, .int .i64 0, .int .i64 0, .int .i64 0, .int .i64 0] 165)) = w5 at *
            obtain ⟨Bt, hBt⟩ : ∃ B, B = wr.heap.size := ⟨_, rfl⟩
            obtain ⟨Bk, hBk⟩ : ∃ B, B = wr.heap.size + 1 := ⟨_, rfl⟩
            rw [← hBk] at hkb ⊢
            rw [← hBt] at hrb2 ⊢
            have hBtk : Bt ≠ Bk := by omega
            have hwk : wr.heap.size ≤ Bk := by omega
            replace hBt := Lib.hid hBt
            replace hBk := Lib.hid hBk
            clear r0 r1 r2 r3 r4 r5 r6 r7 hoc hcl k0 k1
            generalize wr = wa at *
            go_loopw [73] (fun iv wz => ∃ m : Nat, m ≤ n ∧ iv = .int .i64 m ∧ KindB wz Bk (kdTo m (fun q => (CL j).1.getD (r.getD q 0) 0) o) ∧ RowB wz Bt r ∧ Ext wa wz) (fun iv _ => n - (intOf iv).toNat)
            case atStart => exact ⟨0, Nat.zero_le _, rfl, hkb, hrb2, hx4⟩
            case round =>
              clear hkb hrb2 hx4
              obtain ⟨m, hm, rfl, hkb, hrb, hxz⟩ := hrel
              have hoz := ho.kept hxz
              by_cases hlm : m < n
              · have hto := hrow.out s r hri.out m hlm
                obtain ⟨tv, htv⟩ : ∃ tv, tv = r.getD m 0 := ⟨_, rfl⟩
                have c1 := hrb.at (i := m) (by omega)
                rw [← htv] at c1 hto
                obtain ⟨cv, hcv⟩ : ∃ cv, (CL j).1[tv]? = some cv := ⟨_, List.getElem?_eq_getElem (by rw [hC1.out j]; exact hto)⟩
                have c2 := own_at NN.len hoz hcv (j := 0) rfl
                rw [Nat.mul_one, Nat.add_zero] at c2
                have c3 := kdTo_cell hkb (by omega)
                have c4 := hkb.free (1 + m)
                have hset := kdTo_set hkb (by omega)
                simp only [← htv, List.getD_eq_getElem?_getD (l := (CL j).1), hcv, Option.getD_some] at hset
                have hrs : RowB (World.setCell wr ⟨Bk, 1 + m, none⟩ (.int .i64 (cv : Int))) Bt r := (heap_setCell_other wr ⟨Bk, 1 + m, none⟩ Bt _ hBtk).trans hrb
                have hxs := ext_set hxz hwk (1 + m) (.int .i64 (cv : Int))
                replace hcv := Lib.hid hcv
                replace htv := Lib.hid htv
                replace hset := Lib.hid hset
                go_wp2_with fail
                (first | exact ⟨⟨m + 1, hlm, by go_num, hset.out, hrs, hxs⟩, (by simp [intOf]; omega)⟩ | (go_roundw; case rel => exact ⟨m + 1, hlm, by go_num, hset.out, hrs, hxs⟩; case measure => exact (by simp [intOf]; omega)))
              · obtain rfl : m = n := by omega
                obtain ⟨kl, hkl⟩ : ∃ l, l = kdTo m (fun q => (CL j).1.getD (r.getD q 0) 0) o := ⟨_, rfl⟩
                rw [← hkl] at hkb
                have hk9 : key9 m ⟨xs, next, fin⟩ (CL j).1 s = kl := by
                  rw [hkl]
                  unfold key9 kdTo
                  have e1 : (CL j).1.getD s 0 = o := by rw [List.getD_eq_getElem?_getD, ho0.out]; rfl
                  have e2 : next.getD s [] = r := by rw [List.getD_eq_getElem?_getD, hri.out]; rfl
                  rw [e1, e2]
                have hkb1 : kl.length = 9 ∧ ∀ x ∈ kl, x ≤ 60000 := by
                  have hg : ∀ q, (CL j).1.getD q 0 ≤ 5000 := fun q => by
                    rw [List.getD_eq_getElem?_getD]
                    cases hq : (CL j).1[q]? with
                    | none => exact Nat.zero_le _
                    | some y => exact hCb.out j y (List.mem_of_getElem? hq)
                  refine ⟨by rw [hkl]; simp [kdTo], fun x hx => ?_⟩
                  rw [hkl] at hx
                  rcases List.mem_cons.1 hx with rfl | hx
                  · have := hCb.out j x (List.mem_of_getElem? ho0.out); omega
                  · obtain ⟨q, _, rfl⟩ := List.mem_map.1 hx
                    split
                    · exact Nat.le_trans (hg _) (by omega)
                    · omega
                obtain ⟨xk, hxk⟩ : ∃ x : K9, x.1 = kl := ⟨⟨kl, hkb1⟩, rfl⟩
                clear hkb1
                have hkey := keyK xk
                rw [hxk] at hkey
                replace hxk := Lib.hid hxk
                have hMx := hM3.out.kept hxz
                have hn4 := hn3.kept hxz
                have hx5 := hx.trans hxz
                have hsk := hKs.out j s hlt
                rw [hk9] at hsk
                have hKsl := hKn.out j s hs
                have hKml := hKm.out j s hs
                have hfr := own_free hn4 s
                obtain ⟨y, hy⟩ : ∃ y, ((KS j s).1 ++ List.replicate (i - s) 0)[s]? = some y := ⟨_, List.getElem?_eq_getElem (by have := (own_ge hn4).2.2.1; omega)⟩
                have hcs := own_at NN.len hn4 hy (j := 0) rfl
                rw [Nat.mul_one, Nat.add_zero] at hcs
                obtain ⟨g0, g1, g2, g3, g4, g5, g6, g7, g8⟩ := hkb.cells
                have hfrk := hkb.free
                replace hy := Lib.hid hy
                replace hk9 := Lib.hid hk9
                replace hkl := Lib.hid hkl
                have hsl : s < maxLen := by unfold maxLen; omega
                replace hKsl := Lib.hid hKsl
                have hxz' := Lib.hid hxz
                clear hkb hrb hM3 hn3 hxz hx
                by_cases hmem : kl ∈ (KS j s).2
                · have hpk : putKey (KS j s).2 kl = ((KS j s).2.idxOf kl, (KS j s).2) := by unfold putKey; rw [if_pos hmem]
                  rw [hpk] at hsk
                  obtain ⟨ix, hix⟩ : ∃ ix, ix = (KS j s).2.idxOf kl := ⟨_, rfl⟩
                  rw [← hix] at hsk
                  have hval : ((fK (KS j s).2 xk).getD (.int .i64 0)).value = .int .i64 (ix : Int) := by unfold fK; rw [hxk.out, if_pos hmem, hix]; rfl
                  have hsome : (fK (KS j s).2 xk).isSome = true := by unfold fK; rw [hxk.out, if_pos hmem]; rfl
                  replace hsk := Lib.hid hsk
                  replace hpk := Lib.hid hpk
                  replace hix := Lib.hid hix
                  replace hmem := Lib.hid hmem
                  go_wp2_with (at_lookup; refine wp_mapLookOk rfl _ _ 163 rfl 165 3 keyed_k9 Try.underlying163 (zeroI _) (plainElem_int (H := Unit) Try.underlying3 (by decide)) rfl hMx.toK _ _ rfl hkey _ hval _ hsome ?_)
                  have hst := own_set1 NN.len hn4 (i := s) (y := ix) (u := .int .i64 (ix : Int)) hlt rfl
                  rw [pad_app _ i ix hKsl.out hlt] at hst
                  have e1 : (KS j (s + 1)).1 = (KS j s).1 ++ [ix] := by rw [hsk.out]
                  have e2 : (KS j (s + 1)).2 = (KS j s).2 := by rw [hsk.out]
                  rw [← e1] at hst
                  have hM7 := (hMx.mono (Nat.le_succ s)).grown (grownBy_set wr Nb s (.int .i64 (ix : Int))) hMN.symm
                  rw [← e2] at hM7
                  (first | exact ⟨⟨s + 1, hlt, by go_num, hst, Lib.hid hM7, own_setOff (ho.kept hxz'.out) hCN, ext_set hx5 hNb s _⟩, (by simp [intOf]; omega)⟩ | (go_roundw; case rel => exact ⟨s + 1, hlt, by go_num, hst, Lib.hid hM7, own_setOff (ho.kept hxz'.out) hCN, ext_set hx5 hNb s _⟩; case measure => exact (by simp [intOf]; omega)))
                · have hpk : putKey (KS j s).2 kl = ((KS j s).2.length, (KS j s).2 ++ [kl]) := by unfold putKey; rw [if_neg hmem]
                  rw [hpk] at hsk
                  have hfs := fK_snoc (KS j s).2 xk (by rw [hxk.out]; exact hmem)
                  rw [hxk.out] at hfs
                  obtain ⟨ix, hix⟩ : ∃ ix, ix = (KS j s).2.length := ⟨_, rfl⟩
                  rw [← hix] at hsk hfs hMx
                  have hval : ((fK (KS j s).2 xk).getD (.int .i64 0)).value = .int .i64 0 := by unfold fK; rw [hxk.out, if_neg hmem]; rfl
                  have hsome : (fK (KS j s).2 xk).isSome = false := by unfold fK; rw [hxk.out, if_neg hmem]; rfl
                  have hml := fun ty => hMx.len Try.underlying163 ty
                  replace hsk := Lib.hid hsk
                  replace hpk := Lib.hid hpk
                  have hix5 : ix ≤ 5000 := by omega
                  replace hix := Lib.hid hix
                  replace hmem := Lib.hid hmem
                  replace hfs := Lib.hid hfs
                  have hoz := ho.kept hxz'.out
                  go_wp2_with (first
                    | (at_lookup; refine wp_mapLookOk rfl _ _ 163 rfl 165 3 keyed_k9 Try.underlying163 (zeroI _) (plainElem_int (H := Unit) Try.underlying3 (by decide)) rfl hMx.toK _ _ rfl hkey _ hval _ hsome ?_)
                    | (at_mapUpdate; refine wp_mapStoreC rfl _ _ _ 163 rfl 165 3 keyed_k9 Try.underlying163 klK_inj klK_lit rfl hMx hsl _ _ _ rfl rfl hkey (plainElem_int (H := Unit) Try.underlying3 (wf_nat ix (by omega))) ?_; intro w6 hM6 hg6; have hn7 := OwnK.beside hn4 hg6 (fun r e => by cases e; exact hMx.toK.obj); have ho7 := OwnK.beside hoz hg6 (fun r e => by cases e; exact hMx.toK.obj); have hfr7 := own_free hn7 s; have hcs7 := own_at NN.len hn7 hy.out (j := 0) rfl; rw [Nat.mul_one, Nat.add_zero] at hcs7))
                  have hst := own_set1 NN.len hn7 (i := s) (y := ix) (u := .int .i64 (ix : Int)) hlt rfl
                  rw [pad_app _ i ix hKsl.out hlt] at hst
                  have e1 : (KS j (s + 1)).1 = (KS j s).1 ++ [ix] := by rw [hsk.out]
                  have e2 : (KS j (s + 1)).2 = (KS j s).2 ++ [kl] := by rw [hsk.out]
                  have e3 : (KS j (s + 1)).2.length = ix + 1 := by rw [e2, List.length_append, ← hix.out]; rfl
                  rw [← e1] at hst
                  rw [hsome, if_neg (by decide), hfs.out, ← e2, ← e3] at hM6
                  have hM7 := hM6.grown (grownBy_set w6 Nb s (.int .i64 (ix : Int))) hMN.symm
                  (first | exact ⟨⟨s + 1, hlt, by go_num, hst, Lib.hid hM7, own_setOff ho7 hCN, ext_set (hx5.grown hg6 (fun k e => by cases e; exact hBw)) hNb s _⟩, (by simp [intOf]; omega)⟩ | (go_roundw; case rel => exact ⟨s + 1, hlt, by go_num, hst, Lib.hid hM7, own_setOff ho7 hCN, ext_set (hx5.grown hg6 (fun k e => by cases e; exact hBw)) hNb s _⟩; case measure => exact (by simp [intOf]; omega)))
          · obtain rfl : s = i := by omega
            have hMx := hM3.out
            have hsj := hsuc.out j
            have e1 : (KS j s).1 ++ List.replicate (s - s) 0 = (CL (j + 1)).1 := by rw [hsj.1, Nat.sub_self]; simp
            rw [e1] at hn3
            have hml := fun ty => hMx.len Try.underlying163 ty
            rw [← hsj.2] at hml
            replace e1 := Lib.hid e1
            replace hsj := Lib.hid hsj
            clear hM3 hMx
            by_cases hjJ2 : j = J
            · have hq1 : (CL (j + 1)).2 = (CL j).2 := by rw [hjJ2]; exact hJ1.out
              rw [hq1] at hml
              subst hjJ2
              obtain ⟨Cn, hCn⟩ : ∃ c, c = (CL j).2 := ⟨_, rfl⟩
              rw [← hCn] at hq1 hml ⊢
              have hCn5 : Cn ≤ 5000 := by have := hCle.out j; omega
              have hcl1 : ∀ x ∈ (CL (j + 1)).1, x < Cn := fun x hx => by have := hCl.out j x hx; omega
              replace hcl1 := Lib.hid hcl1
              replace hCn := Lib.hid hCn
              replace hq1 := Lib.hid hq1
              have hmkR : ∀ W : World, (Instr.makeSlice 65 (.int .i64 (Cn : Int)) (.int .i64 (Cn : Int))).run Try.prog W = .ok (.slice (some ⟨W.heap.size, 0, none⟩) Cn Cn) (W.alloc (.cells (madeCells #[.int .i64 0, .int .i64 0, .int .i64 0, .int .i64 0, .int .i64 0, .int .i64 0, .int .i64 0, .int .i64 0] (Cn * 8)) 101)) := fun W => run_mk (P := Try.prog) 65 Try.underlying65 info_row Cn (by omega) (by decide) W
              have hmkF : ∀ W : World, (Instr.makeSlice 66 (.int .i64 (Cn : Int)) (.int .i64 (Cn : Int))).run Try.prog W = .ok (.slice (some ⟨W.heap.size, 0, none⟩) Cn Cn) (W.alloc (.cells (madeCells #[.bool false] (Cn * 1)) 4)) := fun W => run_mk (P := Try.prog) 66 Try.underlying66 info_bl Cn (by omega) (by decide) W
              have hBx := cell_lt k0
              go_wp2_with fail
              have hwr := hx.le
              go_region
              all_goals clear hml hmk hmkR hmkF hmm k0 k1 hBx
              · have hO := out_A (B := w.heap.size) (w := wr) hwr (.slice sa n sc) (Cn := Cn) (by omega)
                have hx7 : Ext wr ((((wr.alloc (.cells (madeCells #[.int .i64 0, .int .i64 0, .int .i64 0, .int .i64 0, .int .i64 0, .int .i64 0, .int .i64 0, .int .i64 0] (Cn * 8)) 101)).alloc (.cells (madeCells #[.bool false] Cn) 4)).alloc (.cells #[.slice sa n sc, .slice (some ⟨wr.heap.size, 0, none⟩) Cn Cn, .slice (some ⟨wr.heap.size + 1, 0, none⟩) Cn Cn] 68)).drew) := (((Ext.alloc1 _ _).alloc _).alloc _).drew
                generalize ((((wr.alloc (.cells (madeCells #[.int .i64 0, .int .i64 0, .int .i64 0, .int .i64 0, .int .i64 0, .int .i64 0, .int .i64 0, .int .i64 0] (Cn * 8)) 101)).alloc (.cells (madeCells #[.bool false] Cn) 4)).alloc (.cells #[.slice sa n sc, .slice (some ⟨wr.heap.size, 0, none⟩) Cn Cn, .slice (some ⟨wr.heap.size + 1, 0, none⟩) Cn Cn] 68)).drew) = wz at *
                generalize wr.heap.size + 1 + 1 = Bo at *
                have hRw : w.heap.size ≤ wr.heap.size := hwr
                have hFw : w.heap.size ≤ wr.heap.size + 1 := by omega
                generalize wr.heap.size + 1 = Fb at *
                generalize wr.heap.size = Rb at *
                have hox := hn3.kept hx7
                have hxz := hx.trans hx7
                obtain ⟨cls, hcls⟩ : ∃ c, c = (CL (j + 1)).1 := ⟨_, rfl⟩
                obtain ⟨OT, hOT⟩ : ∃ f, f = outTo ⟨xs, next, fin⟩ cls Cn := ⟨_, rfl⟩
                have hO0 : OutB w.heap.size wz (.slice sa n sc) Rb Fb Bo Cn (OT 0).1 (OT 0).2 := by rw [hOT]; exact hO
                have hOl : ∀ q, (OT q).1.length = Cn ∧ (OT q).2.length = Cn := fun q => by rw [hOT]; exact outTo_len _ _ _ q
                have hO8 : ∀ q, ∀ r ∈ (OT q).1, r.length = 8 := fun q => by rw [hOT]; exact outTo_row _ _ _ q
                have hOs : ∀ q, OT (q + 1) = ((OT q).1.set (cls.getD q 0) (rowSet n (fun i => cls.getD ((next.getD q []).getD i 0) 0) ((OT q).1.getD (cls.getD q 0) [])), (OT q).2.set (cls.getD q 0) (fin.getD q false)) := fun q => by rw [hOT, ← hn.out]; rfl
                have hLe : L = ⟨xs, (OT s).1, (OT s).2⟩ := by
                  rw [hL.out, hOT, hcls, hCL.out, hCn.out, hCL.out]
                  unfold leastM
                  rw [show (Au.mk xs next fin).next.length = s from hN.out]
                have hcl1' := hcl1.out
                have hC2 := hC1.out (j + 1)
                rw [← hcls] at hox hcl1' hC2
                replace hOT := Lib.hid hOT
                replace hOl := Lib.hid hOl
                replace hO8 := Lib.hid hO8
                replace hOs := Lib.hid hOs
                replace hLe := Lib.hid hLe
                replace hcls := Lib.hid hcls
                replace hcl1' := Lib.hid hcl1'
                replace hC2 := Lib.hid hC2
                clear hO hn3 hx hx7 hwr
                have k0 := hxz.cellv q0
                have k1 := hxz.cellv q1
                go_wp2_with fail
                generalize wr = wold at *
                go_loopw [126] (fun iv wr => ∃ p : Nat, p ≤ s ∧ iv = .int .i64 p ∧ OutB w.heap.size wr (.slice sa n sc) Rb Fb Bo Cn (OT p).1 (OT p).2 ∧ OwnK 1 NN.enc w.heap.size 3 wr (.slice (some ⟨Nb, 0, none⟩) s s) cls ∧ Ext w wr) (fun iv _ => s - (intOf iv).toNat)
                case atStart => exact ⟨0, Nat.zero_le _, rfl, hO0, hox, hxz⟩
                case round =>
                  clear hO0 hox hxz k0 k1
                  obtain ⟨p, hp, rfl, hO, ho, hx⟩ := hrel
                  have k0 := hx.cellv q0
                  have k1 := hx.cellv q1
                  have k2 := hx.cellv q2
                  by_cases hlt : p < s
                  · obtain ⟨_, _, r, e, hri, hb, r0, r1, r2, r3, r4, r5, r6, r7⟩ := row_at (hX'.out.ext hx) hlt
                    cases e
                    obtain ⟨c, hc0⟩ : ∃ c, cls[p]? = some c := ⟨_, List.getElem?_eq_getElem (by rw [hC2.out]; exact hlt)⟩
                    have hcC := hcl1'.out c (List.mem_of_getElem? hc0)
                    have hrb := RowB.new wr r
                    have hx8 : Ext wr (wr.alloc (.cells (rowCells r) 101)) := Ext.alloc1 _ _
                    have hO9 := hO.kept hx8
                    have ho9 := ho.kept hx8
                    have hx9 := hx.trans hx8
                    have hRl := (own_ge hO.rows).2.1
                    obtain ⟨rc, hrc⟩ : ∃ rc, (OT p).1[c]? = some rc := ⟨_, List.getElem?_eq_getElem (by rw [(hOl.out p).1]; exact hcC)⟩
                    have hrc8 := hO8.out p rc (List.mem_of_getElem? hrc)
                    obtain ⟨v, hv⟩ : ∃ v : Nat → Nat, v = fun i => cls.getD (r.getD i 0) 0 := ⟨_, rfl⟩
                    have hsu := hOs.out p
                    rw [List.getD_eq_getElem?_getD (l := cls), hc0, List.getD_eq_getElem?_getD (l := next), hri.out, List.getD_eq_getElem?_getD (l := (OT p).1)] at hsu
                    simp only [Option.getD_some] at hsu
                    rw [hrc] at hsu
                    simp only [Option.getD_some] at hsu
                    rw [← hv] at hsu
                    have hst0 : (OT p).1 = (OT p).1.set c (rowSet 0 v rc) := by
                      show _ = (OT p).1.set c rc
                      apply List.ext_getElem?
                      intro q
                      rw [List.getElem?_set]
                      split
                      · rename_i e; subst e; rw [if_pos (List.getElem?_eq_some_iff.1 hrc).1, hrc]
                      · rfl
                    rw [hst0] at hO9
                    replace hst0 := Lib.hid hst0
                    replace hv := Lib.hid hv
                    replace hsu := Lib.hid hsu
                    replace hrc := Lib.hid hrc
                    replace hrc8 := Lib.hid hrc8
                    replace hri := Lib.hid hri.out
                    replace hc0 := Lib.hid hc0
                    replace hcC := Lib.hid hcC
                    have hBx := cell_lt k0
                    have hwx := hx.le
                    go_wp2_with fail
                    change RowB (wr.alloc (.cells (rowCells r) 101)) _ _ at hrb
                    generalize wr.alloc (.cells (rowCells r) 101) = wa at *
                    have hBtR : wr.heap.size ≠ Rb := by omega
                    generalize wr.heap.size = Bt at *
                    clear r0 r1 r2 r3 r4 r5 r6 r7 k0 k1 k2 hx hO ho hx8 hBx hwx hRl
                    generalize wr = wold2 at *
                    go_loopw [136] (fun iv wr => ∃ m : Nat, m ≤ n ∧ iv = .int .i64 m ∧ OutB w.heap.size wr (.slice sa n sc) Rb Fb Bo Cn ((OT p).1.set c (rowSet m v rc)) (OT p).2 ∧ RowB wr Bt r ∧ OwnK 1 NN.enc w.heap.size 3 wr (.slice (some ⟨Nb, 0, none⟩) s s) cls ∧ Ext w wr) (fun iv _ => n - (intOf iv).toNat)
                    case atStart => exact ⟨0, Nat.zero_le _, rfl, hO9, hrb, ho9, hx9⟩
                    case round =>
                      clear hO9 hrb ho9 hx9
                      obtain ⟨m, hm, rfl, hO, hrb, ho, hx⟩ := hrel
                      obtain ⟨l0, l1, l2⟩ := hO.cells
                      have c5 := own_at NN.len ho hc0.out (j := 0) rfl
                      rw [Nat.mul_one, Nat.add_zero] at c5
                      have hcC' := hcC.out
                      by_cases hlm : m < n
                      · have hto := hrow.out p r hri.out m hlm
                        obtain ⟨tv, htv⟩ : ∃ tv, tv = r.getD m 0 := ⟨_, rfl⟩
                        have c1 := hrb.at (i := m) (by omega)
                        rw [← htv] at c1 hto
                        obtain ⟨cv, hcv⟩ : ∃ cv, cls[tv]? = some cv := ⟨_, List.getElem?_eq_getElem (by rw [hC2.out]; exact hto)⟩
                        have c2 := own_at NN.len ho hcv (j := 0) rfl
                        rw [Nat.mul_one, Nat.add_zero] at c2
                        have hvm : v m = cv := by rw [hv.out]; show cls.getD (r.getD m 0) 0 = cv; rw [← htv, List.getD_eq_getElem?_getD, hcv]; rfl
                        have hat : ((OT p).1.set c (rowSet m v rc))[c]? = some (rowSet m v rc) := by rw [List.getElem?_set_self (by rw [(hOl.out p).1]; exact hcC')]
                        have hl8 : (rowSet m v rc).length = 8 := by rw [rowSet_len]; exact hrc8.out
                        have c3 := own_at RE.len hO.rows hat (j := m) (RE.at _ (by omega))
                        have c4 := own_free hO.rows (c * 8 + m)
                        have hset := hO.setRow (v := cv) hat hl8 (show m < 8 by omega)
                        rw [List.set_set, ← hvm, ← rowSet_succ, hvm] at hset
                        obtain ⟨curR, hRt⟩ := own_type hO.rows (g := Rb) rfl
                        have hrs : RowB (World.setCell wr ⟨Rb, c * 8 + m, none⟩ (.int .i64 (cv : Int))) Bt r := (heap_setCell_other wr ⟨Rb, c * 8 + m, none⟩ Bt _ hBtR).trans hrb
                        have hos := own_offT ho hRt (i := c * 8 + m) (u := .int .i64 (cv : Int)) (by decide)
                        have hxs := ext_set hx hRw (c * 8 + m) (.int .i64 (cv : Int))
                        generalize (rowSet m v rc).getD m 0 = oldv at *
                        replace hvm := Lib.hid hvm
                        replace hcv := Lib.hid hcv
                        replace htv := Lib.hid htv
                        replace hset := Lib.hid hset
                        replace hat := Lib.hid hat
                        replace hl8 := Lib.hid hl8
                        replace hRt := Lib.hid hRt
                        go_wp2_with fail
                        go_region
                        go_wp2_with fail
                        (first | exact ⟨⟨m + 1, hlm, by go_num, hset.out.kept (Ext.refl _).drew, hrs.ext (Ext.refl _).drew, hos.kept (Ext.refl _).drew, hxs.drew⟩, (by simp [intOf]; omega)⟩ | (go_roundw; case rel => exact ⟨m + 1, hlm, by go_num, hset.out.kept (Ext.refl _).drew, hrs.ext (Ext.refl _).drew, hos.kept (Ext.refl _).drew, hxs.drew⟩; case measure => exact (by simp [intOf]; omega)))
                      · obtain rfl : m = n := by omega
                        have e1 : (OT p).1.set c (rowSet m v rc) = (OT (p + 1)).1 := by rw [hsu.out]
                        rw [e1] at hO
                        have k2 := hx.cellv q2
                        obtain ⟨_, _, fv, e, hfi, _, hfc⟩ := (hF'.out.ext hx).get hlt
                        cases e
                        have hf0 := hfc 0 _ rfl
                        rw [Nat.mul_one, Nat.add_zero] at hf0
                        clear hfc
                        have hset := hO.setEnd hcC' fv
                        have e2 : (OT p).2.set c fv = (OT (p + 1)).2 := by rw [hsu.out, List.getD_eq_getElem?_getD, hfi.out]; rfl
                        rw [e2] at hset
                        obtain ⟨curF, hFt⟩ := own_type hO.ends (g := Fb) rfl
                        have hos := own_offT ho hFt (i := c) (u := .bool fv) (by decide)
                        have hxs := ext_set hx hFw c (.bool fv)
                        obtain ⟨of, hof⟩ : ∃ y, (OT p).2[c]? = some y := ⟨_, List.getElem?_eq_getElem (by rw [(hOl.out p).2]; exact hcC')⟩
                        have c3 := own_at BE.len hO.ends hof (j := 0) rfl
                        rw [Nat.mul_one, Nat.add_zero] at c3
                        have c4 := own_free hO.ends c
                        replace e1 := Lib.hid e1
                        replace e2 := Lib.hid e2
                        replace hfi := Lib.hid hfi
                        replace hof := Lib.hid hof
                        replace hFt := Lib.hid hFt
                        replace hset := Lib.hid hset
                        go_wp2_with fail
                        go_region
                        go_wp2_with fail
                        (first | exact ⟨⟨p + 1, hlt, by go_num, hset.out.kept (Ext.refl _).drew, hos.kept (Ext.refl _).drew, hxs.drew⟩, (by simp [intOf]; omega)⟩ | (go_roundw; case rel => exact ⟨p + 1, hlt, by go_num, hset.out.kept (Ext.refl _).drew, hos.kept (Ext.refl _).drew, hxs.drew⟩; case measure => exact (by simp [intOf]; omega)))
                  · obtain rfl : p = s := by omega
                    have hSx := hS'.out.ext hx
                    have hl1 := hOl.out p
                    have hn' := hn.out
                    replace hl1 := Lib.hid hl1
                    replace hn' := Lib.hid hn'
                    go_wp2_with fail
                    go_ret
                    refine ⟨Bo, rfl, ?_, hx⟩
                    rw [hLe.out]
                    refine ⟨sa, sc, some ⟨Rb, 0, none⟩, Cn, some ⟨Fb, 0, none⟩, Cn, ?_, ?_, ?_, ?_⟩
                    · show _ = some (Obj.cells #[.slice sa xs.length sc, .slice (some ⟨Rb, 0, none⟩) (OT p).1.length Cn, .slice (some ⟨Fb, 0, none⟩) (OT p).2.length Cn] _ _)
                      rw [hl1.out.1, hl1.out.2, hn'.out]; exact hO.box
                    · show RdS _ _ xs.length _ _
                      rw [hn'.out]; exact hSx
                    · show RdK 8 RE.enc _ _ (OT p).1.length _ _
                      rw [hl1.out.1]; exact OwnK.rdc RE.len hO.rows
                    · show RdK 1 BE.enc _ _ (OT p).2.length _ _
                      rw [hl1.out.2]; exact OwnK.rdc BE.len hO.ends
              · have hO := out_B (B := w.heap.size) (w := wr) hwr (.slice sa n sc) (Cn := Cn) (by omega)
                have hx7 : Ext wr ((((wr.alloc (.cells (madeCells #[.bool false] Cn) 4)).alloc (.cells (madeCells #[.int .i64 0, .int .i64 0, .int .i64 0, .int .i64 0, .int .i64 0, .int .i64 0, .int .i64 0, .int .i64 0] (Cn * 8)) 101)).alloc (.cells #[.slice sa n sc, .slice (some ⟨wr.heap.size + 1, 0, none⟩) Cn Cn, .slice (some ⟨wr.heap.size, 0, none⟩) Cn Cn] 68)).drew) := (((Ext.alloc1 _ _).alloc _).alloc _).drew
                generalize ((((wr.alloc (.cells (madeCells #[.bool false] Cn) 4)).alloc (.cells (madeCells #[.int .i64 0, .int .i64 0, .int .i64 0, .int .i64 0, .int .i64 0, .int .i64 0, .int .i64 0, .int .i64 0] (Cn * 8)) 101)).alloc (.cells #[.slice sa n sc, .slice (some ⟨wr.heap.size + 1, 0, none⟩) Cn Cn, .slice (some ⟨wr.heap.size, 0, none⟩) Cn Cn] 68)).drew) = wz at *
                generalize wr.heap.size + 1 + 1 = Bo at *
                have hFw : w.heap.size ≤ wr.heap.size := hwr
                have hRw : w.heap.size ≤ wr.heap.size + 1 := by omega
                generalize wr.heap.size + 1 = Rb at *
                generalize wr.heap.size = Fb at *
                have hox := hn3.kept hx7
                have hxz := hx.trans hx7
                obtain ⟨cls, hcls⟩ : ∃ c, c = (CL (j + 1)).1 := ⟨_, rfl⟩
                obtain ⟨OT, hOT⟩ : ∃ f, f = outTo ⟨xs, next, fin⟩ cls Cn := ⟨_, rfl⟩
                have hO0 : OutB w.heap.size wz (.slice sa n sc) Rb Fb Bo Cn (OT 0).1 (OT 0).2 := by rw [hOT]; exact hO
                have hOl : ∀ q, (OT q).1.length = Cn ∧ (OT q).2.length = Cn := fun q => by rw [hOT]; exact outTo_len _ _ _ q
                have hO8 : ∀ q, ∀ r ∈ (OT q).1, r.length = 8 := fun q => by rw [hOT]; exact outTo_row _ _ _ q
                have hOs : ∀ q, OT (q + 1) = ((OT q).1.set (cls.getD q 0) (rowSet n (fun i => cls.getD ((next.getD q []).getD i 0) 0) ((OT q).1.getD (cls.getD q 0) [])), (OT q).2.set (cls.getD q 0) (fin.getD q false)) := fun q => by rw [hOT, ← hn.out]; rfl
                have hLe : L = ⟨xs, (OT s).1, (OT s).2⟩ := by
                  rw [hL.out, hOT, hcls, hCL.out, hCn.out, hCL.out]
                  unfold leastM
                  rw [show (Au.mk xs next fin).next.length = s from hN.out]
                have hcl1' := hcl1.out
                have hC2 := hC1.out (j + 1)
                rw [← hcls] at hox hcl1' hC2
                replace hOT := Lib.hid hOT
                replace hOl := Lib.hid hOl
                replace hO8 := Lib.hid hO8
                replace hOs := Lib.hid hOs
                replace hLe := Lib.hid hLe
                replace hcls := Lib.hid hcls
                replace hcl1' := Lib.hid hcl1'
                replace hC2 := Lib.hid hC2
                clear hO hn3 hx hx7 hwr
                have k0 := hxz.cellv q0
                have k1 := hxz.cellv q1
                go_wp2_with fail
                generalize wr = wold at *
                go_loopw [126] (fun iv wr => ∃ p : Nat, p ≤ s ∧ iv = .int .i64 p ∧ OutB w.heap.size wr (.slice sa n sc) Rb Fb Bo Cn (OT p).1 (OT p).2 ∧ OwnK 1 NN.enc w.heap.size 3 wr (.slice (some ⟨Nb, 0, none⟩) s s) cls ∧ Ext w wr) (fun iv _ => s - (intOf iv).toNat)
                case atStart => exact ⟨0, Nat.zero_le _, rfl, hO0, hox, hxz⟩
                case round =>
                  clear hO0 hox hxz k0 k1
                  obtain ⟨p, hp, rfl, hO, ho, hx⟩ := hrel
                  have k0 := hx.cellv q0
                  have k1 := hx.cellv q1
                  have k2 := hx.cellv q2
                  by_cases hlt : p < s
                  · obtain ⟨_, _, r, e, hri, hb, r0, r1, r2, r3, r4, r5, r6, r7⟩ := row_at (hX'.out.ext hx) hlt
                    cases e
                    obtain ⟨c, hc0⟩ : ∃ c, cls[p]? = some c := ⟨_, List.getElem?_eq_getElem (by rw [hC2.out]; exact hlt)⟩
                    have hcC := hcl1'.out c (List.mem_of_getElem? hc0)
                    have hrb := RowB.new wr r
                    have hx8 : Ext wr (wr.alloc (.cells (rowCells r) 101)) := Ext.alloc1 _ _
                    have hO9 := hO.kept hx8
                    have ho9 := ho.kept hx8
                    have hx9 := hx.trans hx8
                    have hRl := (own_ge hO.rows).2.1
                    obtain ⟨rc, hrc⟩ : ∃ rc, (OT p).1[c]? = some rc := ⟨_, List.getElem?_eq_getElem (by rw [(hOl.out p).1]; exact hcC)⟩
                    have hrc8 := hO8.out p rc (List.mem_of_getElem? hrc)
                    obtain ⟨v, hv⟩ : ∃ v : Nat → Nat, v = fun i => cls.getD (r.getD i 0) 0 := ⟨_, rfl⟩
                    have hsu := hOs.out p
                    rw [List.getD_eq_getElem?_getD (l := cls), hc0, List.getD_eq_getElem?_getD (l := next), hri.out, List.getD_eq_getElem?_getD (l := (OT p).1)] at hsu
                    simp only [Option.getD_some] at hsu
                    rw [hrc] at hsu
                    simp only [Option.getD_some] at hsu
                    rw [← hv] at hsu
                    have hst0 : (OT p).1 = (OT p).1.set c (rowSet 0 v rc) := by
                      show _ = (OT p).1.set c rc
                      apply List.ext_getElem?
                      intro q
                      rw [List.getElem?_set]
                      split
                      · rename_i e; subst e; rw [if_pos (List.getElem?_eq_some_iff.1 hrc).1, hrc]
                      · rfl
                    rw [hst0] at hO9
                    replace hst0 := Lib.hid hst0
                    replace hv := Lib.hid hv
                    replace hsu := Lib.hid hsu
                    replace hrc := Lib.hid hrc
                    replace hrc8 := Lib.hid hrc8
                    replace hri := Lib.hid hri.out
                    replace hc0 := Lib.hid hc0
                    replace hcC := Lib.hid hcC
                    have hBx := cell_lt k0
                    have hwx := hx.le
                    go_wp2_with fail
                    change RowB (wr.alloc (.cells (rowCells r) 101)) _ _ at hrb
                    generalize wr.alloc (.cells (rowCells r) 101) = wa at *
                    have hBtR : wr.heap.size ≠ Rb := by omega
                    generalize wr.heap.size = Bt at *
                    clear r0 r1 r2 r3 r4 r5 r6 r7 k0 k1 k2 hx hO ho hx8 hBx hwx hRl
                    generalize wr = wold2 at *
                    go_loopw [136] (fun iv wr => ∃ m : Nat, m ≤ n ∧ iv = .int .i64 m ∧ OutB w.heap.size wr (.slice sa n sc) Rb Fb Bo Cn ((OT p).1.set c (rowSet m v rc)) (OT p).2 ∧ RowB wr Bt r ∧ OwnK 1 NN.enc w.heap.size 3 wr (.slice (some ⟨Nb, 0, none⟩) s s) cls ∧ Ext w wr) (fun iv _ => n - (intOf iv).toNat)
                    case atStart => exact ⟨0, Nat.zero_le _, rfl, hO9, hrb, ho9, hx9⟩
                    case round =>
                      clear hO9 hrb ho9 hx9
                      obtain ⟨m, hm, rfl, hO, hrb, ho, hx⟩ := hrel
                      obtain ⟨l0, l1, l2⟩ := hO.cells
                      have c5 := own_at NN.len ho hc0.out (j := 0) rfl
                      rw [Nat.mul_one, Nat.add_zero] at c5
                      have hcC' := hcC.out
                      by_cases hlm : m < n
                      · have hto := hrow.out p r hri.out m hlm
                        obtain ⟨tv, htv⟩ : ∃ tv, tv = r.getD m 0 := ⟨_, rfl⟩
                        have c1 := hrb.at (i := m) (by omega)
                        rw [← htv] at c1 hto
                        obtain ⟨cv, hcv⟩ : ∃ cv, cls[tv]? = some cv := ⟨_, List.getElem?_eq_getElem (by rw [hC2.out]; exact hto)⟩
                        have c2 := own_at NN.len ho hcv (j := 0) rfl
                        rw [Nat.mul_one, Nat.add_zero] at c2
                        have hvm : v m = cv := by rw [hv.out]; show cls.getD (r.getD m 0) 0 = cv; rw [← htv, List.getD_eq_getElem?_getD, hcv]; rfl
                        have hat : ((OT p).1.set c (rowSet m v rc))[c]? = some (rowSet m v rc) := by rw [List.getElem?_set_self (by rw [(hOl.out p).1]; exact hcC')]
                        have hl8 : (rowSet m v rc).length = 8 := by rw [rowSet_len]; exact hrc8.out
                        have c3 := own_at RE.len hO.rows hat (j := m) (RE.at _ (by omega))
                        have c4 := own_free hO.rows (c * 8 + m)
                        have hset := hO.setRow (v := cv) hat hl8 (show m < 8 by omega)
                        rw [List.set_set, ← hvm, ← rowSet_succ, hvm] at hset
                        obtain ⟨curR, hRt⟩ := own_type hO.rows (g := Rb) rfl
                        have hrs : RowB (World.setCell wr ⟨Rb, c * 8 + m, none⟩ (.int .i64 (cv : Int))) Bt r := (heap_setCell_other wr ⟨Rb, c * 8 + m, none⟩ Bt _ hBtR).trans hrb
                        have hos := own_offT ho hRt (i := c * 8 + m) (u := .int .i64 (cv : Int)) (by decide)
                        have hxs := ext_set hx hRw (c * 8 + m) (.int .i64 (cv : Int))
                        generalize (rowSet m v rc).getD m 0 = oldv at *
                        replace hvm := Lib.hid hvm
                        replace hcv := Lib.hid hcv
                        replace htv := Lib.hid htv
                        replace hset := Lib.hid hset
                        replace hat := Lib.hid hat
                        replace hl8 := Lib.hid hl8
                        replace hRt := Lib.hid hRt
                        go_wp2_with fail
                        go_region
                        go_wp2_with fail
                        (first | exact ⟨⟨m + 1, hlm, by go_num, hset.out.kept (Ext.refl _).drew, hrs.ext (Ext.refl _).drew, hos.kept (Ext.refl _).drew, hxs.drew⟩, (by simp [intOf]; omega)⟩ | (go_roundw; case rel => exact ⟨m + 1, hlm, by go_num, hset.out.kept (Ext.refl _).drew, hrs.ext (Ext.refl _).drew, hos.kept (Ext.refl _).drew, hxs.drew⟩; case measure => exact (by simp [intOf]; omega)))
                      · obtain rfl : m = n := by omega
                        have e1 : (OT p).1.set c (rowSet m v rc) = (OT (p + 1)).1 := by rw [hsu.out]
                        rw [e1] at hO
                        have k2 := hx.cellv q2
                        obtain ⟨_, _, fv, e, hfi, _, hfc⟩ := (hF'.out.ext hx).get hlt
                        cases e
                        have hf0 := hfc 0 _ rfl
                        rw [Nat.mul_one, Nat.add_zero] at hf0
                        clear hfc
                        have hset := hO.setEnd hcC' fv
                        have e2 : (OT p).2.set c fv = (OT (p + 1)).2 := by rw [hsu.out, List.getD_eq_getElem?_getD, hfi.out]; rfl
                        rw [e2] at hset
                        obtain ⟨curF, hFt⟩ := own_type hO.ends (g := Fb) rfl
                        have hos := own_offT ho hFt (i := c) (u := .bool fv) (by decide)
                        have hxs := ext_set hx hFw c (.bool fv)
                        obtain ⟨of, hof⟩ : ∃ y, (OT p).2[c]? = some y := ⟨_, List.getElem?_eq_getElem (by rw [(hOl.out p).2]; exact hcC')⟩
                        have c3 := own_at BE.len hO.ends hof (j := 0) rfl
                        rw [Nat.mul_one, Nat.add_zero] at c3
                        have c4 := own_free hO.ends c
                        replace e1 := Lib.hid e1
                        replace e2 := Lib.hid e2
                        replace hfi := Lib.hid hfi
                        replace hof := Lib.hid hof
                        replace hFt := Lib.hid hFt
                        replace hset := Lib.hid hset
                        go_wp2_with fail
                        go_region
                        go_wp2_with fail
                        (first | exact ⟨⟨p + 1, hlt, by go_num, hset.out.kept (Ext.refl _).drew, hos.kept (Ext.refl _).drew, hxs.drew⟩, (by simp [intOf]; omega)⟩ | (go_roundw; case rel => exact ⟨p + 1, hlt, by go_num, hset.out.kept (Ext.refl _).drew, hos.kept (Ext.refl _).drew, hxs.drew⟩; case measure => exact (by simp [intOf]; omega)))
                  · obtain rfl : p = s := by omega
                    have hSx := hS'.out.ext hx
                    have hl1 := hOl.out p
                    have hn' := hn.out
                    replace hl1 := Lib.hid hl1
                    replace hn' := Lib.hid hn'
                    go_wp2_with fail
                    go_ret
                    refine ⟨Bo, rfl, ?_, hx⟩
                    rw [hLe.out]
                    refine ⟨sa, sc, some ⟨Rb, 0, none⟩, Cn, some ⟨Fb, 0, none⟩, Cn, ?_, ?_, ?_, ?_⟩
                    · show _ = some (Obj.cells #[.slice sa xs.length sc, .slice (some ⟨Rb, 0, none⟩) (OT p).1.length Cn, .slice (some ⟨Fb, 0, none⟩) (OT p).2.length Cn] _ _)
                      rw [hl1.out.1, hl1.out.2, hn'.out]; exact hO.box
                    · show RdS _ _ xs.length _ _
                      rw [hn'.out]; exact hSx
                    · show RdK 8 RE.enc _ _ (OT p).1.length _ _
                      rw [hl1.out.1]; exact OwnK.rdc RE.len hO.rows
                    · show RdK 1 BE.enc _ _ (OT p).2.length _ _
                      rw [hl1.out.2]; exact OwnK.rdc BE.len hO.ends
            · have hlj : j < J := by have := hjJ.out; omega
              have hq1 := hJ2.out j hlj
              have hq2 : (((CL (j + 1)).2 : Int) == ((CL j).2 : Int)) = false := by simp; omega
              replace hq1 := Lib.hid hq1
              replace hjJ2 := Lib.hid hjJ2
              go_wp2_with fail
              go_roundg (gk - 1)
              case measure => have := hjk.out; omega
              case rel => exact ⟨j + 1, Nb, Lib.hid (by have := hjk.out; omega), Lib.hid (by omega), rfl, rfl, hn3, hx⟩
end Go.Proofs.Ytilkemdecenibaa
