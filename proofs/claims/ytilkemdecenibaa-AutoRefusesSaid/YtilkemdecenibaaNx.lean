/-
  The example: its automata, plain; the pattern and the sounds.
-/
import Derived.Test.YtilkemdecenibaaNp
import Derived.Test.YtilkemdecenibaaNt
namespace Go.Proofs.Ytilkemdecenibaa
open Go.RowKit Go.Maps
def endP : HP := .mk 6 ⟨0#32, 0#32⟩ false 0 0 none 0 0 []
def exQ : HP := oneP ⟨2#32, 0#32⟩
def exP (a b : Option Addr) : HP := .mk 3 ⟨0#32, 0#32⟩ false 0 0 a 3 3 [exQ, starP (oneP ⟨4#32, 0#32⟩) b, endP]
def exS : List Snd := [⟨2#32, 5#32⟩, ⟨3#32, 4#32⟩, ⟨5#32, 2#32⟩]
def exG : Net := (layM (exP none none) 0 [[]]).2
def exH : Net := (layM exQ 0 [[]]).2
def exA0 : Au := ⟨exS, [[1, 1, 2], [2, 2, 3], [2, 2, 2], [2, 2, 3]], [false, true, false, true]⟩
def exA : Au := ⟨exS, [[1, 1, 2, 0, 0, 0, 0, 0], [2, 2, 1, 0, 0, 0, 0, 0], [2, 2, 2, 0, 0, 0, 0, 0]], [false, true, false]⟩
def exB0 : Au := ⟨exS, [[1, 1, 2], [2, 2, 2], [2, 2, 2]], [false, true, false]⟩
def exB : Au := ⟨exS, [[1, 1, 2, 0, 0, 0, 0, 0], [2, 2, 2, 0, 0, 0, 0, 0], [2, 2, 2, 0, 0, 0, 0, 0]], [false, true, false]⟩
def exD : Au := ⟨exS, [[1, 1, 2], [2, 2, 3], [2, 2, 2], [2, 2, 3]], [false, false, false, true]⟩
def exC : Au := ⟨exS, [[1, 1, 2, 0, 0, 0, 0, 0], [2, 2, 3, 0, 0, 0, 0, 0], [2, 2, 2, 0, 0, 0, 0, 0], [2, 2, 3, 0, 0, 0, 0, 0]], [false, false, false, true]⟩
theorem exG_lay (a b : Option Addr) : layM (exP a b) 0 [[]] = (5, exG) := by kernel_rfl
theorem exH_lay : layM exQ 0 [[]] = (1, exH) := by kernel_rfl
theorem ex_ok (a b : Option Addr) : (exP a b).allB = true ∧ (exP a b).cnt ≤ 40 ∧ refE (wid (exP a b)) exS = 0 := ⟨by kernel_rfl, of_decide_eq_true (by kernel_rfl), by kernel_rfl⟩
theorem exQ_ok : exQ.allB = true ∧ exQ.cnt ≤ 40 ∧ refE (wid exQ) exS = 0 := ⟨by kernel_rfl, of_decide_eq_true (by kernel_rfl), by kernel_rfl⟩
/-- A conclusion from bits: an automaton is built, and made least. -/
def buildB (g : Net) (xs : List Snd) (goal N : Nat) : Bool := decide ((buildN g xs goal (firstB g) N).sets.length = N) && (List.range N).all fun i => decide (i < (buildN g xs goal (firstB g) i).sets.length)
theorem buildB_at {g : Net} {xs : List Snd} {goal N : Nat} (h : buildB g xs goal N = true) : BuildAt g xs goal N := by
  simp only [buildB, Bool.and_eq_true, decide_eq_true_eq, List.all_eq_true, List.mem_range] at h
  exact h
def leastB (A : Au) (J : Nat) : Bool := decide ((clsN A (J + 1)).2 = (clsN A J).2) && (List.range J).all fun j => decide ((clsN A (j + 1)).2 ≠ (clsN A j).2)
theorem leastB_at {A : Au} {J : Nat} (h : leastB A J = true) : LeastAt A J := by
  simp only [leastB, Bool.and_eq_true, decide_eq_true_eq, List.all_eq_true, List.mem_range] at h
  exact h
def togB (A B : Au) (f : Bool → Bool → Bool) (N : Nat) : Bool := decide ((togN A B f N).ps.length = N) && (List.range N).all fun i => decide (i < (togN A B f i).ps.length)
theorem togB_at {A B : Au} {f : Bool → Bool → Bool} {N : Nat} (h : togB A B f N = true) : TogAt A B f N := by
  simp only [togB, Bool.and_eq_true, decide_eq_true_eq, List.all_eq_true, List.mem_range] at h
  exact h
theorem exA_build : BuildAt exG exS 5 4 ∧ exA0 = ⟨exS, (buildN exG exS 5 (firstB exG) 4).next, (buildN exG exS 5 (firstB exG) 4).fin⟩ ∧ exA0.okB = true ∧ LeastAt exA0 1 ∧ leastM exA0 1 = exA ∧ exA.okB = true :=
  ⟨buildB_at (by kernel_rfl), by kernel_rfl, by kernel_rfl, leastB_at (by kernel_rfl), by kernel_rfl, by kernel_rfl⟩
theorem exB_build : BuildAt exH exS 1 3 ∧ exB0 = ⟨exS, (buildN exH exS 1 (firstB exH) 3).next, (buildN exH exS 1 (firstB exH) 3).fin⟩ ∧ exB0.okB = true ∧ LeastAt exB0 1 ∧ leastM exB0 1 = exB ∧ exB.okB = true :=
  ⟨buildB_at (by kernel_rfl), by kernel_rfl, by kernel_rfl, leastB_at (by kernel_rfl), by kernel_rfl, by kernel_rfl⟩
theorem exC_tog : TogAt exA exB (fun x y => x != y) 4 ∧ exD = ⟨exA.snd, (togN exA exB (fun x y => x != y) 4).next, (togN exA exB (fun x y => x != y) 4).fin⟩ ∧ exD.okB = true ∧ LeastAt exD 2 ∧ leastM exD 2 = exC ∧ exC.okB = true :=
  ⟨togB_at (by kernel_rfl), by kernel_rfl, by kernel_rfl, leastB_at (by kernel_rfl), by kernel_rfl, by kernel_rfl⟩
theorem exOrd : OrdIs exS [0, 1, 2] := by
  refine ⟨List.Perm.refl _, ?_⟩
  simp only [List.pairwise_cons, List.mem_cons, List.not_mem_nil, or_false, forall_eq_or_imp, forall_eq]
  refine ⟨⟨of_decide_eq_true (by kernel_rfl), of_decide_eq_true (by kernel_rfl)⟩, of_decide_eq_true (by kernel_rfl), ?_, ?_⟩
  · intro a h; cases h
  · exact List.Pairwise.nil
theorem wordsAll_take (A : Au) (ord : List Nat) {m K : Nat} (hm : m ≤ 33) (hK : K ≤ (wordsTo A ord m).length) : (wordsAll A ord).take K = (wordsTo A ord m).take K := by
  obtain ⟨t, ht⟩ := wordsTo_pre A ord hm
  rw [← ht, List.take_append_of_le_length hK]
theorem exA_words : (wordsAll exA [0, 1, 2]).take 4 = [[⟨2#32, 5#32⟩], [⟨3#32, 4#32⟩], [⟨2#32, 5#32⟩, ⟨5#32, 2#32⟩], [⟨3#32, 4#32⟩, ⟨5#32, 2#32⟩]] := by
  rw [wordsAll_take exA [0, 1, 2] (m := 3) (by decide) (of_decide_eq_true (by kernel_rfl))]
  kernel_rfl
theorem exC_words : ∃ l, wordsAll exC [0, 1, 2] = [⟨2#32, 5#32⟩, ⟨5#32, 2#32⟩] :: l := by
  obtain ⟨t, ht⟩ := wordsTo_pre exC [0, 1, 2] (n := 3) (by decide)
  have h : wordsTo exC [0, 1, 2] 3 = [[⟨2#32, 5#32⟩, ⟨5#32, 2#32⟩], [⟨3#32, 4#32⟩, ⟨5#32, 2#32⟩]] := by kernel_rfl
  rw [← ht, h]
  exact ⟨_, rfl⟩
theorem exG_net : netSz exG ≤ 5000 ∧ netOkB exG.length exG = true ∧ netSndB exG = true ∧ 5 < exG.length := ⟨of_decide_eq_true (by kernel_rfl), by kernel_rfl, by kernel_rfl, of_decide_eq_true (by kernel_rfl)⟩
theorem exH_net : netSz exH ≤ 5000 ∧ netOkB exH.length exH = true ∧ netSndB exH = true ∧ 1 < exH.length := ⟨of_decide_eq_true (by kernel_rfl), by kernel_rfl, by kernel_rfl, of_decide_eq_true (by kernel_rfl)⟩
theorem exA_cnt : cntM exA 2 = 2 := by kernel_rfl
theorem exA_acc : accM exA [⟨2#32, 5#32⟩, ⟨5#32, 2#32⟩, ⟨5#32, 2#32⟩] = true ∧ accM exA [⟨5#32, 2#32⟩] = false := ⟨by kernel_rfl, by kernel_rfl⟩
end Go.Proofs.Ytilkemdecenibaa
