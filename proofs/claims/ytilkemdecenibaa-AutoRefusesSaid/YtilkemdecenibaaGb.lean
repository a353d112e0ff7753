/-
  AutoRefuses: its patterns, alphabets and automata, plain.
-/
import Derived.Test.YtilkemdecenibaaGa
import Derived.Test.YtilkemdecenibaaNc
namespace Go.Proofs.Ytilkemdecenibaa
open Go.RowKit Go.Maps
def zS : Snd := ⟨0#32, 0#32⟩
def nineS : List Snd := alph 8 ++ [⟨8#32, 0#32⟩]
def badS (k : Nat) : List Snd := ((alph 8).set (k + 1) ⟨1#32, 1#32⟩).set 0 (((alph 8).set (k + 1) ⟨1#32, 1#32⟩).getD 2 zS)
def twiceS (k : Nat) : List Snd := (alph 8).set k ((alph 8).getD (k + 1) zS)
def turnS (k : Nat) : List Snd := ((alph 8).set k ((alph 8).getD (k + 1) zS)).set (k + 1) ((alph 8).getD k zS)
def strP (a : Option Addr) : HP := starP (oneP ⟨1#32, 0#32⟩) a
def strG : Net := (layM (strP none) 0 [[]]).2
def strA0 (xs : List Snd) : Au := ⟨xs, (buildN strG xs 2 (firstB strG) 3).next, (buildN strG xs 2 (firstB strG) 3).fin⟩
def strA (xs : List Snd) : Au := leastM (strA0 xs) 0
theorem str_ok (a : Option Addr) : (strP a).allB = true ∧ (strP a).cnt ≤ 40 ∧ wid (strP a) = 1 ∧ layM (strP a) 0 [[]] = (2, strG) := ⟨by kernel_rfl, of_decide_eq_true (by kernel_rfl), by kernel_rfl, by kernel_rfl⟩
theorem str_net : netSz strG ≤ 5000 ∧ netOkB strG.length strG = true ∧ netSndB strG = true ∧ 2 < strG.length := ⟨of_decide_eq_true (by kernel_rfl), by kernel_rfl, by kernel_rfl, of_decide_eq_true (by kernel_rfl)⟩
def strB (xs : List Snd) : Bool := buildB strG xs 2 3 && ((strA0 xs).okB && (leastB (strA0 xs) 0 && ((strA xs).okB && (decide ((strA xs).next.length = 2) && decide (refE 1 xs = 0)))))
structure StrOk (xs : List Snd) : Prop where
  built : ∀ a, Built (strP a) xs (strA xs)
  ok : (strA xs).okB = true
  two : (strA xs).next.length = 2
theorem strB_ok {xs : List Snd} (h : strB xs = true) : StrOk xs := by
  simp only [strB, Bool.and_eq_true, decide_eq_true_eq] at h
  obtain ⟨h1, h2, h3, h4, h5, h6⟩ := h
  obtain ⟨n1, n2, n3, n4⟩ := str_net
  exact ⟨fun a => ⟨(str_ok a).1, (str_ok a).2.1, by rw [(str_ok a).2.2.1]; exact h6, strG, 2, 3, 0, strA0 xs, (str_ok a).2.2.2, n1, n2, n3, n4, by decide, buildB_at h1, rfl, h2, leastB_at h3, rfl⟩, h4, h5⟩
theorem str_turn {k : Nat} (hk : k < 7) : StrOk (turnS k) := strB_ok (all_range (n := 7) (p := fun k => strB (turnS k)) (by kernel_rfl) hk)
theorem str_seven : StrOk (alph 7) := strB_ok (by kernel_rfl)
theorem str_all : StrOk (alph 8) := strB_ok (by kernel_rfl)
theorem ref_nine : refE 1 nineS = 12 := by kernel_rfl
theorem ref_bad {k : Nat} (hk : k < 7) : refE 1 (badS k) = 14 := of_decide_eq_true (all_range (n := 7) (p := fun k => decide (refE 1 (badS k) = 14)) (by kernel_rfl) hk)
theorem ref_twice {k : Nat} (hk : k < 7) : refE 1 (twiceS k) = 6 := of_decide_eq_true (all_range (n := 7) (p := fun k => decide (refE 1 (twiceS k) = 6)) (by kernel_rfl) hk)
theorem turn_ne {k : Nat} (hk : k < 7) : alph 8 ≠ turnS k := by
  have := all_range (n := 7) (p := fun k => decide (alph 8 ≠ turnS k)) (by kernel_rfl) hk
  exact of_decide_eq_true this
theorem seven_ne : alph 7 ≠ alph 8 := of_decide_eq_true (by kernel_rfl)
/-! ### The two windows -/
theorem win2_ok : WinOk ⟨2#32, 0#32⟩ 6 := ⟨fun _ _ _ => by kernel_rfl, fun _ _ _ => by kernel_rfl, fun _ _ _ => of_decide_eq_true (by kernel_rfl), fun _ _ _ => of_decide_eq_true (by kernel_rfl), of_decide_eq_true (by kernel_rfl), by kernel_rfl, by kernel_rfl, of_decide_eq_true (by kernel_rfl), by kernel_rfl⟩
theorem win5_built (a1 a2 a3 : Option Addr) : Built (winP ⟨1#32, 0#32⟩ 5 a1 a2 a3) (alph 8) (winL ⟨1#32, 0#32⟩ 5 8) := win1_built (by decide) (by decide) (by decide) a1 a2 a3
theorem win6_built (a1 a2 a3 : Option Addr) : Built (winP ⟨2#32, 0#32⟩ 6 a1 a2 a3) (alph 8) (winL ⟨2#32, 0#32⟩ 6 8) :=
  win_built _ (by decide) (by decide) (by decide) win2_ok (s0 := ⟨0#32, 7#32⟩) (s1 := ⟨2#32, 5#32⟩) (by kernel_rfl) (by kernel_rfl) ⟨⟨2#32, 5#32⟩, by unfold alph; exact List.mem_map.2 ⟨2, List.mem_range.2 (by omega), rfl⟩, by decide⟩ (by decide) a1 a2 a3
/-! ### And of the first with itself -/
def togChk (A B : Au) (f : Bool → Bool → Bool) : Nat → TSt × Bool
  | 0 => (⟨[(0, 0)], [], []⟩, true)
  | i + 1 => match togChk A B f i with
    | (st, ok) => match rowP (pairsAt A B (st.ps.getD i (0, 0))) st.ps with
      | (r, ps) => (⟨ps, st.next ++ [r], st.fin ++ [f (A.fin.getD (st.ps.getD i (0, 0)).1 false) (B.fin.getD (st.ps.getD i (0, 0)).2 false)]⟩, ok && decide (i < st.ps.length))
theorem togChk_at (A B : Au) (f : Bool → Bool → Bool) : ∀ i, (togChk A B f i).1 = togN A B f i ∧ ((togChk A B f i).2 = true → ∀ j, j < i → j < (togN A B f j).ps.length)
  | 0 => ⟨rfl, fun _ j hj => absurd hj (Nat.not_lt_zero _)⟩
  | i + 1 => by
    obtain ⟨h1, h2⟩ := togChk_at A B f i
    simp only [togChk, togN]
    rw [← h1]
    refine ⟨rfl, fun h j hj => ?_⟩
    simp only [Bool.and_eq_true, decide_eq_true_eq] at h
    rcases Nat.lt_succ_iff_lt_or_eq.1 hj with hj | rfl
    · exact h2 h.1 j hj
    · rw [← h1]; exact h.2
def winD : Au := ⟨alph 8, (togN (winL ⟨1#32, 0#32⟩ 5 8) (winL ⟨1#32, 0#32⟩ 5 8) (fun x y => x && y) 64).next, (togN (winL ⟨1#32, 0#32⟩ 5 8) (winL ⟨1#32, 0#32⟩ 5 8) (fun x y => x && y) 64).fin⟩
theorem dd_chk : (togChk (winL ⟨1#32, 0#32⟩ 5 8) (winL ⟨1#32, 0#32⟩ 5 8) (fun x y => x && y) 64).2 = true := by kernel_rfl
theorem dd_tog : TogAt (winL ⟨1#32, 0#32⟩ 5 8) (winL ⟨1#32, 0#32⟩ 5 8) (fun x y => x && y) 64 := ⟨of_decide_eq_true (by kernel_rfl), (togChk_at _ _ _ 64).2 dd_chk⟩
theorem dd_ok : winD.okB = true ∧ (winL ⟨1#32, 0#32⟩ 5 8).okB = true := ⟨by kernel_rfl, by kernel_rfl⟩
theorem dd_least : LeastAt winD 5 := leastB_at (by kernel_rfl)
theorem dd_len : (leastM winD 5).next.length = 64 := by
  unfold leastM
  rw [(outTo_len _ _ _ _).1]
  exact of_decide_eq_true (by kernel_rfl)
end Go.Proofs.Ytilkemdecenibaa
