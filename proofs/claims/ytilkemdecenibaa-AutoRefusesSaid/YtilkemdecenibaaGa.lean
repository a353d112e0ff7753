/-
  AutoGreat: its patterns and automata, plain.
-/
import Derived.Test.YtilkemdecenibaaNs
import Derived.Test.YtilkemdecenibaaNx
namespace Go.Proofs.Ytilkemdecenibaa
open Go.RowKit Go.Maps
theorem all_range {n : Nat} {p : Nat → Bool} (h : (List.range n).all p = true) {i : Nat} (hi : i < n) : p i = true := List.all_eq_true.1 h i (List.mem_range.2 hi)
theorem alph_len (n : Nat) : (alph n).length = n := by simp [alph]
theorem alph_ref {n W : Nat} (hn : n ≤ 8) : refE W (alph n) = if 10 < W then 12 else 0 := by
  have h := all_range (n := 9) (p := fun n => !((alph n).any (fun y => !y.ok)) && !dupB (alph n)) (by kernel_rfl) (i := n) (by omega)
  simp only [Bool.and_eq_true, Bool.not_eq_true'] at h
  unfold refE
  rw [alph_len, if_neg (by omega), h.1, h.2]; rfl
/-! ### The first family -/
def winP (c : Snd) (k : Nat) (a1 a2 a3 : Option Addr) : HP := seqP [starP anyP a1, oneP c, timesP anyP (k : Int) a2] a3 3 3
def winG (c : Snd) (k : Nat) : Net := (layM (winP c k none none none) 0 [[]]).2
def bitB (c s : Snd) : Nat := if c.p &&& s.p == 0#32 then 0 else 1
theorem bitB_le (c s : Snd) : bitB c s ≤ 1 := by unfold bitB; split <;> omega
def winHit (g : Net) (c s0 s1 : Snd) : Bool := (alph 8).all fun s => g.all fun r => r.all fun l => hitB s l.2 == hitB (if bitB c s = 0 then s0 else s1) l.2
theorem winHit_at {g : Net} {c s0 s1 : Snd} (h : winHit g c s0 s1 = true) {n : Nat} (hn : n ≤ 8) : ∀ s ∈ alph n, ∀ r ∈ g, ∀ l ∈ r, hitB s l.2 = hitB (if bitB c s = 0 then s0 else s1) l.2 := by
  intro s hs r hr l hl
  have hs8 : s ∈ alph 8 := by
    unfold alph at hs ⊢
    obtain ⟨i, hi, rfl⟩ := List.mem_map.1 hs
    exact List.mem_map.2 ⟨i, List.mem_range.2 (by have := List.mem_range.1 hi; omega), rfl⟩
  simpa using List.all_eq_true.1 (List.all_eq_true.1 (List.all_eq_true.1 h s hs8) r hr) l hl
/-- What is looked at for one k. -/
structure WinOk (c : Snd) (k : Nat) : Prop where
  lay : ∀ a1 a2 a3, layM (winP c k a1 a2 a3) 0 [[]] = (6 + k, winG c k)
  all : ∀ a1 a2 a3, (winP c k a1 a2 a3).allB = true
  cnt : ∀ a1 a2 a3, (winP c k a1 a2 a3).cnt ≤ 40
  wid : ∀ a1 a2 a3, wid (winP c k a1 a2 a3) ≤ 10
  sz : netSz (winG c k) ≤ 5000
  ok : netOkB (winG c k).length (winG c k) = true
  snd : netSndB (winG c k) = true
  goal : 6 + k < (winG c k).length
  first : firstB (winG c k) = winS k 0
theorem win1_ok {k : Nat} (hk : k ≤ 8) : WinOk ⟨1#32, 0#32⟩ k := by
  have : k = 0 ∨ k = 1 ∨ k = 2 ∨ k = 3 ∨ k = 4 ∨ k = 5 ∨ k = 6 ∨ k = 7 ∨ k = 8 := by omega
  rcases this with rfl | rfl | rfl | rfl | rfl | rfl | rfl | rfl | rfl
  · exact ⟨fun _ _ _ => by kernel_rfl, fun _ _ _ => by kernel_rfl, fun _ _ _ => of_decide_eq_true (by kernel_rfl), fun _ _ _ => of_decide_eq_true (by kernel_rfl), of_decide_eq_true (by kernel_rfl), by kernel_rfl, by kernel_rfl, of_decide_eq_true (by kernel_rfl), by kernel_rfl⟩
  · exact ⟨fun _ _ _ => by kernel_rfl, fun _ _ _ => by kernel_rfl, fun _ _ _ => of_decide_eq_true (by kernel_rfl), fun _ _ _ => of_decide_eq_true (by kernel_rfl), of_decide_eq_true (by kernel_rfl), by kernel_rfl, by kernel_rfl, of_decide_eq_true (by kernel_rfl), by kernel_rfl⟩
  · exact ⟨fun _ _ _ => by kernel_rfl, fun _ _ _ => by kernel_rfl, fun _ _ _ => of_decide_eq_true (by kernel_rfl), fun _ _ _ => of_decide_eq_true (by kernel_rfl), of_decide_eq_true (by kernel_rfl), by kernel_rfl, by kernel_rfl, of_decide_eq_true (by kernel_rfl), by kernel_rfl⟩
  · exact ⟨fun _ _ _ => by kernel_rfl, fun _ _ _ => by kernel_rfl, fun _ _ _ => of_decide_eq_true (by kernel_rfl), fun _ _ _ => of_decide_eq_true (by kernel_rfl), of_decide_eq_true (by kernel_rfl), by kernel_rfl, by kernel_rfl, of_decide_eq_true (by kernel_rfl), by kernel_rfl⟩
  · exact ⟨fun _ _ _ => by kernel_rfl, fun _ _ _ => by kernel_rfl, fun _ _ _ => of_decide_eq_true (by kernel_rfl), fun _ _ _ => of_decide_eq_true (by kernel_rfl), of_decide_eq_true (by kernel_rfl), by kernel_rfl, by kernel_rfl, of_decide_eq_true (by kernel_rfl), by kernel_rfl⟩
  · exact ⟨fun _ _ _ => by kernel_rfl, fun _ _ _ => by kernel_rfl, fun _ _ _ => of_decide_eq_true (by kernel_rfl), fun _ _ _ => of_decide_eq_true (by kernel_rfl), of_decide_eq_true (by kernel_rfl), by kernel_rfl, by kernel_rfl, of_decide_eq_true (by kernel_rfl), by kernel_rfl⟩
  · exact ⟨fun _ _ _ => by kernel_rfl, fun _ _ _ => by kernel_rfl, fun _ _ _ => of_decide_eq_true (by kernel_rfl), fun _ _ _ => of_decide_eq_true (by kernel_rfl), of_decide_eq_true (by kernel_rfl), by kernel_rfl, by kernel_rfl, of_decide_eq_true (by kernel_rfl), by kernel_rfl⟩
  · exact ⟨fun _ _ _ => by kernel_rfl, fun _ _ _ => by kernel_rfl, fun _ _ _ => of_decide_eq_true (by kernel_rfl), fun _ _ _ => of_decide_eq_true (by kernel_rfl), of_decide_eq_true (by kernel_rfl), by kernel_rfl, by kernel_rfl, of_decide_eq_true (by kernel_rfl), by kernel_rfl⟩
  · exact ⟨fun _ _ _ => by kernel_rfl, fun _ _ _ => by kernel_rfl, fun _ _ _ => of_decide_eq_true (by kernel_rfl), fun _ _ _ => of_decide_eq_true (by kernel_rfl), of_decide_eq_true (by kernel_rfl), by kernel_rfl, by kernel_rfl, of_decide_eq_true (by kernel_rfl), by kernel_rfl⟩
theorem win1_hit {k : Nat} (hk : k ≤ 8) : winHit (winG ⟨1#32, 0#32⟩ k) ⟨1#32, 0#32⟩ ⟨0#32, 7#32⟩ ⟨1#32, 6#32⟩ = true :=
  all_range (n := 9) (p := fun k => winHit (winG ⟨1#32, 0#32⟩ k) ⟨1#32, 0#32⟩ ⟨0#32, 7#32⟩ ⟨1#32, 6#32⟩) (by kernel_rfl) (by omega)
theorem win1_chk {k : Nat} (hk : k ≤ 8) : winChk (winG ⟨1#32, 0#32⟩ k) (6 + k) k ⟨0#32, 7#32⟩ ⟨1#32, 6#32⟩ = true :=
  all_range (n := 9) (p := fun k => winChk (winG ⟨1#32, 0#32⟩ k) (6 + k) k ⟨0#32, 7#32⟩ ⟨1#32, 6#32⟩) (by kernel_rfl) (by omega)
def winL (c : Snd) (k n : Nat) : Au := leastM (winA k (bitB c) (alph n)) k
theorem winL_len (c : Snd) (k n : Nat) (hn : 1 ≤ n) : (winL c k n).next.length = 2 * 2 ^ k := by
  have h := win_least (k := k) (b := bitB c) (xs := alph n) (fun s _ => bitB_le c s) (by rw [alph_len]; omega)
  unfold winL leastM
  rw [(outTo_len _ _ _ _).1, h.2]
/-- All facts that build_any asks for. -/
structure Built (h : HP) (xs : List Snd) (A : Au) : Prop where
  all : h.allB = true
  cnt : h.cnt ≤ 40
  ref : refE (wid h) xs = 0
  more : ∃ g goal N J A0, layM h 0 [[]] = (goal, g) ∧ netSz g ≤ 5000 ∧ netOkB g.length g = true ∧ netSndB g = true ∧ goal < g.length ∧ N ≤ 5000 ∧ BuildAt g xs goal N ∧ A0 = ⟨xs, (buildN g xs goal (firstB g) N).next, (buildN g xs goal (firstB g) N).fin⟩ ∧ A0.okB = true ∧ LeastAt A0 J ∧ leastM A0 J = A
theorem win_built (c : Snd) {k n : Nat} (hk : k ≤ 8) (h2 : 1 ≤ n) (h8 : n ≤ 8) (hO : WinOk c k) {s0 s1 : Snd} (hH : winHit (winG c k) c s0 s1 = true) (hC : winChk (winG c k) (6 + k) k s0 s1 = true) (h1 : ∃ s ∈ alph n, bitB c s = 1) (h0 : bitB c ⟨0#32, 7#32⟩ = 0) (a1 a2 a3 : Option Addr) : Built (winP c k a1 a2 a3) (alph n) (winL c k n) := by
  have hw := win_build hC hO.first (b := bitB c) (xs := alph n) (fun s _ => bitB_le c s) ⟨⟨0#32, 7#32⟩, (alph n).tail, by cases n with | zero => omega | succ n => simp [alph, List.range_succ_eq_map], h0⟩ h1 (winHit_at hH h8)
  have hl := win_least (k := k) (b := bitB c) (xs := alph n) (fun s _ => bitB_le c s) (by rw [alph_len]; omega)
  refine ⟨hO.all _ _ _, hO.cnt _ _ _, by rw [alph_ref h8, if_neg (by have := hO.wid a1 a2 a3; omega)], winG c k, 6 + k, 2 * 2 ^ k + 1, k, winA k (bitB c) (alph n), hO.lay _ _ _, hO.sz, hO.ok, hO.snd, hO.goal, ?_, hw.1, hw.2.symm, winA_ok (by rw [alph_len]; exact h8), hl.1, rfl⟩
  have : 2 ^ k ≤ 2 ^ 8 := Nat.pow_le_pow_right (by omega) hk
  omega
theorem win1_built {k n : Nat} (hk : k ≤ 8) (h2 : 2 ≤ n) (h8 : n ≤ 8) (a1 a2 a3 : Option Addr) : Built (winP ⟨1#32, 0#32⟩ k a1 a2 a3) (alph n) (winL ⟨1#32, 0#32⟩ k n) :=
  win_built _ hk (by omega) h8 (win1_ok hk) (win1_hit hk) (win1_chk hk) ⟨⟨1#32, 6#32⟩, by unfold alph; exact List.mem_map.2 ⟨1, List.mem_range.2 (by omega), rfl⟩, by decide⟩ (by decide) a1 a2 a3
theorem win9_wid (a1 a2 a3 : Option Addr) : (winP ⟨1#32, 0#32⟩ 9 a1 a2 a3).allB = true ∧ (winP ⟨1#32, 0#32⟩ 9 a1 a2 a3).cnt ≤ 40 ∧ wid (winP ⟨1#32, 0#32⟩ 9 a1 a2 a3) = 11 := ⟨by kernel_rfl, of_decide_eq_true (by kernel_rfl), by kernel_rfl⟩
/-! ### The second family -/
def timP (k : Nat) (a1 a2 : Option Addr) : HP := starP (timesP anyP (k : Int) a1) a2
def timG (k : Nat) : Net := (layM (timP k none none) 0 [[]]).2
def timA0 (k n : Nat) : Au := ⟨alph n, (buildN (timG (k + 1)) (alph n) 2 (firstB (timG (k + 1))) (k + 2)).next, (buildN (timG (k + 1)) (alph n) 2 (firstB (timG (k + 1))) (k + 2)).fin⟩
def timA (k n : Nat) : Au := ⟨alph n, (List.range (k + 1)).map fun i => (List.range 8).map fun j => if j < n then (i + 1) % (k + 1) else 0, (List.range (k + 1)).map fun i => i == 0⟩
def eqA (A B : Au) : Bool := decide (A.snd = B.snd) && (decide (A.next = B.next) && decide (A.fin = B.fin))
theorem eqA_eq {A B : Au} (h : eqA A B = true) : A = B := by
  simp only [eqA, Bool.and_eq_true, decide_eq_true_eq] at h
  obtain ⟨h1, h2, h3⟩ := h
  cases A; cases B
  simp only at h1 h2 h3
  subst h1 h2 h3; rfl
def timB (k n : Nat) : Bool := buildB (timG (k + 1)) (alph n) 2 (k + 2) && ((timA0 k n).okB && (leastB (timA0 k n) (k - 1) && eqA (leastM (timA0 k n) (k - 1)) (timA k n)))
theorem tim_lay {k : Nat} (hk : k ≤ 9) (a1 a2 : Option Addr) : layM (timP (k + 1) a1 a2) 0 [[]] = (2, timG (k + 1)) ∧ (timP (k + 1) a1 a2).allB = true ∧ (timP (k + 1) a1 a2).cnt ≤ 40 ∧ wid (timP (k + 1) a1 a2) = k + 1 := by
  have : k = 0 ∨ k = 1 ∨ k = 2 ∨ k = 3 ∨ k = 4 ∨ k = 5 ∨ k = 6 ∨ k = 7 ∨ k = 8 ∨ k = 9 := by omega
  rcases this with rfl | rfl | rfl | rfl | rfl | rfl | rfl | rfl | rfl | rfl <;> exact ⟨by kernel_rfl, by kernel_rfl, of_decide_eq_true (by kernel_rfl), by kernel_rfl⟩
theorem tim_net {k : Nat} (hk : k ≤ 9) : netSz (timG (k + 1)) ≤ 5000 ∧ netOkB (timG (k + 1)).length (timG (k + 1)) = true ∧ netSndB (timG (k + 1)) = true ∧ 2 < (timG (k + 1)).length := by
  have h := all_range (n := 10) (p := fun k => decide (netSz (timG (k + 1)) ≤ 5000) && (netOkB (timG (k + 1)).length (timG (k + 1)) && (netSndB (timG (k + 1)) && decide (2 < (timG (k + 1)).length)))) (by kernel_rfl) (i := k) (by omega)
  simpa only [Bool.and_eq_true, decide_eq_true_eq] using h
theorem tim_all : ((List.range 10).all fun k => (List.range 9).all fun n => decide (n < 2) || timB k n) = true := by kernel_rfl
theorem tim_built {k n : Nat} (hk : k ≤ 9) (h2 : 2 ≤ n) (h8 : n ≤ 8) (a1 a2 : Option Addr) : Built (timP (k + 1) a1 a2) (alph n) (timA k n) := by
  have h := all_range (all_range tim_all (i := k) (by omega)) (i := n) (by omega)
  simp only [timB, Bool.or_eq_true, Bool.and_eq_true, decide_eq_true_eq] at h
  rcases h with h | ⟨h1, h2, h3, h4⟩
  · omega
  obtain ⟨l1, l2, l3, l4⟩ := tim_lay hk a1 a2
  obtain ⟨n1, n2, n3, n4⟩ := tim_net hk
  exact ⟨l2, l3, by rw [l4, alph_ref h8, if_neg (by omega)], timG (k + 1), 2, k + 2, k - 1, timA0 k n, l1, n1, n2, n3, n4, by omega, buildB_at h1, rfl, h2, leastB_at h3, eqA_eq h4⟩
theorem timA_len (k n : Nat) : (timA k n).next.length = k + 1 ∧ (timA k n).fin.length = k + 1 := by simp [timA]
theorem timA_ok {k n : Nat} (h8 : n ≤ 8) : (timA k n).okB = true := by
  unfold Au.okB timA
  simp only [Bool.and_eq_true, decide_eq_true_eq, List.all_eq_true, List.length_map, List.length_range]
  refine ⟨by rw [alph_len]; exact h8, trivial, fun r hr i hi => ?_⟩
  obtain ⟨j, _, rfl⟩ := List.mem_map.1 hr
  have hi : i < 8 := by have := List.mem_range.1 hi; rw [alph_len] at this; omega
  rw [List.getD_eq_getElem?_getD, List.getElem?_map, List.getElem?_range hi]
  simp only [Option.map_some, Option.getD_some]
  split
  · exact Nat.mod_lt _ (by omega)
  · omega
theorem timA_run {k n : Nat} (h8 : n ≤ 8) : ∀ (u : List Snd) (s : Nat), (∀ x ∈ u, x ∈ alph n) → s ≤ k → runA (timA k n) u s = some ((s + u.length) % (k + 1))
  | [], s, _, hs => by simp only [runA, List.length_nil, Nat.add_zero]; rw [Nat.mod_eq_of_lt (by omega)]
  | x :: u, s, hu, hs => by
    have hx : x ∈ (timA k n).snd := hu x List.mem_cons_self
    have hi : (alph n).idxOf x < n := by have := List.idxOf_lt_length_of_mem hx; rwa [show (timA k n).snd = alph n from rfl, alph_len] at this
    simp only [runA]
    rw [if_pos hx]
    have e : ((timA k n).next.getD s []).getD ((timA k n).snd.idxOf x) 0 = (s + 1) % (k + 1) := by
      show (((List.range (k + 1)).map fun i => (List.range 8).map fun j => if j < n then (i + 1) % (k + 1) else 0).getD s []).getD ((alph n).idxOf x) 0 = _
      rw [List.getD_eq_getElem?_getD (l := List.map _ (List.range (k + 1))), List.getElem?_map, List.getElem?_range (show s < k + 1 by omega)]
      simp only [Option.map_some, Option.getD_some]
      rw [List.getD_eq_getElem?_getD, List.getElem?_map, List.getElem?_range (show (alph n).idxOf x < 8 by omega)]
      simp only [Option.map_some, Option.getD_some]
      rw [if_pos hi]
    rw [e, timA_run h8 u _ (fun y hy => hu y (List.mem_cons_of_mem _ hy)) (by have := Nat.mod_lt (s + 1) (show 0 < k + 1 by omega); omega), Nat.mod_add_mod, List.length_cons]
    congr 2; omega
theorem timA_acc {k n : Nat} (h8 : n ≤ 8) {u : List Snd} (hu : ∀ x ∈ u, x ∈ alph n) (hl : u.length ≤ 32) : accM (timA k n) u = (u.length % (k + 1) == 0) := by
  unfold accM
  rw [timA_run h8 u 0 hu (Nat.zero_le _)]
  have hm : (timA k n).madeB = true := by unfold Au.madeB; rw [(timA_len k n).1]; simp
  rw [hm, decide_eq_true hl, Nat.zero_add]
  simp only [Bool.true_and]
  show ((List.range (k + 1)).map fun i => i == 0).getD _ false = _
  rw [List.getD_eq_getElem?_getD, List.getElem?_map, List.getElem?_range (Nat.mod_lt _ (by omega))]; rfl
theorem acc_long {A : Au} {u : List Snd} (h : 32 < u.length) : accM A u = false := by
  unfold accM; rw [decide_eq_false (by omega)]; simp
/-! ### Those that are refused -/
theorem ref11 (a1 a2 : Option Addr) : (timP 11 a1 a2).allB = true ∧ (timP 11 a1 a2).cnt ≤ 40 ∧ wid (timP 11 a1 a2) = 11 := ⟨by kernel_rfl, of_decide_eq_true (by kernel_rfl), by kernel_rfl⟩
def manyP (a1 a2 : Option Addr) : HP := timesP (timesP (oneP ⟨1#32, 0#32⟩) 3 a1) 4 a2
theorem ref12 (a1 a2 : Option Addr) : (manyP a1 a2).allB = true ∧ (manyP a1 a2).cnt ≤ 40 ∧ wid (manyP a1 a2) = 11 := ⟨by kernel_rfl, of_decide_eq_true (by kernel_rfl), by kernel_rfl⟩
def begP : HP := .mk 2 ⟨0#32, 0#32⟩ false 0 0 none 0 0 []
def begsP (a1 a2 : Option Addr) : HP := timesP (timesP begP 32 a1) 32 a2
def begG : Net := (layM (begsP none none) 0 [[]]).2
def begA0 (n : Nat) : Au := ⟨alph n, (buildN begG (alph n) 1 (firstB begG) 2).next, (buildN begG (alph n) 1 (firstB begG) 2).fin⟩
def begB (n : Nat) : Bool := buildB begG (alph n) 1 2 && ((begA0 n).okB && leastB (begA0 n) 0)
theorem beg_ok (a1 a2 : Option Addr) : (begsP a1 a2).allB = true ∧ (begsP a1 a2).cnt ≤ 40 ∧ wid (begsP a1 a2) = 0 ∧ layM (begsP a1 a2) 0 [[]] = (1, begG) := ⟨by kernel_rfl, of_decide_eq_true (by kernel_rfl), by kernel_rfl, by kernel_rfl⟩
theorem beg_net : netSz begG ≤ 5000 ∧ netOkB begG.length begG = true ∧ netSndB begG = true ∧ 1 < begG.length := ⟨of_decide_eq_true (by kernel_rfl), by kernel_rfl, by kernel_rfl, of_decide_eq_true (by kernel_rfl)⟩
theorem beg_built {n : Nat} (h1 : 1 ≤ n) (h8 : n ≤ 8) (a1 a2 : Option Addr) : Built (begsP a1 a2) (alph n) (leastM (begA0 n) 0) := by
  have h := all_range (n := 8) (p := fun n => begB (n + 1)) (by kernel_rfl) (i := n - 1) (by omega)
  simp only [Nat.sub_add_cancel h1] at h
  simp only [begB, Bool.and_eq_true] at h
  obtain ⟨h1, h2, h3⟩ := h
  obtain ⟨o1, o2, o3, o4⟩ := beg_ok a1 a2
  obtain ⟨n1, n2, n3, n4⟩ := beg_net
  exact ⟨o1, o2, by rw [o3, alph_ref h8, if_neg (by decide)], begG, 1, 2, 0, begA0 n, o4, n1, n2, n3, n4, by decide, buildB_at h1, rfl, h2, leastB_at h3, rfl⟩
end Go.Proofs.Ytilkemdecenibaa
