/-
  The matrix of candidates and costs, plain: 'matE' (the error), 'matL' (the rows). A grid of rows in memory.
  Matrix of the program.
-/
import Derived.Test.YtdloabjnjnjacaaDoorFd
import Derived.Test.YtdloabjnjnjacaaDoorCl
import Derived.Laws.NewBlocks
import Derived.BigRegion
namespace Go.Proofs.YtdloabjnjnjacaaDoor
open Go.RowKit
/-! ### The first error -/
def firstE (f : Nat → Int) : Nat → Int
  | 0 => 0
  | n + 1 => if firstE f n = 0 then f n else firstE f n
theorem firstE_zero {f : Nat → Int} : ∀ {n : Nat}, (∀ i, i < n → f i = 0) → firstE f n = 0
  | 0, _ => rfl
  | n + 1, h => by rw [firstE, firstE_zero fun i hi => h i (by omega), if_pos rfl]; exact h n (by omega)
theorem firstE_at {f : Nat → Int} {k : Nat} (h : ∀ i, i < k → f i = 0) (hk : f k ≠ 0) : ∀ {n : Nat}, k < n → firstE f n = f k
  | 0, hn => absurd hn (by omega)
  | n + 1, hn => by
    rw [firstE]
    by_cases e : k = n
    · subst e; rw [firstE_zero h, if_pos rfl]
    · rw [firstE_at h hk (n := n) (by omega), if_neg hk]
def candAt (cs : List Snd) (i : Nat) : Int := match cs[i]? with
  | some s => if s.ok = false then 14 else if s ∈ cs.take i then 6 else 0
  | none => 0
theorem candAt_bad {cs : List Snd} {i : Nat} {s : Snd} (h : cs[i]? = some s) (hs : s.ok = false) : candAt cs i = 14 := by simp [candAt, h, hs]
theorem candAt_have {cs : List Snd} {i : Nat} {s : Snd} (h : cs[i]? = some s) (hs : s.ok = true) (hm : s ∈ cs.take i) : candAt cs i = 6 := by simp [candAt, h, hs, hm]
theorem candAt_ok {cs : List Snd} {i : Nat} {s : Snd} (h : cs[i]? = some s) (hs : s.ok = true) (hm : ¬ s ∈ cs.take i) : candAt cs i = 0 := by simp [candAt, h, hs, hm]
theorem candAt_zero {cs : List Snd} {i : Nat} {s : Snd} (h : cs[i]? = some s) (h0 : candAt cs i = 0) : s.ok = true ∧ ¬ s ∈ cs.take i := by
  simp only [candAt, h] at h0
  cases hs : s.ok
  · simp [hs] at h0
  · refine ⟨rfl, fun hm => ?_⟩
    simp [hs, hm] at h0
/-! ### The costs -/
theorem diffS_comm (a b : Snd) : diffS a b = diffS b a := by unfold diffS; rw [BitVec.xor_comm a.p, BitVec.xor_comm a.m]
theorem distS_comm (a b : Snd) (ws : List Int) : distS a b ws = distS b a ws := by unfold distS; rw [diffS_comm]
theorem distS_bd {ws : List Int} {g : Int} (h : costsB ws g = true) (a b : Snd) : 0 ≤ distS a b ws ∧ distS a b ws ≤ 25769803776 := by
  obtain ⟨h1, _, h3⟩ := costsB_of h
  have := distTo_bd h3 (diffS a b) ws.length
  unfold distS; omega

/-- What the change between two candidates (or the gap, behind them) costs. -/
def costM (cs : List Snd) (ws : List Int) (g : Int) (i k : Nat) : Int :=
  if i = k then 0 else if i < cs.length ∧ k < cs.length then distS (cs.getD i nulS) (cs.getD k nulS) ws else g
theorem costM_comm (cs : List Snd) (ws : List Int) (g : Int) (i k : Nat) : costM cs ws g i k = costM cs ws g k i := by
  unfold costM
  by_cases h : i = k
  · subst h; rfl
  · rw [if_neg h, if_neg (Ne.symm h), distS_comm]
    by_cases h2 : i < cs.length ∧ k < cs.length
    · rw [if_pos h2, if_pos ⟨h2.2, h2.1⟩]
    · rw [if_neg h2, if_neg fun h3 => h2 ⟨h3.2, h3.1⟩]
theorem costM_self (cs : List Snd) (ws : List Int) (g : Int) (i : Nat) : costM cs ws g i i = 0 := by simp [costM]
theorem costM_bd {cs : List Snd} {ws : List Int} {g : Int} (h : costsB ws g = true) (i k : Nat) : 0 ≤ costM cs ws g i k ∧ costM cs ws g i k ≤ 25769803776 := by
  obtain ⟨_, h2, _⟩ := costsB_of h
  simp only [wOk, Bool.and_eq_true, decide_eq_true_eq] at h2
  unfold costM
  split
  · omega
  · split
    · exact distS_bd h _ _
    · omega
def overM (cs : List Snd) (ws : List Int) (g : Int) : Bool := (List.range (cs.length + 1)).any fun i => (List.range i).any fun k => decide (1073741824 < costM cs ws g i k)
theorem overM_at {cs : List Snd} {ws : List Int} {g : Int} {i k : Nat} (hi : i ≤ cs.length) (hk : k < i) (h : 1073741824 < costM cs ws g i k) : overM cs ws g = true := by
  unfold overM
  rw [List.any_eq_true]
  refine ⟨i, List.mem_range.2 (by omega), ?_⟩
  rw [List.any_eq_true]
  exact ⟨k, List.mem_range.2 hk, decide_eq_true h⟩
theorem overM_at' {cs : List Snd} {ws : List Int} {g : Int} {i k : Nat} (hi : i ≤ cs.length) (hk : k ≤ cs.length) (h : 1073741824 < costM cs ws g i k) : overM cs ws g = true := by
  rcases Nat.lt_trichotomy i k with hl | hl | hl
  · rw [costM_comm] at h; exact overM_at hk hl h
  · subst hl; rw [costM_self] at h; omega
  · exact overM_at hi hl h
theorem overM_not {cs : List Snd} {ws : List Int} {g : Int} (h : ∀ i k, i ≤ cs.length → k < i → costM cs ws g i k ≤ 1073741824) : overM cs ws g = false := by
  unfold overM
  rw [List.any_eq_false]
  intro i hi
  rw [Bool.not_eq_true, List.any_eq_false]
  intro k hk
  have := h i k (by have := List.mem_range.1 hi; omega) (List.mem_range.1 hk)
  simp; omega
def matE (cs : List Snd) (ws : List Int) (g : Int) : Int :=
  if 11 < cs.length then 12 else if cs.length = 0 then 5 else if firstE (candAt cs) cs.length ≠ 0 then firstE (candAt cs) cs.length else if costsB ws g = false then 2 else if overM cs ws g = true then 7 else 0
def matRow (cs : List Snd) (ws : List Int) (g : Int) (i : Nat) : List Int := (List.range (cs.length + 1)).map (costM cs ws g i)
def matL (cs : List Snd) (ws : List Int) (g : Int) : List (List Int) := (List.range (cs.length + 1)).map (matRow cs ws g)
theorem matE_many {cs : List Snd} {ws : List Int} {g : Int} (h : 11 < cs.length) : matE cs ws g = 12 := by simp [matE, h]
theorem matE_none {cs : List Snd} {ws : List Int} {g : Int} (h : cs.length = 0) : matE cs ws g = 5 := by simp [matE, h]
theorem matE_cand {cs : List Snd} {ws : List Int} {g : Int} (h : cs.length ≤ 11) {k : Nat} (hk : k < cs.length) (h0 : ∀ i, i < k → candAt cs i = 0) {e : Int} (he : candAt cs k = e) (hne : e ≠ 0) : matE cs ws g = e := by
  have := firstE_at h0 (by rw [he]; exact hne) hk
  rw [he] at this
  unfold matE
  rw [if_neg (by omega), if_neg (by omega), this, if_pos hne]
theorem matE_costs {cs : List Snd} {ws : List Int} {g : Int} (h : cs.length ≤ 11) (hn : cs.length ≠ 0) (h0 : ∀ i, i < cs.length → candAt cs i = 0) (hc : costsB ws g = false) : matE cs ws g = 2 := by
  unfold matE
  rw [if_neg (by omega), if_neg hn, firstE_zero h0, if_neg (by simp), if_pos hc]
theorem matE_over {cs : List Snd} {ws : List Int} {g : Int} (h : cs.length ≤ 11) (hn : cs.length ≠ 0) (h0 : ∀ i, i < cs.length → candAt cs i = 0) (hc : costsB ws g = true) (ho : overM cs ws g = true) : matE cs ws g = 7 := by
  unfold matE
  rw [if_neg (by omega), if_neg hn, firstE_zero h0, if_neg (by simp), if_neg (by simp [hc]), if_pos ho]
theorem matE_ok {cs : List Snd} {ws : List Int} {g : Int} (h : cs.length ≤ 11) (hn : cs.length ≠ 0) (h0 : ∀ i, i < cs.length → candAt cs i = 0) (hc : costsB ws g = true) (ho : overM cs ws g = false) : matE cs ws g = 0 := by
  unfold matE
  rw [if_neg (by omega), if_neg hn, firstE_zero h0, if_neg (by simp), if_neg (by simp [hc]), if_neg (by simp [ho])]
theorem matE_zero {cs : List Snd} {ws : List Int} {g : Int} (h : matE cs ws g = 0) : cs.length ≤ 11 ∧ cs.length ≠ 0 ∧ (∀ i, i < cs.length → candAt cs i = 0) ∧ costsB ws g = true ∧ overM cs ws g = false := by
  unfold matE at h
  by_cases h1 : 11 < cs.length
  · rw [if_pos h1] at h; cases h
  rw [if_neg h1] at h
  by_cases h2 : cs.length = 0
  · rw [if_pos h2] at h; cases h
  rw [if_neg h2] at h
  by_cases h3 : firstE (candAt cs) cs.length = 0
  · rw [h3, if_neg (by simp)] at h
    cases h4 : costsB ws g
    · rw [h4, if_pos rfl] at h; cases h
    rw [h4, if_neg (by simp)] at h
    cases h5 : overM cs ws g
    · refine ⟨by omega, h2, ?_, rfl, rfl⟩
      have : ∀ n, firstE (candAt cs) n = 0 → ∀ i, i < n → candAt cs i = 0 := by
        intro n
        induction n with
        | zero => intro _ i hi; omega
        | succ n ih =>
          intro he i hi
          rw [firstE] at he
          by_cases e : firstE (candAt cs) n = 0
          · rw [if_pos e] at he
            by_cases ei : i = n
            · subst ei; exact he
            · exact ih e i (by omega)
          · rw [if_neg e] at he; exact absurd he e
      exact this _ h3
    · rw [h5, if_pos rfl] at h; cases h
  · rw [if_pos h3] at h; exact absurd h h3
/-! ### A slice of rows -/
/-- A row of integers in a cell. -/
def RI (w : World) (v : Value) (x : List Int) : Prop := ∃ a n cap, v = .slice a n cap ∧ RdI w a n cap x
theorem RI.ext {w w' : World} {v : Value} {x : List Int} (h : RI w v x) (hx : Ext w w') : RI w' v x :=
  let ⟨a, n, cap, hv, hr⟩ := h; ⟨a, n, cap, hv, hr.ext hx⟩
abbrev RdM := RdV RI
theorem RdM.ext {w w' : World} {a : Option Addr} {n cap : Nat} {ws : List (List Int)} (h : RdM w a n cap ws) (hx : Ext w w') : RdM w' a n cap ws := RdV.ext (R := RI) (fun _ _ _ _ h hx => RI.ext h hx) h hx
/-- A grid: block G holds N headers; the first m lead to rows of N integers each, all in blocks of their own from B on. -/
structure Grid (B : Nat) (w : World) (G N : Nat) (bs : Nat → Nat) (m : Nat) (f : Nat → Nat → Int) : Prop where
  base : B ≤ G
  lt : G < w.heap.size
  head : ∀ r, r < N → w.cell? ⟨G, r, none⟩ = some (if r < m then .slice (some ⟨bs r, 0, none⟩) N N else .slice none 0 0)
  free : ∀ r, w.frozen? ⟨G, r, none⟩ = false
  row : ∀ r c, r < m → c < N → w.cell? ⟨bs r, c, none⟩ = some (.int .i64 (f r c))
  rfree : ∀ r c, r < m → w.frozen? ⟨bs r, c, none⟩ = false
  rbase : ∀ r, r < m → B ≤ bs r ∧ bs r ≠ G ∧ bs r < w.heap.size
  apart : ∀ r r', r < m → r' < m → r ≠ r' → bs r ≠ bs r'
theorem Grid.ext {B : Nat} {w w' : World} {G N : Nat} {bs : Nat → Nat} {m : Nat} {f : Nat → Nat → Int} (h : Grid B w G N bs m f) (hx : Ext w w') : Grid B w' G N bs m f where
  base := h.base
  lt := Nat.lt_of_lt_of_le h.lt hx.le
  head r hr := by rw [hx.cell _ h.lt]; exact h.head r hr
  free r := by rw [hx.frozen _ h.lt]; exact h.free r
  row r c hr hc := by rw [hx.cell _ (h.rbase r hr).2.2]; exact h.row r c hr hc
  rfree r c hr := by rw [hx.frozen _ (h.rbase r hr).2.2]; exact h.rfree r c hr
  rbase r hr := ⟨(h.rbase r hr).1, (h.rbase r hr).2.1, Nat.lt_of_lt_of_le (h.rbase r hr).2.2 hx.le⟩
  apart := h.apart
theorem Grid.congr {B : Nat} {w : World} {G N : Nat} {bs : Nat → Nat} {m : Nat} {f f' : Nat → Nat → Int} (h : Grid B w G N bs m f) (he : ∀ r c, r < m → c < N → f r c = f' r c) : Grid B w G N bs m f' :=
  ⟨h.base, h.lt, h.head, h.free, fun r c hr hc => by rw [← he r c hr hc]; exact h.row r c hr hc, h.rfree, h.rbase, h.apart⟩
theorem cell_other {w : World} {b o b' o' : Nat} {v : Value} (h : b ≠ b' ∨ o ≠ o') : (w.setCell ⟨b, o, none⟩ v).cell? ⟨b', o', none⟩ = w.cell? ⟨b', o', none⟩ := by
  apply World.cell?_setCell_other
  intro e
  rcases h with h | h
  · exact h (by simpa using congrArg Addr.block e)
  · exact h (by simpa using congrArg Addr.off e)
theorem Grid.set {B : Nat} {w : World} {G N : Nat} {bs : Nat → Nat} {m : Nat} {f : Nat → Nat → Int} (h : Grid B w G N bs m f) {r c : Nat} (hr : r < m) (hc : c < N) (x : Int) :
    Grid B (w.setCell ⟨bs r, c, none⟩ (.int .i64 x)) G N bs m (fun i k => if i = r ∧ k = c then x else f i k) where
  base := h.base
  lt := by simpa using h.lt
  head i hi := by rw [cell_other (.inl (h.rbase r hr).2.1)]; exact h.head i hi
  free i := by rw [World.frozen?_setCell]; exact h.free i
  row i k hi hk := by
    by_cases e : i = r ∧ k = c
    · obtain ⟨rfl, rfl⟩ := e
      rw [if_pos ⟨rfl, rfl⟩]
      exact World.cell?_setCell_same' _ _ _ (by rw [h.row i k hi hk]; rfl)
    · rw [if_neg e, cell_other]
      · exact h.row i k hi hk
      · by_cases ei : i = r
        · subst ei; exact .inr fun hk' => e ⟨rfl, hk'.symm⟩
        · exact .inl (h.apart r i hr hi (Ne.symm ei))
  rfree i k hi := by rw [World.frozen?_setCell]; exact h.rfree i k hi
  rbase i hi := by simpa using h.rbase i hi
  apart := h.apart
/-- A new row laid and hung in. -/
theorem Grid.hang {B : Nat} {w : World} {G N : Nat} {bs : Nat → Nat} {m : Nat} {f : Nat → Nat → Int} (h : Grid B w G N bs m f) (hm : m < N) (e : TypeId) (cs : Array Value) (g : Nat → Int) (hcs : ∀ c, c < N → cs[c]? = some (.int .i64 (g c))) :
    Grid B ((w.alloc (.cells cs e)).setCell ⟨G, m, none⟩ (.slice (some ⟨w.heap.size, 0, none⟩) N N)) G N (fun r => if r = m then w.heap.size else bs r) (m + 1) (fun i k => if i = m then g k else f i k) := by
  have h' := h.ext (Ext.alloc1 w (.cells cs e))
  have hlt := h.lt
  have hB := h.base
  have hnew : (w.alloc (.cells cs e)).heap[w.heap.size]? = some (.cells cs e (0, 0)) := by show (w.heap.push _)[w.heap.size]? = _; simp
  constructor
  · exact h.base
  · simp; omega
  · intro r hr
    by_cases e1 : r = m
    · subst e1
      rw [World.cell?_setCell_same' _ _ _ (by rw [h'.head r hr]; rfl)]
      simp
    · rw [cell_other (.inr (Ne.symm e1)), h'.head r hr]
      by_cases e2 : r < m
      · simp [e2, e1, Nat.lt_succ_of_lt e2]
      · have : ¬ r < m + 1 := by omega
        simp [e2, this]
  · intro r; rw [World.frozen?_setCell]; exact h'.free r
  · intro r c hr hc
    by_cases e1 : r = m
    · subst e1
      simp only [if_true]
      rw [cell_other (.inl (by omega))]
      simp only [World.cell?, hnew]
      simpa using hcs c hc
    · simp only [if_neg e1]
      rw [cell_other (.inl (Ne.symm (h'.rbase r (by omega)).2.1))]
      exact h'.row r c (by omega) hc
  · intro r c hr
    rw [World.frozen?_setCell]
    by_cases e1 : r = m
    · subst e1
      simp only [if_true]
      exact frozen_of_row (w.alloc (.cells cs e)) w.heap.size c cs e hnew
    · simp only [if_neg e1]
      exact h'.rfree r c (by omega)
  · intro r hr
    by_cases e1 : r = m
    · subst e1; simp; omega
    · have := h.rbase r (by omega)
      simp only [if_neg e1]
      simp; omega
  · intro r r' hr hr' hne
    by_cases e1 : r = m
    · subst e1
      have := (h.rbase r' (by omega)).2.2
      simp only [if_true, if_neg (Ne.symm hne)]
      omega
    · by_cases e2 : r' = m
      · subst e2
        have := (h.rbase r (by omega)).2.2
        simp only [if_true, if_neg e1]
        omega
      · simp only [if_neg e1, if_neg e2]
        exact h.apart r r' (by omega) (by omega) hne
theorem Grid.hang' {B : Nat} {w : World} {G N : Nat} {bs : Nat → Nat} {m : Nat} {f : Nat → Nat → Int} (h : Grid B w G N bs m f) (hm : m < N) (e : TypeId) (cs : Array Value) (g : Nat → Int) (hcs : ∀ c, c < N → cs[c]? = some (.int .i64 (g c))) :
    Grid B ((w.setCell ⟨G, m, none⟩ (.slice (some ⟨w.heap.size, 0, none⟩) N N)).alloc (.cells cs e)) G N (fun r => if r = m then w.heap.size else bs r) (m + 1) (fun i k => if i = m then g k else f i k) := by
  have := h.hang hm e cs g hcs
  rwa [World.setCell_alloc_past _ _ _ _ h.lt] at this
/-- A whole grid reads as its rows. -/
theorem Grid.rd {B : Nat} {w : World} {G N : Nat} {bs : Nat → Nat} {f : Nat → Nat → Int} (h : Grid B w G N bs N f) (hN : N ≤ maxLen) : RdM w (some ⟨G, 0, none⟩) N N ((List.range N).map fun r => (List.range N).map (f r)) := by
  refine ⟨by simp, Nat.le_refl _, hN, (fun h => by cases h), fun _ => ⟨G, 0, rfl, h.lt, fun i x hi => ?_⟩⟩
  have hlt : i < N := by have := (List.getElem?_eq_some_iff.1 hi).1; simpa using this
  have hx : x = (List.range N).map (f i) := by
    rw [List.getElem?_map, List.getElem?_range hlt] at hi
    exact (Option.some.inj hi).symm
  subst hx
  refine ⟨.slice (some ⟨bs i, 0, none⟩) N N, by rw [Nat.zero_add, h.head i hlt, if_pos hlt], _, _, _, rfl, by simp, Nat.le_refl _, hN, (fun h => by cases h), fun _ => ⟨bs i, 0, rfl, (h.rbase i hlt).2.2, fun c y hc j u hu => ?_⟩⟩
  have hcl : c < N := by have := (List.getElem?_eq_some_iff.1 hc).1; simpa using this
  have hy : y = f i c := by
    rw [List.getElem?_map, List.getElem?_range hcl] at hc
    exact (Option.some.inj hc).symm
  have hj : j = 0 := by have := (List.getElem?_eq_some_iff.1 hu).1; simp [I64.enc] at this; exact this
  subst hj; subst hy
  simp [I64.enc] at hu
  subst hu
  have := h.row i c hlt hcl
  simpa using this
/-! ### Rows that have just been made -/
def zInts (n : Nat) : Array Value := madeCells (Value.int .i64 0).cells (n * 1)
def zHdrs (n : Nat) : Array Value := madeCells (Value.slice none 0 0).cells (n * 1)
theorem zInts_at (n j : Nat) (h : j < n) : (zInts n)[j]? = some (.int .i64 0) := by simp [zInts, madeCells, Value.cells, h, Nat.mod_one]
theorem zHdrs_at (n j : Nat) (h : j < n) : (zHdrs n)[j]? = some (.slice none 0 0) := by simp [zHdrs, madeCells, Value.cells, h, Nat.mod_one]
theorem info_i64 : (Tryd.prog.info? 2).map (fun i => (i.zero, i.size, i.bytes)) = some (some (.int .i64 0), 1, 8) := by kernel_rfl
theorem info_ints64 : (Tryd.prog.info? 23).map (fun i => (i.zero, i.size, i.bytes)) = some (some (.slice none 0 0), 1, 24) := by kernel_rfl
theorem mk_ints64 (n : Nat) (hn : n ≤ 60000) (w : World) : (Instr.makeSlice 23 (.int .i64 (n : Int)) (.int .i64 (n : Int))).run Tryd.prog w = .ok (.slice (some ⟨w.heap.size, 0, none⟩) n n) (w.alloc (.cells (zInts n) 2)) :=
  run_mk 23 Tryd.underlying23 info_i64 n hn (by omega) w
theorem mk_rows64 (n : Nat) (hn : n ≤ 60000) (w : World) : (Instr.makeSlice 27 (.int .i64 (n : Int)) (.int .i64 (n : Int))).run Tryd.prog w = .ok (.slice (some ⟨w.heap.size, 0, none⟩) n n) (w.alloc (.cells (zHdrs n) 23)) :=
  run_mk 27 Tryd.underlying27 info_ints64 n hn (by omega) w
theorem Grid.start {B : Nat} (w : World) (hB : B ≤ w.heap.size) (e : TypeId) (cs : Array Value) (N : Nat) (hcs : ∀ r, r < N → cs[r]? = some (.slice none 0 0)) (bs : Nat → Nat) (f : Nat → Nat → Int) : Grid B (w.alloc (.cells cs e)) w.heap.size N bs 0 f := by
  have hnew : (w.alloc (.cells cs e)).heap[w.heap.size]? = some (.cells cs e (0, 0)) := by show (w.heap.push _)[w.heap.size]? = _; simp
  refine ⟨hB, by simp, fun r hr => ?_, fun r => frozen_of_row (w.alloc (.cells cs e)) w.heap.size r cs e hnew, fun r c hr => absurd hr (Nat.not_lt_zero _), fun r c hr => absurd hr (Nat.not_lt_zero _), fun r hr => absurd hr (Nat.not_lt_zero _), fun r r' hr => absurd hr (Nat.not_lt_zero _)⟩
  simp only [World.cell?, hnew]
  simpa using hcs r hr
end Go.Proofs.YtdloabjnjnjacaaDoor
namespace Go.Proofs.YtdloabjnjnjacaaDoor
open Go.RowKit
theorem containsS_any (a : Option Addr) (n cap : Nat) (xs : List Snd) (x : Snd) (w : World) (hr : RdS w a n cap xs) :
    Calls Tryd.prog 38 #[.slice a n cap, .agg #[.int .u32 x.p.toNat, .int .u32 x.m.toNat]] w fun e w' => e = .returned (.bool (decide (x ∈ xs))) ∧ Ext w w' := by
  have hi : decide (0 ≤ idxI xs x) = decide (x ∈ xs) := by
    unfold idxI
    by_cases h : x ∈ xs
    · rw [if_pos h]; simp [h]
    · rw [if_neg h]; simp [h]
  go_enter Tryd.func38, Tryd.ntmps38
  go_wp2_with fail
  refine (indexS_any a n cap xs x _ (hr.ext (Ext.alloc1 _ _))).mono ?_
  rintro e w1 ⟨rfl, hx1⟩
  go_wp2_with fail
  go_ret
  exact ⟨ret_bool (by first | exact hi | simp), (by repeat (first | exact Ext.refl _ | assumption | refine Ext.drew ?_ | refine Ext.drewN ?_ _ | refine Ext.alloc ?_ _ | refine Ext.trans ?_ (by assumption)))⟩
/-! ### The beginning of a slice -/
theorem run_pre {P : Program} {t : TypeId} (ht : P.underlying t = some (.slice (P.elem t))) {k : Nat} (hs : ∀ w, (sizeOf (P.elem t)).run P w = .ok k w) (a : Option Addr) (len cap : Nat) (h : Nat) (h2 : h ≤ cap) (w : World) :
    (Instr.slice t (.slice a len cap) none (some (.int .i64 h)) none).run P w = .ok (.slice a h cap) w := by
  have := run_sub_h ht hs a len cap h h2 w
  rwa [subA_zero] at this
theorem RdK.pre {α : Type} {k : Nat} {enc : α → List Value} {w : World} {a : Option Addr} {n cap : Nat} {xs : List α} (h : RdK k enc w a n cap xs) {m : Nat} (hm : m ≤ n) : RdK k enc w a m cap (xs.take m) := by
  have := h.sub (l := 0) (m := m) (Nat.zero_le _) hm
  rw [subA_zero] at this
  simpa using this
/-- What Matrix leaves. -/
def MatRet (cs : List Snd) (ws : List Int) (g : Int) (w : World) (e : Ending) (w' : World) : Prop := Ext w w' ∧
  (matE cs ws g ≠ 0 ∧ e = .returned (.tuple #[.slice none 0 0, .int .i64 (matE cs ws g)]) ∨
   matE cs ws g = 0 ∧ ∃ a cap, e = .returned (.tuple #[.slice a (cs.length + 1) cap, .int .i64 0]) ∧ RdM w' a (cs.length + 1) cap (matL cs ws g))
theorem MatRet.err {cs : List Snd} {ws : List Int} {g : Int} {w w' : World} {x : Int} (hx : Ext w w') (h : matE cs ws g = x) (hne : x ≠ 0) : MatRet cs ws g w (.returned (.tuple #[.slice none 0 0, .int .i64 x])) w' :=
  ⟨hx, .inl ⟨by rw [h]; exact hne, by rw [h]⟩⟩
set_option maxRecDepth 100000 in
set_option maxHeartbeats 2000000 in
theorem matrix_any (a : Option Addr) (n cap : Nat) (cs : List Snd) (ac : Option Addr) (nc cc : Nat) (ws : List Int) (g : Int) (w : World) (hr : RdS w a n cap cs) (hc : RdI w ac nc cc ws) (hT : TabOk w) :
    Calls Tryd.prog 15 #[.slice a n cap, cstV ac nc cc g] w (MatRet cs ws g w) := by
  have hl := hr.len
  have hcap := hr.le
  have hmax : n ≤ 9223372036854775807 := by have := hr.le; have := hr.most; unfold maxLen at this; omega
  by_cases h11 : 11 < n
  · replace hl := Lib.hid hl
    go_enter Tryd.func15, Tryd.ntmps15
    go_wp2_with fail
    go_ret2
    exact MatRet.err (Ext.alloc1 _ _) (matE_many (by rw [hl.out]; exact h11)) (by decide)
  by_cases h0 : n = 0
  · subst h0
    replace hl := Lib.hid hl
    go_enter Tryd.func15, Tryd.ntmps15
    go_wp2_with fail
    go_ret2
    exact MatRet.err (Ext.alloc1 _ _) (matE_none hl.out) (by decide)
  have hz : ((n : Int) == 0) = false := by simp; omega
  replace hl := Lib.hid hl
  have hce := fun W (hx : Ext w W) => costs_any ac nc cc ws g W (hc.ext hx)
  have h11' : n ≤ 11 := by omega
  go_enter Tryd.func15, Tryd.ntmps15
  go_wp2_with fail
  go_loopw [24] (fun i wr => ∃ k : Nat, k ≤ n ∧ i = .int .i64 k ∧ Ext (w.alloc (.cells #[.slice ac nc cc, .int .i64 g] 25)) wr ∧ Hid (∀ j, j < k → candAt cs j = 0)) (fun i _ => n - (intOf i).toNat)
  case atStart => exact ⟨0, Nat.zero_le _, rfl, Ext.refl _, fun j h => absurd h (Nat.not_lt_zero _)⟩
  case round =>
    obtain ⟨k, hk, rfl, hx, hall⟩ := hrel
    have hx0 : Ext w wr := (Ext.alloc1 _ _).trans hx
    have hcl1 := fun b o (h : b < _) => Ext.cell hx (b := b) o h
    by_cases hlt : k < n
    · obtain ⟨b, off, s, rfl, hs, hb, hc0, hc1⟩ := (hr.ext hx0).snd hlt
      cases hok : s.ok
      · go_wp2_with fail
        refine (cbool (fvalid_any s _) hok).mono ?_
        rintro e w1 ⟨rfl, hx1⟩
        go_wp2_with fail
        go_ret2
        exact MatRet.err (by repeat (first | exact Ext.refl _ | assumption | refine Ext.drew ?_ | refine Ext.drewN ?_ _ | refine Ext.alloc ?_ _ | refine Ext.trans ?_ (by assumption))) (matE_cand (by rw [hl.out]; exact h11') (by rw [hl.out]; exact hlt) hall.out (candAt_bad hs.out hok) (by decide)) (by decide)
      · go_wp2_with fail
        refine (cbool (fvalid_any s _) hok).mono ?_
        rintro e w1 ⟨rfl, hx1⟩
        have hx2 := (Ext.alloc1 _ _).trans hx1
        have hcl2 := fun b o (h : b < _) => Ext.cell hx1 (b := b) o h
        have hcq := fun (x : ExtOf w1) b o (h : b < _) => Ext.cell (Ext.trans hx1 x.h) (b := b) o h
        have hsub := fun W => run_pre (P := Tryd.prog) (t := 22) (by kernel_rfl) (k := 2) (fun _ => by kernel_rfl) (some ⟨b, off, none⟩) n cap k (by omega) W
        have hpre := ((hr.ext hx0).ext hx2).pre (m := k) (by omega)
        by_cases hm : s ∈ cs.take k
        · have hd : decide (s ∈ cs.take k) = true := by simpa using hm
          have her := Lib.hid (candAt_have hs.out hok hm)
          clear hm
          go_wp2_with fail
          (refine wp_region_qx (by kernel_rfl) (by kernel_rfl) ?_
           repeat (go_big_quiet_step ((go_at_call 38; exact calls_ext (cbool (containsS_any _ _ _ _ s _ (hpre.ext (ExtOf.h _))) hd))))
           refine wpQuiet_nil ?_
           intro wq hw'
           have hxq := ext_of_ex hw'
           clear hw')
          go_wp2_with fail
          go_ret2
          exact MatRet.err (hx0.trans (hx2.trans hxq)) (matE_cand (by rw [hl.out]; exact h11') (by rw [hl.out]; exact hlt) hall.out her.out (by decide)) (by decide)
        · have hd : decide (s ∈ cs.take k) = false := by simpa using hm
          have hnew : Hid (∀ j, j < k + 1 → candAt cs j = 0) := Lib.hid (by
            intro j hj
            by_cases e : j = k
            · subst e; exact candAt_ok hs.out hok hm
            · exact hall.out j (by omega))
          clear hm
          go_wp2_with fail
          (refine wp_region_qx (by kernel_rfl) (by kernel_rfl) ?_
           repeat (go_big_quiet_step ((go_at_call 38; exact calls_ext (cbool (containsS_any _ _ _ _ s _ (hpre.ext (ExtOf.h _))) hd))))
           refine wpQuiet_nil ?_
           intro wq hw'
           have hxq := ext_of_ex hw'
           clear hw')
          go_wp2_with fail
          (first | exact ⟨⟨k + 1, by omega, by go_num, hx.trans (hx2.trans hxq), hnew⟩, (by simp [intOf]; omega)⟩ | (go_roundw; case rel => exact ⟨k + 1, by omega, by go_num, hx.trans (hx2.trans hxq), hnew⟩; case measure => exact (by simp [intOf]; omega)))
    · have hcands : Hid (∀ j, j < cs.length → candAt cs j = 0) := Lib.hid (by rw [hl.out]; intro j hj; exact hall.out j (by omega))
      cases hcb : costsB ws g
      · have hce2 : costsE ws g = 2 := costsE_bad hcb
        go_wp2_with fail
        refine (cint (hce _ hx0) hce2).mono ?_
        rintro e w1 ⟨rfl, hx1⟩
        go_wp2_with fail
        go_ret2
        exact MatRet.err (by repeat (first | exact Ext.refl _ | assumption | refine Ext.drew ?_ | refine Ext.drewN ?_ _ | refine Ext.alloc ?_ _ | refine Ext.trans ?_ (by assumption))) (matE_costs (by rw [hl.out]; exact h11') (by rw [hl.out]; exact h0) hcands.out hcb) (by decide)
      · have hce2 : costsE ws g = 0 := by simp [costsE, hcb]
        go_wp2_with fail
        refine (cint (hce _ hx0) hce2).mono ?_
        rintro e w1 ⟨rfl, hx1⟩
        replace hce2 := Lib.hid hce2
        have hmk1 : ∀ W, (Instr.makeSlice 27 (.int .i64 ((n : Int) + 1)) (.int .i64 ((n : Int) + 1))).run Tryd.prog W = .ok (.slice (some ⟨W.heap.size, 0, none⟩) (n + 1) (n + 1)) (W.alloc (.cells (zHdrs (n + 1)) 23)) := fun W => by have := mk_rows64 (n + 1) (by omega) W; simpa using this
        have hmk2 : ∀ W, (Instr.makeSlice 23 (.int .i64 ((n : Int) + 1)) (.int .i64 ((n : Int) + 1))).run Tryd.prog W = .ok (.slice (some ⟨W.heap.size, 0, none⟩) (n + 1) (n + 1)) (W.alloc (.cells (zInts (n + 1)) 2)) := fun W => by have := mk_ints64 (n + 1) (by omega) W; simpa using this
        have hx1w : Ext w w1 := (by repeat (first | exact Ext.refl _ | assumption | refine Ext.drew ?_ | refine Ext.drewN ?_ _ | refine Ext.alloc ?_ _ | refine Ext.trans ?_ (by assumption)))
        have hbox : ∀ W, Ext w1 W → W.cell? ⟨w.heap.size, 0, none⟩ = some (.slice ac nc cc) ∧ W.cell? ⟨w.heap.size, 1, none⟩ = some (.int .i64 g) := fun W hW =>
          ⟨((hx.trans hx1).trans hW).cellv (cell_new_list w [.slice ac nc cc, .int .i64 g] 25 0 _ rfl), ((hx.trans hx1).trans hW).cellv (by have := cell_new_list w [.slice ac nc cc, .int .i64 g] 25 1 _ rfl; exact this)⟩
        go_wp2_with fail
        go_loopw [48] (fun i wr => ∃ (i' : Nat) (bs : Nat → Nat), i' ≤ n + 1 ∧ i = .int .i64 i' ∧ Ext w1 wr ∧ Grid w1.heap.size wr w1.heap.size (n + 1) bs i' (fun r c => if r < i' ∧ c < i' then costM cs ws g r c else 0) ∧ Hid (∀ r c, r < i' → c < r → costM cs ws g r c ≤ 1073741824)) (fun i _ => n + 1 - (intOf i).toNat)
        case atStart =>
          exact ⟨0, fun _ => 0, Nat.zero_le _, rfl, Ext.alloc1 _ _, Grid.start w1 (Nat.le_refl _) _ _ _ (fun r hr => zHdrs_at _ _ hr) _ _, fun r c hr => absurd hr (Nat.not_lt_zero _)⟩
        case round =>
          obtain ⟨i, bs, hi, rfl, hxr, hG, hov⟩ := hrel
          by_cases hin : i < n + 1
          · have hdi : decide ((i : Int) < (n : Int) + 1) = true := by simp; omega
            have hg1 := hG.head i hin
            have hg2 := hG.free i
            rw [if_neg (Nat.lt_irrefl i)] at hg1
            have hng : w1.heap.size < wr.heap.size := hG.lt
            have hGn := hG.hang' hin 2 (zInts (n + 1)) (fun _ => 0) (fun c hc => zInts_at _ _ hc)
            have hxn : Ext w1 ((wr.setCell ⟨w1.heap.size, i, none⟩ (.slice (some ⟨wr.heap.size, 0, none⟩) (n + 1) (n + 1))).alloc (.cells (zInts (n + 1)) 2)) := (hxr.setCell (Nat.le_refl _) _).alloc _
            go_wp2_with fail
            obtain ⟨wg, hwg⟩ : ∃ x, x = (wr.setCell ⟨w1.heap.size, i, none⟩ (.slice (some ⟨wr.heap.size, 0, none⟩) (n + 1) (n + 1))).alloc (.cells (zInts (n + 1)) 2) := ⟨_, rfl⟩
            rw [← hwg] at hGn hxn ⊢
            obtain ⟨bt, hbt⟩ : ∃ x : Nat → Nat, x = (fun r => if r = i then wr.heap.size else bs r) := ⟨_, rfl⟩
            rw [← hbt] at hGn
            clear hwg hbt hg1 hg2 hng hG hxr
            go_loopw [58] (fun kv wi => ∃ k : Nat, k ≤ i ∧ kv = .int .i64 k ∧ Ext w1 wi ∧ Grid w1.heap.size wi w1.heap.size (n + 1) bt (i + 1) (fun r c => if (r < i ∧ c < i) ∨ (r = i ∧ c < k) ∨ (c = i ∧ r < k) then costM cs ws g r c else 0) ∧ Hid (∀ c, c < k → costM cs ws g i c ≤ 1073741824)) (fun kv _ => i - (intOf kv).toNat)
            case atStart =>
              refine ⟨0, Nat.zero_le _, rfl, hxn, hGn.congr fun r c hr hc => ?_, fun c hc => absurd hc (Nat.not_lt_zero _)⟩
              by_cases e1 : r = i
              · subst e1; simp
              · by_cases e2 : r < i ∧ c < i
                · simp [e1, e2]
                · simp [e1, e2]
            case round =>
              obtain ⟨k, hki, rfl, hxk, hGk, hok⟩ := hrel
              obtain ⟨hb0, hb1⟩ := hbox _ hxk
              by_cases hkl : k < i
              · have hcost : costM cs ws g i k = if i < n then distS (cs.getD i nulS) (cs.getD k nulS) ws else g := by
                  unfold costM
                  rw [if_neg (by omega), hl.out]
                  by_cases e : i < n
                  · rw [if_pos ⟨e, by omega⟩, if_pos e]
                  · rw [if_neg (by omega), if_neg e]
                have hgi := hGk.head i (by omega)
                have hgk := hGk.head k (by omega)
                rw [if_pos (by omega)] at hgi hgk
                have hci := hGk.row i k (by omega) (by omega)
                have hck := hGk.row k i (by omega) (by omega)
                have hfi := hGk.rfree i k (by omega)
                have hfk := hGk.rfree k i (by omega)
                have hri := hGk.rbase i (by omega)
                have hrk := hGk.rbase k (by omega)
                have hap := hGk.apart i k (by omega) (by omega) (by omega)
                have hfin : ∀ (wq : World) (d : Int), Ext wr wq → d = costM cs ws g i k → d ≤ 1073741824 →
                    Hid (Ext w1 ((wq.setCell ⟨bt i, k, none⟩ (.int .i64 d)).setCell ⟨bt k, i, none⟩ (.int .i64 d)) ∧
                    Grid w1.heap.size ((wq.setCell ⟨bt i, k, none⟩ (.int .i64 d)).setCell ⟨bt k, i, none⟩ (.int .i64 d)) w1.heap.size (n + 1) bt (i + 1) (fun r c => if (r < i ∧ c < i) ∨ (r = i ∧ c < k + 1) ∨ (c = i ∧ r < k + 1) then costM cs ws g r c else 0) ∧
                    Hid (∀ c, c < k + 1 → costM cs ws g i c ≤ 1073741824)) := fun wq d hwq hd hle => by
                  refine ⟨((hxk.trans hwq).setCell hri.1 _).setCell hrk.1 _, (((hGk.ext hwq).set (r := i) (c := k) (by omega) (by omega) d).set (r := k) (c := i) (by omega) (by omega) d).congr fun r c hr hc => ?_, fun c hc => ?_⟩
                  · by_cases e1 : r = k ∧ c = i
                    · obtain ⟨rfl, rfl⟩ := e1
                      rw [if_pos ⟨rfl, rfl⟩, if_pos (by omega), hd, costM_comm]
                    · rw [if_neg e1]
                      by_cases e2 : r = i ∧ c = k
                      · obtain ⟨rfl, rfl⟩ := e2
                        rw [if_pos ⟨rfl, rfl⟩, if_pos (by omega), hd]
                      · rw [if_neg e2]
                        by_cases e3 : (r < i ∧ c < i) ∨ (r = i ∧ c < k) ∨ (c = i ∧ r < k)
                        · rw [if_pos e3, if_pos (by omega)]
                        · rw [if_neg e3, if_neg (by omega)]
                  · by_cases e : c = k
                    · subst e; rw [← hd]; exact hle
                    · exact hok.out c (by omega)
                have hov7 : 1073741824 < costM cs ws g i k → matE cs ws g = 7 := fun h => matE_over (by rw [hl.out]; exact h11') (by rw [hl.out]; exact h0) hcands.out hcb (overM_at (by rw [hl.out]; omega) hkl h)
                replace hov7 := Lib.hid hov7
                replace hfin := Lib.hid hfin
                have hbd := costM_bd hcb (cs := cs) i k
                have hcc0 := fun x : ExtOf wr => x.cell hgi
                have hcc1 := fun x : ExtOf wr => x.cell hgk
                clear hGk hok hov hap
                by_cases hin2 : i < n
                · obtain ⟨bi, oi, si, hai, hsi, hbi, hci0, hci1⟩ := (hr.ext (hx1w.trans hxk)).snd hin2
                  obtain ⟨bj, oj, sk, haj, hsk, hbj, hck0, hck1⟩ := (hr.ext (hx1w.trans hxk)).snd (show k < n by omega)
                  subst hai
                  cases haj
                  rw [if_pos hin2] at hcost
                  have e1 : cs.getD i nulS = si := by rw [List.getD_eq_getElem?_getD, hsi.out]; rfl
                  have e2 : cs.getD k nulS = sk := by rw [List.getD_eq_getElem?_getD, hsk.out]; rfl
                  rw [e1, e2] at hcost
                  clear e1 e2
                  rw [hcost] at hbd
                  replace hcost := Lib.hid hcost
                  have ok1 : si.ok = true := (candAt_zero hsi.out (hcands.out i (by rw [hl.out]; omega))).1
                  have ok2 : sk.ok = true := (candAt_zero hsk.out (hcands.out k (by rw [hl.out]; omega))).1
                  have hcd0 := fun x : ExtOf wr => x.cell hci0
                  have hcd1 := fun x : ExtOf wr => x.cell hci1
                  have hcd2 := fun x : ExtOf wr => x.cell hck0
                  have hcd3 := fun x : ExtOf wr => x.cell hck1
                  have hcd4 := fun x : ExtOf wr => x.cell hb0
                  have hcd5 := fun x : ExtOf wr => x.cell hb1
                  have hcws := hc.ext (hx1w.trans hxk)
                  have hTT := hT.ext (hx1w.trans hxk)
                  go_wp2_with fail
                  (refine wp_region_qx (by kernel_rfl) (by kernel_rfl) ?_
                   repeat (go_big_quiet_step ((go_at_call 40; exact calls_ext (dist_any si sk _ _ _ ws g _ ok1 ok2 hcb (hcws.ext (ExtOf.h _)) (hTT.ext (ExtOf.h _))))))
                   refine wpQuiet_nil ?_
                   intro wq hw'
                   have hxq := ext_of_ex hw'
                   clear hw')
                  have hxq1 := hxq
                  have hxw1 := hx1w.trans (hxk.trans hxq1)
                  have hcf0 := fun x : ExtOf wq => x.cell (hxq1.cellv hgi)
                  have hcf1 := fun x : ExtOf wq => x.cell (hxq1.cellv hgk)
                  by_cases hov8 : 1073741824 < distS si sk ws
                  · have her := Lib.hid (hov7.out (by rw [hcost.out]; exact hov8))
                    go_wp2_with fail
                    go_ret2
                    exact MatRet.err hxw1 her.out (by decide)
                  · go_wp2_with fail
                    have k1 := hxq1.cellv hci
                    have k2 := hxq1.cellv hck
                    have k3 := hxq1.frozen k hri.2.2
                    have k4 := hxq1.frozen i hrk.2.2
                    have k5 := hxq1.cellv hgi
                    have k6 := hxq1.cellv hgk
                    rw [hfi] at k3
                    rw [hfk] at k4
                    clear hcf0 hcf1 hcc0 hcc1 hcd0 hcd1 hcd2 hcd3 hcd4 hcd5
                    go_region
                    obtain ⟨f1, f2, f3⟩ := (hfin.out wq _ hxq1 hcost.out.symm (by omega)).out
                    replace f1 := f1.drew
                    replace f2 := f2.ext ((Ext.refl _).drew)
                    replace f3 := Lib.hid f3
                    go_wp2_with fail
                    (first | exact ⟨⟨k + 1, by omega, by go_num, f1, f2, f3.out⟩, (by simp [intOf]; omega)⟩ | (go_roundw; case rel => exact ⟨k + 1, by omega, by go_num, f1, f2, f3.out⟩; case measure => exact (by simp [intOf]; omega)))
                · rw [if_neg hin2] at hcost
                  replace hcost := Lib.hid hcost
                  have hd2 : decide ((i : Int) < (n : Int)) = false := by simp; omega
                  have hxw1 := hx1w.trans hxk
                  by_cases hov8 : 1073741824 < g
                  · have her := Lib.hid (hov7.out (by rw [hcost.out]; exact hov8))
                    go_wp2_with fail
                    go_ret2
                    exact MatRet.err hxw1 her.out (by decide)
                  · go_wp2_with fail
                    clear hcc0 hcc1
                    go_region
                    obtain ⟨f1, f2, f3⟩ := (hfin.out wr _ (Ext.refl _) hcost.out.symm (by omega)).out
                    replace f1 := f1.drew
                    replace f2 := f2.ext ((Ext.refl _).drew)
                    replace f3 := Lib.hid f3
                    go_wp2_with fail
                    (first | exact ⟨⟨k + 1, by omega, by go_num, f1, f2, f3.out⟩, (by simp [intOf]; omega)⟩ | (go_roundw; case rel => exact ⟨k + 1, by omega, by go_num, f1, f2, f3.out⟩; case measure => exact (by simp [intOf]; omega)))
              · have hki2 : k = i := by omega
                subst hki2
                have g2 : Grid w1.heap.size wr w1.heap.size (n + 1) bt (k + 1) (fun r c => if r < k + 1 ∧ c < k + 1 then costM cs ws g r c else 0) := hGk.congr fun r c hr hc => by
                  by_cases e3 : (r < k ∧ c < k) ∨ (r = k ∧ c < k) ∨ (c = k ∧ r < k)
                  · rw [if_pos e3, if_pos (by omega)]
                  · rw [if_neg e3]
                    by_cases e4 : r < k + 1 ∧ c < k + 1
                    · have : r = k ∧ c = k := by omega
                      obtain ⟨rfl, rfl⟩ := this
                      rw [if_pos e4, costM_self]
                    · rw [if_neg e4]
                have g3 : Hid (∀ r c, r < k + 1 → c < r → costM cs ws g r c ≤ 1073741824) := fun r c hr hc => by
                  by_cases e : r = k
                  · subst e; exact hok.out c hc
                  · exact hov.out r c (by omega) hc
                clear hGk hok hov
                go_wp2_with fail
                (first | exact ⟨⟨k + 1, bt, by omega, by go_num, hxk, g2, g3⟩, (by simp [intOf]; omega)⟩ | (go_roundw; case rel => exact ⟨k + 1, bt, by omega, by go_num, hxk, g2, g3⟩; case measure => exact (by simp [intOf]; omega)))
          · have hi2 : i = n + 1 := by omega
            have hfull : matE cs ws g = 0 := matE_ok (by rw [hl.out]; exact h11') (by rw [hl.out]; exact h0) hcands.out hcb (overM_not fun r c hr hc => hov.out r c (by rw [hl.out] at hr; omega) hc)
            have hrdm : RdM wr (some ⟨w1.heap.size, 0, none⟩) (cs.length + 1) (n + 1) (matL cs ws g) := by
              have h1 := (hi2 ▸ hG).rd (by unfold maxLen; omega)
              have h2 : ((List.range (n + 1)).map fun r => (List.range (n + 1)).map ((fun r c => if r < n + 1 ∧ c < n + 1 then costM cs ws g r c else 0) r)) = matL cs ws g := by
                unfold matL matRow
                rw [hl.out]
                refine List.map_congr_left fun r hr => List.map_congr_left fun c hc => ?_
                exact if_pos ⟨List.mem_range.1 hr, List.mem_range.1 hc⟩
              rw [hl.out, ← h2]; exact h1
            replace hfull := Lib.hid hfull
            clear hG hov
            replace hi2 := Lib.hid hi2
            go_wp2_with fail
            go_ret2
            exact ⟨hx1w.trans hxr, .inr ⟨hfull.out, _, _, by rw [hl.out]; rfl, hrdm⟩⟩
end Go.Proofs.YtdloabjnjnjacaaDoor
