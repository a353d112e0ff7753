/-
  Plain theory (no program): the cheapest states of a tree's nodes. Costs are integers; none is a number below 0.
  Plain theory (no program): no choice of states costs less than the table says, and the first best states cost just that.
  Plain theory: how great the table's costs can be.
-/
import Derived.WalkKit
namespace Go.Proofs.YtdloabjnjnjacaaDoor
/-- The sum of two costs; none with whatever is none. -/
def op (a b : Int) : Int := if a < 0 ∨ b < 0 then -1 else a + b
theorem op_comm (a b : Int) : op a b = op b a := by unfold op; split <;> split <;> omega
theorem op_right (a b c : Int) : op (op a b) c = op (op a c) b := by
  unfold op
  by_cases ha : a < 0
  · simp [ha]
  by_cases hb : b < 0
  · simp [hb]
  by_cases hc : c < 0
  · simp [hc]
  rw [if_neg (by omega : ¬ (a < 0 ∨ b < 0)), if_neg (by omega : ¬ (a < 0 ∨ c < 0)), if_neg (by omega), if_neg (by omega)]; omega
theorem op_neg {a b : Int} (h : a < 0 ∨ b < 0) : op a b = -1 := if_pos h
theorem op_pos {a b : Int} (ha : 0 ≤ a) (hb : 0 ≤ b) : op a b = a + b := if_neg (by omega)
theorem foldl_op_out (a : Int) : ∀ (l : List Int) (x : Int), l.foldl op (op x a) = op (l.foldl op x) a
  | [], _ => rfl
  | b :: l, x => by rw [List.foldl_cons, List.foldl_cons, op_right, foldl_op_out a l]
theorem foldl_op_rev : ∀ (l : List Int) (x : Int), l.reverse.foldl op x = l.foldl op x
  | [], _ => rfl
  | a :: l, x => by
    rw [List.reverse_cons, List.foldl_append, foldl_op_rev l x, List.foldl_cons, List.foldl_cons, List.foldl_nil, foldl_op_out]
theorem foldl_op_neg : ∀ (l : List Int) (x : Int), x < 0 → l ≠ [] ∨ x = -1 → l.foldl op x = -1
  | [], x, _, h => by rcases h with h | h; exact absurd rfl h; exact h
  | a :: l, x, hx, _ => by rw [List.foldl_cons, op_neg (.inl hx)]; exact foldl_op_neg l (-1) (by omega) (.inr rfl)
theorem foldl_op_ge : ∀ (l : List Int) (x : Int), -1 ≤ x → -1 ≤ l.foldl op x
  | [], _, h => h
  | a :: l, x, _ => by
    rw [List.foldl_cons]; refine foldl_op_ge l _ ?_
    unfold op; split <;> omega
/-- The smaller of two costs, the first one if they are the same. -/
def mn (l c : Int) : Int := if 0 ≤ c ∧ (l < 0 ∨ c < l) then c else l
def leastOf (cs : List Int) : Int := cs.foldl mn (-1)
theorem foldl_mn_le : ∀ (l : List Int) (x c : Int), c ∈ l → 0 ≤ c → 0 ≤ l.foldl mn x ∧ l.foldl mn x ≤ c := by
  have keep : ∀ (l : List Int) (x : Int), 0 ≤ x → 0 ≤ l.foldl mn x ∧ l.foldl mn x ≤ x := by
    intro l
    induction l with
    | nil => intro x h; exact ⟨h, Int.le_refl _⟩
    | cons a l ih =>
      intro x h; rw [List.foldl_cons]
      have h1 : 0 ≤ mn x a ∧ mn x a ≤ x := by unfold mn; split <;> omega
      have := ih _ h1.1; omega
  intro l
  induction l with
  | nil => intro x c h; cases h
  | cons a l ih =>
    intro x c h hc; rw [List.foldl_cons]
    rcases List.mem_cons.1 h with rfl | h
    · have h1 : 0 ≤ mn x c ∧ mn x c ≤ c := by unfold mn; split <;> omega
      have := keep l _ h1.1; omega
    · exact ih _ c h hc
theorem foldl_mn_mem : ∀ (l : List Int) (x : Int), l.foldl mn x = x ∨ l.foldl mn x ∈ l
  | [], _ => .inl rfl
  | a :: l, x => by
    rw [List.foldl_cons]
    rcases foldl_mn_mem l (mn x a) with h | h
    · rw [h]; unfold mn; split
      · exact .inr (by simp)
      · exact .inl rfl
    · exact .inr (List.mem_cons_of_mem _ h)
theorem leastOf_le {l : List Int} {c : Int} (h : c ∈ l) (hc : 0 ≤ c) : 0 ≤ leastOf l ∧ leastOf l ≤ c := foldl_mn_le l _ c h hc
theorem leastOf_mem (l : List Int) (h : 0 ≤ leastOf l) : leastOf l ∈ l := by
  rcases foldl_mn_mem l (-1) with e | e
  · unfold leastOf at h; rw [e] at h; omega
  · exact e
/-- What a node costs at least if the costs of its states are c, and r is the row of the matrix of its parent's state. -/
def under (r c : List Int) : Int := leastOf (List.zipWith op r c)
/-- The children of v among some nodes. -/
def kids (par : Nat → Int) (v : Nat) (l : List Nat) : List Nat := l.filter fun w => decide (par w = v)
/-- The costs of a node's states, by the costs of the nodes behind it. -/
def rowOf (n k : Nat) (par : Nat → Int) (m : Nat → List Int) (ok : Nat → Nat → Bool) (out : Nat → List Int) (v : Nat) : List Int :=
  (List.range k).map fun s => ((kids par v (List.range' (v + 1) (n - (v + 1)))).map fun w => under (m s) (out w)).foldl op (if ok v s then 0 else -1)
/-- The table, of the last j nodes. -/
def tabl (n k : Nat) (par : Nat → Int) (m : Nat → List Int) (ok : Nat → Nat → Bool) : Nat → Nat → List Int
  | 0 => fun _ => []
  | j + 1 => fun u => if u = n - 1 - j then rowOf n k par m ok (tabl n k par m ok j) u else tabl n k par m ok j u
theorem rowOf_congr {n k : Nat} {par : Nat → Int} {m : Nat → List Int} {ok : Nat → Nat → Bool} {f g : Nat → List Int} {v : Nat}
    (h : ∀ w, v < w → w < n → f w = g w) : rowOf n k par m ok f v = rowOf n k par m ok g v := by
  unfold rowOf
  refine List.map_congr_left fun s _ => ?_
  congr 1
  refine List.map_congr_left fun w hw => ?_
  have := List.mem_range'_1.1 (List.mem_filter.1 hw).1
  rw [h w (by omega) (by omega)]
theorem tabl_later {n k : Nat} {par : Nat → Int} {m : Nat → List Int} {ok : Nat → Nat → Bool} {i : Nat} : ∀ j, i ≤ j → j ≤ n → ∀ u, n - i ≤ u → u < n → tabl n k par m ok j u = tabl n k par m ok i u
  | 0, h, _, u, _, _ => by
    obtain rfl : i = 0 := by omega
    rfl
  | j + 1, h, hn, u, hu, hun => by
    by_cases e : i = j + 1
    · subst e; rfl
    · have hne : ¬ u = n - 1 - j := by omega
      simp only [tabl, if_neg hne]
      exact tabl_later j (by omega) (by omega) u hu hun
/-- The table's equation. -/
theorem tabl_eq {n k : Nat} {par : Nat → Int} {m : Nat → List Int} {ok : Nat → Nat → Bool} {v : Nat} (hv : v < n) :
    tabl n k par m ok n v = rowOf n k par m ok (tabl n k par m ok n) v := by
  rw [tabl_later (i := n - v) n (by omega) (Nat.le_refl _) v (by omega) hv]
  obtain ⟨j, hj⟩ : ∃ j, n - v = j + 1 := ⟨n - v - 1, by omega⟩
  have he : v = n - 1 - j := by omega
  simp only [hj, tabl, if_pos he]
  exact rowOf_congr fun w h1 h2 => (tabl_later n (by omega) (Nat.le_refl _) w (by omega) h2).symm
end Go.Proofs.YtdloabjnjnjacaaDoor
namespace Go.Proofs.YtdloabjnjnjacaaDoor
/-- A sum over the numbers below n. -/
def sumN (f : Nat → Int) : Nat → Int
  | 0 => 0
  | n + 1 => sumN f n + f n
theorem sumN_congr {f g : Nat → Int} : ∀ n, (∀ i, i < n → f i = g i) → sumN f n = sumN g n
  | 0, _ => rfl
  | n + 1, h => by rw [sumN, sumN, sumN_congr n fun i hi => h i (by omega), h n (by omega)]
theorem sumN_upd {f g : Nat → Int} {p : Nat} {x : Int} : ∀ n, p < n → (∀ i, i < n → i ≠ p → g i = f i) → g p = f p + x → sumN g n = sumN f n + x
  | 0, h, _, _ => absurd h (by omega)
  | n + 1, h, hne, hp => by
    rw [sumN, sumN]
    by_cases e : p = n
    · subst e; rw [sumN_congr (f := g) (g := f) p fun i hi => hne i (by omega) (by omega), hp]; omega
    · rw [sumN_upd n (by omega) (fun i hi hn => hne i (by omega) hn) hp, hne n (by omega) (by omega)]; omega
/-- What is known of a task's tree and matrix. -/
structure Task (n k : Nat) (par : Nat → Int) (m : Nat → List Int) : Prop where
  pos : 1 ≤ n
  par_lo : ∀ v, 1 ≤ v → v < n → 0 ≤ par v
  par_hi : ∀ v, v < n → par v < v
  len : ∀ s, s < k → (m s).length = k
  ge : ∀ s, s < k → ∀ x ∈ m s, -1 ≤ x
/-- The costs of state s of node u, by its children among the last j nodes. -/
def acc (n : Nat) (par : Nat → Int) (m : Nat → List Int) (ok : Nat → Nat → Bool) (T : Nat → List Int) (j u s : Nat) : Int :=
  ((kids par u (List.range' (n - j) j)).map fun w => under (m s) (T w)).foldl op (if ok u s then 0 else -1)
theorem acc_zero {n : Nat} {par : Nat → Int} {m : Nat → List Int} {ok : Nat → Nat → Bool} {T : Nat → List Int} {u s : Nat} :
    acc n par m ok T 0 u s = if ok u s then 0 else -1 := rfl
theorem acc_succ {n : Nat} {par : Nat → Int} {m : Nat → List Int} {ok : Nat → Nat → Bool} {T : Nat → List Int} {j u s : Nat} (hj : j < n) :
    acc n par m ok T (j + 1) u s = if par (n - 1 - j) = u then op (acc n par m ok T j u s) (under (m s) (T (n - 1 - j))) else acc n par m ok T j u s := by
  unfold acc kids
  have e : n - (j + 1) = n - 1 - j := by omega
  have e2 : n - 1 - j + 1 = n - j := by omega
  rw [e, List.range'_succ, e2, List.filter_cons]
  by_cases h : par (n - 1 - j) = u
  · have hd : decide (par (n - 1 - j) = (u : Int)) = true := decide_eq_true h
    rw [if_pos hd, if_pos h, List.map_cons, List.foldl_cons, foldl_op_out]
  · have hd : ¬ decide (par (n - 1 - j) = (u : Int)) = true := by simpa using h
    rw [if_neg hd, if_neg h]
theorem kids_cut {par : Nat → Int} {u : Nat} : ∀ (c a : Nat), (∀ w, a ≤ w → w < a + c → par w < w) → (∀ w, a ≤ w → w < a + c → w ≤ u) → kids par u (List.range' a c) = []
  | 0, _, _, _ => rfl
  | c + 1, a, h, hu => by
    unfold kids
    rw [List.range'_succ, List.filter_cons, if_neg]
    · exact kids_cut c (a + 1) (fun w h1 h2 => h w (by omega) (by omega)) (fun w h1 h2 => hu w (by omega) (by omega))
    · have h1 := h a (Nat.le_refl _) (by omega)
      have h2 := hu a (Nat.le_refl _) (by omega)
      simp only [decide_eq_true_eq]; omega
/-- A node's row is complete once all nodes behind it are counted. -/
theorem acc_row {n k : Nat} {par : Nat → Int} {m : Nat → List Int} {ok : Nat → Nat → Bool} {u s : Nat} (hu : u < n) (hs : s < k) :
    (tabl n k par m ok n u)[s]? = some (acc n par m ok (tabl n k par m ok n) (n - 1 - u) u s) := by
  rw [tabl_eq hu]
  unfold rowOf acc
  rw [List.getElem?_map, List.getElem?_range hs, Option.map_some]
  have e : n - (n - 1 - u) = u + 1 := by omega
  have e2 : n - (u + 1) = n - 1 - u := by omega
  rw [e, e2]
theorem zip_mem {r c : List Int} {i : Nat} {x y : Int} (h1 : r[i]? = some x) (h2 : c[i]? = some y) : op x y ∈ List.zipWith op r c := by
  refine List.mem_of_getElem? (i := i) ?_
  rw [List.getElem?_zipWith, h1, h2]
/-- What an edge costs under some states. -/
def edge (par : Nat → Int) (m : Nat → List Int) (a : Nat → Nat) (v : Nat) : Int := (m (a (par v).toNat)).getD (a v) (-1)
/-- One more node counted: what the nodes ahead cost, and what the edges cost. -/
theorem acc_step {n k : Nat} {par : Nat → Int} {m : Nat → List Int} {ok : Nat → Nat → Bool} (H : Task n k par m) (a : Nat → Nat) {j : Nat} (hj : j + 1 < n)
    (ge : ∀ u, u < n - j → 0 ≤ acc n par m ok (tabl n k par m ok n) j u (a u)) (hu : 0 ≤ under (m (a (par (n - 1 - j)).toNat)) (tabl n k par m ok n (n - 1 - j))) :
    (∀ u, u < n - (j + 1) → 0 ≤ acc n par m ok (tabl n k par m ok n) (j + 1) u (a u)) ∧
    sumN (fun u => acc n par m ok (tabl n k par m ok n) (j + 1) u (a u)) (n - (j + 1)) =
      sumN (fun u => acc n par m ok (tabl n k par m ok n) j u (a u)) (n - (j + 1)) + under (m (a (par (n - 1 - j)).toNat)) (tabl n k par m ok n (n - 1 - j)) := by
  have lo := H.par_lo (n - 1 - j) (by omega) (by omega)
  have hi := H.par_hi (n - 1 - j) (by omega)
  have same : ∀ u : Nat, par (n - 1 - j) = (u : Int) → (par (n - 1 - j)).toNat = u := fun u h => by omega
  refine ⟨fun u hun => ?_, ?_⟩
  · rw [acc_succ (by omega)]
    split
    · rename_i h
      have h2 := same u h
      rw [h2] at hu
      rw [op_pos (ge u (by omega)) hu]
      have := ge u (by omega); omega
    · exact ge u (by omega)
  · refine sumN_upd (p := (par (n - 1 - j)).toNat) (n - (j + 1)) (by omega) (fun i hi hne => ?_) ?_
    · rw [acc_succ (by omega), if_neg (fun h => hne (same i h).symm)]
    · rw [acc_succ (by omega), if_pos (by omega), op_pos (ge _ (by omega)) hu]
/-- Whatever states are chosen: the table's cost of the root's state is no greater than the edges' sum. -/
theorem lower {n k : Nat} {par : Nat → Int} {m : Nat → List Int} {ok : Nat → Nat → Bool} (H : Task n k par m) (a : Nat → Nat) (ha : ∀ v, v < n → a v < k)
    (hok : ∀ v, v < n → ok v (a v) = true) (hm : ∀ v, 1 ≤ v → v < n → 0 ≤ edge par m a v) :
    ∀ j, j + 1 ≤ n → (∀ u, u < n - j → 0 ≤ acc n par m ok (tabl n k par m ok n) j u (a u)) ∧
      sumN (fun u => acc n par m ok (tabl n k par m ok n) j u (a u)) (n - j) ≤ sumN (fun i => edge par m a (n - 1 - i)) j
  | 0, hn => by
    have h0 : ∀ u, u < n → acc n par m ok (tabl n k par m ok n) 0 u (a u) = 0 := fun u hu => by rw [acc_zero, hok u hu]; rfl
    refine ⟨fun u hu => Int.le_of_eq (h0 u hu).symm, ?_⟩
    have z : ∀ c, sumN (fun _ => (0 : Int)) c = 0 := fun c => by induction c with | zero => rfl | succ c ih => rw [sumN, ih]; rfl
    rw [sumN_congr (g := fun _ => (0 : Int)) (n - 0) fun i hi => h0 i (by omega), z]
    exact Int.le_refl _
  | j + 1, hn => by
    obtain ⟨ge, le⟩ := lower H a ha hok hm j (by omega)
    have hv1 : n - 1 - (n - 1 - j) = j := by omega
    have row := acc_row (k := k) (par := par) (m := m) (ok := ok) (show n - 1 - j < n by omega) (ha (n - 1 - j) (by omega))
    rw [hv1] at row
    have lo := H.par_lo (n - 1 - j) (by omega) (by omega)
    have hi := H.par_hi (n - 1 - j) (by omega)
    have hl : (m (a (par (n - 1 - j)).toNat)).length = k := H.len _ (ha _ (by omega))
    have hav := ha (n - 1 - j) (by omega)
    have he : (m (a (par (n - 1 - j)).toNat))[a (n - 1 - j)]? = some (edge par m a (n - 1 - j)) := by
      unfold edge; rw [List.getD_eq_getElem?_getD, List.getElem?_eq_getElem (by omega)]; rfl
    have e0 := hm (n - 1 - j) (by omega) (by omega)
    have g0 := ge (n - 1 - j) (by omega)
    have hmem := zip_mem he row
    rw [op_pos e0 g0] at hmem
    have hle := leastOf_le hmem (by omega)
    have st := acc_step (ok := ok) H a (j := j) (by omega) ge hle.1
    refine ⟨st.1, ?_⟩
    rw [st.2, sumN]
    have e1 : n - j = n - (j + 1) + 1 := by omega
    rw [e1, sumN] at le
    have e2 : n - (j + 1) = n - 1 - j := by omega
    rw [e2] at le ⊢
    unfold under
    omega
/-- If each state is one that reaches the least, the table's cost of the root's state is the edges' sum. -/
theorem reached {n k : Nat} {par : Nat → Int} {m : Nat → List Int} {ok : Nat → Nat → Bool} (H : Task n k par m) (a : Nat → Nat)
    (ha : ∀ v, v < n → a v < k)
    (hb : ∀ v, 1 ≤ v → v < n → 0 ≤ under (m (a (par v).toNat)) (tabl n k par m ok n v) ∧ 0 ≤ edge par m a v ∧ 0 ≤ ((tabl n k par m ok n v).getD (a v) (-1)) ∧
      under (m (a (par v).toNat)) (tabl n k par m ok n v) = edge par m a v + (tabl n k par m ok n v).getD (a v) (-1))
    (hok : ∀ v, v < n → ok v (a v) = true) :
    ∀ j, j + 1 ≤ n → (∀ u, u < n - j → 0 ≤ acc n par m ok (tabl n k par m ok n) j u (a u)) ∧
      sumN (fun u => acc n par m ok (tabl n k par m ok n) j u (a u)) (n - j) = sumN (fun i => edge par m a (n - 1 - i)) j
  | 0, hn => by
    have h0 : ∀ u, u < n → acc n par m ok (tabl n k par m ok n) 0 u (a u) = 0 := fun u hu => by rw [acc_zero, hok u hu]; rfl
    refine ⟨fun u hu => Int.le_of_eq (h0 u hu).symm, ?_⟩
    have z : ∀ c, sumN (fun _ => (0 : Int)) c = 0 := fun c => by induction c with | zero => rfl | succ c ih => rw [sumN, ih]; rfl
    rw [sumN_congr (g := fun _ => (0 : Int)) (n - 0) fun i hi => h0 i (by omega), z]
    rfl
  | j + 1, hn => by
    obtain ⟨ge, le⟩ := reached H a ha hb hok j (by omega)
    have hv1 : n - 1 - (n - 1 - j) = j := by omega
    have row := acc_row (k := k) (par := par) (m := m) (ok := ok) (show n - 1 - j < n by omega) (ha (n - 1 - j) (by omega))
    rw [hv1] at row
    obtain ⟨b1, b2, b3, b4⟩ := hb (n - 1 - j) (by omega) (by omega)
    rw [List.getD_eq_getElem?_getD, row, Option.getD_some] at b4
    have st := acc_step (ok := ok) H a (j := j) (by omega) ge b1
    refine ⟨st.1, ?_⟩
    rw [st.2, sumN]
    have e1 : n - j = n - (j + 1) + 1 := by omega
    rw [e1, sumN] at le
    have e2 : n - (j + 1) = n - 1 - j := by omega
    rw [e2] at le ⊢
    rw [b4]
    omega
theorem sumN_front (f : Nat → Int) : ∀ n, sumN f (n + 1) = f 0 + sumN (fun i => f (i + 1)) n
  | 0 => by simp [sumN]
  | n + 1 => by rw [sumN, sumN_front f n, sumN]; omega
theorem sumN_rev (f : Nat → Int) : ∀ n, sumN (fun i => f (n - 1 - i)) n = sumN f n
  | 0 => rfl
  | n + 1 => by
    rw [sumN_front, sumN, ← sumN_rev f n]
    have : sumN (fun i => f (n + 1 - 1 - (i + 1))) n = sumN (fun i => f (n - 1 - i)) n := sumN_congr n fun i hi => by
      show f _ = f _
      congr 1; omega
    rw [this]
    show f (n + 1 - 1 - 0) + _ = _
    have e : n + 1 - 1 - 0 = n := by omega
    rw [e]; omega
/-- The edges' sum, from the first node behind the root on. -/
def total (n : Nat) (par : Nat → Int) (m : Nat → List Int) (a : Nat → Nat) : Int := sumN (fun i => edge par m a (i + 1)) (n - 1)
theorem total_rev {n : Nat} {par : Nat → Int} {m : Nat → List Int} {a : Nat → Nat} : sumN (fun i => edge par m a (n - 1 - i)) (n - 1) = total n par m a := by
  unfold total
  rw [← sumN_rev (fun i => edge par m a (i + 1)) (n - 1)]
  refine sumN_congr (n - 1) fun i hi => ?_
  show edge par m a _ = edge par m a _
  congr 1; omega
theorem root_acc {n k : Nat} {par : Nat → Int} {m : Nat → List Int} {ok : Nat → Nat → Bool} {s : Nat} (hn : 1 ≤ n) (hs : s < k) :
    (tabl n k par m ok n 0).getD s (-1) = acc n par m ok (tabl n k par m ok n) (n - 1) 0 s := by
  have := acc_row (par := par) (m := m) (ok := ok) (show 0 < n by omega) hs
  rw [List.getD_eq_getElem?_getD, this]; rfl
theorem lower_root {n k : Nat} {par : Nat → Int} {m : Nat → List Int} {ok : Nat → Nat → Bool} (H : Task n k par m) (a : Nat → Nat) (ha : ∀ v, v < n → a v < k)
    (hok : ∀ v, v < n → ok v (a v) = true) (hm : ∀ v, 1 ≤ v → v < n → 0 ≤ edge par m a v) :
    0 ≤ (tabl n k par m ok n 0).getD (a 0) (-1) ∧ (tabl n k par m ok n 0).getD (a 0) (-1) ≤ total n par m a := by
  have hn := H.pos
  obtain ⟨h1, h2⟩ := lower H a ha hok hm (n - 1) (by omega)
  rw [root_acc hn (ha 0 (by omega))]
  have e : n - (n - 1) = 1 := by omega
  rw [e] at h1 h2
  rw [total_rev] at h2
  have := h1 0 (by omega)
  simp only [sumN] at h2
  omega
theorem reached_root {n k : Nat} {par : Nat → Int} {m : Nat → List Int} {ok : Nat → Nat → Bool} (H : Task n k par m) (a : Nat → Nat)
    (ha : ∀ v, v < n → a v < k)
    (hb : ∀ v, 1 ≤ v → v < n → 0 ≤ under (m (a (par v).toNat)) (tabl n k par m ok n v) ∧ 0 ≤ edge par m a v ∧ 0 ≤ ((tabl n k par m ok n v).getD (a v) (-1)) ∧
      under (m (a (par v).toNat)) (tabl n k par m ok n v) = edge par m a v + (tabl n k par m ok n v).getD (a v) (-1))
    (hok : ∀ v, v < n → ok v (a v) = true) :
    (tabl n k par m ok n 0).getD (a 0) (-1) = total n par m a := by
  have hn := H.pos
  obtain ⟨h1, h2⟩ := reached H a ha hb hok (n - 1) (by omega)
  rw [root_acc hn (ha 0 (by omega))]
  have e : n - (n - 1) = 1 := by omega
  rw [e] at h1 h2
  rw [total_rev] at h2
  simp only [sumN] at h2
  omega
/-- The least of some costs, and the first place that has it. -/
def bst : List Int → Nat → Int × Int → Int × Int
  | [], _, p => p
  | c :: cs, i, p => bst cs (i + 1) (if 0 ≤ c ∧ (p.1 < 0 ∨ c < p.1) then (c, (i : Int)) else p)
theorem bst_fst : ∀ (cs : List Int) (i : Nat) (p : Int × Int), (bst cs i p).1 = cs.foldl mn p.1
  | [], _, _ => rfl
  | c :: cs, i, p => by
    rw [bst, bst_fst cs, List.foldl_cons]
    congr 1; unfold mn; split <;> rfl
theorem bst_snd : ∀ (cs : List Int) (i : Nat) (p : Int × Int),
    bst cs i p = p ∨ ((bst cs i p).1 ∈ cs ∧ (bst cs i p).2 = ((i + cs.idxOf (bst cs i p).1 : Nat) : Int) ∧ 0 ≤ (bst cs i p).1 ∧ (p.1 < 0 ∨ (bst cs i p).1 < p.1))
  | [], _, _ => .inl rfl
  | c :: cs, i, p => by
    rw [bst]
    by_cases h : 0 ≤ c ∧ (p.1 < 0 ∨ c < p.1)
    · rw [if_pos h]
      rcases bst_snd cs (i + 1) (c, (i : Int)) with e | ⟨h1, h2, h3, h4⟩
      · rw [e]; exact .inr ⟨by simp, by simp, h.1, h.2⟩
      · have hne : c ≠ (bst cs (i + 1) (c, (i : Int))).1 := by simp only at h4; omega
        refine .inr ⟨List.mem_cons_of_mem _ h1, ?_, h3, by simp only at h4; omega⟩
        have hb : (c == (bst cs (i + 1) (c, (i : Int))).1) = false := beq_false_of_ne hne
        rw [h2, List.idxOf_cons, hb]
        simp only [cond_false]
        congr 1; omega
    · rw [if_neg h]
      rcases bst_snd cs (i + 1) p with e | ⟨h1, h2, h3, h4⟩
      · exact .inl e
      · have hne : c ≠ (bst cs (i + 1) p).1 := by omega
        refine .inr ⟨List.mem_cons_of_mem _ h1, ?_, h3, h4⟩
        have hb : (c == (bst cs (i + 1) p).1) = false := beq_false_of_ne hne
        rw [h2, List.idxOf_cons, hb]
        simp only [cond_false]
        congr 1; omega
/-- From nothing on: none and -1, or the least and the first place of it. -/
theorem bst_least (cs : List Int) : (bst cs 0 (-1, -1)).1 = leastOf cs ∧ (0 ≤ leastOf cs → (bst cs 0 (-1, -1)).2 = (cs.idxOf (leastOf cs) : Int)) := by
  have h := bst_fst cs 0 (-1, -1)
  refine ⟨h, fun h0 => ?_⟩
  rcases bst_snd cs 0 (-1, -1) with e | ⟨_, h2, _, _⟩
  · rw [e] at h; unfold leastOf at h0; rw [← h] at h0; simp at h0
  · rw [h2, h]; simp [leastOf]
end Go.Proofs.YtdloabjnjnjacaaDoor
namespace Go.Proofs.YtdloabjnjnjacaaDoor
/-- How many nodes hang below u among the last j nodes. -/
def cntF (n : Nat) (par : Nat → Int) : Nat → Nat → Int
  | 0, _ => 0
  | j + 1, u => if par (n - 1 - j) = u then cntF n par j u + 1 + cntF n par j (n - 1 - j) else cntF n par j u
theorem cntF_ge {n : Nat} {par : Nat → Int} : ∀ j u, 0 ≤ cntF n par j u
  | 0, _ => Int.le_refl _
  | j + 1, u => by
    rw [cntF]; have h1 := cntF_ge (n := n) (par := par) j u; have h2 := cntF_ge (n := n) (par := par) j (n - 1 - j)
    split <;> omega
theorem cntF_sum {n k : Nat} {par : Nat → Int} {m : Nat → List Int} (H : Task n k par m) : ∀ j, j + 1 ≤ n → sumN (fun u => cntF n par j u) (n - j) = j
  | 0, _ => by
    have z : ∀ c, sumN (fun _ => (0 : Int)) c = 0 := fun c => by induction c with | zero => rfl | succ c ih => rw [sumN, ih]; rfl
    exact z _
  | j + 1, h => by
    have ih := cntF_sum H j (by omega)
    have lo := H.par_lo (n - 1 - j) (by omega) (by omega)
    have hi := H.par_hi (n - 1 - j) (by omega)
    have e1 : n - j = n - (j + 1) + 1 := by omega
    rw [e1, sumN] at ih
    have e2 : n - (j + 1) = n - 1 - j := by omega
    have := sumN_upd (f := fun u => cntF n par j u) (g := fun u => cntF n par (j + 1) u) (p := (par (n - 1 - j)).toNat) (x := 1 + cntF n par j (n - 1 - j)) (n - (j + 1)) (by omega)
      (fun i hi hne => by
        show cntF n par (j + 1) i = cntF n par j i
        rw [cntF, if_neg (fun e => hne (by omega))])
      (by
        show cntF n par (j + 1) _ = cntF n par j _ + _
        rw [cntF, if_pos (by omega)]; omega)
    rw [this]
    rw [e2] at ih ⊢
    omega
theorem sumN_ge_one {f : Nat → Int} (h : ∀ i, 0 ≤ f i) : ∀ {n : Nat} {u : Nat}, u < n → f u ≤ sumN f n
  | n + 1, u, hu => by
    rw [sumN]
    have pos : ∀ c, 0 ≤ sumN f c := fun c => by
      induction c with
      | zero => exact Int.le_refl _
      | succ c ih => rw [sumN]; have := h c; omega
    by_cases e : u = n
    · subst e; have := pos u; omega
    · have := sumN_ge_one h (n := n) (u := u) (by omega); have := h n; omega
theorem cntF_le {n k : Nat} {par : Nat → Int} {m : Nat → List Int} (H : Task n k par m) {j u : Nat} (hj : j + 1 ≤ n) (hu : u < n - j) : cntF n par j u ≤ j := by
  have h1 := cntF_sum H j hj
  have h2 := sumN_ge_one (f := fun u => cntF n par j u) (fun i => cntF_ge j i) hu
  omega
theorem acc_ge {n : Nat} {par : Nat → Int} {m : Nat → List Int} {ok : Nat → Nat → Bool} {T : Nat → List Int} {j u s : Nat} : -1 ≤ acc n par m ok T j u s :=
  foldl_op_ge _ _ (by split <;> omega)
/-- Once all nodes behind it are counted, a node's costs stay. -/
theorem acc_stab {n k : Nat} {par : Nat → Int} {m : Nat → List Int} {ok : Nat → Nat → Bool} {T : Nat → List Int} (H : Task n k par m) {u s : Nat} (hu : u < n) : ∀ j, n - 1 - u ≤ j → j ≤ n → acc n par m ok T j u s = acc n par m ok T (n - 1 - u) u s
  | 0, h, _ => by rw [show n - 1 - u = 0 by omega]
  | j + 1, h, hn => by
    by_cases e : n - 1 - u = j + 1
    · rw [e]
    · rw [acc_succ (by omega), if_neg]
      · exact acc_stab H hu j (by omega) (by omega)
      · intro hp
        have := H.par_hi (n - 1 - j) (by omega)
        omega
theorem tabl_getD {n k : Nat} {par : Nat → Int} {m : Nat → List Int} {ok : Nat → Nat → Bool} {u s : Nat} (hu : u < n) (hs : s < k) :
    (tabl n k par m ok n u).getD s (-1) = acc n par m ok (tabl n k par m ok n) (n - 1 - u) u s := by
  rw [List.getD_eq_getElem?_getD, acc_row hu hs]; rfl
theorem tabl_len {n k : Nat} {par : Nat → Int} {m : Nat → List Int} {ok : Nat → Nat → Bool} {u : Nat} (hu : u < n) : (tabl n k par m ok n u).length = k := by
  rw [tabl_eq hu]; simp [rowOf]
/-- No cost is greater than the number of the nodes counted allows. -/
theorem acc_bd {n k : Nat} {par : Nat → Int} {m : Nat → List Int} {ok : Nat → Nat → Bool} (H : Task n k par m) {M : Int} (hM : 0 ≤ M) (hle : ∀ s, s < k → ∀ x ∈ m s, x ≤ M) :
    ∀ j, j + 1 ≤ n → ∀ u, u < n - j → ∀ s, s < k → acc n par m ok (tabl n k par m ok n) j u s ≤ M * cntF n par j u
  | 0, _, u, _, s, _ => by rw [acc_zero, cntF]; split <;> omega
  | j + 1, hj, u, hu, s, hs => by
    rw [acc_succ (by omega), cntF]
    have ih := acc_bd (ok := ok) H hM hle j (by omega) u (by omega) s hs
    split
    · have hv : n - 1 - j < n := by omega
      have hT : ∀ y ∈ tabl n k par m ok n (n - 1 - j), y ≤ M * cntF n par j (n - 1 - j) := by
        intro y hy
        obtain ⟨b, hb⟩ := List.getElem?_of_mem hy
        have hbl := (List.getElem?_eq_some_iff.1 hb).1
        rw [tabl_len hv] at hbl
        rw [acc_row hv hbl] at hb
        rw [show n - 1 - (n - 1 - j) = j by omega] at hb
        rw [← Option.some.inj hb]
        exact acc_bd (ok := ok) H hM hle j (by omega) (n - 1 - j) (by omega) b hbl
      have c1 := cntF_ge (n := n) (par := par) j (n - 1 - j)
      have c2 := cntF_ge (n := n) (par := par) j u
      have hU : under (m s) (tabl n k par m ok n (n - 1 - j)) ≤ M + M * cntF n par j (n - 1 - j) := by
        by_cases h0 : 0 ≤ under (m s) (tabl n k par m ok n (n - 1 - j))
        · have hmem := leastOf_mem _ h0
          obtain ⟨b, hb⟩ := List.getElem?_of_mem hmem
          rw [List.getElem?_zipWith] at hb
          have h1 : under (m s) (tabl n k par m ok n (n - 1 - j)) = leastOf (List.zipWith op (m s) (tabl n k par m ok n (n - 1 - j))) := rfl
          cases hx : (m s)[b]? with
          | none => rw [hx] at hb; cases hb
          | some x =>
            cases hy : (tabl n k par m ok n (n - 1 - j))[b]? with
            | none => rw [hx, hy] at hb; cases hb
            | some y =>
              rw [hx, hy] at hb
              have hb' := Option.some.inj hb
              have hx' := hle s hs x (List.mem_of_getElem? hx)
              have hy' := hT y (List.mem_of_getElem? hy)
              rw [h1, ← hb']
              rw [h1, ← hb'] at h0
              unfold op at h0 ⊢
              split at h0
              · omega
              · rename_i hn; rw [if_neg hn]; omega
        · have := Int.mul_nonneg hM c1; omega
      have e : M * (cntF n par j u + 1 + cntF n par j (n - 1 - j)) = M * cntF n par j u + (M + M * cntF n par j (n - 1 - j)) := by rw [Int.mul_add, Int.mul_add, Int.mul_one]; omega
      rw [e]
      have := Int.mul_nonneg hM c1
      have := Int.mul_nonneg hM c2
      unfold op; split <;> omega
    · exact ih
/-- The least by places is the least of the list. -/
theorem cost_le {n k : Nat} {par : Nat → Int} {m : Nat → List Int} {ok : Nat → Nat → Bool} (H : Task n k par m) {M : Int} (hM : 0 ≤ M) (hle : ∀ s, s < k → ∀ x ∈ m s, x ≤ M)
    {j : Nat} (hj : j + 1 ≤ n) {u : Nat} (hu : u < n) {s : Nat} (hs : s < k) : acc n par m ok (tabl n k par m ok n) j u s ≤ M * n := by
  by_cases h : u < n - j
  · have h1 := acc_bd (ok := ok) H hM hle j hj u h s hs
    have h2 := cntF_le H hj h
    have := Int.mul_le_mul_of_nonneg_left (show cntF n par j u ≤ (n : Int) by omega) hM
    omega
  · rw [acc_stab H hu j (by omega) (by omega)]
    have h1 := acc_bd (ok := ok) H hM hle (n - 1 - u) (by omega) u (by omega) s hs
    have h2 := cntF_le H (j := n - 1 - u) (u := u) (by omega) (by omega)
    have := Int.mul_le_mul_of_nonneg_left (show cntF n par (n - 1 - u) u ≤ (n : Int) by omega) hM
    omega
end Go.Proofs.YtdloabjnjnjacaaDoor
