/-
  Runs exchanged, turned and merged in an array. Plain Lean: no program.
  slices.swapRangeCmpFunc, slices.rotateCmpFunc at correspondences.
-/
import Derived.Test.YtkdancoffmhjhaaKw
import Derived.RegionTactic
import Derived.BigRegion
namespace Go.Proofs.Ytkdancoffmhjhaa
open Go.Sort
section
variable {α : Type} [Inhabited α]
/-- k places from a on exchanged with those from b on. -/
def swpR (d : Array α) (a b : Nat) : Nat → Array α
  | 0 => d
  | k + 1 => swp (swpR d a b k) (a + k) (b + k)
theorem swpR_size (d : Array α) (a b : Nat) : ∀ k, (swpR d a b k).size = d.size
  | 0 => rfl
  | k + 1 => by rw [swpR, swp_size, swpR_size d a b k]
theorem swpR_get (d : Array α) (a b : Nat) : ∀ k, a + k ≤ b → b + k ≤ d.size → ∀ t, (swpR d a b k)[t]! = if a ≤ t ∧ t < a + k then d[b + (t - a)]! else if b ≤ t ∧ t < b + k then d[a + (t - b)]! else d[t]!
  | 0, _, _, t => by rw [if_neg (by omega), if_neg (by omega)]; rfl
  | k + 1, h1, h2, t => by
    have ih := swpR_get d a b k (by omega) (by omega)
    have hs := swpR_size d a b k
    rw [swpR, swp_get _ (by omega) (by omega)]
    by_cases e1 : t = b + k
    · subst e1
      rw [if_pos rfl, ih, if_neg (by omega), if_neg (by omega), if_neg (by omega), if_pos (by omega)]
      congr 1; omega
    · rw [if_neg e1]
      by_cases e2 : t = a + k
      · subst e2
        rw [if_pos rfl, ih, if_neg (by omega), if_neg (by omega), if_pos (by omega)]
        congr 1; omega
      · rw [if_neg e2, ih]
        by_cases e3 : a ≤ t ∧ t < a + k
        · rw [if_pos e3, if_pos (by omega : a ≤ t ∧ t < a + (k + 1))]
        · have n3 : ¬ (a ≤ t ∧ t < a + (k + 1)) := by omega
          by_cases e4 : b ≤ t ∧ t < b + k
          · rw [if_neg e3, if_pos e4, if_neg n3, if_pos (by omega : b ≤ t ∧ t < b + (k + 1))]
          · rw [if_neg e3, if_neg e4, if_neg n3, if_neg (by omega : ¬ (b ≤ t ∧ t < b + (k + 1)))]
theorem swpR_perm (d : Array α) (a b lo hi : Nat) : ∀ k, lo ≤ a → a + k ≤ b → b + k ≤ hi → hi ≤ d.size → PermIn lo hi d (swpR d a b k)
  | 0, _, _, _, _ => permIn_refl d lo hi
  | k + 1, h1, h2, h3, h4 => permIn_trans _ _ _ lo hi (swpR_perm d a b lo hi k h1 (by omega) (by omega) h4) (swp_permIn _ lo hi (a + k) (b + k) (by omega) (by omega) (by omega) (by omega) (by rw [swpR_size]; exact h4))
/-- The place t of d with [a, m) and [m, b) exchanged. -/
def rotG (d : Array α) (a m b t : Nat) : α := if a ≤ t ∧ t < b then (if t < a + (b - m) then d[m + (t - a)]! else d[t - (b - m)]!) else d[t]!
theorem rotG_out (d : Array α) {a m b t : Nat} (h : t < a ∨ b ≤ t) : rotG d a m b t = d[t]! := by
  unfold rotG; rw [if_neg (by omega : ¬ (a ≤ t ∧ t < b))]
theorem rotG_low (d : Array α) {a m b t : Nat} (h1 : a ≤ t) (h2 : t < b) (h3 : t < a + (b - m)) : rotG d a m b t = d[m + (t - a)]! := by
  unfold rotG; rw [if_pos (⟨h1, h2⟩ : a ≤ t ∧ t < b), if_pos h3]
theorem rotG_high (d : Array α) {a m b t : Nat} (h1 : a ≤ t) (h2 : t < b) (h3 : a + (b - m) ≤ t) : rotG d a m b t = d[t - (b - m)]! := by
  unfold rotG; rw [if_pos (⟨h1, h2⟩ : a ≤ t ∧ t < b), if_neg (by omega : ¬ t < a + (b - m))]
section
variable {d : Array α} {a b k : Nat} (h1 : a + k ≤ b) (h2 : b + k ≤ d.size)
include h1 h2
theorem swpR_first {t : Nat} (h3 : a ≤ t) (h4 : t < a + k) : (swpR d a b k)[t]! = d[b + (t - a)]! := by
  rw [swpR_get d a b k h1 h2, if_pos (⟨h3, h4⟩ : a ≤ t ∧ t < a + k)]
theorem swpR_second {t : Nat} (h3 : b ≤ t) (h4 : t < b + k) : (swpR d a b k)[t]! = d[a + (t - b)]! := by
  rw [swpR_get d a b k h1 h2, if_neg (by omega : ¬ (a ≤ t ∧ t < a + k)), if_pos (⟨h3, h4⟩ : b ≤ t ∧ t < b + k)]
theorem swpR_else {t : Nat} (h3 : ¬ (a ≤ t ∧ t < a + k)) (h4 : ¬ (b ≤ t ∧ t < b + k)) : (swpR d a b k)[t]! = d[t]! := by
  rw [swpR_get d a b k h1 h2, if_neg h3, if_neg h4]
end
theorem rot_gt (d : Array α) {m i j : Nat} (hij : j < i) (him : i ≤ m) (hs : m + j ≤ d.size) (t : Nat) : rotG (swpR d (m - i) m j) (m - (i - j)) m (m + j) t = rotG d (m - i) m (m + j) t := by
  have k1 : m - i + j ≤ m := by omega
  by_cases h1 : t < m - i
  · rw [rotG_out _ (by omega), rotG_out _ (by omega), swpR_else k1 hs (by omega) (by omega)]
  · by_cases h2 : t < m - i + j
    · rw [rotG_out _ (by omega), rotG_low _ (by omega) (by omega) (by omega), swpR_first k1 hs (by omega) (by omega)]
    · by_cases h3 : t < m + j
      · rw [rotG_high d (by omega) (by omega) (by omega)]
        by_cases h4 : t < m - (i - j) + j
        · rw [rotG_low _ (by omega) (by omega) (by omega), swpR_second k1 hs (by omega) (by omega)]
          congr 1; omega
        · rw [rotG_high _ (by omega) (by omega) (by omega), swpR_else k1 hs (by omega) (by omega)]
      · rw [rotG_out _ (by omega), rotG_out _ (by omega), swpR_else k1 hs (by omega) (by omega)]
theorem rot_lt (d : Array α) {m i j : Nat} (hij : i < j) (him : i ≤ m) (hs : m + j ≤ d.size) (t : Nat) : rotG (swpR d (m - i) (m + j - i) i) (m - i) m (m + (j - i)) t = rotG d (m - i) m (m + j) t := by
  have k1 : m - i + i ≤ m + j - i := by omega
  have k2 : m + j - i + i ≤ d.size := by omega
  by_cases h1 : t < m - i ∨ m + j ≤ t
  · rw [rotG_out _ (by omega), rotG_out _ (by omega), swpR_else k1 k2 (by omega) (by omega)]
  · by_cases h3 : m + j - i ≤ t
    · rw [rotG_out _ (by omega), rotG_high d (by omega) (by omega) (by omega), swpR_second k1 k2 (by omega) (by omega)]
      congr 1; omega
    · rw [rotG_low d (by omega) (by omega) (by omega)]
      by_cases h4 : t < m - i + (j - i)
      · rw [rotG_low _ (by omega) (by omega) (by omega), swpR_else k1 k2 (by omega) (by omega)]
      · rw [rotG_high _ (by omega) (by omega) (by omega), swpR_first k1 k2 (by omega) (by omega)]
        congr 1; omega
theorem rot_eq (d : Array α) {m i : Nat} (him : i ≤ m) (hs : m + i ≤ d.size) (t : Nat) : (swpR d (m - i) m i)[t]! = rotG d (m - i) m (m + i) t := by
  have k1 : m - i + i ≤ m := by omega
  by_cases h1 : t < m - i ∨ m + i ≤ t
  · rw [rotG_out _ (by omega), swpR_else k1 hs (by omega) (by omega)]
  · by_cases h2 : t < m
    · rw [rotG_low _ (by omega) (by omega) (by omega), swpR_first k1 hs (by omega) (by omega)]
    · rw [rotG_high _ (by omega) (by omega) (by omega), swpR_second k1 hs (by omega) (by omega)]
      congr 1; omega
/-! ### Merging -/
variable {T : α → α → Bool}
/-- The place a moved up behind those that follow it. -/
structure MovU (d dk : Array α) (a i : Nat) : Prop where
  lo : ∀ t, a ≤ t → t < i → dk[t]! = d[t + 1]!
  at' : dk[i]! = d[a]!
  el : ∀ t, (t < a ∨ i < t) → dk[t]! = d[t]!
theorem MovU.start (d : Array α) (a : Nat) : MovU d d a a := ⟨fun t h1 h2 => by omega, rfl, fun _ _ => rfl⟩
theorem MovU.step {d dk : Array α} {a i : Nat} (h : MovU d dk a i) (hai : a ≤ i) (hi : i + 1 < dk.size) : MovU d (swp dk i (i + 1)) a (i + 1) := by
  have g := swp_get dk (show i < dk.size by omega) hi
  refine ⟨fun t h1 h2 => ?_, ?_, fun t ht => ?_⟩
  · rw [g, if_neg (by omega : ¬ t = i + 1)]
    by_cases e : t = i
    · rw [if_pos e, h.el (i + 1) (.inr (by omega)), e]
    · rw [if_neg e]; exact h.lo t h1 (by omega)
  · rw [g, if_pos rfl]; exact h.at'
  · rw [g, if_neg (by omega : ¬ t = i + 1), if_neg (by omega : ¬ t = i)]; exact h.el t (by omega)
/-- The place m moved down before those that lie ahead of it. -/
structure MovD (d dk : Array α) (m i : Nat) : Prop where
  hi : ∀ t, i < t → t ≤ m → dk[t]! = d[t - 1]!
  at' : dk[i]! = d[m]!
  el : ∀ t, (t < i ∨ m < t) → dk[t]! = d[t]!
theorem MovD.start (d : Array α) (m : Nat) : MovD d d m m := ⟨fun t h1 h2 => by omega, rfl, fun _ _ => rfl⟩
theorem MovD.step {d dk : Array α} {m i : Nat} (h : MovD d dk m (i + 1)) (him : i + 1 ≤ m) (hm : m < dk.size) : MovD d (swp dk (i + 1) i) m i := by
  have g := swp_get dk (show i + 1 < dk.size by omega) (show i < dk.size by omega)
  refine ⟨fun t h1 h2 => ?_, ?_, fun t ht => ?_⟩
  · rw [g, if_neg (by omega : ¬ t = i)]
    by_cases e : t = i + 1
    · rw [if_pos e, h.el i (.inl (by omega)), e]; rfl
    · rw [if_neg e]; exact h.hi t (by omega) h2
  · rw [g, if_pos rfl]; exact h.at'
  · rw [g, if_neg (by omega : ¬ t = i), if_neg (by omega : ¬ t = i + 1)]; exact h.el t (by omega)
theorem merge_left (hS : SWO T) {d dk : Array α} {a b i : Nat} (hs : SortedIn T (a + 1) b d) (hi1 : a ≤ i) (hib : i + 1 ≤ b) (h1 : ∀ q, a + 1 ≤ q → q < i + 1 → T d[q]! d[a]! = true) (h2 : ∀ q, i + 1 ≤ q → q < b → T d[q]! d[a]! = false)
    (hk : MovU d dk a i) : SortedIn T a b dk := by
  intro p q hap hpq hqb
  by_cases hp : p < i
  · rw [hk.lo p hap hp]
    by_cases hq : q < i
    · rw [hk.lo q (by omega) hq]; exact hs (p + 1) (q + 1) (by omega) (by omega) (by omega)
    · by_cases hq2 : q = i
      · rw [hq2, hk.at']; exact hS.asymmA (h1 (p + 1) (by omega) (by omega))
      · rw [hk.el q (.inr (by omega))]; exact hs (p + 1) q (by omega) (by omega) hqb
  · rw [hk.el q (.inr (by omega))]
    by_cases hp2 : p = i
    · rw [hp2, hk.at']; exact h2 q (by omega) hqb
    · rw [hk.el p (.inr (by omega))]; exact hs p q (by omega) hpq hqb
theorem merge_right (hS : SWO T) {d dk : Array α} {a m i : Nat} (hs : SortedIn T a m d) (hi1 : a ≤ i) (him : i ≤ m) (h1 : ∀ p, a ≤ p → p < i → T d[m]! d[p]! = false) (h2 : ∀ p, i ≤ p → p < m → T d[m]! d[p]! = true)
    (hk : MovD d dk m i) : SortedIn T a (m + 1) dk := by
  intro p q hap hpq hqb
  by_cases hq : i < q
  · rw [hk.hi q hq (by omega)]
    by_cases hp : i < p
    · rw [hk.hi p hp (by omega)]; exact hs (p - 1) (q - 1) (by omega) (by omega) (by omega)
    · by_cases hp2 : p = i
      · rw [hp2, hk.at']; exact hS.asymmA (h2 (q - 1) (by omega) (by omega))
      · rw [hk.el p (.inl (by omega))]; exact hs p (q - 1) hap (by omega) (by omega)
  · rw [hk.el p (.inl (by omega))]
    by_cases hq2 : q = i
    · rw [hq2, hk.at']; exact h1 p hap (by omega)
    · rw [hk.el q (.inl (by omega))]; exact hs p q hap hpq (by omega)
/-- What the search has found. -/
structure Cut (T : α → α → Bool) (d : Array α) (a m b mid n s : Nat) : Prop where
  mn : n = mid + m
  lo : a ≤ s ∧ n - b ≤ s ∧ s ≤ m ∧ s ≤ mid
  le : a ≤ mid ∧ mid ≤ b ∧ m ≤ n - s ∧ n - s ≤ b
  low : a < s → n - s < b → T d[n - s]! d[s - 1]! = false
  high : s < m → m < n - s → T d[n - s - 1]! d[s]! = true
/-- Behind the turn, all of the first half is not greater than all of the second. -/
theorem Cut.cross (hS : SWO T) {d d' : Array α} {a m b mid n s : Nat} (h : Cut T d a m b mid n s) (hl : SortedIn T a m d) (hr : SortedIn T m b d)
    (hd : ∀ t, d'[t]! = rotG d s m (n - s) t) : ∀ x y, a ≤ x → x < mid → mid ≤ y → y < b → T d'[y]! d'[x]! = false := by
  obtain ⟨hmn, ⟨l1, l2, l3, l4⟩, ⟨e1, e2, e3, e4⟩, hlow, hhigh⟩ := h
  -- (1) what lies in the second list's rest is not less than what stays of the first
  have c1 : ∀ p q, a ≤ p → p < s → n - s ≤ q → q < b → T d[q]! d[p]! = false := by
    intro p q h1 h2 h3 h4
    have h0 := hlow (by omega) (by omega)
    have h5 : T d[q]! d[s - 1]! = false := by
      by_cases e : q = n - s
      · rw [e]; exact h0
      · exact hS.ntrans _ _ _ (hr (n - s) q (by omega) (by omega) h4) h0
    by_cases e : p = s - 1
    · rw [e]; exact h5
    · exact hS.ntrans _ _ _ h5 (hl p (s - 1) h1 (by omega) (by omega))
  -- (2) what moves down is less than what moves up
  have c2 : ∀ p q, s ≤ p → p < m → m ≤ q → q < n - s → T d[p]! d[q]! = false := by
    intro p q h1 h2 h3 h4
    have h0 := hS.asymmA (hhigh (by omega) (by omega))
    have h5 : T d[p]! d[n - s - 1]! = false := by
      by_cases e : p = s
      · rw [e]; exact h0
      · exact hS.ntrans _ _ _ (hl s p (by omega) (by omega) h2) h0
    by_cases e : q = n - s - 1
    · rw [e]; exact h5
    · exact hS.ntrans _ _ _ h5 (hr q (n - s - 1) h3 (by omega) (by omega))
  intro x y h1 h2 h3 h4
  rw [hd x, hd y]
  by_cases hx : x < s
  · rw [rotG_out d (t := x) (.inl hx)]
    by_cases hy : y < n - s
    · rw [rotG_high d (t := y) (by omega) hy (by omega)]
      exact hl x (y - (n - s - m)) h1 (by omega) (by omega)
    · rw [rotG_out d (t := y) (.inr (by omega))]; exact c1 x y h1 hx (by omega) h4
  · rw [rotG_low d (t := x) (by omega) (by omega) (by omega)]
    by_cases hy : y < n - s
    · rw [rotG_high d (t := y) (by omega) hy (by omega)]
      exact c2 (y - (n - s - m)) (m + (x - s)) (by omega) (by omega) (by omega) (by omega)
    · rw [rotG_out d (t := y) (.inr (by omega))]
      exact hr (m + (x - s)) y (by omega) (by omega) h4
/-- The halves, sorted, are the whole. -/
theorem sorted_join {d : Array α} {a mid b : Nat} (h1 : SortedIn T a mid d) (h2 : SortedIn T mid b d) (h3 : ∀ x y, a ≤ x → x < mid → mid ≤ y → y < b → T d[y]! d[x]! = false) : SortedIn T a b d := by
  intro p q hap hpq hqb
  by_cases hq : q < mid
  · exact h1 p q hap hpq hq
  · by_cases hp : p < mid
    · exact h3 p q hap hp (by omega) hqb
    · exact h2 p q (by omega) hpq hqb
theorem SortedIn.empty {d : Array α} {a b : Nat} (h : b ≤ a + 1) : SortedIn T a b d := fun i j h1 h2 h3 => by omega
end
end Go.Proofs.Ytkdancoffmhjhaa
namespace Go.Proofs.Ytkdancoffmhjhaa
open Go.RowKit Go.Shelf Go.Sort
/-- The row that is sorted: it reads as d, all else stands. -/
structure SW (w w0 : World) (g n cap : Nat) (d : Array HCo) (W : World) : Prop where
  own : OwnK 2 HCo.enc w.heap.size 49 W (.slice (some ⟨g, 0, none⟩) n cap) d.toList
  ext : Ext w W
  off : Off g w0 W
theorem OwnH.set {B e g n cap : Nat} {w : World} {xs : List HCo} (h : OwnK 2 HCo.enc B e w (.slice (some ⟨g, 0, none⟩) n cap) xs) {i : Nat} (hi : i < n) (y : HCo) :
    OwnK 2 HCo.enc B e ((w.setCell ⟨g, i * 2, none⟩ (.slice y.a y.n y.cap)).setCell ⟨g, i * 2 + 1, none⟩ (.int .i64 y.cnt)) (.slice (some ⟨g, 0, none⟩) n cap) (xs.set i y) := by
  have hl := (OwnK.ge h).2.2.1
  subst hl
  have h1 := (World.ownsRow.stored h (i * 2) (.slice y.a y.n y.cap)).1
  have h2 := (World.ownsRow.stored h1 (i * 2 + 1) (.int .i64 y.cnt)).1
  rw [set_two _ _ _ _ (by rw [length_flatMap_enc HCo.len]; omega)] at h2
  unfold OwnK
  rw [List.length_set, flat_set HCo.len xs i y hi]
  exact h2
section
variable {w w0 W : World} {g n cap : Nat} {d : Array HCo}
theorem SW.ge (h : SW w w0 g n cap d W) : w.heap.size ≤ g ∧ g < W.heap.size ∧ d.size = n := by
  obtain ⟨h1, h2, h3, _, _⟩ := OwnK.ge h.own
  exact ⟨h1, h2, by simpa using h3⟩
theorem SW.kept (h : SW w w0 g n cap d W) {W' : World} (hx : Ext W W') : SW w w0 g n cap d W' :=
  ⟨h.own.kept hx, h.ext.trans hx, Nat.le_trans h.off.le hx.le, fun b hb hne => (Below.block hx.bel b (Nat.lt_of_lt_of_le hb h.off.le)).trans (h.off.block b hb hne)⟩
theorem SW.at (h : SW w w0 g n cap d W) {i : Nat} (hi : i < n) : W.cell? ⟨g, i * 2, none⟩ = some (.slice d[i]!.a d[i]!.n d[i]!.cap) ∧ W.cell? ⟨g, i * 2 + 1, none⟩ = some (.int .i64 d[i]!.cnt) := by
  have hs := h.ge.2.2
  have hd : d.toList[i]? = some d[i]! := by rw [getElem!_pos d i (by omega)]; simp
  exact ⟨by have := OwnK.atk HCo.len h.own hd (j := 0) rfl; simpa using this, OwnK.atk HCo.len h.own hd (j := 1) rfl⟩
theorem SW.free (h : SW w w0 g n cap d W) (i : Nat) : W.frozen? ⟨g, i, none⟩ = false := OwnK.free h.own i
theorem Off.setCell {g : Nat} {w0 W : World} (h : Off g w0 W) (i : Nat) (v : Value) : Off g w0 (W.setCell ⟨g, i, none⟩ v) := by
  refine ⟨?_, fun b hb hne => ?_⟩
  · rw [World.size_setCell]; exact h.le
  · refine Eq.trans ?_ (h.block b hb hne)
    show (W.heap.modify g _)[b]? = _
    rw [Array.getElem?_modify, if_neg (Ne.symm hne)]
theorem SW.swp (h : SW w w0 g n cap d W) {i j : Nat} (hi : i < n) (hj : j < n) :
    SW w w0 g n cap (swp d i j) ((((W.setCell ⟨g, i * 2, none⟩ (.slice d[j]!.a d[j]!.n d[j]!.cap)).setCell ⟨g, i * 2 + 1, none⟩ (.int .i64 d[j]!.cnt)).setCell ⟨g, j * 2, none⟩ (.slice d[i]!.a d[i]!.n d[i]!.cap)).setCell ⟨g, j * 2 + 1, none⟩ (.int .i64 d[i]!.cnt)) := by
  have hB := h.ge.1
  refine ⟨?_, (((h.ext.setCell (p := ⟨g, _, none⟩) hB _).setCell (p := ⟨g, _, none⟩) hB _).setCell (p := ⟨g, _, none⟩) hB _).setCell (p := ⟨g, _, none⟩) hB _, (((h.off.setCell _ _).setCell _ _).setCell _ _).setCell _ _⟩
  have := OwnH.set (OwnH.set h.own hi d[j]!) hj d[i]!
  unfold Sort.swp
  simpa using this
end
set_option maxHeartbeats 400000 in
theorem swapR_any {w w0 W : World} {g n cap : Nat} {d : Array HCo} (h : SW w w0 g n cap d W) (a b k : Nat) (hab : a + k ≤ b) (hbn : b + k ≤ n) (hn : n ≤ 60000000) (fv : Value) :
    Calls Try.prog 120 #[.slice (some ⟨g, 0, none⟩) n cap, .int .i64 a, .int .i64 b, .int .i64 k, fv] W fun e W' => e = .returned (.tuple #[]) ∧ SW w w0 g n cap (swpR d a b k) W' := by
  have hB := h.ge.1
  go_enter Try.func120, Try.ntmps120
  go_wp2_with fail
  go_loopw [10] (fun i wr => ∃ q : Nat, q ≤ k ∧ i = .int .i64 q ∧ SW w w0 g n cap (swpR d a b q) wr) (fun i _ => k - (intOf i).toNat)
  case atStart => exact ⟨0, Nat.zero_le _, rfl, h⟩
  case round =>
    obtain ⟨q, hq, rfl, hs⟩ := hrel
    by_cases hlt : q < k
    · have hqi : (q : Int) < (k : Int) := by omega
      obtain ⟨A, hA⟩ : ∃ A, A = a + q := ⟨_, rfl⟩
      obtain ⟨C, hC⟩ : ∃ C, C = b + q := ⟨_, rfl⟩
      have eA : (a : Int) + (q : Int) = (A : Int) := by omega
      have eC : (b : Int) + (q : Int) = (C : Int) := by omega
      have hAn : A < n := by omega
      have hCn : C < n := by omega
      have hwA : IntKind.i64.wrap (A : Int) = A := IntWalk.i64_in _ (by omega)
      have hwC : IntKind.i64.wrap (C : Int) = C := IntWalk.i64_in _ (by omega)
      have hAi : (A : Int) < (n : Int) := by omega
      have hCi : (C : Int) < (n : Int) := by omega
      have hnew := hs.swp hAn hCn
      have hnew2 := hnew.kept ((Ext.refl _).drew)
      obtain ⟨c0, c1⟩ := hs.at hAn
      obtain ⟨c2, c3⟩ := hs.at hCn
      have hf0 := fun i => hs.free i
      rw [hA, hC] at hnew2
      rw [show Sort.swp (swpR d a b q) (a + q) (b + q) = swpR d a b (q + 1) from rfl, ← hA, ← hC] at hnew2
      replace hA := Lib.hid hA
      replace hC := Lib.hid hC
      replace hnew := Lib.hid hnew
      replace hnew2 := Lib.hid hnew2
      generalize (swpR d a b q)[A]! = yA at *
      generalize (swpR d a b q)[C]! = yC at *
      go_wp2_with fail
      go_region
      go_wp2_with fail
      (first | exact ⟨⟨q + 1, by omega, by go_num, hnew2.out⟩, (by simp [intOf]; omega)⟩ | (go_roundw; case rel => exact ⟨q + 1, by omega, by go_num, hnew2.out⟩; case measure => exact (by simp [intOf]; omega)))
    · obtain rfl : q = k := by omega
      go_wp2_with fail
      go_end0
      exact ⟨rfl, hs⟩
/-- The row with two neighbouring runs exchanged. -/
def RotRet (w w0 : World) (g n cap : Nat) (d : Array HCo) (a m b : Nat) (e : Ending) (W' : World) : Prop :=
  e = .returned (.tuple #[]) ∧ ∃ d' : Array HCo, (∀ t, d'[t]! = rotG d a m b t) ∧ PermIn a b d d' ∧ SW w w0 g n cap d' W'
set_option maxHeartbeats 400000 in
theorem rot_any {w w0 W : World} {g n cap : Nat} {d : Array HCo} (h : SW w w0 g n cap d W) (a m b : Nat) (ham : a < m) (hmb : m < b) (hbn : b ≤ n) (hn : n ≤ 60000000) (fv : Value) :
    Calls Try.prog 110 #[.slice (some ⟨g, 0, none⟩) n cap, .int .i64 a, .int .i64 m, .int .i64 b, fv] W (RotRet w w0 g n cap d a m b) := by
  have hds := h.ge.2.2
  have hw1 : IntKind.i64.wrap ((m : Int) - (a : Int)) = ((m - a : Nat) : Int) := by rw [show (m : Int) - (a : Int) = ((m - a : Nat) : Int) by omega]; exact IntWalk.i64_in _ (by omega)
  have hw2 : IntKind.i64.wrap ((b : Int) - (m : Int)) = ((b - m : Nat) : Int) := by rw [show (b : Int) - (m : Int) = ((b - m : Nat) : Int) by omega]; exact IntWalk.i64_in _ (by omega)
  unfold RotRet
  go_enter Try.func110, Try.ntmps110
  go_wp2_with fail
  clear hw1 hw2
  go_loopw [10, 11] (fun u v wr => ∃ (i j : Nat) (dk : Array HCo), 0 < i ∧ 0 < j ∧ i ≤ m - a ∧ j ≤ b - m ∧ u = .int .i64 i ∧ v = .int .i64 j ∧ Hid (∀ t, rotG dk (m - i) m (m + j) t = rotG d a m b t) ∧ Hid (PermIn a b d dk) ∧ SW w w0 g n cap dk wr) (fun u v _ => (intOf u).toNat + (intOf v).toNat)
  case atStart => exact ⟨m - a, b - m, d, by omega, by omega, Nat.le_refl _, Nat.le_refl _, rfl, rfl, Lib.hid (by rw [show m - (m - a) = a by omega, show m + (b - m) = b by omega]; exact fun _ => rfl), Lib.hid (permIn_refl _ _ _), h⟩
  case round =>
    obtain ⟨i, j, dk, hi0, hj0, hia, hjb, rfl, rfl, hrot, hper, hs⟩ := hrel
    have hdk := hs.ge.2.2
    obtain ⟨A, hA⟩ : ∃ A, A = m - i := ⟨_, rfl⟩
    have eA : (m : Int) - (i : Int) = (A : Int) := by omega
    have hwA : IntKind.i64.wrap (A : Int) = A := IntWalk.i64_in _ (by omega)
    by_cases hij : i = j
    · subst hij
      have hd : ((i : Int) != (i : Int)) = false := by simp
      have hsw := swapR_any hs A m i (by omega) (by omega) hn fv
      have hfin : ∀ t, (swpR dk A m i)[t]! = rotG d a m b t := fun t => by rw [hA, rot_eq dk (by omega) (by omega), hrot.out]
      have hpf : PermIn a b d (swpR dk A m i) := permIn_trans _ _ _ a b hper.out (swpR_perm dk A m a b i (by omega) (by omega) (by omega) (by omega))
      replace hA := Lib.hid hA
      replace hfin := Lib.hid hfin
      replace hpf := Lib.hid hpf
      go_wp2_with fail
      refine hsw.mono ?_
      rintro e w2 ⟨rfl, hs2⟩
      go_wp2_with fail
      go_end0
      exact ⟨rfl, _, hfin.out, hpf.out, hs2⟩
    · have hd : ((i : Int) != (j : Int)) = true := by simp; omega
      by_cases hlt : j < i
      · have hd2 : decide ((j : Int) < (i : Int)) = true := by simp; omega
        obtain ⟨I, hI⟩ : ∃ I, I = i - j := ⟨_, rfl⟩
        have eI : (i : Int) - (j : Int) = (I : Int) := by omega
        have hwI : IntKind.i64.wrap (I : Int) = I := IntWalk.i64_in _ (by omega)
        have hsw := swapR_any hs A m j (by omega) (by omega) hn fv
        have hfin : Hid (∀ t, rotG (swpR dk A m j) (m - I) m (m + j) t = rotG d a m b t) := Lib.hid fun t => by rw [hA, hI, rot_gt dk hlt (by omega) (by omega), hrot.out]
        have hpf : Hid (PermIn a b d (swpR dk A m j)) := Lib.hid (permIn_trans _ _ _ a b hper.out (swpR_perm dk A m a b j (by omega) (by omega) (by omega) (by omega)))
        have hI0 : 0 < I ∧ I ≤ m - a ∧ I + j = i := by omega
        replace hA := Lib.hid hA
        replace hI := Lib.hid hI
        replace hij := Lib.hid hij
        go_wp2_with fail
        refine hsw.mono ?_
        rintro e w2 ⟨rfl, hs2⟩
        go_wp2_with fail
        (first | exact ⟨⟨I, j, _, by omega, by omega, by omega, by omega, rfl, rfl, hfin, hpf, hs2⟩, (by simp [intOf]; omega)⟩ | (go_roundw; case rel => exact ⟨I, j, _, by omega, by omega, by omega, by omega, rfl, rfl, hfin, hpf, hs2⟩; case measure => exact (by simp [intOf]; omega)))
      · have hd2 : decide ((j : Int) < (i : Int)) = false := by simp; omega
        obtain ⟨Dd, hD⟩ : ∃ Dd, Dd = m + j := ⟨_, rfl⟩
        obtain ⟨C, hC⟩ : ∃ C, C = m + j - i := ⟨_, rfl⟩
        obtain ⟨I, hI⟩ : ∃ I, I = j - i := ⟨_, rfl⟩
        have eD : (m : Int) + (j : Int) = (Dd : Int) := by omega
        have eC : (Dd : Int) - (i : Int) = (C : Int) := by omega
        have eI : (j : Int) - (i : Int) = (I : Int) := by omega
        have hwD : IntKind.i64.wrap (Dd : Int) = Dd := IntWalk.i64_in _ (by omega)
        have hwC : IntKind.i64.wrap (C : Int) = C := IntWalk.i64_in _ (by omega)
        have hwI : IntKind.i64.wrap (I : Int) = I := IntWalk.i64_in _ (by omega)
        have hsw := swapR_any hs A C i (by omega) (by omega) hn fv
        have hfin : Hid (∀ t, rotG (swpR dk A C i) (m - i) m (m + I) t = rotG d a m b t) := Lib.hid fun t => by rw [hA, hI, hC, rot_lt dk (by omega) (by omega) (by omega), hrot.out]
        have hpf : Hid (PermIn a b d (swpR dk A C i)) := Lib.hid (permIn_trans _ _ _ a b hper.out (swpR_perm dk A C a b i (by omega) (by omega) (by omega) (by omega)))
        have hI0 : 0 < I ∧ I ≤ b - m ∧ I + i = j := by omega
        replace hA := Lib.hid hA
        replace hI := Lib.hid hI
        replace hD := Lib.hid hD
        replace hC := Lib.hid hC
        replace hij := Lib.hid hij
        go_wp2_with fail
        refine hsw.mono ?_
        rintro e w2 ⟨rfl, hs2⟩
        go_wp2_with fail
        (first | exact ⟨⟨i, I, _, by omega, by omega, by omega, by omega, rfl, rfl, hfin, hpf, hs2⟩, (by simp [intOf]; omega)⟩ | (go_roundw; case rel => exact ⟨i, I, _, by omega, by omega, by omega, by omega, rfl, rfl, hfin, hpf, hs2⟩; case measure => exact (by simp [intOf]; omega)))
end Go.Proofs.Ytkdancoffmhjhaa
