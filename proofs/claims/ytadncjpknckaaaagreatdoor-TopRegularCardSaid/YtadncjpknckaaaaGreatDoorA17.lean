/-
  Sounds looked for in a list; refused. Build, least: plain.
  Words in an alignment: data, and the checks of words (word.Check, multi.words; of the reference too).
  Words: compared, put together; law.replace.
-/
import Derived.Test.YtadncjpknckaaaaGreatDoorA08
import Derived.Test.YtadncjpknckaaaaGreatDoorA02
import Derived.Test.YtadncjpknckaaaaGreatDoorA01
import Derived.Test.YtadncjpknckaaaaGreatDoorA16
namespace Go.Proofs.YtadncjpknckaaaaGreatDoor
open Go.RowKit
/-- The first place of x; -1: there is none. -/
def idxI {α : Type} [DecidableEq α] (xs : List α) (x : α) : Int := if x ∈ xs then (xs.idxOf x : Nat) else -1
theorem idxI_at {α : Type} [DecidableEq α] {xs : List α} {x : α} {k : Nat} (hk : xs[k]? = some x) (h : ∀ (i : Nat) (y : α), i < k → xs[i]? = some y → decide (x ≠ y) = true) : idxI xs x = k := by
  have hm := List.mem_of_getElem? hk
  have hlt := (List.getElem?_eq_some_iff.1 hk).1
  unfold idxI
  rw [if_pos hm]
  have hi : xs.idxOf x < xs.length := List.idxOf_lt_length_iff.2 hm
  have he : xs[xs.idxOf x]? = some x := by rw [List.getElem?_eq_getElem hi, List.getElem_idxOf]
  congr 1
  rcases Nat.lt_trichotomy (xs.idxOf x) k with hl | hl | hl
  · have := h _ _ hl he; simp at this
  · exact hl
  · have hle : xs.idxOf x ≤ k := by
      have h2 := List.getElem?_eq_some_iff.1 hk
      have : xs.idxOf x = (xs.take k ++ xs.drop k).idxOf x := by rw [List.take_append_drop]
      rw [this, List.idxOf_append]
      split
      · rename_i hin
        have := List.idxOf_lt_length_iff.2 hin
        simp at this; omega
      · have hd : xs.drop k = x :: xs.drop (k + 1) := by rw [List.drop_eq_getElem_cons hlt, h2.2]
        rw [hd]; simp; omega
    omega
theorem idxI_none {α : Type} [DecidableEq α] {xs : List α} {x : α} {n : Nat} (hl : xs.length = n) (h : ∀ (i : Nat) (y : α), i < n → xs[i]? = some y → decide (x ≠ y) = true) : idxI xs x = -1 := by
  unfold idxI
  rw [if_neg]
  intro hm
  obtain ⟨i, hi⟩ := List.getElem?_of_mem hm
  have := h i x (by have := (List.getElem?_eq_some_iff.1 hi).1; omega) hi
  simp at this
/-- What a call that makes a word hands back. -/
def RetS (xs : List Snd) (w : World) (e : Ending) (w' : World) : Prop := ∃ v, e = .returned v ∧ OwnS w.heap.size 52 w' v xs ∧ Ext w w'
theorem clone_any (a : Option Addr) (n cap : Nat) (xs : List Snd) (w : World) (hr : RdS w a n cap xs) (hn : n ≤ 60000) :
    Calls Tryz.prog 36 #[.slice a n cap] w (RetS xs w) := by
  cases a with
  | none =>
    have hc := hr.isnil rfl
    have h0 : n = 0 := by have := hr.le; omega
    subst h0; subst hc
    have hx : xs = [] := List.eq_nil_of_length_eq_zero hr.len
    subst hx
    have he := fun w => Lib.run_eql_slice_nil (P := Tryz.prog) w 40 52 Option.none 0 0 0 0 Tryz.underlying40
    go_enter Tryz.func36, Tryz.ntmps36
    go_wp2_with fail
    go_ret
    exact ⟨_, rfl, OwnK.nil _ _ _, Ext.refl _⟩
  | some ad =>
    have he := fun w => Lib.run_eql_slice_nil (P := Tryz.prog) w 40 52 (some ad) n cap 0 0 Tryz.underlying40
    have h0 : OwnS w.heap.size 52 (w.alloc (.cells #[] 52)) (.slice (some ⟨w.heap.size, 0, Option.none⟩) 0 0) [] := World.ownsRow_lit w #[] 0 (Nat.le_refl _) (Nat.zero_le _) rfl
    go_enter Tryz.func36, Tryz.ntmps36
    go_wp2_with (at_builtin; refine wp_appN w _ xs rfl _ _ 40 rfl 52 Tryz.underlying40 info_snd rfl (by decide) _ _ rfl h0 (Ext.alloc1 _ _) (some ad) n cap rfl (hr.ext (Ext.alloc1 _ _)) Snd.len Snd.one (by simp; omega) (by unfold maxLen; simp; omega) ?_; intro v' w1 hown1 hx1 _)
    go_ret
    exact ⟨_, rfl, hown1, hx1⟩
theorem rdk_pre {α : Type} {k : Nat} {enc : α → List Value} {w : World} {a : Option Addr} {n cap : Nat} {xs : List α} (h : RdK k enc w a n cap xs) {m : Nat} (hm : m ≤ n) : RdK k enc w a m cap (xs.take m) :=
  ⟨by rw [List.length_take, h.len]; omega, by have := h.le; omega, h.most, h.isnil, fun h0 => let ⟨b, off, ha, hb, hc⟩ := h.pos (by omega); ⟨b, off, ha, hb, fun i x hi j u hu => hc i x (by rw [List.getElem?_take] at hi; split at hi; exact hi; cases hi) j u hu⟩⟩
theorem any_of_atS {α : Type} {xs : List α} {p : α → Bool} {i : Nat} {x : α} (hi : xs[i]? = some x) (hp : p x = true) : xs.any p = true := List.any_eq_true.2 ⟨x, List.mem_of_getElem? hi, hp⟩
theorem any_noneS {α : Type} {xs : List α} {p : α → Bool} {n : Nat} (hl : xs.length = n) (h : ∀ (i : Nat) (x : α), i < n → xs[i]? = some x → (!p x) = true) : xs.any p = false := by
  rw [List.any_eq_false]; intro x hx
  obtain ⟨i, hi⟩ := List.getElem?_of_mem hx
  have := h i x (by have := (List.getElem?_eq_some_iff.1 hi).1; omega) hi
  simpa using this
/-! ### The sounds are in order -/
/-! ### refused -/
/-- Is a sound there twice? -/
def dupB (xs : List Snd) : Bool := (List.range xs.length).any fun i => match xs[i]? with | some s => decide (s ∈ xs.take i) | none => false
/-- The error of sounds, and of a pattern's width. -/
def refE (W : Nat) (xs : List Snd) : Int := if 8 < xs.length then 12 else if xs.any (fun y => !y.ok) then 14 else if dupB xs then 6 else if 10 < W then 12 else 0
mutual
theorem HP.allB_num : ∀ (h : HP), h.allB = true → h.numB = true
  | .mk kd is ng mn mx a n cap l, h => by
    simp only [HP.allB, Bool.and_eq_true] at h
    obtain ⟨h1, h2⟩ := h
    have h3 := HP.allBL_num l h2
    simp only [HP.numB, Bool.and_eq_true, decide_eq_true_eq, h3, and_true]
    simp only [HP.okB] at h1
    by_cases k1 : kd = 1
    · subst k1
      simp at h1
      simp [h1]
    · rw [if_neg k1] at h1
      by_cases k5 : kd = 5
      · subst k5
        simp at h1
        obtain ⟨_, ⟨⟨h4, h5⟩, h6⟩, h7⟩ := h1
        refine ⟨⟨⟨⟨h5, h6⟩, ?_⟩, ?_⟩, ?_⟩
        · omega
        · omega
        · cases l with
          | nil => cases h4
          | cons x l => simp
      · rw [if_neg k5] at h1
        simp at h1
        obtain ⟨_, ⟨h4, h5⟩, _⟩ := h1
        subst h4 h5
        simp [k5]
theorem HP.allBL_num : ∀ (l : List HP), HP.allBL l = true → HP.numBL l = true
  | [], _ => by simp [HP.numBL]
  | x :: l, h => by
    simp only [HP.allBL, Bool.and_eq_true] at h
    simp only [HP.numBL, Bool.and_eq_true]
    exact ⟨HP.allB_num x h.1, HP.allBL_num l h.2⟩
end
theorem dup_some {xs : List Snd} {i : Nat} {s : Snd} (h : xs[i]? = some s) (hd : s ∈ xs.take i) : dupB xs = true := by
  unfold dupB
  rw [List.any_eq_true]
  exact ⟨i, by simpa using (List.getElem?_eq_some_iff.1 h).1, by rw [h]; simpa using hd⟩
theorem dup_none {xs : List Snd} {n : Nat} (hl : xs.length = n) (h : ∀ (i : Nat) (s : Snd), i < n → xs[i]? = some s → s ∉ xs.take i) : dupB xs = false := by
  unfold dupB
  rw [List.any_eq_false]
  intro i hi
  have hi : i < n := by rw [List.mem_range] at hi; omega
  rw [List.getElem?_eq_getElem (by omega)]
  simpa using h i _ hi (List.getElem?_eq_getElem (by omega))
end Go.Proofs.YtadncjpknckaaaaGreatDoor
namespace Go.Proofs.YtadncjpknckaaaaGreatDoor
open Go.RowKit
/-! ### Sets with numbers -/
abbrev BS := List Bool
/-- The number of a set: its first place, the first set of all left out. -/
def numAt (sets : List BS) (s : BS) : Option Nat := if s ∈ sets.drop 1 then some ((sets.drop 1).idxOf s + 1) else none
def putSet (sets : List BS) (s : BS) : Nat × List BS := match numAt sets s with
  | some n => (n, sets)
  | none => (sets.length, sets ++ [s])
def rowB (g : Net) (cur : BS) : List Snd → List BS → List Nat × List BS
  | [], sets => ([], sets)
  | s :: ss, sets => let p := putSet sets (afterM g cur s); let t := rowB g cur ss p.2; (p.1 :: t.1, t.2)
theorem rowB_snoc (g : Net) (cur : BS) (s : Snd) : ∀ (l : List Snd) (sets : List BS), rowB g cur (l ++ [s]) sets = ((rowB g cur l sets).1 ++ [(putSet (rowB g cur l sets).2 (afterM g cur s)).1], (putSet (rowB g cur l sets).2 (afterM g cur s)).2)
  | [], sets => by simp [rowB]
  | x :: l, sets => by simp only [List.cons_append, rowB]; rw [rowB_snoc g cur s l]
theorem rowB_len (g : Net) (cur : BS) : ∀ (l : List Snd) (sets : List BS), (rowB g cur l sets).1.length = l.length
  | [], sets => rfl
  | x :: l, sets => by simp only [rowB, List.length_cons]; rw [rowB_len g cur l]
theorem putSet_pre (sets : List BS) (s : BS) : sets <+: (putSet sets s).2 := by
  unfold putSet
  split
  · exact List.prefix_refl _
  · exact List.prefix_append _ _
theorem rowB_pre (g : Net) (cur : BS) : ∀ (l : List Snd) (sets : List BS), sets <+: (rowB g cur l sets).2
  | [], sets => List.prefix_refl _
  | x :: l, sets => by simp only [rowB]; exact (putSet_pre _ _).trans (rowB_pre g cur l _)
theorem rowB_take_pre (g : Net) (cur : BS) (xs : List Snd) (k : Nat) (sets : List BS) : (rowB g cur (xs.take k) sets).2 <+: (rowB g cur xs sets).2 := by
  have h : ∀ (l m : List Snd) (sets : List BS), (rowB g cur l sets).2 <+: (rowB g cur (l ++ m) sets).2 := fun l => by
    induction l with
    | nil => intro m sets; exact rowB_pre g cur m sets
    | cons x l ih => intro m sets; simp only [List.cons_append, rowB]; exact ih m _
  have := h (xs.take k) (xs.drop k) sets
  rwa [List.take_append_drop] at this
theorem putSet_some {sets : List BS} {s : BS} {n : Nat} (h : numAt sets s = some n) : putSet sets s = (n, sets) := by unfold putSet; rw [h]
theorem putSet_none {sets : List BS} {s : BS} (h : numAt sets s = none) : putSet sets s = (sets.length, sets ++ [s]) := by unfold putSet; rw [h]
theorem numAt_lt {sets : List BS} {s : BS} {n : Nat} (h : numAt sets s = some n) : n < sets.length := by
  unfold numAt at h
  split at h
  · rename_i hm
    cases h
    have := List.idxOf_lt_length_iff.2 hm
    rw [List.length_drop] at this; omega
  · cases h
theorem numAt_snoc {sets : List BS} {s : BS} (h0 : sets ≠ []) (h : numAt sets s = none) (y : BS) : numAt (sets ++ [s]) y = if y = s then some sets.length else numAt sets y := by
  cases sets with
  | nil => exact absurd rfl h0
  | cons c l =>
    unfold numAt at h ⊢
    simp only [List.drop_succ_cons, List.drop_zero, List.cons_append, List.length_cons] at h ⊢
    by_cases hs : s ∈ l
    · rw [if_pos hs] at h; cases h
    · by_cases e : y = s
      · subst e
        rw [if_pos (by simp), if_pos rfl, List.idxOf_append, if_neg hs]; simp
      · by_cases hy : y ∈ l
        · rw [if_pos (by simp [hy]), if_neg e, if_pos hy, List.idxOf_append, if_pos hy]
        · rw [if_neg (by simp [hy, e]), if_neg e, if_neg hy]
/-! ### Build -/
structure BSt where
  sets : List BS
  next : List (List Nat)
  fin : List Bool
def buildN (g : Net) (xs : List Snd) (goal : Nat) (first : BS) : Nat → BSt
  | 0 => ⟨[first], [], []⟩
  | i + 1 => let st := buildN g xs goal first i; let cur := st.sets.getD i []; let r := rowB g cur xs st.sets
    ⟨r.2, st.next ++ [r.1], st.fin ++ [(spreadM g cur (i == 0) true).getD goal false]⟩
/-- The first set. -/
def firstB (g : Net) : BS := spreadM g ((List.replicate g.length false).set 0 true) true false
theorem buildN_pre (g : Net) (xs : List Snd) (goal : Nat) (first : BS) {i j : Nat} (h : i ≤ j) : (buildN g xs goal first i).sets <+: (buildN g xs goal first j).sets := by
  induction j with
  | zero => rw [show i = 0 by omega]; exact List.prefix_refl _
  | succ j ih =>
    rcases Nat.lt_or_ge i (j + 1) with h1 | h1
    · exact (ih (by omega)).trans (by simp only [buildN]; exact rowB_pre _ _ _ _)
    · rw [show i = j + 1 by omega]; exact List.prefix_refl _
theorem buildN_ne (g : Net) (xs : List Snd) (goal : Nat) (first : BS) (i : Nat) : (buildN g xs goal first i).sets ≠ [] := by
  have h := buildN_pre g xs goal first (Nat.zero_le i)
  intro e
  rw [e] at h
  have := h.length_le
  simp [buildN] at this
theorem buildN_next (g : Net) (xs : List Snd) (goal : Nat) (first : BS) : ∀ i, (buildN g xs goal first i).next.length = i ∧ (buildN g xs goal first i).fin.length = i
  | 0 => ⟨rfl, rfl⟩
  | i + 1 => by
    obtain ⟨h1, h2⟩ := buildN_next g xs goal first i
    simp only [buildN, List.length_append, List.length_singleton, h1, h2, and_self]
/-! ### The automaton -/
structure Au where
  snd : List Snd
  next : List (List Nat)
  fin : List Bool
/-- A row of eight numbers. -/
def RE.enc (r : List Nat) : List Value := (List.range 8).map fun i => .int .i64 ((r.getD i 0 : Nat) : Int)
theorem RE.len (r : List Nat) : (RE.enc r).length = 8 := by simp [RE.enc]
theorem RE.one (r : List Nat) : ∀ u ∈ RE.enc r, u.oneCell' = true := by
  intro u hu
  obtain ⟨i, _, rfl⟩ := List.mem_map.1 hu
  rfl
theorem RE.at (r : List Nat) {i : Nat} (hi : i < 8) : (RE.enc r)[i]? = some (.int .i64 ((r.getD i 0 : Nat) : Int)) := by
  unfold RE.enc
  rw [List.getElem?_map, List.getElem?_range hi]; rfl
/-! ### least -/
def key9 (n : Nat) (A : Au) (cls : List Nat) (s : Nat) : List Nat := cls.getD s 0 :: (List.range 8).map fun i => if i < n then cls.getD ((A.next.getD s []).getD i 0) 0 else 0
def putKey (ks : List (List Nat)) (k : List Nat) : Nat × List (List Nat) := if k ∈ ks then (ks.idxOf k, ks) else (ks.length, ks ++ [k])
def numKeys : List (List Nat) → List (List Nat) → List Nat × List (List Nat)
  | [], ks => ([], ks)
  | k :: r, ks => let p := putKey ks k; let t := numKeys r p.2; (p.1 :: t.1, t.2)
theorem numKeys_snoc (k : List Nat) : ∀ (l ks : List (List Nat)), numKeys (l ++ [k]) ks = ((numKeys l ks).1 ++ [(putKey (numKeys l ks).2 k).1], (putKey (numKeys l ks).2 k).2)
  | [], ks => by simp [numKeys]
  | x :: l, ks => by simp only [List.cons_append, numKeys]; rw [numKeys_snoc k l]
theorem numKeys_len : ∀ (l ks : List (List Nat)), (numKeys l ks).1.length = l.length
  | [], ks => rfl
  | x :: l, ks => by simp only [numKeys, List.length_cons]; rw [numKeys_len l]
theorem putKey_le (ks : List (List Nat)) (k : List Nat) : (putKey ks k).1 < (putKey ks k).2.length ∧ ks.length ≤ (putKey ks k).2.length ∧ (putKey ks k).2.length ≤ ks.length + 1 := by
  unfold putKey
  split
  · rename_i h; exact ⟨List.idxOf_lt_length_iff.2 h, Nat.le_refl _, Nat.le_succ _⟩
  · simp
theorem numKeys_lt : ∀ (l ks : List (List Nat)), (∀ x ∈ (numKeys l ks).1, x < (numKeys l ks).2.length) ∧ ks.length ≤ (numKeys l ks).2.length ∧ (numKeys l ks).2.length ≤ ks.length + l.length
  | [], ks => by simp [numKeys]
  | k :: l, ks => by
    obtain ⟨h1, h2, h3⟩ := numKeys_lt l (putKey ks k).2
    obtain ⟨p1, p2, p3⟩ := putKey_le ks k
    simp only [numKeys, List.length_cons]
    refine ⟨fun x hx => ?_, by omega, by omega⟩
    rcases List.mem_cons.1 hx with rfl | hx
    · omega
    · exact h1 x hx
/-- All keys of a round. -/
def keysOf (A : Au) (cls : List Nat) : List (List Nat) := (List.range A.next.length).map fun s => key9 A.snd.length A cls s
def stepK (A : Au) (cls : List Nat) : List Nat × List (List Nat) := numKeys (keysOf A cls) []
/-- The classes and their number, after some rounds. -/
def cls0 (A : Au) : List Nat := A.fin.map fun b => if b != A.fin.getD 0 false then 1 else 0
def cnt0 (A : Au) : Nat := if A.fin.any (fun b => b != A.fin.getD 0 false) then 2 else 1
def clsN (A : Au) : Nat → List Nat × Nat
  | 0 => (cls0 A, cnt0 A)
  | j + 1 => let r := stepK A (clsN A j).1; (r.1, r.2.length)
/-- The rounds of least end behind round J. -/
def LeastAt (A : Au) (J : Nat) : Prop := (clsN A (J + 1)).2 = (clsN A J).2 ∧ ∀ j, j < J → (clsN A (j + 1)).2 ≠ (clsN A j).2
theorem clsN_len (A : Au) (h : A.fin.length = A.next.length) : ∀ j, (clsN A j).1.length = A.next.length
  | 0 => by simp [clsN, cls0, h]
  | j + 1 => by simp only [clsN, stepK]; rw [numKeys_len]; simp [keysOf]
theorem clsN_lt (A : Au) (j : Nat) : ∀ x ∈ (clsN A (j + 1)).1, x < (clsN A (j + 1)).2 := by
  simp only [clsN, stepK]; exact (numKeys_lt _ _).1
theorem clsN_le (A : Au) (j : Nat) : (clsN A (j + 1)).2 ≤ A.next.length := by
  have := (numKeys_lt (keysOf A (clsN A j).1) []).2.2
  simp only [clsN, stepK]
  simpa [keysOf] using this
/-- The new rows: for each state its class's row is written. -/
def rowSet (n : Nat) (v : Nat → Nat) (r : List Nat) : List Nat := (List.range n).foldl (fun r i => r.set i (v i)) r
theorem rowSet_succ (n : Nat) (v : Nat → Nat) (r : List Nat) : rowSet (n + 1) v r = (rowSet n v r).set n (v n) := by
  unfold rowSet; rw [List.range_succ, List.foldl_append]; rfl
def outTo (A : Au) (cls : List Nat) (C : Nat) : Nat → List (List Nat) × List Bool
  | 0 => (List.replicate C (List.replicate 8 0), List.replicate C false)
  | s + 1 => let o := outTo A cls C s; let c := cls.getD s 0
    (o.1.set c (rowSet A.snd.length (fun i => cls.getD ((A.next.getD s []).getD i 0) 0) (o.1.getD c [])), o.2.set c (A.fin.getD s false))
def leastM (A : Au) (J : Nat) : Au := let o := outTo A (clsN A (J + 1)).1 (clsN A J).2 A.next.length; ⟨A.snd, o.1, o.2⟩
theorem outTo_len (A : Au) (cls : List Nat) (C : Nat) : ∀ s, (outTo A cls C s).1.length = C ∧ (outTo A cls C s).2.length = C
  | 0 => by simp [outTo]
  | s + 1 => by have := outTo_len A cls C s; simp [outTo, this]
/-- All that a state's row names is a state. -/
def Au.okB (A : Au) : Bool := decide (A.snd.length ≤ 8) && (decide (A.fin.length = A.next.length) && A.next.all fun r => (List.range A.snd.length).all fun i => decide (r.getD i 0 < A.next.length))
theorem Au.ok_at {A : Au} (h : A.okB = true) : A.snd.length ≤ 8 ∧ A.fin.length = A.next.length ∧ ∀ (s : Nat) (r : List Nat), A.next[s]? = some r → ∀ i, i < A.snd.length → r.getD i 0 < A.next.length := by
  simp only [Au.okB, Bool.and_eq_true, decide_eq_true_eq, List.all_eq_true] at h
  exact ⟨h.1, h.2.1, fun s r hr i hi => h.2.2 r (List.mem_of_getElem? hr) i (by simpa using hi)⟩
end Go.Proofs.YtadncjpknckaaaaGreatDoor
namespace Go.Proofs.YtadncjpknckaaaaGreatDoor
open Go.RowKit
/-! ### Data -/
/-- The header of a word, and its sounds. -/
structure HS where
  a : Option Addr
  n : Nat
  cap : Nat
  x : List Snd
def HS.enc (h : HS) : List Value := [.slice h.a h.n h.cap]
theorem HS.len (h : HS) : (HS.enc h).length = 1 := rfl
theorem HS.one (h : HS) : ∀ u ∈ HS.enc h, u.oneCell' = true := by intro u hu; simp [HS.enc] at hu; subst hu; rfl
structure RdW (w : World) (a : Option Addr) (n cap : Nat) (hs : List HS) : Prop where
  rd : RdK 1 HS.enc w a n cap hs
  ok : ∀ h ∈ hs, RdS w h.a h.n h.cap h.x
theorem RdW.ext {w w' : World} {a : Option Addr} {n cap : Nat} {hs : List HS} (h : RdW w a n cap hs) (hx : Ext w w') : RdW w' a n cap hs := ⟨h.rd.ext hx, fun y hy => (h.ok y hy).ext hx⟩
theorem RdW.at {w : World} {a : Option Addr} {n cap : Nat} {hs : List HS} (h : RdW w a n cap hs) {i : Nat} (hi : i < n) :
    ∃ b off y, a = some ⟨b, off, none⟩ ∧ Hid (hs[i]? = some y) ∧ b < w.heap.size ∧ w.cell? ⟨b, off + i, none⟩ = some (.slice y.a y.n y.cap) ∧ RdS w y.a y.n y.cap y.x := by
  obtain ⟨b, off, x, ha, hx, hb, hc⟩ := h.rd.get hi
  exact ⟨b, off, x, ha, hx, hb, by have := hc 0 _ rfl; simpa using this, h.ok x (List.mem_of_getElem? hx.out)⟩
/-- The header of a column, and its numbers. -/
structure HI where
  a : Option Addr
  n : Nat
  cap : Nat
  x : List Int
def HI.enc (h : HI) : List Value := [.slice h.a h.n h.cap]
theorem HI.len (h : HI) : (HI.enc h).length = 1 := rfl
structure RdN2 (w : World) (a : Option Addr) (n cap : Nat) (hs : List HI) : Prop where
  rd : RdK 1 HI.enc w a n cap hs
  ok : ∀ h ∈ hs, RdI w h.a h.n h.cap h.x
theorem RdN2.ext {w w' : World} {a : Option Addr} {n cap : Nat} {hs : List HI} (h : RdN2 w a n cap hs) (hx : Ext w w') : RdN2 w' a n cap hs := ⟨h.rd.ext hx, fun y hy => (h.ok y hy).ext hx⟩
theorem RdN2.at {w : World} {a : Option Addr} {n cap : Nat} {hs : List HI} (h : RdN2 w a n cap hs) {i : Nat} (hi : i < n) :
    ∃ b off y, a = some ⟨b, off, none⟩ ∧ Hid (hs[i]? = some y) ∧ b < w.heap.size ∧ w.cell? ⟨b, off + i, none⟩ = some (.slice y.a y.n y.cap) ∧ RdI w y.a y.n y.cap y.x := by
  obtain ⟨b, off, x, ha, hx, hb, hc⟩ := h.rd.get hi
  exact ⟨b, off, x, ha, hx, hb, by have := hc 0 _ rfl; simpa using this, h.ok x (List.mem_of_getElem? hx.out)⟩
/-- A form: is it known, the header of its word, and its sounds. -/
structure HF where
  has : Bool
  a : Option Addr
  n : Nat
  cap : Nat
  x : List Snd
def HF.enc (h : HF) : List Value := [.bool h.has, .slice h.a h.n h.cap]
theorem HF.len (h : HF) : (HF.enc h).length = 2 := rfl
structure RdF (w : World) (a : Option Addr) (n cap : Nat) (hs : List HF) : Prop where
  rd : RdK 2 HF.enc w a n cap hs
  ok : ∀ h ∈ hs, RdS w h.a h.n h.cap h.x
theorem RdF.ext {w w' : World} {a : Option Addr} {n cap : Nat} {hs : List HF} (h : RdF w a n cap hs) (hx : Ext w w') : RdF w' a n cap hs := ⟨h.rd.ext hx, fun y hy => (h.ok y hy).ext hx⟩
theorem RdF.at {w : World} {a : Option Addr} {n cap : Nat} {hs : List HF} (h : RdF w a n cap hs) {i : Nat} (hi : i < n) :
    ∃ b off y, a = some ⟨b, off, none⟩ ∧ Hid (hs[i]? = some y) ∧ b < w.heap.size ∧ w.cell? ⟨b, off + i * 2, none⟩ = some (.bool y.has) ∧ w.cell? ⟨b, off + i * 2 + 1, none⟩ = some (.slice y.a y.n y.cap) ∧ RdS w y.a y.n y.cap y.x := by
  obtain ⟨b, off, x, ha, hx, hb, hc⟩ := h.rd.get hi
  exact ⟨b, off, x, ha, hx, hb, by simpa using hc 0 _ rfl, hc 1 _ rfl, h.ok x (List.mem_of_getElem? hx.out)⟩
/-! ### word.valid, word.Check -/
theorem wvalid_any (s : Snd) (w : World) :
    Calls Tryz.prog 60 #[.agg #[.int .u32 s.p.toNat, .int .u32 s.m.toNat]] w fun e w' => e = .returned (.bool s.ok) ∧ Ext w w' := by
  go_enter Tryz.func60, Tryz.ntmps60
  go_wp2
  · rename_i h
    go_ret
    exact ⟨ret_bool (by simp only [Snd.ok, h, div24]; simp), Ext.alloc1 _ _⟩
  · rename_i h
    go_ret
    exact ⟨ret_bool (by simp [Snd.ok, h]), Ext.alloc1 _ _⟩
theorem or_lt24 (a b : Nat) : (a ||| b < 16777216) ↔ a < 16777216 ∧ b < 16777216 := by
  refine ⟨fun h => ⟨Nat.lt_of_le_of_lt Nat.left_le_or h, Nat.lt_of_le_of_lt Nat.right_le_or h⟩, fun h => ?_⟩
  exact Nat.or_lt_two_pow (n := 24) h.1 h.2
theorem dec24 (x : Nat) : decide ((x : Int) < 16777216) = decide (x < 16777216) := by
  rw [Bool.eq_iff_iff]; simp only [decide_eq_true_eq]; omega
/-- Check as a function on lists of sounds. -/
def checkS (xs : List Snd) : Int := if 32 < xs.length then 11 else if xs.all Snd.ok then 0 else 14
theorem checkS_long {xs : List Snd} (h : 32 < xs.length) : checkS xs = 11 := by simp [checkS, h]
theorem checkS_ok {xs : List Snd} (h : xs.length ≤ 32) (ha : ∀ (i : Nat) (x : Snd), xs[i]? = some x → x.ok = true) : checkS xs = 0 := by
  rw [checkS, if_neg (by omega), if_pos]; rw [List.all_eq_true]; intro x hx
  obtain ⟨i, hi⟩ := List.getElem?_of_mem hx; exact ha i x hi
theorem checkS_bad {xs : List Snd} {i : Nat} {x : Snd} (h : xs.length ≤ 32) (hi : xs[i]? = some x) (hx : x.ok = false) : checkS xs = 14 := by
  rw [checkS, if_neg (by omega), if_neg]; intro ha; rw [List.all_eq_true] at ha
  rw [ha x (List.mem_of_getElem? hi)] at hx; cases hx
theorem checkS_zero {xs : List Snd} (h : checkS xs = 0) : xs.length ≤ 32 ∧ ∀ x ∈ xs, x.ok = true := by
  unfold checkS at h
  split at h
  · cases h
  · split at h
    · rename_i h1 h2; exact ⟨by omega, List.all_eq_true.1 h2⟩
    · cases h
theorem wcheck_any (a : Option Addr) (n cap : Nat) (xs : List Snd) (w : World) (hr : RdS w a n cap xs) :
    Calls Tryz.prog 43 #[.slice a n cap] w fun e w' => e = .returned (.int .i64 (checkS xs)) ∧ Ext w w' := by
    have hmax : n ≤ 9223372036854775807 := by have := hr.le; have := hr.most; unfold maxLen at this; omega
    by_cases h : 32 < n
    · go_enter Tryz.func43, Tryz.ntmps43
      go_wp2_with fail
      go_ret
      exact ⟨ret_int (checkS_long (by rw [hr.len]; exact h)).symm, Ext.refl _⟩
    · have h' : n ≤ 32 := by omega
      go_enter Tryz.func43, Tryz.ntmps43
      go_wp2_with fail
      go_loopw [10] (fun i wr => ∃ k : Nat, k ≤ n ∧ i = .int .i64 k ∧ Ext w wr ∧ Hid (∀ (i : Nat) (x : Snd), i < k → xs[i]? = some x → x.ok = true)) (fun i _ => n - (intOf i).toNat)
      case atStart => exact ⟨0, Nat.zero_le _, rfl, Ext.refl _, fun i x hi => absurd hi (Nat.not_lt_zero _)⟩
      case round =>
        obtain ⟨k, hk, rfl, hx, hall⟩ := hrel
        by_cases hlt : k < n
        · obtain ⟨b, off, s, rfl, hs, hb, hc0, hc1⟩ := (hr.ext hx).snd hlt
          cases hok : s.ok
          · go_wp2_with (go_at_call 60; refine (wvalid_any s _).mono ?_; rintro e w1 ⟨rfl, hx1⟩)
            go_ret
            exact ⟨ret_int (checkS_bad (by rw [hr.len]; exact h') hs hok).symm, (by repeat (first | exact Ext.refl _ | assumption | refine Ext.drew ?_ | refine Ext.drewN ?_ _ | refine Ext.alloc ?_ _ | refine Ext.trans ?_ (by assumption)))⟩
          · go_wp2_with (go_at_call 60; refine (wvalid_any s _).mono ?_; rintro e w1 ⟨rfl, hx1⟩)
            (first | exact ⟨⟨k + 1, by omega, by go_num, (by repeat (first | exact Ext.refl _ | assumption | refine Ext.drew ?_ | refine Ext.drewN ?_ _ | refine Ext.alloc ?_ _ | refine Ext.trans ?_ (by assumption))), all_succ hall hs hok⟩, (by simp [intOf]; omega)⟩ | (go_roundw; case rel => exact ⟨k + 1, by omega, by go_num, (by repeat (first | exact Ext.refl _ | assumption | refine Ext.drew ?_ | refine Ext.drewN ?_ _ | refine Ext.alloc ?_ _ | refine Ext.trans ?_ (by assumption))), all_succ hall hs hok⟩; case measure => exact (by simp [intOf]; omega)))
        · go_wp2_with fail
          go_ret
          exact ⟨ret_int (checkS_ok (by rw [hr.len]; exact h') (fun i x hi => hall i x (by have := (List.getElem?_eq_some_iff.1 hi).1; have := hr.len; omega) hi)).symm, hx⟩
/-! ### words -/
/-- The first error of words. -/
def firstE : List HS → Int
  | [] => 0
  | y :: l => if checkS y.x ≠ 0 then checkS y.x else firstE l
def wordsE (l : List HS) : Int := if 8 < l.length then 12 else firstE l
theorem drop_cons' {α : Type} : ∀ {l : List α} {k : Nat} {y : α}, l[k]? = some y → l.drop k = y :: l.drop (k + 1)
  | [], _, _, h => by simp at h
  | x :: l, 0, y, h => by simp at h; subst h; rfl
  | x :: l, k + 1, y, h => by
    have := drop_cons' (l := l) (k := k) (by simpa using h)
    simpa using this
theorem firstE_drop {l : List HS} {i : Nat} {y : HS} (h : l[i]? = some y) : firstE (l.drop i) = if checkS y.x ≠ 0 then checkS y.x else firstE (l.drop (i + 1)) := by
  rw [drop_cons' h]; rfl
theorem firstE_zero : ∀ {l : List HS}, firstE l = 0 → ∀ y ∈ l, checkS y.x = 0
  | [], _, y, hy => by cases hy
  | z :: l, h, y, hy => by
    unfold firstE at h
    split at h
    · rename_i h1; exact absurd h h1
    · rename_i h1
      rcases List.mem_cons.1 hy with rfl | hy
      · simpa using h1
      · exact firstE_zero h y hy
end Go.Proofs.YtadncjpknckaaaaGreatDoor
namespace Go.Proofs.YtadncjpknckaaaaGreatDoor
open Go.RowKit
theorem seq_any (a a' : Option Addr) (n cap n' cap' : Nat) (xs ys : List Snd) (w : World) (hr : RdS w a n cap xs) (hr' : RdS w a' n' cap' ys) :
    Calls Tryz.prog 19 #[.slice a n cap, .slice a' n' cap'] w fun e w' => e = .returned (.bool (decide (xs = ys))) ∧ Ext w w' := by
  have hmax : n ≤ 9223372036854775807 := by have := hr.le; have := hr.most; unfold maxLen at this; omega
  have hmax' : n' ≤ 9223372036854775807 := by have := hr'.le; have := hr'.most; unfold maxLen at this; omega
  by_cases h : n = n'
  · subst h
    have hb0 : ((n : Int) != (n : Int)) = false := by simp
    have hne := neq_snd
    go_enter Tryz.func19, Tryz.ntmps19
    go_wp2_with fail
    go_loopw [13] (fun i wr => ∃ k : Nat, k ≤ n ∧ i = .int .i64 k ∧ Ext w wr ∧ Hid (xs.take k = ys.take k)) (fun i _ => n - (intOf i).toNat)
    case atStart => exact ⟨0, Nat.zero_le _, rfl, Ext.refl _, rfl⟩
    case round =>
      obtain ⟨k, hk, rfl, hx, hall⟩ := hrel
      by_cases hlt : k < n
      · obtain ⟨b, off, s, rfl, hs, hb, hc0, hc1⟩ := (hr.ext hx).snd hlt
        obtain ⟨b', off', s', rfl, hs', hb', hc0', hc1'⟩ := (hr'.ext hx).snd hlt
        by_cases hst : s = s'
        · subst hst
          go_wp2_with fail
          go_quiet (fail)
          go_wp2_with fail
          (first | exact ⟨⟨k + 1, by omega, by go_num, (by repeat (first | exact Ext.refl _ | assumption | refine Ext.drew ?_ | refine Ext.drewN ?_ _ | refine Ext.alloc ?_ _ | refine Ext.trans ?_ (by assumption))), eq_succ hall hs hs'⟩, (by simp [intOf]; omega)⟩ | (go_roundw; case rel => exact ⟨k + 1, by omega, by go_num, (by repeat (first | exact Ext.refl _ | assumption | refine Ext.drew ?_ | refine Ext.drewN ?_ _ | refine Ext.alloc ?_ _ | refine Ext.trans ?_ (by assumption))), eq_succ hall hs hs'⟩; case measure => exact (by simp [intOf]; omega)))
        · have hd : decide (s = s') = false := by simpa using hst
          go_wp2_with fail
          go_quiet (fail)
          go_wp2_with fail
          go_ret
          exact ⟨ret_bool (by simpa using ne_at hs hs' hst), (by repeat (first | exact Ext.refl _ | assumption | refine Ext.drew ?_ | refine Ext.drewN ?_ _ | refine Ext.alloc ?_ _ | refine Ext.trans ?_ (by assumption)))⟩
      · go_wp2_with fail
        go_ret
        exact ⟨ret_bool (by simpa using eq_end hr.len hr'.len hlt hall), hx⟩
  · have hb0 : ((n : Int) != (n' : Int)) = true := by simp; omega
    go_enter Tryz.func19, Tryz.ntmps19
    go_wp2_with fail
    go_ret
    exact ⟨ret_bool (by simpa using ne_len hr.len hr'.len h), Ext.refl _⟩
theorem wequal_any (a a' : Option Addr) (n cap n' cap' : Nat) (xs ys : List Snd) (w : World) (hr : RdS w a n cap xs) (hr' : RdS w a' n' cap' ys) :
    Calls Tryz.prog 9 #[.slice a n cap, .slice a' n' cap'] w fun e w' => e = .returned (.bool (decide (xs = ys))) ∧ Ext w w' := by
  go_enter Tryz.func9, Tryz.ntmps9
  go_wp2_with (go_at_call 19; refine (seq_any _ _ _ _ _ _ xs ys _ hr hr').mono ?_; rintro e w1 ⟨rfl, hx1⟩)
  go_ret
  exact ⟨rfl, hx1⟩
theorem elem_snds : Tryz.prog.underlying 40 = some (.slice (Tryz.prog.elem 40)) := by kernel_rfl
theorem size_snds (w : World) : (sizeOf (Tryz.prog.elem 40)).run Tryz.prog w = .ok 2 w := by kernel_rfl
theorem take_snoc_at {α : Type} {xs : List α} {k : Nat} {s : α} (h : xs[k]? = some s) : xs.take k ++ [s] = xs.take (k + 1) := by rw [List.take_add_one, h]; rfl
theorem grow_any (n : Nat) (hn : n ≤ 60000) (w : World) : Calls Tryz.prog 82 #[.slice none 0 0, .int .i64 n] w (RetS [] w) := by
  by_cases h0 : n = 0
  · subst h0
    go_enter Tryz.func82, Tryz.ntmps82
    go_wp2_with fail
    go_ret
    exact ⟨_, rfl, OwnK.nil _ _ _, Ext.refl _⟩
  · obtain ⟨i, hi, hz0, hz1, hz2⟩ := info_parts info_snd
    have hsl := run_sub_0 (P := Tryz.prog) elem_snds size_snds
    have hpos : 0 < n := by omega
    have hneg : decide ((n : Int) < 0) = false := by simp
    have hgt : decide (0 < n) = true := by simpa using hpos
    clear h0
    have Hi := Lib.hid hi; have Hz0 := Lib.hid hz0; have Hz1 := Lib.hid hz1; have Hz2 := Lib.hid hz2; clear hi hz0 hz1 hz2
    go_enter Tryz.func82, Tryz.ntmps82
    go_wp2_with (at_builtin; refine wpList_grow rfl _ _ 40 3 52 rfl i _ 2 8 Tryz.underlying40 Tryz.underlying3 Hi.out Hz0.out Hz1.out Hz2.out rfl (by decide) n hpos hn (by decide) rfl rfl ?_)
    go_ret
    exact ⟨_, rfl, grown_own (k := 2) (enc := Snd.enc) w 52 (.agg #[.int .u32 0, .int .u32 0]) rfl n hn, (Ext.refl w).drew.alloc _⟩
theorem flat_at {ws : List (List Snd)} {k : Nat} {x : List Snd} (h : ws[k]? = some x) : (ws.take k).flatten ++ x = (ws.take (k + 1)).flatten := by
  rw [← take_snoc_at h]; simp
theorem flat_le (ws : List (List Snd)) (k : Nat) : (ws.take k).flatten.length ≤ ws.flatten.length := by
  have h : ws.flatten = (ws.take k).flatten ++ (ws.drop k).flatten := by rw [← List.flatten_append, List.take_append_drop]
  rw [h, List.length_append]; omega
theorem flat_len {ws : List (List Snd)} {k : Nat} {x : List Snd} (h : ws[k]? = some x) : (ws.take (k + 1)).flatten.length = (ws.take k).flatten.length + x.length := by
  rw [← flat_at h]; simp
theorem concat_any (a : Option Addr) (n cap : Nat) (ws : List (List Snd)) (w : World) (hr : RdWs w a n cap ws) (hn : n ≤ 60000) (hf : ws.flatten.length ≤ 60000) :
    Calls Tryz.prog 67 #[.slice a n cap] w (RetS ws.flatten w) := by
  go_enter Tryz.func67, Tryz.ntmps67
  go_wp2_with fail
  go_loopw [3, 11] (fun s i wr => ∃ k m : Nat, k ≤ n ∧ i = .int .i64 k ∧ s = .int .i64 m ∧ Ext w wr ∧ m ≤ 60000 ∧ Hid (m = (ws.take k).flatten.length)) (fun _ i _ => n - (intOf i).toNat)
  case atStart => exact ⟨0, 0, Nat.zero_le _, rfl, rfl, Ext.refl _, Nat.zero_le _, by simp [Hid]⟩
  case round =>
    obtain ⟨k, m, hk, rfl, rfl, hx, hm, hall⟩ := hrel
    by_cases hlt : k < n
    · obtain ⟨b, off, v, x, rfl, hs, hb, hc0, a1, n1, cap1, rfl, hr1⟩ := (RdWs.ext hr hx).at hlt
      have hle := flat_le ws (k + 1)
      rw [flat_len hs, hr1.len, ← hall.out] at hle
      have hlen := Lib.hid (flat_len hs)
      have hmm : m + n1 ≤ 60000 := by omega
      have hneg : decide ((m : Int) + (n1 : Int) < 0) = false := by simp; omega
      clear hle
      go_wp2_with fail
      (first | exact ⟨⟨k + 1, m + n1, by omega, by go_num, by go_num, (by repeat (first | exact Ext.refl _ | assumption | refine Ext.drew ?_ | refine Ext.drewN ?_ _ | refine Ext.alloc ?_ _ | refine Ext.trans ?_ (by assumption))), by omega, by show _ = _; rw [hlen.out, hr1.len, hall.out]⟩, (by simp [intOf]; omega)⟩ | (go_roundw; case rel => exact ⟨k + 1, m + n1, by omega, by go_num, by go_num, (by repeat (first | exact Ext.refl _ | assumption | refine Ext.drew ?_ | refine Ext.drewN ?_ _ | refine Ext.alloc ?_ _ | refine Ext.trans ?_ (by assumption))), by omega, by show _ = _; rw [hlen.out, hr1.len, hall.out]⟩; case measure => exact (by simp [intOf]; omega)))
    · have hmf := Lib.hid hall.out
      go_wp2_with (first | (go_at_call 82; refine (grow_any m hm _).mono ?_; rintro e w1 ⟨v1, rfl, ho1, hx1⟩))
      have hx1' : Ext w w1 := hx.trans hx1
      have ho1' : OwnS w.heap.size 52 w1 v1 [] := ho1.base hx.le
      go_loopw [6, 27] (fun v i wr => ∃ k : Nat, k ≤ n ∧ i = .int .i64 k ∧ Ext w wr ∧ OwnS w.heap.size 52 wr v (ws.take k).flatten) (fun _ i _ => n - (intOf i).toNat)
      case atStart => exact ⟨0, Nat.zero_le _, rfl, hx1', by simpa using ho1'⟩
      case round =>
        obtain ⟨k2, hk2, rfl, hx2, hown⟩ := hrel
        by_cases hlt2 : k2 < n
        · obtain ⟨b, off, v, x, rfl, hs, hb, hc0, a1, n1, cap1, rfl, hr1⟩ := (RdWs.ext hr hx2).at hlt2
          have hle := flat_le ws (k2 + 1)
          rw [flat_len hs, hr1.len] at hle
          have Hle := Lib.hid hle; clear hle
          go_wp2_with (at_builtin; refine wp_appN w wr x rfl _ _ 40 rfl 52 Tryz.underlying40 info_snd rfl (by decide) _ _ rfl hown hx2 a1 n1 cap1 rfl hr1 Snd.len Snd.one (by have := Hle.out; omega) (by have := Hle.out; unfold maxLen; omega) ?_; intro v' w2 hown1 hx3 _)
          (first | exact ⟨⟨k2 + 1, by omega, by go_num, hx3, by rw [flat_at hs] at hown1; exact hown1⟩, (by simp [intOf]; omega)⟩ | (go_roundw; case rel => exact ⟨k2 + 1, by omega, by go_num, hx3, by rw [flat_at hs] at hown1; exact hown1⟩; case measure => exact (by simp [intOf]; omega)))
        · go_wp2_with fail
          go_ret
          exact ⟨_, rfl, by rw [List.take_of_length_le (by rw [hr.len]; omega)] at hown; exact hown, hx2⟩
end Go.Proofs.YtadncjpknckaaaaGreatDoor
