/-
  Columns of ints: Clone, Insert behind the last one, the first two steps.
  slices.Repeat of one gap; the third step.
  multi: the third step; the column that a step makes.
  multi: what a column costs.
-/
import Derived.Test.YtjfhfbobnncpkaaDoorEb
import Derived.Laws.CopyOwn
import Derived.BigRegion
import Derived.Test.YtjfhfbobnncpkaaDoorOh
import Derived.Laws.EntriesVeiled
import Derived.Test.YtjfhfbobnncpkaaDoorFd
namespace Go.Proofs.YtjfhfbobnncpkaaDoor
open Go.RowKit
def RetI (xs : List Int) (w : World) (e : Ending) (w' : World) : Prop := ∃ v, e = .returned v ∧ OwnI w.heap.size 3 w' v xs ∧ Ext w w'
theorem cloneI_any (a : Option Addr) (n cap : Nat) (xs : List Int) (w : World) (hr : RdI w a n cap xs) (hn : n ≤ 60000) :
    Calls Tryd.prog 95 #[.slice a n cap] w (RetI xs w) := by
  cases a with
  | none =>
    have hc := hr.isnil rfl
    have h0 : n = 0 := by have := hr.le; omega
    subst h0; subst hc
    have hx : xs = [] := List.eq_nil_of_length_eq_zero hr.len
    subst hx
    have he := fun w => Lib.run_eql_slice_nil (P := Tryd.prog) w 28 3 Option.none 0 0 0 0 Tryd.underlying28
    go_enter Tryd.func95, Tryd.ntmps95
    go_wp2_with fail
    go_ret
    exact ⟨_, rfl, OwnK.nil _ _ _, Ext.refl _⟩
  | some ad =>
    have he := fun w => Lib.run_eql_slice_nil (P := Tryd.prog) w 28 3 (some ad) n cap 0 0 Tryd.underlying28
    have h0 : OwnI w.heap.size 3 (w.alloc (.cells #[] 3)) (.slice (some ⟨w.heap.size, 0, Option.none⟩) 0 0) [] := OwnK.base (World.ownsRow_lit w #[] 0 (Nat.le_refl _) (Nat.zero_le _) rfl) (Nat.le_refl _)
    go_enter Tryd.func95, Tryd.ntmps95
    go_wp2_with (at_builtin; refine wp_appN w _ xs rfl _ _ 28 rfl 3 Tryd.underlying28 info_int1 rfl (by decide) _ _ rfl h0 (Ext.alloc1 _ _) (some ad) n cap rfl (hr.ext (Ext.alloc1 _ _)) I64.len I64.one (by simp; omega) (by unfold maxLen; simp; omega) ?_; intro v' w1 hown1 hx1 _)
    go_ret
    exact ⟨_, rfl, hown1, hx1⟩
theorem ins_any (w00 w0 : World) (a : Option Addr) (n cap : Nat) (xs : List Int) (x : Int) (hown : OwnI w00.heap.size 3 w0 (.slice a n cap) xs) (hx0 : Ext w00 w0) (hn : n ≤ 60000) :
    Calls Tryd.prog 94 #[.slice a n cap, .int .i64 n, .slice (some ⟨w0.heap.size, 0, none⟩) 1 1] (w0.alloc (.cells #[.int .i64 x] 3)) fun e w' => ∃ v, e = .returned v ∧ OwnI w00.heap.size 3 w' v (xs ++ [x]) ∧ Ext w00 w' := by
  have hr := OwnK.rdc I64.len hown
  have hle := hr.le
  have hm := hr.most
  unfold maxLen at hm
  have hle' : (n : Int) ≤ (cap : Int) := by omega
  have hl := Lib.hid hr.len
  go_enter Tryd.func94, Tryd.ntmps94
  go_wp2_with (at_builtin; refine wp_app1 w00 w0 x rfl _ _ 28 rfl 3 Tryd.underlying28 info_int1 rfl (by decide) _ _ rfl hown hx0 (by first | rfl | (rw [World.size_alloc]; rfl)) (I64.len _) (I64.one _) (by rw [hl.out]; omega) (by unfold maxLen; rw [hl.out]; omega) ?_; intro v5 w10 o5 x5 hgA)
  all_goals (go_ret; exact ⟨_, rfl, o5, x5⟩)
theorem step1_any (a : Option Addr) (n cap : Nat) (xs : List Int) (j : Int) (w : World) (hr : RdI w a n cap xs) (hn : n ≤ 60000) :
    Calls Tryd.prog 93 #[.slice a n cap, .int .i64 n, .int .i64 j] w (RetI (xs ++ [j]) w) := by
  have hcl := fun W (h : RdI W a n cap xs) => cloneI_any a n cap xs W h hn
  go_enter Tryd.func93, Tryd.ntmps93
  go_wp2_with fail
  refine (hcl _ hr).mono ?_
  rintro e w1 ⟨v1, rfl, hown, hx1⟩
  obtain ⟨a1, n1, c1, hn1, rfl, _⟩ := OwnK.rdn I64.len hown
  have hnn : n1 = n := by rw [hn1]; exact hr.len
  subst hnn
  replace hn1 := Lib.hid hn1
  have hin := ins_any w w1 a1 n1 c1 xs j hown hx1 hn
  go_wp2_with fail
  refine hin.mono ?_
  rintro e w2 ⟨v2, rfl, hown2, hx2⟩
  go_wp2_with fail
  go_ret
  exact ⟨_, rfl, hown2, hx2⟩
theorem step2_any (a : Option Addr) (n cap : Nat) (xs : List Int) (j : Int) (w : World) (hr : RdI w a n cap xs) (hn : n ≤ 60000) :
    Calls Tryd.prog 96 #[.slice a n cap, .int .i64 n, .int .i64 j] w (RetI (xs ++ [-1]) w) := by
  have hcl := fun W (h : RdI W a n cap xs) => cloneI_any a n cap xs W h hn
  go_enter Tryd.func96, Tryd.ntmps96
  go_wp2_with fail
  refine (hcl _ hr).mono ?_
  rintro e w1 ⟨v1, rfl, hown, hx1⟩
  obtain ⟨a1, n1, c1, hn1, rfl, _⟩ := OwnK.rdn I64.len hown
  have hnn : n1 = n := by rw [hn1]; exact hr.len
  subst hnn
  replace hn1 := Lib.hid hn1
  have hin := ins_any w w1 a1 n1 c1 xs (-1) hown hx1 hn
  go_wp2_with fail
  refine hin.mono ?_
  rintro e w2 ⟨v2, rfl, hown2, hx2⟩
  go_wp2_with fail
  go_ret
  exact ⟨_, rfl, hown2, hx2⟩
end Go.Proofs.YtjfhfbobnncpkaaDoor
namespace Go.Proofs.YtjfhfbobnncpkaaDoor
open Go.RowKit
theorem mul64_any (K : Int) (w : World) (h : 1 ≤ K ∧ K ≤ 8) :
    Calls Tryd.prog 104 #[.int .u64 1, .int .u64 K] w fun e w' => e = .returned (.tuple #[.int .u64 0, .int .u64 K]) ∧ w' = w := by
  have h : K = 1 ∨ K = 2 ∨ K = 3 ∨ K = 4 ∨ K = 5 ∨ K = 6 ∨ K = 7 ∨ K = 8 := by omega
  rcases h with rfl | rfl | rfl | rfl | rfl | rfl | rfl | rfl
  all_goals
    go_enter Tryd.func104, Tryd.ntmps104
    go_wp2_with fail
    go_ret2
    exact ⟨rfl, rfl⟩
theorem mul_any (K : Int) (w : World) (h : 1 ≤ K ∧ K ≤ 8) :
    Calls Tryd.prog 101 #[.int .u64 1, .int .u64 K] w fun e w' => e = .returned (.tuple #[.int .u64 0, .int .u64 K]) ∧ w' = w := by
  have hm := mul64_any K w h
  replace h := Lib.hid h
  go_enter Tryd.func101, Tryd.ntmps101
  go_wp2_with fail
  refine hm.mono ?_
  rintro e w1 ⟨rfl, rfl⟩
  go_wp2_with fail
  go_ret2
  exact ⟨rfl, rfl⟩
abbrev iV (x : Int) : Value := .int .i64 x
/-- A row of k ints, of which q are gaps. -/
def gapR (k q : Nat) : List Value := List.replicate q (iV (-1)) ++ List.replicate (k - q) (iV 0)
theorem gapR_len {k q : Nat} (h : q ≤ k) : (gapR k q).length = k := by unfold gapR; simp; omega
theorem gapR_splice {k q m : Nat} (_ : q + m ≤ k) : splice (gapR k q) q (List.replicate m (iV (-1))) = gapR k (q + m) := by
  unfold splice gapR
  rw [List.take_left' (by simp), List.length_replicate, ← List.drop_drop, List.drop_left' (by simp), List.drop_replicate, ← List.append_assoc, List.replicate_append_replicate]
  congr 2
  omega
theorem gapR_cell {w : World} {G k q : Nat} (h : w.heap[G]? = some (.cells (gapR k q).toArray 3 (0, 0))) {j : Nat} (hj : j < q) : w.cell? ⟨G, j, none⟩ = some (iV (-1)) := by
  simp only [World.cell?]
  rw [h]
  have : (gapR k q)[j]? = some (iV (-1)) := by
    unfold gapR
    rw [List.getElem?_append_left (by simpa using hj), List.getElem?_replicate, if_pos hj]
  simpa using this
theorem size_int1 : (Tryd.prog.info? 3).map (·.size) = some 1 := by kernel_rfl
theorem own_gap {B G k : Nat} {w : World} (hB : B ≤ G) (hk : k ≤ 60000) (h : w.heap[G]? = some (.cells (gapR k k).toArray 3 (0, 0))) : OwnI B 3 w (.slice (some ⟨G, 0, none⟩) k k) (List.replicate k (-1)) := by
  have hf : (List.replicate k (-1 : Int)).flatMap I64.enc = gapR k k := by
    rw [flat_i64']; unfold gapR; simp
  have hl : (gapR k k).length = k := gapR_len (Nat.le_refl _)
  refine ⟨by rw [hf, hl]; simp, .inr ⟨G, k, _, by simp, hB, h, by simp, by unfold maxLen; omega, ?_, ?_⟩⟩
  · simp [hl]
  · rw [hf]; simp only [Nat.mul_one]; exact List.take_of_length_le (by rw [hl]; simp)
theorem add_none' (b o j : Nat) : (⟨b, o, none⟩ : Addr).add j = ⟨b, o + j, none⟩ := by
  unfold Addr.add
  split
  · rename_i h; subst h; rfl
  · rfl
/-- The walk stands still at a copy. -/
structure Stop (p : Prop) : Prop where
  h : p
theorem stop_copy {P : Program} {w : World} {ops : Array Oper} {rest : List Oper} {o : Oper} {a : Act} {Q : Exit → Act → World → Prop} (d s : Operand) (dT sT : TypeId)
    (_ : o.op = .call { callee := .builtin .copy, args := #[d, s], argTypes := #[dT, sT] }) (h : Stop (wpList P ops Q (o :: rest) a w)) : wpList P ops Q (o :: rest) a w := h.h
set_option maxHeartbeats 1000000 in
set_option maxRecDepth 20000 in
theorem rep_any (gx k : Nat) (w : World) (hr : RdI w (some ⟨gx, 0, none⟩) 1 1 [-1]) (h1 : 1 ≤ k) (h5 : k ≤ 8) :
    Calls Tryd.prog 98 #[.slice (some ⟨gx, 0, none⟩) 1 1, .int .i64 k] w (RetI (List.replicate k (-1)) w) := by
  have hmul := fun W => mul_any (k : Int) W ⟨by omega, by omega⟩
  have hk0 : decide ((k : Int) < 0) = false := by simp
  have hk9 : decide ((9223372036854775807 : Int) < (k : Int)) = false := by simp; omega
  have hmk := fun W => run_mk (k := 1) (P := Tryd.prog) 28 Tryd.underlying28 info_int1 k (by omega) (by decide) W
  obtain ⟨bx, ox, xx, heq, hxx, hbx, hcx⟩ := hr.i64 (i := 0) (by decide)
  cases heq
  have hx1 : xx = -1 := by have := hxx.out; simp at this; exact this.symm
  subst hx1
  have hmade : (madeCells #[Value.int .i64 0] (k * 1)) = (gapR k 0).toArray := by
    unfold gapR; rw [← Array.toList_inj]; simp [madeCells, Nat.mod_one, List.map_const']
  go_enter Tryd.func98, Tryd.ntmps98
  go_wp2_with fail
  refine (hmul _).mono ?_
  rintro e w1 ⟨rfl, rfl⟩
  clear hmul
  rename World => w
  go_wp2_with (with_reducible refine stop_copy _ _ _ _ rfl ?_)
  constructor
  refine wpList_copy_splice rfl _ _ 28 28 rfl 3 Tryd.underlying28 size_int1 _ _ _ _ _ _ rfl rfl w.heap.size 0 (gapR k 0) 3 (by rw [← hmade, Nat.mul_one]; exact heap_alloc_new w _) [iV (-1)] (by show 1 = Nat.min 1 k; exact (Nat.min_eq_left h1).symm) (fun _ => ⟨rfl, _, rfl, fun j v hj => by cases j with | zero => (cases hj; exact (Ext.alloc1 w _).cellv hcx) | succ j => cases hj⟩) (by rw [gapR_len (Nat.zero_le _)]; simp; omega) (by simp; rfl) w.heap.size w (Ext.alloc1 _ _).bel (Nat.le_refl _) ?_
  intro w2 hG2 hb2
  have hsp : splice (gapR k 0) 0 [iV (-1)] = gapR k 1 := gapR_splice (q := 0) (m := 1) (by omega)
  rw [hsp] at hG2
  clear hmk hmade hsp hcx hxx hr hbx
  generalize hG : w.heap.size = G at *
  replace hG := Lib.hid hG
  go_wp2_with fail
  go_loopw [8] (fun nv wr => ∃ q : Nat, 1 ≤ q ∧ q ≤ k ∧ nv = .int .i64 q ∧ Hid (wr.heap[G]? = some (.cells (gapR k q).toArray 3 (0, 0))) ∧ Below G w wr) (fun nv _ => k - (intOf nv).toNat)
  case atStart => exact ⟨1, Nat.le_refl _, h1, rfl, hG2, hb2⟩
  case round =>
    obtain ⟨q, hq1, hqk, rfl, hGq, hbq⟩ := hrel
    by_cases hlt : q < k
    · have hki : (q : Int) < (k : Int) := by omega
      have hne : (k : Int) ≠ (q : Int) := by omega
      have hne2 : k ≠ q := by omega
      have hki2 : (q : Int) ≤ (k : Int) := by omega
      obtain ⟨m, hm⟩ : ∃ m, m = Nat.min q (k - q) := ⟨_, rfl⟩
      have hm1 : m ≤ k - q := by rw [hm]; exact Nat.min_le_right _ _
      have hmq : m ≤ q := by rw [hm]; exact Nat.min_le_left _ _
      have hm0 : 1 ≤ m := by rw [hm, show Nat.min q (k - q) = if q ≤ k - q then q else k - q from Nat.min_def]; split <;> omega
      have hsp := gapR_splice (k := k) (q := q) (m := m) (by omega)
      have hsrc : ∀ j v, (List.replicate m (iV (-1)))[j]? = some v → wr.cell? ((⟨G, 0, none⟩ : Addr).add j) = some v := fun j v hj => by
        rw [List.getElem?_replicate] at hj
        split at hj
        · rename_i h
          cases hj
          have := gapR_cell hGq.out (j := j) (by omega)
          rw [add_none']; simpa using this
        · cases hj
      have hcp := run_copy_row (P := Tryd.prog) wr.drew 28 28 3 3 G q (k - q) (k - q) ⟨G, 0, none⟩ q k (gapR k q).toArray 3 (List.replicate m (iV (-1))) Tryd.underlying28 size_int1 hGq.out (by rw [List.length_replicate]; exact hm) hsrc (by simp [gapR_len hqk]; omega) (by intro v hv; rw [List.eq_of_mem_replicate hv]; rfl)
      generalize hW4 : wr.drew.setRow G _ = w4 at hcp
      have hG4 : w4.heap[G]? = some (.cells (gapR k (q + m)).toArray 3 (0, 0)) := by
        rw [← hW4, setRow_heap wr.drew G _ _ 3 _ hGq.out, ← hsp]
        simp [splice]
      have hb4 : Below G w w4 := by
        rw [← hW4]
        exact below_setRow (Below.drew hbq) (Nat.le_refl _) _
      have hlm : (List.replicate m (iV (-1))).length = m := List.length_replicate
      rw [hlm] at hcp
      replace hsp := Lib.hid hsp
      replace hW4 := Lib.hid hW4
      replace hG4 := Lib.hid hG4
      replace hm := Lib.hid hm
      have hqm : q + m ≤ k := by omega
      clear hsrc hlm
      go_wp2_with fail
      go_region
      go_wp2_with fail
      (first | exact ⟨⟨q + m, by omega, hqm, by go_num, hG4, hb4⟩, (by simp [intOf]; omega)⟩ | (go_roundw; case rel => exact ⟨q + m, by omega, hqm, by go_num, hG4, hb4⟩; case measure => exact (by simp [intOf]; omega)))
    · obtain rfl : q = k := by omega
      have hown := own_gap (B := w.heap.size) (G := G) (k := q) (w := wr) (by rw [hG.out]; exact Nat.le_refl _) (by omega) hGq.out
      replace hown := Lib.hid hown
      go_wp2_with fail
      go_ret
      exact ⟨_, rfl, hown.out, ⟨by rw [hG.out]; exact hbq⟩⟩
end Go.Proofs.YtjfhfbobnncpkaaDoor
namespace Go.Proofs.YtjfhfbobnncpkaaDoor
open Go.RowKit
theorem frzI {B g n cap : Nat} {w : World} {xs : List Int} (h : OwnI B 3 w (.slice (some ⟨g, 0, none⟩) n cap) xs) (i : Nat) : w.frozen? ⟨g, i, none⟩ = false := by
  obtain ⟨cur, hc⟩ := OwnK.blk h (g := g) rfl
  simp only [World.frozen?]
  rw [hc]; rfl
theorem step3_any (a : Option Addr) (n cap : Nat) (j : Int) (w : World) (hn : n ≤ 7) :
    Calls Tryd.prog 97 #[.slice a n cap, .int .i64 n, .int .i64 j] w (RetI ((List.replicate (n + 1) (-1)).set n j) w) := by
  have hlit := OwnK.rdc I64.len (lit_own I64.len w 3 [-1] #[.int .i64 (-1)] rfl (n := 1) rfl (by decide))
  have hrp := rep_any w.heap.size (n + 1) (w.alloc (.cells #[.int .i64 (-1)] 3)) hlit (by omega) (by omega)
  have hx0 := Ext.alloc1 w (.cells #[.int .i64 (-1)] 3)
  push_cast at hrp
  go_enter Tryd.func97, Tryd.ntmps97
  go_wp2_with fail
  refine hrp.mono ?_
  rintro e w1 ⟨v1, rfl, hown, hx1⟩
  have hown := OwnK.base hown (Ext.le hx0)
  have hx := hx0.trans hx1
  rcases hown.2 with ⟨h0, h00⟩ | ⟨g, c1, cur, hv, hB, hh, hr⟩
  · simp at h00
  · rw [List.length_replicate] at hv
    subst hv
    have hset := OwnI.set' hown n j
    have hc := (OwnK.rdc I64.len hown).i64 (i := n) (by omega)
    obtain ⟨b, off, y, heq, _, hb, hcy⟩ := hc
    cases heq
    rw [Nat.zero_add] at hcy
    have hfz := frzI hown n
    have hxs := hx.setCell (p := ⟨g, n, none⟩) hB (.int .i64 j)
    have hki : (n : Int) < (n : Int) + 1 := by omega
    replace hset := Lib.hid hset
    go_wp2_with fail
    go_ret
    exact ⟨_, rfl, hset.out, hxs⟩
/-! ### The column that a step makes -/
/-- A column of a part of some words: gaps, and numbers of sounds that there are. -/
def ColV (ns : List Nat) (L : List Int) : Prop := ∀ (t : Nat) (v : Int), L[t]? = some v → v = -1 ∨ ∃ n, ns[t]? = some n ∧ 0 ≤ v ∧ v < (n : Int)
theorem ColV.snoc {ns : List Nat} {L : List Int} {j : Int} (h : ColV ns L) (hj : j = -1 ∨ ∃ n, ns[L.length]? = some n ∧ 0 ≤ j ∧ j < (n : Int)) : ColV ns (L ++ [j]) := fun t v ht => by
  rcases Nat.lt_trichotomy t L.length with h1 | h1 | h1
  · rw [List.getElem?_append_left h1] at ht; exact h t v ht
  · subst h1
    rw [List.getElem?_append_right (Nat.le_refl _)] at ht
    simp at ht; subst ht; exact hj
  · rw [List.getElem?_append_right (by omega)] at ht
    obtain ⟨u, hu⟩ : ∃ u, t - L.length = u + 1 := ⟨t - L.length - 1, by omega⟩
    rw [hu] at ht; simp at ht
theorem colV_gap {ns : List Nat} {p : Nat} {j : Int} (hj : ∃ n, ns[p]? = some n ∧ 0 ≤ j ∧ j < (n : Int)) : ColV ns ((List.replicate (p + 1) (-1)).set p j) := fun t v ht => by
  rw [List.getElem?_set] at ht
  split at ht
  · rename_i h
    split at ht
    · cases ht; subst h; exact .inr hj
    · cases ht
  · rw [List.getElem?_replicate] at ht
    split at ht
    · cases ht; exact .inl rfl
    · cases ht
/-- A step: how many columns and sounds it takes. -/
def stepV : Nat → Value
  | 0 => .agg #[.int .i64 1, .int .i64 1, .func (.func 93) #[] #[]]
  | 1 => .agg #[.int .i64 1, .int .i64 0, .func (.func 96) #[] #[]]
  | _ => .agg #[.int .i64 0, .int .i64 1, .func (.func 97) #[] #[]]
def stepC (s : Nat) : Nat := if s ≤ 1 then 1 else 0
def stepS (s : Nat) : Nat := if s = 1 then 0 else 1
/-- What a call of 'made' hands back: a new column. -/
def RetMade (ns : List Nat) (p : Nat) (w : World) (e : Ending) (w' : World) : Prop :=
  ∃ v L, e = .returned v ∧ OwnI w.heap.size 3 w' v L ∧ L.length = p + 1 ∧ ColV ns L ∧ Ext w w'
/-- The boxes that 'made' has taken along. -/
structure MadeB (w : World) (Ba Bc Bp : Nat) (aA : Option Addr) (cA : Nat) (b : Option Addr) (m cap2 p : Nat) (cs : List HI) (ns : List Nat) : Prop where
  all : w.cell? ⟨Ba, 0, none⟩ = some (.slice aA (p + 1) cA)
  cols : w.cell? ⟨Bc, 0, none⟩ = some (.slice b m cap2)
  place : w.cell? ⟨Bp, 0, none⟩ = some (.int .i64 p)
  rd : RdN2 w b m cap2 cs
  len : ∀ c ∈ cs, c.x.length = p
  ok : ∀ c ∈ cs, ColV ns c.x
theorem MadeB.ext {w w' : World} {Ba Bc Bp : Nat} {aA : Option Addr} {cA : Nat} {b : Option Addr} {m cap2 p : Nat} {cs : List HI} {ns : List Nat} (h : MadeB w Ba Bc Bp aA cA b m cap2 p cs ns) (hx : Ext w w') : MadeB w' Ba Bc Bp aA cA b m cap2 p cs ns :=
  ⟨hx.cellv h.all, hx.cellv h.cols, hx.cellv h.place, h.rd.ext hx, h.len, h.ok⟩
abbrev madeV (Ba Bc Bp : Nat) : Value := .func (.func 32) #[] #[.pointer (some ⟨Ba, 0, none⟩), .pointer (some ⟨Bc, 0, none⟩), .pointer (some ⟨Bp, 0, none⟩)]
set_option maxHeartbeats 1000000 in
set_option maxRecDepth 20000 in
theorem made_any {Ba Bc Bp : Nat} {aA : Option Addr} {cA : Nat} {b : Option Addr} {m cap2 p : Nat} {cs : List HI} {ns : List Nat} (w : World) (h : MadeB w Ba Bc Bp aA cA b m cap2 p cs ns) (hp : p ≤ 7) (s i j : Nat)
    (hi : i + stepC s ≤ m) (hj : ∃ n, ns[p]? = some n ∧ j + stepS s ≤ n) :
    Calls Tryd.prog 32 #[.int .i64 i, .int .i64 j, stepV s, .pointer (some ⟨Ba, 0, none⟩), .pointer (some ⟨Bc, 0, none⟩), .pointer (some ⟨Bp, 0, none⟩)] w (RetMade ns p w) := by
  have hmk := fun W => run_mk (k := 1) (P := Tryd.prog) 28 Tryd.underlying28 info_int1 p (by omega) (by decide) W
  have hall := h.all
  have hcols := h.cols
  have hplace := h.place
  have la := cell_lt hall
  have lc := cell_lt hcols
  have lp := cell_lt hplace
  have hsub : wrap64 (((p + 1 : Nat) : Int) - 1) = (p : Int) := by unfold wrap64; omega
  obtain h0 | h0 | h0 : s = 0 ∨ s = 1 ∨ 2 ≤ s := by omega
  · subst h0
    have hsv : stepV 0 = .agg #[.int .i64 1, .int .i64 1, .func (.func 93) #[] #[]] := rfl
    rw [hsv]
    have hlt : i < m := by unfold stepC at hi; simp at hi; omega
    obtain ⟨bb, ob, ⟨ya, yn, yc, yx⟩, rfl, hy, hbb, hc0, hcy⟩ := h.rd.at hlt
    simp only at hc0 hcy
    have hyl := h.len _ (List.mem_of_getElem? hy.out)
    have hyv := h.ok _ (List.mem_of_getElem? hy.out)
    simp only at hyl hyv
    have hyn : yn = p := by rw [← hcy.len]; exact hyl
    subst hyn
    have hst := fun W (hW : RdI W ya yn yc yx) => step1_any ya yn yc yx j W hW (by omega)
    have hki : (i : Int) < (m : Int) := by omega
    have hnew : ColV ns (yx ++ [(j : Int)]) := hyv.snoc (.inr (by
      obtain ⟨n, h1, h2⟩ := hj
      unfold stepS at h2
      simp at h2
      exact ⟨n, by rw [hyl]; exact h1, by omega, by omega⟩))
    have hnl : (yx ++ [(j : Int)]).length = yn + 1 := by rw [List.length_append, hyl]; rfl
    replace hyl := Lib.hid hyl
    replace hyv := Lib.hid hyv
    replace hy := Lib.hid hy.out
    replace hnl := Lib.hid hnl
    replace hnew := Lib.hid hnew
    replace hi := Lib.hid hi
    replace hj := Lib.hid hj
    go_enter Tryd.func32, Tryd.ntmps32
    go_wp2_with fail
    refine (hst _ (hcy.ext (by repeat (first | exact Ext.refl _ | refine Ext.drew ?_ | refine Ext.drewN ?_ _ | refine Ext.alloc ?_ _)))).mono ?_
    rintro e w2 ⟨v2, rfl, hown, hx2⟩
    have hx : Ext w w2 := Ext.trans (by repeat (first | exact Ext.refl _ | refine Ext.drew ?_ | refine Ext.drewN ?_ _ | refine Ext.alloc ?_ _)) hx2
    replace hown := OwnK.base hown (Ext.le (show Ext w _ from (by repeat (first | exact Ext.refl _ | refine Ext.drew ?_ | refine Ext.drewN ?_ _ | refine Ext.alloc ?_ _))))
    go_wp2_with fail
    go_ret
    exact ⟨_, _, rfl, hown, hnl.out, hnew.out, hx⟩
  · subst h0
    have hsv : stepV 1 = .agg #[.int .i64 1, .int .i64 0, .func (.func 96) #[] #[]] := rfl
    rw [hsv]
    have hlt : i < m := by unfold stepC at hi; simp at hi; omega
    obtain ⟨bb, ob, ⟨ya, yn, yc, yx⟩, rfl, hy, hbb, hc0, hcy⟩ := h.rd.at hlt
    simp only at hc0 hcy
    have hyl := h.len _ (List.mem_of_getElem? hy.out)
    have hyv := h.ok _ (List.mem_of_getElem? hy.out)
    simp only at hyl hyv
    have hyn : yn = p := by rw [← hcy.len]; exact hyl
    subst hyn
    have hst := fun W (hW : RdI W ya yn yc yx) => step2_any ya yn yc yx j W hW (by omega)
    have hki : (i : Int) < (m : Int) := by omega
    have hnew : ColV ns (yx ++ [-1]) := hyv.snoc (.inl rfl)
    have hnl : (yx ++ [-1]).length = yn + 1 := by rw [List.length_append, hyl]; rfl
    replace hyl := Lib.hid hyl
    replace hyv := Lib.hid hyv
    replace hy := Lib.hid hy.out
    replace hnl := Lib.hid hnl
    replace hnew := Lib.hid hnew
    replace hi := Lib.hid hi
    replace hj := Lib.hid hj
    go_enter Tryd.func32, Tryd.ntmps32
    go_wp2_with fail
    refine (hst _ (hcy.ext (by repeat (first | exact Ext.refl _ | refine Ext.drew ?_ | refine Ext.drewN ?_ _ | refine Ext.alloc ?_ _)))).mono ?_
    rintro e w2 ⟨v2, rfl, hown, hx2⟩
    have hx : Ext w w2 := Ext.trans (by repeat (first | exact Ext.refl _ | refine Ext.drew ?_ | refine Ext.drewN ?_ _ | refine Ext.alloc ?_ _)) hx2
    replace hown := OwnK.base hown (Ext.le (show Ext w _ from (by repeat (first | exact Ext.refl _ | refine Ext.drew ?_ | refine Ext.drewN ?_ _ | refine Ext.alloc ?_ _))))
    go_wp2_with fail
    go_ret
    exact ⟨_, _, rfl, hown, hnl.out, hnew.out, hx⟩
  · obtain ⟨s', rfl⟩ : ∃ s', s = s' + 2 := ⟨s - 2, by omega⟩
    have hsv : stepV (s' + 2) = .agg #[.int .i64 0, .int .i64 1, .func (.func 97) #[] #[]] := rfl
    rw [hsv]
    have hst := fun W ad => step3_any ad p p j W hp
    have hnew : ColV ns ((List.replicate (p + 1) (-1)).set p (j : Int)) := colV_gap (by
      obtain ⟨n, h1, h2⟩ := hj
      unfold stepS at h2
      rw [if_neg (by omega)] at h2
      exact ⟨n, h1, by omega, by omega⟩)
    have hnl : ((List.replicate (p + 1) (-1)).set p (j : Int)).length = p + 1 := by simp
    replace hnl := Lib.hid hnl
    replace hnew := Lib.hid hnew
    replace hi := Lib.hid hi
    replace hj := Lib.hid hj
    go_enter Tryd.func32, Tryd.ntmps32
    go_wp2_with fail
    refine (hst _ _).mono ?_
    rintro e w2 ⟨v2, rfl, hown, hx2⟩
    have hx : Ext w w2 := Ext.trans (by repeat (first | exact Ext.refl _ | refine Ext.drew ?_ | refine Ext.drewN ?_ _ | refine Ext.alloc ?_ _)) hx2
    replace hown := OwnK.base hown (Ext.le (show Ext w _ from (by repeat (first | exact Ext.refl _ | refine Ext.drew ?_ | refine Ext.drewN ?_ _ | refine Ext.alloc ?_ _))))
    go_wp2_with fail
    go_ret
    exact ⟨_, _, rfl, hown, hnl.out, hnew.out, hx⟩
end Go.Proofs.YtjfhfbobnncpkaaDoor
namespace Go.Proofs.YtjfhfbobnncpkaaDoor
open Go.RowKit
/-- The boxes that a price has taken along. -/
structure PriceB (w : World) (Bc Bl : Nat) (ac : Option Addr) (nc cc : Nat) (ws : List Int) (g : Int) (aW : Option Addr) (nW cW : Nat) (l : List HS) : Prop where
  c0 : w.cell? ⟨Bc, 0, none⟩ = some (.slice ac nc cc)
  c1 : w.cell? ⟨Bc, 1, none⟩ = some (.int .i64 g)
  l0 : w.cell? ⟨Bl, 0, none⟩ = some (.slice aW nW cW)
  rc : RdI w ac nc cc ws
  rl : RdW w aW nW cW l
  tab : TabOk w
theorem PriceB.ext {w w' : World} {Bc Bl : Nat} {ac : Option Addr} {nc cc : Nat} {ws : List Int} {g : Int} {aW : Option Addr} {nW cW : Nat} {l : List HS} (h : PriceB w Bc Bl ac nc cc ws g aW nW cW l) (hx : Ext w w') : PriceB w' Bc Bl ac nc cc ws g aW nW cW l :=
  ⟨hx.cellv h.c0, hx.cellv h.c1, hx.cellv h.l0, h.rc.ext hx, h.rl.ext hx, h.tab.ext hx⟩
abbrev priceV (Bc Bl : Nat) : Value := .func (.func 30) #[] #[.pointer (some ⟨Bc, 0, none⟩), .pointer (some ⟨Bl, 0, none⟩)]
set_option maxHeartbeats 4000000 in
set_option maxRecDepth 20000 in
theorem price_any {Bc Bl : Nat} {ac : Option Addr} {nc cc : Nat} {ws : List Int} {g : Int} {aW : Option Addr} {nW cW : Nat} {l : List HS} (w : World) (h : PriceB w Bc Bl ac nc cc ws g aW nW cW l)
    (hws : costsB ws g = true) (hok : ∀ y ∈ l, ∀ s ∈ y.x, s.ok = true) (a : Option Addr) (n cap : Nat) (L : List Int) (hr : RdI w a n cap L) (hL : ColV (l.map HS.n) L) :
    Calls Tryd.prog 30 #[.slice a n cap, .pointer (some ⟨Bc, 0, none⟩), .pointer (some ⟨Bl, 0, none⟩)] w fun e w' => ∃ z : Int, e = .returned (.int .i64 z) ∧ Ext w w' := by
  have hmax : n ≤ 9223372036854775807 := by have := hr.le; have := hr.most; unfold maxLen at this; omega
  have hle := hr.le
  replace hL := Lib.hid hL
  replace hok := Lib.hid hok
  have hat : Hid (∀ (t : Nat) (v : Int), L[t]? = some v → v ≠ -1 → 0 ≤ v ∧ ∃ y, l[t]? = some y ∧ v < (y.n : Int)) := Lib.hid fun t v ht hv => by
    rcases hL.out t v ht with h1 | ⟨n, h1, h2, h3⟩
    · exact absurd h1 hv
    · rw [List.getElem?_map] at h1
      obtain ⟨y, hy, rfl⟩ := Option.map_eq_some_iff.1 h1
      exact ⟨h2, y, hy, h3⟩
  go_enter Tryd.func30, Tryd.ntmps30
  go_wp2_with fail
  go_loopw [5, 14] (fun sv iv wr => ∃ (z : Int) (i : Nat), i ≤ n ∧ sv = .int .i64 z ∧ iv = .int .i64 i ∧ Ext w wr) (fun _ iv _ => n - (intOf iv).toNat)
  case atStart => exact ⟨0, 0, Nat.zero_le _, rfl, rfl, Ext.refl _⟩
  case round =>
    obtain ⟨z, i, hi, rfl, rfl, hx⟩ := hrel
    by_cases hlt : i < n
    · have hki : (i : Int) < (n : Int) := by omega
      obtain ⟨b, off, x, rfl, hxi, hb, c0⟩ := (hr.ext hx).i64 hlt
      have hic : (i : Int) ≤ (cap : Int) := by omega
      obtain ⟨wo, rfl⟩ : ∃ wo : World, wo = wr := ⟨_, rfl⟩
      go_wp2_with fail
      go_loopw [5, 23] (fun sv kv wr => ∃ (z : Int) (k : Nat), k ≤ i ∧ sv = .int .i64 z ∧ kv = .int .i64 k ∧ Ext w wr) (fun _ kv _ => i - (intOf kv).toNat)
      case atStart => exact ⟨z, 0, Nat.zero_le _, rfl, rfl, hx⟩
      case round =>
        clear hx
        obtain ⟨z2, k, hk, rfl, rfl, hx⟩ := hrel
        by_cases hlk : k < i
        · have hkk : (k : Int) < (i : Int) := by omega
          obtain ⟨b2, off2, y, heq, hyk, hb2, d0⟩ := (hr.ext hx).i64 (i := k) (by omega)
          cases heq
          have hB := h.ext hx
          have hB1 := hB.c1
          by_cases hxg : x = -1
          · subst hxg
            by_cases hyg : y = -1
            · subst hyg
              go_wp2_with fail
              (first | exact ⟨⟨z2, k + 1, hlk, rfl, by go_num, hx⟩, (by simp [intOf]; omega)⟩ | (go_roundw; case rel => exact ⟨z2, k + 1, hlk, rfl, by go_num, hx⟩; case measure => exact (by simp [intOf]; omega)))
            · have hyb : (y == -1) = false := by simpa using hyg
              replace hyg := Lib.hid hyg
              go_wp2_with fail
              (first | exact ⟨⟨_, k + 1, hlk, rfl, by go_num, hx⟩, (by simp [intOf]; omega)⟩ | (go_roundw; case rel => exact ⟨_, k + 1, hlk, rfl, by go_num, hx⟩; case measure => exact (by simp [intOf]; omega)))
          · have hxb : (x == -1) = false := by simpa using hxg
            by_cases hyg : y = -1
            · subst hyg
              replace hxg := Lib.hid hxg
              go_wp2_with fail
              (first | exact ⟨⟨_, k + 1, hlk, rfl, by go_num, hx⟩, (by simp [intOf]; omega)⟩ | (go_roundw; case rel => exact ⟨_, k + 1, hlk, rfl, by go_num, hx⟩; case measure => exact (by simp [intOf]; omega)))
            · have hyb : (y == -1) = false := by simpa using hyg
              obtain ⟨hx0, ⟨ya, yn, yc, yx⟩, hyl, hxlt⟩ := hat.out i x hxi.out hxg
              obtain ⟨hy0, ⟨za, zn, zc, zx⟩, hzl, hylt⟩ := hat.out k y hyk.out hyg
              simp only at hxlt hylt
              obtain ⟨xn, rfl⟩ : ∃ xn : Nat, x = (xn : Int) := ⟨x.toNat, by omega⟩
              obtain ⟨yn', rfl⟩ : ∃ yn' : Nat, y = (yn' : Int) := ⟨y.toNat, by omega⟩
              have hli : i < nW := by rw [← hB.rl.rd.len]; exact (List.getElem?_eq_some_iff.1 hyl).1
              have hlk2 : k < nW := by omega
              obtain ⟨bW, oW, y1, rfl, hy1, hbW, e0, hrd1⟩ := hB.rl.at hli
              obtain ⟨bW2, oW2, y2, heq, hy2, hbW2, e1, hrd2⟩ := hB.rl.at hlk2
              cases heq
              obtain rfl : y1 = ⟨ya, yn, yc, yx⟩ := by have := hy1.out; rw [hyl] at this; exact (Option.some.inj this).symm
              obtain rfl : y2 = ⟨za, zn, zc, zx⟩ := by have := hy2.out; rw [hzl] at this; exact (Option.some.inj this).symm
              simp only at e0 e1 hrd1 hrd2
              obtain ⟨b4, o4, s, rfl, hs, hb4, p0, p1⟩ := hrd1.snd (i := xn) (by omega)
              obtain ⟨b5, o5, t, rfl, ht, hb5, q0, q1⟩ := hrd2.snd (i := yn') (by omega)
              have hso := hok.out _ (List.mem_of_getElem? hyl) s (List.mem_of_getElem? hs.out)
              have hto := hok.out _ (List.mem_of_getElem? hzl) t (List.mem_of_getElem? ht.out)
              obtain ⟨wo2, rfl⟩ : ∃ wo2 : World, wo2 = wr := ⟨_, rfl⟩
              have hds := fun X : ExtOf wo2 => dist_any s t ac nc cc ws g X.w hso hto hws (hB.rc.ext X.h) (hB.tab.ext X.h)
              have r0 := fun X : ExtOf wo2 => X.cell hB.l0
              have r1 := fun X : ExtOf wo2 => X.cell e0
              have r2 := fun X : ExtOf wo2 => X.cell e1
              have r3 := fun X : ExtOf wo2 => X.cell p0
              have r4 := fun X : ExtOf wo2 => X.cell p1
              have r5 := fun X : ExtOf wo2 => X.cell q0
              have r6 := fun X : ExtOf wo2 => X.cell q1
              have r7 := fun X : ExtOf wo2 => X.cell hB.c0
              have r8 := fun X : ExtOf wo2 => X.cell hB.c1
              have hli2 : (i : Int) < (nW : Int) := by omega
              have hlk3 : (k : Int) < (nW : Int) := by omega
              generalize distS s t ws = D at *
              replace hxg := Lib.hid hxg
              replace hyg := Lib.hid hyg
              replace hxi := Lib.hid hxi.out
              replace hyk := Lib.hid hyk.out
              replace hy1 := Lib.hid hy1.out
              replace hy2 := Lib.hid hy2.out
              replace hyl := Lib.hid hyl
              replace hzl := Lib.hid hzl
              replace hs := Lib.hid hs.out
              replace ht := Lib.hid ht.out
              go_wp2_with fail
              (refine wp_region_qx (by kernel_rfl) (by kernel_rfl) ?_
               repeat (go_big_quiet_step ((go_at_call 31; exact calls_ext (hds _))))
               refine wpQuiet_nil ?_
               intro wq hw'
               have hxq := ext_of_ex hw'
               clear hw')
              clear r0 r1 r2 r3 r4 r5 r6 r7 r8 hds
              go_wp2_with fail
              (first | exact ⟨⟨_, k + 1, hlk, rfl, by go_num, hx.trans hxq⟩, (by simp [intOf]; omega)⟩ | (go_roundw; case rel => exact ⟨_, k + 1, hlk, rfl, by go_num, hx.trans hxq⟩; case measure => exact (by simp [intOf]; omega)))
        · go_wp2_with fail
          (first | exact ⟨⟨z2, i + 1, hlt, rfl, by go_num, hx⟩, (by simp [intOf]; omega)⟩ | (go_roundw; case rel => exact ⟨z2, i + 1, hlt, rfl, by go_num, hx⟩; case measure => exact (by simp [intOf]; omega)))
    · go_wp2_with fail
      go_ret
      exact ⟨z, rfl, hx⟩
end Go.Proofs.YtjfhfbobnncpkaaDoor
