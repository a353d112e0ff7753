/-
  Maps that a call makes, told by what stands at each key: 'MapK' (block b is a map; at key x it has 'f x'). Look-up without and with 'ok', store. Small words that all chapters share: returned values, rounds of a loop over a list, sounds compared, slices of integers, strings by bytes.
  Layer 1: Valid of the program and of the reference.
  Rows of the call's own: one cell of one element is written; what other stores and appends leave as it was.
  Patterns that can be read; Satisfies; how wide a pattern is.
  What the program's patterns do to a word, as a mirror of the code: relations of places, as bits.
  math/bits.TrailingZeros64 by its table; the places of a set, the lowest one first.
-/
import Derived.Test.YtadncjpknckaaaaGreatDoorA01
import Derived.Maps.OwnSet
import Derived.Maps.OwnOps
import Derived.DeepKeys4
import Derived.BigFrame
import Derived.Test.YtadncjpknckaaaaGreatDoorProg
import Derived.Laws.StructEq
import Derived.Laws.OwnMore
import Derived.RangeFuncBox
import Derived.IntWalk
import Derived.Lib.TrailingZeros
import Derived.Lib.BitFns
namespace Go.Proofs.YtadncjpknckaaaaGreatDoor
open Go.RowKit Go.Maps
section
variable {P : Program} {k e t : TypeId} {κ : Type} {kl : κ → Lit} {w : World} {b n : Nat} {f : κ → Option Lit}
/-- Block b is a map of at most n entries; at the key x it has f x. -/
def MapK (P : Program) (k e : TypeId) (kl : κ → Lit) (w : World) (b n : Nat) (f : κ → Option Lit) : Prop :=
  ∃ D : DataW Unit, w.ownsMap P k (plainElem P e) b n D ∧ ∀ x, Maps.has D (kl x) = (f x).isSome ∧ ∀ z, D.atKey (kl x) (.lit z) = .lit ((f x).getD z)
theorem MapK.made (w : World) (P : Program) (k e : TypeId) (kl : κ → Lit) : MapK P k e kl (w.alloc (.map #[] 0)) w.heap.size 0 fun _ => none :=
  ⟨.map [], World.ownsMap_made w P k _, fun _ => ⟨rfl, fun _ => rfl⟩⟩
theorem MapK.lt (h : MapK P k e kl w b n f) : b < w.heap.size := let ⟨_, h1, _⟩ := h; h1.lt
theorem MapK.agr (h : MapK P k e kl w b n f) {w' : World} (hb : w'.heap[b]? = w.heap[b]?) : MapK P k e kl w' b n f := by
  obtain ⟨D, ⟨es, clock, h1, h2⟩, h3⟩ := h
  exact ⟨D, ⟨es, clock, hb.trans h1, h2⟩, h3⟩
theorem MapK.kept (h : MapK P k e kl w b n f) {w' : World} (hx : Ext w w') : MapK P k e kl w' b n f := h.agr (Below.block hx.bel b h.lt)
theorem MapK.grown (h : MapK P k e kl w b n f) {w' : World} {row : Option Nat} (hg : w.grownBy w' row) (hne : some b ≠ row) : MapK P k e kl w' b n f := by
  obtain ⟨D, h1, h3⟩ := h
  exact ⟨D, h1.kept hg hne, h3⟩
theorem plainElem_val {v : Value} {l : Lit} {ps : List MemPlace} (h : plainElem (H := Unit) P e v = some (.lit l, ps)) : v = l.value := by
  unfold plainElem at h
  split at h
  · cases h; rfl
  · split at h
    · rename_i hq; cases h; rw [hq.1]; rfl
    · cases h
  · split at h
    · cases h; simp [Lit.value]
    · cases h
  · cases h
theorem MapK.look (h : MapK P k e kl w b n f) (K : Keyed P k) (ht : P.underlying t = some (.map k e)) {z : Value} (hz : (zeroValue e).run P w = .ok z w) {zl : Lit} {ps : List MemPlace} (hzd : plainElem (H := Unit) P e z = some (.lit zl, ps))
    {key : Value} {x : κ} (hkey : keyOf P k key = some (kl x)) : (Instr.lookup t (.map (some b)) key false).run P w = .ok ((f x).getD zl).value w := by
  obtain ⟨D, h1, h2⟩ := h
  obtain ⟨v, ps', hr, hv⟩ := h1.lookup K ht hz hzd hkey
  rw [(h2 x).2] at hv
  rw [hr, plainElem_val hv]
theorem MapK.lookOk (h : MapK P k e kl w b n f) (K : Keyed P k) (ht : P.underlying t = some (.map k e)) {z : Value} (hz : (zeroValue e).run P w = .ok z w) {zl : Lit} {ps : List MemPlace} (hzd : plainElem (H := Unit) P e z = some (.lit zl, ps))
    {key : Value} {x : κ} (hkey : keyOf P k key = some (kl x)) : (Instr.lookup t (.map (some b)) key true).run P w = .ok (.tuple #[((f x).getD zl).value, .bool (f x).isSome]) w := by
  obtain ⟨D, h1, h2⟩ := h
  obtain ⟨v, ps', hr, hv⟩ := h1.look_ok K ht hz hzd hkey
  rw [(h2 x).2] at hv
  rw [hr, plainElem_val hv, (h2 x).1]
theorem MapK.store [DecidableEq κ] (h : MapK P k e kl w b n f) (K : Keyed P k) (ht : P.underlying t = some (.map k e)) (hn : n < maxLen) (hinj : ∀ x y, kl x = kl y → x = y) (hlit : ∀ x, WideAt.IsKeyLit (kl x))
    {key val : Value} {x : κ} {l : Lit} {ps : List MemPlace} (hkey : keyOf P k key = some (kl x)) (hv : plainElem (H := Unit) P e val = some (.lit l, ps)) :
    ∃ w', (Instr.mapUpdate t (.map (some b)) key val).run P w = .ok () w' ∧ MapK P k e kl w' b (n + 1) (fun y => if y = x then some l else f y) ∧ w.grownBy w' (some b) ∧ w'.drawn = w.drawn := by
  obtain ⟨D, h1, h2⟩ := h
  obtain ⟨w', hr, ho, hg⟩ := h1.store K ht hn hkey hv
  refine ⟨w', hr, ⟨_, ho, fun y => ?_⟩, World.mapTurned.grown hg, ?_⟩
  · by_cases e : y = x
    · subst e
      simp only [↓reduceIte]
      exact ⟨by rw [has_put_same h1.isMap (hlit y)]; rfl, fun z => by rw [atKey_put_same h1.isMap (hlit y)]; rfl⟩
    · simp only [if_neg e]
      have hne : kl y ≠ kl x := fun h => e (hinj _ _ h)
      exact ⟨by rw [has_put_other hne]; exact (h2 y).1, fun z => by rw [atKey_put_other hne]; exact (h2 y).2 z⟩
  · obtain ⟨es, clock, es', clock', hb, rfl⟩ := hg
    rfl
theorem MapK.mono (h : MapK P k e kl w b n f) {n' : Nat} (hn : n ≤ n') : MapK P k e kl w b n' f := by
  obtain ⟨D, h1, h2⟩ := h
  exact ⟨D, h1.mono hn, h2⟩
end
/-! ### At the operation, for the walk -/
section
variable {P : Program} {w : World} {ops : Array Oper} {rest : List Oper} {o : Oper} {a : Act} {Q : Exit → Act → World → Prop} {κ : Type} {kl : κ → Lit}
theorem wp_mapLook (hg : Region.wanted o (yielded ops a.tmps) = true) (m x : Operand) (t : TypeId) (hop : o.op = Op.lookup t m x false) (k e : TypeId) (K : Keyed P k) (ht : P.underlying t = some (.map k e)) {z : Value} (hz : (zeroValue e).run P w = .ok z w)
    {zl : Lit} {ps : List MemPlace} (hzd : plainElem (H := Unit) P e z = some (.lit zl, ps)) {b n : Nat} {f : κ → Option Lit} (hm : a.eval m = .map (some b)) (hown : MapK P k e kl w b n f) (key : Value) (y : κ) (hx : a.eval x = key) (hkey : keyOf P k key = some (kl y))
    (v : Value) (hv : ((f y).getD zl).value = v) (hK : wpList P ops Q rest (a.put o.dst v) w) : wpList P ops Q (o :: rest) a w := by
  refine BigFrame.wpList_want hg fun K' hK' => ?_
  have hrun := hown.look K ht hz hzd hkey
  rw [hv] at hrun
  unfold Oper.wp
  simp [execOp, hop, hm, hx, hrun, Result.andThen]
  exact hK' _ _ hK
theorem wp_mapLookOk (hg : Region.wanted o (yielded ops a.tmps) = true) (m x : Operand) (t : TypeId) (hop : o.op = Op.lookup t m x true) (k e : TypeId) (K : Keyed P k) (ht : P.underlying t = some (.map k e)) {z : Value} (hz : (zeroValue e).run P w = .ok z w)
    {zl : Lit} {ps : List MemPlace} (hzd : plainElem (H := Unit) P e z = some (.lit zl, ps)) {b n : Nat} {f : κ → Option Lit} (hm : a.eval m = .map (some b)) (hown : MapK P k e kl w b n f) (key : Value) (y : κ) (hx : a.eval x = key) (hkey : keyOf P k key = some (kl y))
    (v : Value) (hv : ((f y).getD zl).value = v) (c : Bool) (hc : (f y).isSome = c) (hK : wpList P ops Q rest (a.put o.dst (.tuple #[v, .bool c])) w) : wpList P ops Q (o :: rest) a w := by
  refine BigFrame.wpList_want hg fun K' hK' => ?_
  have hrun := hown.lookOk K ht hz hzd hkey
  rw [hv, hc] at hrun
  unfold Oper.wp
  simp [execOp, hop, hm, hx, hrun, Result.andThen]
  exact hK' _ _ hK
theorem wp_mapStore [DecidableEq κ] (hg : Region.wanted o (yielded ops a.tmps) = true) (m x v : Operand) (t : TypeId) (hop : o.op = Op.mapUpdate t m x v) (k e : TypeId) (K : Keyed P k) (ht : P.underlying t = some (.map k e)) (hinj : ∀ x y, kl x = kl y → x = y) (hlit : ∀ x, WideAt.IsKeyLit (kl x))
    {b n : Nat} {f : κ → Option Lit} (hm : a.eval m = .map (some b)) (hown : MapK P k e kl w b n f) (hn : n < maxLen) (key val : Value) (y : κ) (hx : a.eval x = key) (hv : a.eval v = val) (hkey : keyOf P k key = some (kl y)) {l : Lit} {ps : List MemPlace}
    (hval : plainElem (H := Unit) P e val = some (.lit l, ps))
    (hK : ∀ w', MapK P k e kl w' b (n + 1) (fun z => if z = y then some l else f z) → w.grownBy w' (some b) → w'.drawn = w.drawn → wpList P ops Q rest (a.put o.dst undef) w') : wpList P ops Q (o :: rest) a w := by
  refine BigFrame.wpList_want hg fun K' hK' => ?_
  obtain ⟨w', hrun, r1, r2, r3⟩ := hown.store K ht hn hinj hlit hkey hval
  unfold Oper.wp
  simp [execOp, hop, hm, hx, hv, hrun, Result.andThen]
  exact hK' _ _ (hK w' r1 r2 r3)
end
/-! ### Keys -/
theorem isKeyLit_string (l : List UInt8) : WideAt.IsKeyLit (.string l) := by first | trivial | simp [WideAt.IsKeyLit] | constructor
theorem isKeyLit_int (q : IntKind) (c : Int) : WideAt.IsKeyLit (.int q c) := by first | trivial | simp [WideAt.IsKeyLit] | constructor
def klStr (s : ByteArray) : Lit := .string s.data.toList
theorem klStr_inj (x y : ByteArray) (h : klStr x = klStr y) : x = y := by
  simp only [klStr, Lit.string.injEq] at h
  cases x; cases y
  simp only at h
  congr 1
  exact Array.ext' h
end Go.Proofs.YtadncjpknckaaaaGreatDoor
namespace Go.Proofs.YtadncjpknckaaaaGreatDoor
open Go.RowKit
theorem ret_bool {a b : Bool} (h : a = b) : Ending.returned (.bool a) = .returned (.bool b) := by rw [h]
theorem ret_int {k : IntKind} {a b : Int} (h : a = b) : Ending.returned (.int k a) = .returned (.int k b) := by rw [h]
theorem all_succ {α : Type} {xs : List α} {p : α → Bool} {k : Nat} {s : α} (h : ∀ (i : Nat) (x : α), i < k → xs[i]? = some x → p x = true) (hs : xs[k]? = some s) (hp : p s = true) : ∀ (i : Nat) (x : α), i < k + 1 → xs[i]? = some x → p x = true := by
  intro i x hi hx
  by_cases e : i = k
  · subst e; rw [hs] at hx; cases hx; exact hp
  · exact h i x (by omega) hx
theorem all_of_each {α : Type} {xs : List α} {p : α → Bool} {n : Nat} (hl : xs.length = n) (h : ∀ (i : Nat) (x : α), i < n → xs[i]? = some x → p x = true) : xs.all p = true := by
  rw [List.all_eq_true]; intro x hx
  obtain ⟨i, hi⟩ := List.getElem?_of_mem hx
  exact h i x (by have := (List.getElem?_eq_some_iff.1 hi).1; omega) hi
theorem all_not {α : Type} {xs : List α} {p : α → Bool} {i : Nat} {x : α} (hi : xs[i]? = some x) (hp : p x = false) : xs.all p = false := by
  rw [List.all_eq_false]; exact ⟨x, List.mem_of_getElem? hi, by simp [hp]⟩
section
variable {α : Type} {xs ys : List α} {n k : Nat}
theorem eq_succ (h : xs.take k = ys.take k) {s : α} (h1 : xs[k]? = some s) (h2 : ys[k]? = some s) : xs.take (k + 1) = ys.take (k + 1) := by
  rw [List.take_add_one, List.take_add_one, h, h1, h2]
theorem eq_end (hx : xs.length = n) (hy : ys.length = n) (hk : ¬ k < n) (h : xs.take k = ys.take k) : xs = ys := by
  rwa [List.take_of_length_le (by omega), List.take_of_length_le (by omega)] at h
theorem ne_at {s t : α} (h1 : xs[k]? = some s) (h2 : ys[k]? = some t) (h : s ≠ t) : xs ≠ ys := by
  rintro rfl; rw [h1] at h2; exact h (Option.some.inj h2)
theorem ne_len {m : Nat} (hx : xs.length = n) (hy : ys.length = m) (h : n ≠ m) : xs ≠ ys := by rintro rfl; exact h (hx.symm.trans hy)
end
theorem take_succ_at {α : Type} {xs : List α} {k : Nat} {x : α} (h : xs[k]? = some x) : xs.take (k + 1) = xs.take k ++ [x] := by
  rw [List.take_add_one, h]; rfl
/-- The element at a place, and its cells. -/
theorem RdK.get {α : Type} {k : Nat} {enc : α → List Value} {w : World} {a : Option Addr} {n cap : Nat} {xs : List α} (h : RdK k enc w a n cap xs) {i : Nat} (hi : i < n) :
    ∃ b off x, a = some ⟨b, off, none⟩ ∧ Hid (xs[i]? = some x) ∧ b < w.heap.size ∧ ∀ j u, (enc x)[j]? = some u → w.cell? ⟨b, off + i * k + j, none⟩ = some u := by
  obtain ⟨b, off, ha, hb, hc⟩ := h.pos (by omega)
  have hl := h.len
  have hs : xs[i]? = some xs[i] := List.getElem?_eq_getElem (by omega)
  exact ⟨b, off, xs[i], ha, hs, hb, hc i _ hs⟩
/-! ### Sounds -/
/-- A sound is valid: no feature has both values, and all its features are below 24. -/
def Snd.ok (s : Snd) : Bool := (s.p.toNat &&& s.m.toNat == 0) && decide ((s.p.toNat ||| s.m.toNat) < 16777216)
theorem snd_eq_iff (s t : Snd) : s = t ↔ s.p.toNat = t.p.toNat ∧ s.m.toNat = t.m.toNat := by
  refine ⟨fun h => by rw [h]; exact ⟨rfl, rfl⟩, fun ⟨h1, h2⟩ => ?_⟩
  cases s; cases t; simp only [Snd.mk.injEq]; exact ⟨BitVec.eq_of_toNat_eq h1, BitVec.eq_of_toNat_eq h2⟩
theorem eql_snd (s t : Snd) (w : World) : (binOp .eql 52 (.agg #[.int .u32 s.p.toNat, .int .u32 s.m.toNat]) (.agg #[.int .u32 t.p.toNat, .int .u32 t.m.toNat])).run Tryz.prog w = .ok (.bool (decide (s = t))) w := by
  have hS : Tryz.prog.underlying 52 = some (.struct (Tryz.prog.fieldsOf 52)) := by kernel_rfl
  have hp : Tryz.prog.stoodInHeld 52 = false := by kernel_rfl
  rw [run_eql_struct, show (10000 : Nat) = 9999 + 1 from rfl, run_equalIn_agg w 9999 52 _ _ hS hp]
  simp only [Program.fieldsOf, Tryz.underlying52]
  go_simp
  by_cases h1 : s.p.toNat = t.p.toNat <;> by_cases h2 : s.m.toNat = t.m.toNat <;> simp [h1, h2, snd_eq_iff] <;> omega
theorem neq_snd (s t : Snd) (w : World) : (binOp .neq 52 (.agg #[.int .u32 s.p.toNat, .int .u32 s.m.toNat]) (.agg #[.int .u32 t.p.toNat, .int .u32 t.m.toNat])).run Tryz.prog w = .ok (.bool (!decide (s = t))) w := by
  have hS : Tryz.prog.underlying 52 = some (.struct (Tryz.prog.fieldsOf 52)) := by kernel_rfl
  have hp : Tryz.prog.stoodInHeld 52 = false := by kernel_rfl
  rw [run_neq_struct, show (10000 : Nat) = 9999 + 1 from rfl, run_equalIn_agg w 9999 52 _ _ hS hp]
  simp only [Program.fieldsOf, Tryz.underlying52]
  go_simp
  by_cases h1 : s.p.toNat = t.p.toNat <;> by_cases h2 : s.m.toNat = t.m.toNat <;> simp [h1, h2, snd_eq_iff] <;> omega
theorem info_snd : (Tryz.prog.info? 52).map (fun i => (i.zero, i.size, i.bytes)) = some (some (.agg #[.int .u32 0, .int .u32 0]), 2, 8) := by kernel_rfl
theorem Snd.one (s : Snd) : ∀ u ∈ s.enc, u.oneCell' = true := by intro u hu; simp [Snd.enc] at hu; rcases hu with rfl | rfl <;> rfl
theorem div24 (x : Nat) : ((x : Int) / 16777216 == 0) = decide (x < 16777216) := by
  rw [Bool.eq_iff_iff]; simp only [beq_iff_eq, decide_eq_true_eq]; omega
/-! ### Integers -/
/-- An int in a cell. -/
def I64.enc (x : Int) : List Value := [.int .i64 x]
theorem I64.len (x : Int) : (I64.enc x).length = 1 := rfl
theorem I64.one (x : Int) : ∀ u ∈ I64.enc x, u.oneCell' = true := by intro u hu; simp [I64.enc] at hu; subst hu; rfl
abbrev RdI := RdK 1 I64.enc
abbrev OwnI := OwnK 1 I64.enc
theorem RdK.i64 {w : World} {a : Option Addr} {n cap : Nat} {xs : List Int} (h : RdK 1 I64.enc w a n cap xs) {i : Nat} (hi : i < n) :
    ∃ b off x, a = some ⟨b, off, none⟩ ∧ Hid (xs[i]? = some x) ∧ b < w.heap.size ∧ w.cell? ⟨b, off + i, none⟩ = some (.int .i64 x) := by
  obtain ⟨b, off, x, ha, hx, hb, hc⟩ := h.get hi
  exact ⟨b, off, x, ha, hx, hb, by have := hc 0 _ rfl; simpa using this⟩
end Go.Proofs.YtadncjpknckaaaaGreatDoor
namespace Go.Proofs.YtadncjpknckaaaaGreatDoor
open Go.RowKit
theorem fvalid_any (s : Snd) (w : World) :
    Calls Tryz.prog 54 #[.agg #[.int .u32 s.p.toNat, .int .u32 s.m.toNat]] w fun e w' => e = .returned (.bool s.ok) ∧ Ext w w' := by
  go_enter Tryz.func54, Tryz.ntmps54
  go_wp2
  · rename_i h
    go_ret
    exact ⟨ret_bool (by simp only [Snd.ok, h]; simp <;> omega), Ext.alloc1 _ _⟩
  · rename_i h
    go_ret
    exact ⟨ret_bool (by simp [Snd.ok, h]), Ext.alloc1 _ _⟩
end Go.Proofs.YtadncjpknckaaaaGreatDoor
namespace Go.Proofs.YtadncjpknckaaaaGreatDoor
open Go.RowKit
theorem shr_bit (x : BitVec 32) (k : Nat) : bits .and .u32 ((x.toNat : Int) / 2 ^ k) 1 = ((x.getLsbD k).toNat : Int) := by
  have e1 : (x.toNat : Int) / 2 ^ k = ((x >>> k).toNat : Int) := by rw [BitVec.toNat_ushiftRight, Nat.shiftRight_eq_div_pow]; norm_cast
  have e2 : (1 : Int) = ((1#32).toNat : Int) := rfl
  rw [e1, e2, bits_and_u32]
  congr 1
  rw [BitVec.toNat_and, BitVec.toNat_ushiftRight]
  show (x.toNat >>> k) &&& 1 = _
  rw [Nat.and_one_is_mod, BitVec.getLsbD, Nat.testBit]
  rw [Nat.and_comm, Nat.and_one_is_mod]
  have := Nat.mod_two_eq_zero_or_one (x.toNat >>> k)
  rcases this with h | h <;> rw [h] <;> rfl
theorem shr_one {x : BitVec 32} {k : Nat} (h : x.getLsbD k = true) : bits .and .u32 ((x.toNat : Int) / 2 ^ k) 1 = 1 := by rw [shr_bit, h]; rfl
theorem shr_nil {x : BitVec 32} {k : Nat} (h : x.getLsbD k = false) : bits .and .u32 ((x.toNat : Int) / 2 ^ k) 1 = 0 := by rw [shr_bit, h]; rfl
/-- A sound's feature k is all right. -/
def featOk (s : Snd) (k : Nat) : Bool := !(s.p.getLsbD k && s.m.getLsbD k) && (!(s.p.getLsbD k || s.m.getLsbD k) || decide (k < 24))
theorem lt_pow_of_bits {x n : Nat} (h : ∀ k, n ≤ k → x.testBit k = false) : x < 2 ^ n := Nat.lt_pow_two_of_testBit _ h
theorem ok_iff_feats (s : Snd) : s.ok = true ↔ ∀ k, k < 32 → featOk s k = true := by
  have e : s.ok = true ↔ s.p.toNat &&& s.m.toNat = 0 ∧ (s.p.toNat ||| s.m.toNat) < 2 ^ 24 := by simp [Snd.ok]
  rw [e]
  constructor
  · rintro ⟨h1, h2⟩ k hk
    have g1 : (s.p.toNat &&& s.m.toNat).testBit k = false := by rw [h1]; exact Nat.zero_testBit k
    rw [Nat.testBit_and] at g1
    have g2 : 24 ≤ k → (s.p.toNat ||| s.m.toNat).testBit k = false := fun h => Nat.testBit_lt_two_pow (Nat.lt_of_lt_of_le h2 (Nat.pow_le_pow_right (by omega) h))
    rw [Nat.testBit_or] at g2
    simp only [featOk, BitVec.getLsbD]
    rw [g1]
    by_cases hk2 : k < 24
    · simp [hk2]
    · simp [g2 (by omega)]
  · intro h
    have hi : ∀ (x : BitVec 32) k, 32 ≤ k → x.toNat.testBit k = false := fun x k hk => Nat.testBit_lt_two_pow (Nat.lt_of_lt_of_le x.isLt (Nat.pow_le_pow_right (by omega) hk))
    constructor
    · apply Nat.eq_of_testBit_eq
      intro k
      rw [Nat.testBit_and, Nat.zero_testBit]
      by_cases hk : k < 32
      · have := h k hk
        simp only [featOk, BitVec.getLsbD, Bool.and_eq_true, Bool.not_eq_true'] at this
        exact this.1
      · rw [hi _ k (by omega)]; rfl
    · refine lt_pow_of_bits fun k hk => ?_
      rw [Nat.testBit_or]
      by_cases hk2 : k < 32
      · have := h k hk2
        have hd : decide (k < 24) = false := by simp; omega
        simp only [featOk, BitVec.getLsbD, Bool.and_eq_true, hd, Bool.or_false, Bool.not_eq_true'] at this
        exact this.2
      · rw [hi _ k (by omega), hi _ k (by omega)]; rfl
theorem ok_false_of {s : Snd} {k : Nat} (hk : k < 32) (h : featOk s k = false) : s.ok = false := by
  cases e : s.ok
  · rfl
  · rw [(ok_iff_feats s).1 e k hk] at h; cases h
end Go.Proofs.YtadncjpknckaaaaGreatDoor
namespace Go.Proofs.YtadncjpknckaaaaGreatDoor
open Go.RowKit
section
variable {α : Type} {k : Nat} {enc : α → List Value} {B e g n cap : Nat} {w : World} {xs : List α}
theorem own_ge (h : OwnK k enc B e w (.slice (some ⟨g, 0, none⟩) n cap) xs) : B ≤ g ∧ g < w.heap.size ∧ xs.length = n ∧ n ≤ cap ∧ cap ≤ maxLen := by
  have h0 := World.ownsRow.lt h g rfl
  obtain ⟨h1, h2⟩ := h
  rcases h2 with ⟨h3, _⟩ | ⟨g', cap', cur, h3, _, hh, h4, h5, _, ht⟩
  · cases h3
  · simp only [Value.slice.injEq, Option.some.injEq, Addr.mk.injEq, and_true] at h3
    obtain ⟨_, h6, h7⟩ := h3
    exact ⟨h0.1, h0.2, h6.symm, by omega, by omega⟩
theorem own_at (hk : ∀ x, (enc x).length = k) (h : OwnK k enc B e w (.slice (some ⟨g, 0, none⟩) n cap) xs) {i : Nat} {y : α} (hi : xs[i]? = some y) {j : Nat} {u : Value} (hu : (enc y)[j]? = some u) : w.cell? ⟨g, i * k + j, none⟩ = some u := by
  obtain ⟨h1, h2⟩ := h
  rcases h2 with ⟨h3, _⟩ | ⟨g', cap', cur, h3, _, hh, _, _, _, ht⟩
  · cases h3
  · simp only [Value.slice.injEq, Option.some.injEq, Addr.mk.injEq, and_true] at h3
    obtain ⟨rfl, _, _⟩ := h3
    have hf := flatMap_at hk xs i y hi j _ hu
    rw [← ht, List.getElem?_take] at hf
    split at hf
    · simp only [World.cell?, hh]; simpa using hf
    · cases hf
theorem own_free (h : OwnK k enc B e w (.slice (some ⟨g, 0, none⟩) n cap) xs) (i : Nat) : w.frozen? ⟨g, i, none⟩ = false := by
  obtain ⟨h1, h2⟩ := h
  rcases h2 with ⟨h3, _⟩ | ⟨g', cap', cur, h3, _, hh, _, _, _, ht⟩
  · cases h3
  · simp only [Value.slice.injEq, Option.some.injEq, Addr.mk.injEq, and_true] at h3
    obtain ⟨rfl, _, _⟩ := h3
    exact frozen_of_row w g i cur e hh
theorem flat_set1 (hk : ∀ x, (enc x).length = k) {j : Nat} {u : Value} (hj : j < k) : ∀ (xs : List α) (i : Nat) (x y : α), xs[i]? = some x → enc y = (enc x).set j u → (xs.set i y).flatMap enc = (xs.flatMap enc).set (i * k + j) u
  | [], i, x, y, h, _ => by simp at h
  | z :: xs, 0, x, y, h, hy => by
    simp at h; subst h
    simp only [List.set_cons_zero, List.flatMap_cons, Nat.zero_mul, Nat.zero_add, hy]
    rw [List.set_append_left _ _ (by rw [hk]; exact hj)]
  | z :: xs, i + 1, x, y, h, hy => by
    have ih := flat_set1 hk hj xs i x y (by simpa using h) hy
    simp only [List.set_cons_succ, List.flatMap_cons, ih]
    rw [List.set_append_right _ _ (by rw [hk, Nat.add_mul]; omega), hk, Nat.add_mul, show i * k + 1 * k + j - k = i * k + j by omega]
/-- One cell of one element is written. -/
theorem own_store (hk : ∀ x, (enc x).length = k) (h : OwnK k enc B e w (.slice (some ⟨g, 0, none⟩) n cap) xs) {i j : Nat} {x y : α} {u : Value} (hi : xs[i]? = some x) (hj : j < k) (hy : enc y = (enc x).set j u) :
    OwnK k enc B e (w.setCell ⟨g, i * k + j, none⟩ u) (.slice (some ⟨g, 0, none⟩) n cap) (xs.set i y) := by
  have hl := (own_ge h).2.2.1
  subst hl
  have h1 := (World.ownsRow.stored h (i * k + j) u).1
  unfold OwnK
  rw [List.length_set, flat_set1 hk hj xs i x y hi hy]
  exact h1
/-- The second cell of two is written too. -/
theorem own_store2 (hk : ∀ x, (enc x).length = 2) (h : OwnK 2 enc B e w (.slice (some ⟨g, 0, none⟩) n cap) xs) {i : Nat} {x y z : α} {u v : Value} (hi : xs[i]? = some x) (hy : enc y = (enc x).set 0 u) (hz : enc z = (enc y).set 1 v) :
    OwnK 2 enc B e ((w.setCell ⟨g, i * 2, none⟩ u).setCell ⟨g, i * 2 + 1, none⟩ v) (.slice (some ⟨g, 0, none⟩) n cap) (xs.set i z) := by
  have h1 := own_store hk h (j := 0) hi (by decide) hy
  have hlt := (List.getElem?_eq_some_iff.1 hi).1
  have h2 := own_store hk h1 (i := i) (j := 1) (x := y) (y := z) (u := v) (by rw [List.getElem?_set_self hlt]) (by decide) hz
  rw [List.set_set] at h2
  simpa using h2
theorem own_set1 (hk : ∀ x, (enc x).length = 1) (h : OwnK 1 enc B e w (.slice (some ⟨g, 0, none⟩) n cap) xs) {i : Nat} {y : α} {u : Value} (hi : i < n) (hy : enc y = [u]) :
    OwnK 1 enc B e (w.setCell ⟨g, i, none⟩ u) (.slice (some ⟨g, 0, none⟩) n cap) (xs.set i y) := by
  have hl := (own_ge h).2.2.1
  have hx : xs[i]? = some xs[i] := List.getElem?_eq_getElem (by omega)
  have h1 := own_store hk h (j := 0) (y := y) (u := u) hx (by decide) (by
    rw [hy]
    have := hk xs[i]
    match hz : enc xs[i], this with
    | [z], _ => rfl)
  simpa using h1
theorem own_take (hk : ∀ x, (enc x).length = k) (h : OwnK k enc B e w (.slice (some ⟨g, 0, none⟩) n cap) xs) {m : Nat} (hm : m ≤ n) : OwnK k enc B e w (.slice (some ⟨g, 0, none⟩) m cap) (xs.take m) := by
  have hl := (own_ge h).2.2.1
  obtain ⟨h1, h2⟩ := h
  rcases h2 with ⟨h3, _⟩ | ⟨g', cap', cur, h3, hg, hh, h4, h5, h6, ht⟩
  · cases h3
  · simp only [Value.slice.injEq, Option.some.injEq, Addr.mk.injEq, and_true] at h3
    obtain ⟨rfl, h7, rfl⟩ := h3
    have hlt : (xs.take m).length = m := by simp; omega
    refine ⟨length_flatMap_enc hk _, .inr ⟨g, cap, cur, by rw [hlt], hg, hh, by omega, h5, h6, ?_⟩⟩
    rw [flatMap_take hk, ← ht, List.take_take, hlt]
    congr 1
    have := Nat.mul_le_mul_right k hm
    rw [h7] at this; omega
end
section
variable {α : Type} {k : Nat} {enc : α → List Value} {B e : Nat} {w w' : World} {v : Value} {xs : List α}
theorem own_lt (h : OwnK k enc B e w v xs) {g : Nat} (hg : v.ownBlock = some g) : B ≤ g ∧ g < w.heap.size := by
  obtain ⟨h1, h2⟩ := h
  rcases h2 with ⟨rfl, _⟩ | ⟨g', cap', cur, rfl, hB, hh, _⟩
  · cases hg
  · obtain rfl : g' = g := by simpa [Value.ownBlock] using hg
    exact ⟨hB, (Array.getElem?_eq_some_iff.1 hh).1⟩
theorem own_apart {row : Option Nat} (h : OwnK k enc B e w v xs) (hg : w.grownBy w' row) (hr : ∀ g, row = some g → v.ownBlock ≠ some g) : OwnK k enc B e w' v xs := by
  obtain ⟨h1, h2⟩ := h
  refine ⟨h1, ?_⟩
  rcases h2 with h2 | ⟨g', cap', cur, hv, hB, hh, r⟩
  · exact .inl h2
  · refine .inr ⟨g', cap', cur, hv, hB, (hg.block g' (Array.getElem?_eq_some_iff.1 hh).1 fun e1 => ?_).trans hh, r⟩
    exact hr g' e1.symm (by rw [hv]; rfl)
theorem grownBy_set (W : World) (b i : Nat) (v : Value) : W.grownBy (W.setCell ⟨b, i, none⟩ v) (some b) :=
  ⟨rfl, rfl, rfl, (KeepsWalks.setCell W _ v).size, fun k _ hk => Below.heap_setCell _ _ _ k (fun e => hk (by rw [e]))⟩
theorem own_setOff (h : OwnK k enc B e w v xs) {b i : Nat} {u : Value} (hb : v.ownBlock ≠ some b) : OwnK k enc B e (w.setCell ⟨b, i, none⟩ u) v xs :=
  own_apart h (grownBy_set w b i u) (fun g hg => by cases hg; exact hb)
theorem own_type (h : OwnK k enc B e w v xs) {g : Nat} (hg : v.ownBlock = some g) : ∃ cur, w.heap[g]? = some (.cells cur e (0, 0)) := by
  obtain ⟨h1, h2⟩ := h
  rcases h2 with ⟨rfl, _⟩ | ⟨g', cap', cur, rfl, _, hh, _, _, _, ht⟩
  · cases hg
  · have : g' = g := by simpa [Value.ownBlock] using hg
    subst this; exact ⟨cur, hh⟩
theorem own_offT {e' : Nat} (h : OwnK k enc B e w v xs) {b i : Nat} {u : Value} {cur : Array Value} {fr : Nat × Nat} (hb : w.heap[b]? = some (.cells cur e' fr)) (hne : e ≠ e') : OwnK k enc B e (w.setCell ⟨b, i, none⟩ u) v xs :=
  own_setOff h fun e1 => by
    obtain ⟨c, hc⟩ := own_type h e1
    rw [hb] at hc; cases hc; exact hne rfl
end
/-- A row of another type has grown. -/
theorem own_otherT {α β : Type} {k k' : Nat} {enc : α → List Value} {enc' : β → List Value} {B B' e e' : Nat} {w w' : World} {v u : Value} {xs : List α} {ys : List β} (h : OwnK k enc B e w v xs) (ho : OwnK k' enc' B' e' w u ys) (hg : w.grownBy w' u.ownBlock) (hne : e ≠ e') : OwnK k enc B e w' v xs :=
  own_apart h hg fun g hg' e1 => by
    obtain ⟨c1, h1⟩ := own_type h e1
    obtain ⟨c2, h2⟩ := own_type ho hg'
    rw [h1] at h2; cases h2; exact hne rfl
theorem blk_otherT {β : Type} {k' : Nat} {enc' : β → List Value} {b B' e e' : Nat} {cs : Array Value} {fr : Nat × Nat} {w w' : World} {u : Value} {ys : List β} (h : w.heap[b]? = some (.cells cs e fr)) (ho : OwnK k' enc' B' e' w u ys) (hg : w.grownBy w' u.ownBlock) (hne : e ≠ e') : w'.heap[b]? = some (.cells cs e fr) := by
  refine (hg.block b (Array.getElem?_eq_some_iff.1 h).1 fun e1 => ?_).trans h
  obtain ⟨c2, h2⟩ := own_type ho e1.symm
  rw [h] at h2; cases h2; exact hne rfl
theorem blk_kept {b : Nat} {o : Obj} {w w' : World} (h : w.heap[b]? = some o) (hx : Ext w w') : w'.heap[b]? = some o := (Below.block hx.bel _ (Array.getElem?_eq_some_iff.1 h).1).trans h
theorem gb_ext {w w' : World} (h : Ext w w') (row : Option Nat) : w.grownBy w' row := ⟨h.bel.os, h.bel.tape, h.bel.output, h.le, fun k hk _ => Below.block h.bel k hk⟩
theorem gb_trans {a b c : World} {row : Option Nat} (h : a.grownBy b row) (k : b.grownBy c row) : a.grownBy c row := ⟨k.os.trans h.os, k.tape.trans h.tape, k.output.trans h.output, Nat.le_trans h.size k.size, fun x hx hr => (k.block x (Nat.lt_of_lt_of_le hx h.size) hr).trans (h.block x hx hr)⟩
/-- What turned a row that is new to the elder world has not turned the elder world. -/
theorem gb_new {a b c : World} {row : Option Nat} (h : Ext a b) (k : b.grownBy c row) (hr : ∀ g, row = some g → a.heap.size ≤ g) : Ext a c := h.grown k hr
theorem gb_forget {a b c : World} {row row' : Option Nat} (h : a.grownBy b row) (k : b.grownBy c row') (hr : ∀ g, row' = some g → a.heap.size ≤ g) : a.grownBy c row := ⟨k.os.trans h.os, k.tape.trans h.tape, k.output.trans h.output, Nat.le_trans h.size k.size, fun x hx hx' => (k.block x (Nat.lt_of_lt_of_le hx h.size) (fun e => by have := hr x e.symm; omega)).trans (h.block x hx hx')⟩
theorem gb_cell {a b : World} {row : Option Nat} (h : a.grownBy b row) {x o : Nat} {v : Value} (hc : a.cell? ⟨x, o, none⟩ = some v) (hr : row ≠ some x) : b.cell? ⟨x, o, none⟩ = some v := by
  have := h.block x (cell_lt hc) (fun e => hr e.symm)
  simp only [World.cell?] at hc ⊢
  rw [this]; exact hc
/-- Two values in a box of the call's own. -/
theorem ext_set {a w : World} (h : Ext a w) {b : Nat} (hb : a.heap.size ≤ b) (i : Nat) (u : Value) : Ext a (w.setCell ⟨b, i, none⟩ u) := h.setCell (p := ⟨b, i, none⟩) hb u
end Go.Proofs.YtadncjpknckaaaaGreatDoor
namespace Go.Proofs.YtadncjpknckaaaaGreatDoor
open Go.RowKit
/-! ### Satisfies -/
theorem andn_nat (x y : BitVec 32) : x.toNat &&& (4294967295 - y.toNat) = (x &&& ~~~y).toNat := by
  rw [BitVec.toNat_and, BitVec.toNat_not]
theorem andn_zero (x y : BitVec 32) : (((x.toNat &&& (4294967295 - y.toNat) : Nat) : Int) == 0) = (x &&& ~~~y == 0#32) := by
  rw [andn_nat, Bool.eq_iff_iff, beq_iff_eq, beq_iff_eq]
  constructor
  · intro h; exact BitVec.eq_of_toNat_eq (by simpa using h)
  · intro h; rw [h]; rfl
abbrev sndV (s : Snd) : Value := .agg #[.int .u32 s.p.toNat, .int .u32 s.m.toNat]
/-- Has the sound all values of the condition? -/
def satB (s c : Snd) : Bool := (c.p &&& ~~~s.p == 0#32) && (c.m &&& ~~~s.m == 0#32)
theorem sat_any (s c : Snd) (w : World) (hs : s.ok = true) (hc : c.ok = true) :
    Calls Tryz.prog 81 #[sndV s, sndV c] w fun e w' => e = .returned (.bool (satB s c)) ∧ Ext w w' := by
  have eP := andn_zero c.p s.p
  have eM := andn_zero c.m s.m
  unfold satB
  cases hp : (c.p &&& ~~~s.p == 0#32)
  · rw [hp] at eP
    replace hp := Lib.hid hp
    replace eM := Lib.hid eM
    go_enter Tryz.func81, Tryz.ntmps81
    go_wp2_with fail
    refine (cbool (fvalid_any s _) hs).mono ?_
    rintro e w1 ⟨rfl, hx1⟩
    have hcl1 := fun b o (h : b < _) => Ext.cell hx1 (b := b) o h
    go_wp2_with fail
    refine (cbool (fvalid_any c _) hc).mono ?_
    rintro e w1 ⟨rfl, hx2⟩
    replace hx1 := Ext.trans hx1 (Ext.trans (by repeat (first | exact Ext.refl _ | refine Ext.drew ?_ | refine Ext.drewN ?_ _ | refine Ext.alloc ?_ _)) hx2)
    replace hcl1 := fun b o (h : b < _) => Ext.cell hx1 (b := b) o h
    clear hx2
    go_wp2_with fail
    go_ret
    exact ⟨rfl, (by repeat (first | exact Ext.refl _ | assumption | refine Ext.drew ?_ | refine Ext.drewN ?_ _ | refine Ext.alloc ?_ _ | refine Ext.trans ?_ (by assumption)))⟩
  · rw [hp] at eP
    replace hp := Lib.hid hp
    generalize (c.m &&& ~~~s.m == 0#32) = B at *
    go_enter Tryz.func81, Tryz.ntmps81
    go_wp2_with fail
    refine (cbool (fvalid_any s _) hs).mono ?_
    rintro e w1 ⟨rfl, hx1⟩
    have hcl1 := fun b o (h : b < _) => Ext.cell hx1 (b := b) o h
    go_wp2_with fail
    refine (cbool (fvalid_any c _) hc).mono ?_
    rintro e w1 ⟨rfl, hx2⟩
    replace hx1 := Ext.trans hx1 (Ext.trans (by repeat (first | exact Ext.refl _ | refine Ext.drew ?_ | refine Ext.drewN ?_ _ | refine Ext.alloc ?_ _)) hx2)
    replace hcl1 := fun b o (h : b < _) => Ext.cell hx1 (b := b) o h
    clear hx2
    go_wp2_with fail
    go_ret
    exact ⟨by first | rfl | (rw [eM]; rfl) | simp [eM], (by repeat (first | exact Ext.refl _ | assumption | refine Ext.drew ?_ | refine Ext.drewN ?_ _ | refine Ext.alloc ?_ _ | refine Ext.trans ?_ (by assumption)))⟩
/-! ### Patterns -/
/-- A pattern, with the header of its list. -/
inductive HP where
  | mk (kind : Int) (is : Snd) (neg : Bool) (mn mx : Int) (a : Option Addr) (n cap : Nat) (l : List HP)
namespace HP
def kind : HP → Int | .mk k _ _ _ _ _ _ _ _ => k
def is : HP → Snd | .mk _ s _ _ _ _ _ _ _ => s
def neg : HP → Bool | .mk _ _ b _ _ _ _ _ _ => b
def mn : HP → Int | .mk _ _ _ m _ _ _ _ _ => m
def mx : HP → Int | .mk _ _ _ _ m _ _ _ _ => m
def a : HP → Option Addr | .mk _ _ _ _ _ a _ _ _ => a
def n : HP → Nat | .mk _ _ _ _ _ _ n _ _ => n
def cap : HP → Nat | .mk _ _ _ _ _ _ _ c _ => c
def l : HP → List HP | .mk _ _ _ _ _ _ _ _ l => l
def enc (h : HP) : List Value := [.int .i64 h.kind, .int .u32 h.is.p.toNat, .int .u32 h.is.m.toNat, .bool h.neg, .int .i64 h.mn, .int .i64 h.mx, .slice h.a h.n h.cap]
theorem len (h : HP) : (enc h).length = 7 := rfl
theorem one (h : HP) : ∀ u ∈ enc h, u.oneCell' = true := by
  intro u hu
  simp only [enc, List.mem_cons, List.not_mem_nil, or_false] at hu
  rcases hu with rfl | rfl | rfl | rfl | rfl | rfl | rfl <;> rfl
mutual
def sz : HP → Nat
  | .mk _ _ _ _ _ _ _ _ l => 1 + szL l
def szL : List HP → Nat
  | [] => 0
  | x :: l => sz x + szL l
end
theorem szL_mem {x : HP} : ∀ {l : List HP}, x ∈ l → sz x ≤ szL l
  | y :: l, h => by
    simp only [szL]
    rcases List.mem_cons.1 h with rfl | h
    · omega
    · have := szL_mem h; omega
theorem sz_mem {h x : HP} (hx : x ∈ h.l) : sz x < sz h := by
  cases h with
  | mk k s b m1 m2 a n c l =>
    have := szL_mem (show x ∈ l from hx)
    simp only [sz]; omega
end HP
abbrev patV (h : HP) : Value := .agg #[.int .i64 h.kind, .int .u32 h.is.p.toNat, .int .u32 h.is.m.toNat, .bool h.neg, .int .i64 h.mn, .int .i64 h.mx, .slice h.a h.n h.cap]
mutual
def RdPt (w : World) : HP → Prop
  | .mk _ _ _ _ _ a n cap l => RdK 7 HP.enc w a n cap l ∧ RdPts w l
def RdPts (w : World) : List HP → Prop
  | [] => True
  | x :: l => RdPt w x ∧ RdPts w l
end
theorem rdPts_mem {w : World} {x : HP} : ∀ {l : List HP}, RdPts w l → x ∈ l → RdPt w x
  | y :: l, h, hx => by
    simp only [RdPts] at h
    rcases List.mem_cons.1 hx with rfl | hx
    · exact h.1
    · exact rdPts_mem h.2 hx
theorem RdPt.rd {w : World} {h : HP} (hr : RdPt w h) : RdK 7 HP.enc w h.a h.n h.cap h.l := by
  cases h; simp only [RdPt] at hr; exact hr.1
theorem RdPt.sub {w : World} {h x : HP} (hr : RdPt w h) (hx : x ∈ h.l) : RdPt w x := by
  cases h; simp only [RdPt] at hr; exact rdPts_mem hr.2 hx
theorem RdPt.mk' {w : World} {h : HP} (h1 : RdK 7 HP.enc w h.a h.n h.cap h.l) (h2 : ∀ x ∈ h.l, RdPt w x) : RdPt w h := by
  cases h with
  | mk k s b m1 m2 a n c l =>
    simp only [RdPt]
    refine ⟨h1, ?_⟩
    have : ∀ l' : List HP, (∀ x ∈ l', RdPt w x) → RdPts w l' := fun l' => by
      induction l' with
      | nil => intro _; simp only [RdPts]
      | cons y l' ih => intro h; simp only [RdPts]; exact ⟨h y List.mem_cons_self, ih fun x hx => h x (List.mem_cons_of_mem _ hx)⟩
    exact this l h2
theorem RdPt.ext {w w' : World} : ∀ {h : HP}, RdPt w h → Ext w w' → RdPt w' h := fun {h} hr hx => by
  have key : ∀ (m : Nat) (h : HP), HP.sz h ≤ m → RdPt w h → RdPt w' h := fun m => by
    induction m with
    | zero => intro h hm; cases h; simp only [HP.sz] at hm; omega
    | succ m ih =>
      intro h hm hr
      exact RdPt.mk' (hr.rd.ext hx) fun x hx' => ih x (by have := HP.sz_mem hx'; omega) (hr.sub hx')
  exact key _ h (Nat.le_refl _) hr
theorem RdPt.at {w : World} {h : HP} (hr : RdPt w h) {i : Nat} (hi : i < h.n) :
    ∃ b off x, h.a = some ⟨b, off, none⟩ ∧ Hid (h.l[i]? = some x) ∧ b < w.heap.size ∧ RdPt w x ∧
      w.cell? ⟨b, off + i * 7, none⟩ = some (.int .i64 x.kind) ∧ w.cell? ⟨b, off + i * 7 + 1, none⟩ = some (.int .u32 x.is.p.toNat) ∧ w.cell? ⟨b, off + i * 7 + 2, none⟩ = some (.int .u32 x.is.m.toNat) ∧
      w.cell? ⟨b, off + i * 7 + 3, none⟩ = some (.bool x.neg) ∧ w.cell? ⟨b, off + i * 7 + 4, none⟩ = some (.int .i64 x.mn) ∧ w.cell? ⟨b, off + i * 7 + 5, none⟩ = some (.int .i64 x.mx) ∧ w.cell? ⟨b, off + i * 7 + 6, none⟩ = some (.slice x.a x.n x.cap) := by
  obtain ⟨b, off, x, ha, hx, hb, hc⟩ := hr.rd.get hi
  exact ⟨b, off, x, ha, hx, hb, hr.sub (List.mem_of_getElem? hx.out), by simpa using hc 0 _ rfl, hc 1 _ rfl, hc 2 _ rfl, hc 3 _ rfl, hc 4 _ rfl, hc 5 _ rfl, hc 6 _ rfl⟩
mutual
/-- Each node's numbers are small. -/
def HP.numB : HP → Bool
  | .mk kd _ _ mn mx _ _ _ l => decide (0 ≤ mn) && decide (mn ≤ 32) && decide (-1 ≤ mx) && decide (mx ≤ 32) && HP.numBL l && (decide (kd ≠ 5) || !l.isEmpty)
def HP.numBL : List HP → Bool
  | [] => true
  | x :: l => HP.numB x && HP.numBL l
end
theorem HP.numBL_mem {x : HP} : ∀ {l : List HP}, HP.numBL l = true → x ∈ l → HP.numB x = true
  | y :: l, h, hx => by
    simp only [HP.numBL, Bool.and_eq_true] at h
    rcases List.mem_cons.1 hx with rfl | hx
    · exact h.1
    · exact HP.numBL_mem h.2 hx
theorem HP.numB_rep {h : HP} (hn : h.numB = true) (hk : h.kind = 5) : h.l ≠ [] := by
  cases h with
  | mk k s b m1 m2 a n c l =>
    simp only [HP.numB, Bool.and_eq_true, Bool.or_eq_true, decide_eq_true_eq] at hn
    change k = 5 at hk
    change l ≠ []
    intro e
    subst e
    rcases hn.2 with h | h
    · exact h hk
    · cases h
theorem HP.numB_at {h : HP} (hn : h.numB = true) : (0 ≤ h.mn ∧ h.mn ≤ 32 ∧ -1 ≤ h.mx ∧ h.mx ≤ 32) ∧ ∀ x ∈ h.l, x.numB = true := by
  cases h with
  | mk k s b m1 m2 a n c l =>
    simp only [HP.numB, Bool.and_eq_true, decide_eq_true_eq] at hn
    exact ⟨⟨hn.1.1.1.1.1, hn.1.1.1.1.2, hn.1.1.1.2, hn.1.1.2⟩, fun x hx => HP.numBL_mem hn.1.2 hx⟩
/-! ### The width -/
mutual
def wid : HP → Nat
  | .mk kind _ _ mn mx _ _ _ l => if kind = 5 then min (widL l (if kind = 1 then 1 else 0) * (max (max 1 mn) mx).toNat) 11 else widL l (if kind = 1 then 1 else 0)
def widL : List HP → Nat → Nat
  | [], k => k
  | x :: l, k => widL l (min (k + wid x) 11)
end
theorem widL_snoc : ∀ (l : List HP) (x : HP) (k : Nat), widL (l ++ [x]) k = min (widL l k + wid x) 11
  | [], x, k => by simp [widL]
  | y :: l, x, k => by simp only [List.cons_append, widL]; exact widL_snoc l x _
theorem widL_succ {l : List HP} {i : Nat} {x : HP} (h : l[i]? = some x) (k : Nat) : widL (l.take (i + 1)) k = min (widL (l.take i) k + wid x) 11 := by
  rw [take_succ_at h, widL_snoc]
theorem widL_le : ∀ (l : List HP) (k : Nat), k ≤ 11 → widL l k ≤ 11
  | [], k, h => by simpa [widL] using h
  | x :: l, k, h => by simp only [widL]; exact widL_le l _ (by omega)
theorem wid_le (h : HP) : wid h ≤ 11 := by
  cases h with
  | mk k s b m1 m2 a n c l =>
    simp only [wid]
    split
    · exact Nat.min_le_right _ _
    · exact widL_le _ _ (by split <;> omega)
end Go.Proofs.YtadncjpknckaaaaGreatDoor
namespace Go.Proofs.YtadncjpknckaaaaGreatDoor
open Go.RowKit
abbrev Rel := List Nat
def RelOk (x : Rel) : Prop := x.length = 33 ∧ ∀ v ∈ x, v < 2 ^ 33
def idM (n : Nat) : Rel := (List.range 33).map fun a => if a ≤ n then 2 ^ a else 0
def bitsOf (s : Nat) : List Nat := (List.range 33).filter fun b => s.testBit b
def orAt (y : Rel) (s : Nat) : Nat := (bitsOf s).foldl (fun acc b => acc ||| y.getD b 0) 0
def thenM (x y : Rel) : Rel := x.map (orAt y)
def orM (x y : Rel) : Rel := x.zipWith (· ||| ·) y
def zeroM : Rel := List.replicate 33 0
def powGo : Nat → Nat → Rel → Rel → Rel
  | 0, _, _, out => out
  | f + 1, k, x, out => if k = 0 then out else powGo f (k / 2) (thenM x x) (if k % 2 = 1 then thenM out x else out)
def powM (x : Rel) (k n : Nat) : Rel := powGo 40 k x (idM n)
def sndM (is : Snd) (ng : Bool) (w : List Snd) : Rel := (List.range 33).map fun a => match w[a]? with
  | some s => if satB s is != ng then 2 ^ (a + 1) else 0
  | none => 0
def edgeM (a : Nat) : Rel := zeroM.set a (2 ^ a)
def repM (one : Rel) (mn mx : Int) (n : Nat) : Rel := thenM (powM one mn.toNat n) (powM (orM one (idM n)) (if mx < 0 then n else (mx - mn).toNat) n)
mutual
def inM : HP → List Snd → Rel
  | .mk k is ng mn mx _ _ _ l, w =>
    if k = 1 then sndM is ng w
    else if k = 2 then edgeM 0
    else if k = 6 then edgeM w.length
    else if k = 4 then inAlt l w zeroM
    else if k = 5 then repM (inHd l w) mn mx w.length
    else inSeq l w (idM w.length)
def inSeq : List HP → List Snd → Rel → Rel
  | [], _, out => out
  | q :: l, w, out => inSeq l w (thenM out (inM q w))
def inAlt : List HP → List Snd → Rel → Rel
  | [], _, out => out
  | q :: l, w, out => inAlt l w (orM out (inM q w))
def inHd : List HP → List Snd → Rel
  | [], _ => zeroM
  | q :: _, w => inM q w
end
/-! ### They are relations of 33 places -/
theorem or_lt {x y n : Nat} (hx : x < 2 ^ n) (hy : y < 2 ^ n) : x ||| y < 2 ^ n := Nat.or_lt_two_pow hx hy
theorem RelOk.getD {x : Rel} (h : RelOk x) (i : Nat) : x.getD i 0 < 2 ^ 33 := by
  rw [List.getD_eq_getElem?_getD]
  cases e : x[i]? with
  | none => simp
  | some v => exact h.2 v (List.mem_of_getElem? e)
theorem orAt_lt {y : Rel} (h : RelOk y) (s : Nat) : orAt y s < 2 ^ 33 := by
  unfold orAt
  suffices H : ∀ (l : List Nat) (acc : Nat), acc < 2 ^ 33 → l.foldl (fun acc b => acc ||| y.getD b 0) acc < 2 ^ 33 from H _ 0 (by decide)
  intro l
  induction l with
  | nil => intro acc h; exact h
  | cons b l ih => intro acc ha; exact ih _ (or_lt ha (h.getD b))
theorem thenM_ok {x y : Rel} (hx : RelOk x) (hy : RelOk y) : RelOk (thenM x y) := by
  refine ⟨by unfold thenM; rw [List.length_map, hx.1], fun v hv => ?_⟩
  obtain ⟨s, _, rfl⟩ := List.mem_map.1 hv
  exact orAt_lt hy s
theorem orM_ok {x y : Rel} (hx : RelOk x) (hy : RelOk y) : RelOk (orM x y) := by
  refine ⟨by unfold orM; rw [List.length_zipWith, hx.1, hy.1]; rfl, fun v hv => ?_⟩
  unfold orM at hv
  obtain ⟨i, hi⟩ := List.mem_iff_getElem?.1 hv
  rw [List.getElem?_zipWith] at hi
  cases e1 : x[i]? with
  | none => rw [e1] at hi; cases e2 : y[i]? <;> rw [e2] at hi <;> simp at hi
  | some a =>
    cases e2 : y[i]? with
    | none => rw [e1, e2] at hi; simp at hi
    | some b =>
      rw [e1, e2] at hi
      simp at hi
      subst hi
      exact or_lt (hx.2 a (List.mem_of_getElem? e1)) (hy.2 b (List.mem_of_getElem? e2))
theorem idM_ok {n : Nat} (_ : n ≤ 32) : RelOk (idM n) := by
  refine ⟨by simp [idM], fun v hv => ?_⟩
  obtain ⟨a, ha, rfl⟩ := List.mem_map.1 hv
  have ha := List.mem_range.1 ha
  split
  · exact Nat.pow_lt_pow_right (by omega) ha
  · decide
theorem zeroM_ok : RelOk zeroM := ⟨by simp [zeroM], fun v hv => by rw [List.eq_of_mem_replicate hv]; decide⟩
theorem powGo_ok : ∀ (f k : Nat) {x out : Rel}, RelOk x → RelOk out → RelOk (powGo f k x out)
  | 0, _, _, _, _, h => h
  | f + 1, k, x, out, hx, ho => by
    unfold powGo
    split
    · exact ho
    · refine powGo_ok f _ (thenM_ok hx hx) ?_
      split
      · exact thenM_ok ho hx
      · exact ho
theorem powM_ok {x : Rel} (hx : RelOk x) (k : Nat) {n : Nat} (hn : n ≤ 32) : RelOk (powM x k n) := powGo_ok 40 k hx (idM_ok hn)
theorem sndM_ok (is : Snd) (ng : Bool) {w : List Snd} (hw : w.length ≤ 32) : RelOk (sndM is ng w) := by
  refine ⟨by simp [sndM], fun v hv => ?_⟩
  obtain ⟨a, ha, rfl⟩ := List.mem_map.1 hv
  cases e : w[a]? with
  | none => simp
  | some s =>
    have ha := (List.getElem?_eq_some_iff.1 e).1
    simp only
    split
    · exact Nat.pow_lt_pow_right (by omega) (by omega)
    · decide
theorem edgeM_ok {a : Nat} (ha : a ≤ 32) : RelOk (edgeM a) := by
  refine ⟨by simp [edgeM, zeroM], fun v hv => ?_⟩
  rcases List.mem_or_eq_of_mem_set hv with h | rfl
  · exact zeroM_ok.2 v h
  · exact Nat.pow_lt_pow_right (by omega) (by omega)
theorem repM_ok {one : Rel} (h : RelOk one) (mn mx : Int) {n : Nat} (hn : n ≤ 32) : RelOk (repM one mn mx n) := thenM_ok (powM_ok h _ hn) (powM_ok (orM_ok h (idM_ok hn)) _ hn)
mutual
theorem inM_ok : ∀ (h : HP) {w : List Snd}, w.length ≤ 32 → RelOk (inM h w)
  | .mk k is ng mn mx _ _ _ l, w, hw => by
    unfold inM
    split
    · exact sndM_ok _ _ hw
    split
    · exact edgeM_ok (by omega)
    split
    · exact edgeM_ok hw
    split
    · exact inAlt_ok l hw zeroM_ok
    split
    · exact repM_ok (inHd_ok l hw) _ _ hw
    · exact inSeq_ok l hw (idM_ok hw)
theorem inSeq_ok : ∀ (l : List HP) {w : List Snd} {out : Rel}, w.length ≤ 32 → RelOk out → RelOk (inSeq l w out)
  | [], _, _, _, h => h
  | q :: l, w, out, hw, ho => by
    unfold inSeq
    exact inSeq_ok l hw (thenM_ok ho (inM_ok q hw))
theorem inAlt_ok : ∀ (l : List HP) {w : List Snd} {out : Rel}, w.length ≤ 32 → RelOk out → RelOk (inAlt l w out)
  | [], _, _, _, h => h
  | q :: l, w, out, hw, ho => by
    unfold inAlt
    exact inAlt_ok l hw (orM_ok ho (inM_ok q hw))
theorem inHd_ok : ∀ (l : List HP) {w : List Snd}, w.length ≤ 32 → RelOk (inHd l w)
  | [], _, _ => zeroM_ok
  | q :: _, w, hw => by
    unfold inHd
    exact inM_ok q hw
end
theorem inSeq_app : ∀ (l m : List HP) (w : List Snd) (out : Rel), inSeq (l ++ m) w out = inSeq m w (inSeq l w out)
  | [], _, _, _ => rfl
  | q :: l, m, w, out => by rw [List.cons_append, inSeq, inSeq, inSeq_app l m]
theorem inAlt_app : ∀ (l m : List HP) (w : List Snd) (out : Rel), inAlt (l ++ m) w out = inAlt m w (inAlt l w out)
  | [], _, _, _ => rfl
  | q :: l, m, w, out => by rw [List.cons_append, inAlt, inAlt, inAlt_app l m]
end Go.Proofs.YtadncjpknckaaaaGreatDoor
namespace Go.Proofs.YtadncjpknckaaaaGreatDoor
open Go.RowKit Go.Maps
def Tab64 (w : World) : Prop := ∀ j, j < 64 → w.cell? ⟨2, j, none⟩ = some (.int .u8 (Lib.deBruijn64tab.getD j 0 : Nat))
theorem Tab64.ext {w w' : World} (h : Tab64 w) (hx : Ext w w') : Tab64 w' := fun j hj => by rw [hx.cell j (cell_lt (h j hj))]; exact h j hj
theorem ofInt_u64 (x : BitVec 64) : BitVec.ofInt 64 (x.toNat : Int) = x := by
  apply BitVec.eq_of_toNat_eq; rw [BitVec.ofInt_natCast, BitVec.toNat_ofNat]; exact Nat.mod_eq_of_lt x.isLt
theorem wrap_u64 (x : BitVec 64) : IntKind.u64.wrap (x.toNat : Int) = x.toNat := by rw [IntKind.wrap_u64]; have := x.isLt; omega
theorem bits_and_u64 (x y : BitVec 64) : bits .and .u64 (x.toNat : Int) (y.toNat : Int) = ((x &&& y).toNat : Int) := by
  show IntKind.u64.wrap ((BitVec.ofInt 64 (x.toNat : Int) &&& BitVec.ofInt 64 (y.toNat : Int)).toNat : Int) = _
  rw [ofInt_u64, ofInt_u64, wrap_u64]
theorem tz_key64 (x : BitVec 64) {a : Nat} (hx0 : x.toNat ≠ 0) (hlow : x.toNat &&& (18446744073709551616 - x.toNat) = a) :
    IntKind.u64.wrap (bits .and .u64 (x.toNat : Int) (IntKind.u64.wrap (-(x.toNat : Int))) * 285870213051353865) / 288230376151711744 = ((a * 285870213051353865 % 18446744073709551616 / 288230376151711744 : Nat) : Int) := by
  rw [IntKind.wrap_u64, IntKind.wrap_u64]
  have hx := x.isLt
  have e1 : -(x.toNat : Int) % 18446744073709551616 = ((-x).toNat : Int) := by rw [BitVec.toNat_neg]; omega
  have e2 : (x &&& -x).toNat = a := by
    rw [BitVec.toNat_and, BitVec.toNat_neg, ← hlow]; congr 1; omega
  rw [e1, bits_and_u64, e2]
  omega
set_option maxHeartbeats 1000000 in
theorem tz64_core (x k idx : Nat) (w : World) (hx0 : ((x : Int) == 0) = false) (key : IntKind.u64.wrap (bits BinOp.and IntKind.u64 (x : Int) (IntKind.u64.wrap (-(x : Int))) * 285870213051353865) / 288230376151711744 = (idx : Int))
    (hi : idx < 64) (_hk : k < 64) (hcell : w.cell? ⟨2, idx, none⟩ = some (.int .u8 k)) : Calls Tryz.prog 114 #[.int .u64 x] w fun e w' => e = .returned (.int .i64 k) ∧ w' = w := by
  go_enter Tryz.func114, Tryz.ntmps114
  go_wp2_with (simp only [key])
  go_ret
  exact ⟨rfl, rfl⟩
theorem tz64_any (x : Nat) (hx0 : x ≠ 0) (hx : x < 18446744073709551616) (w : World) (hT : Tab64 w) :
    Calls Tryz.prog 114 #[.int .u64 x] w fun e w' => e = .returned (.int .i64 (Lib.ctz 64 x : Nat)) ∧ w' = w := by
  obtain ⟨hlow, hk⟩ := Lib.lowest_bit 64 x hx0 hx
  obtain ⟨hi, htab⟩ := Lib.deBruijn64_at _ hk
  have hcell := hT _ hi
  rw [htab] at hcell
  have hlow' : x &&& (18446744073709551616 - x) = 2 ^ Lib.ctz 64 x := by simpa using hlow
  have hbv : (BitVec.ofNat 64 x).toNat = x := by rw [BitVec.toNat_ofNat]; exact Nat.mod_eq_of_lt hx
  have hkey := tz_key64 (a := 2 ^ Lib.ctz 64 x) (BitVec.ofNat 64 x) (by rw [hbv]; exact hx0) (by rw [hbv]; exact hlow')
  rw [hbv] at hkey
  exact tz64_core x _ _ w (by simpa using hx0) hkey hi hk hcell
/-! ### The lowest bit taken off -/
def offM (y : Nat) : Nat := y - 2 ^ Lib.ctz 64 y
theorem low_nat {y : Nat} (h0 : y ≠ 0) (hy : y < 18446744073709551616) : Lib.ctz 64 y < 64 ∧ (∀ j, j < Lib.ctz 64 y → y.testBit j = false) ∧ y.testBit (Lib.ctz 64 y) = true ∧ (∀ j, (offM y).testBit j = (y.testBit j && decide (j ≠ Lib.ctz 64 y))) ∧ offM y < y := by
  obtain ⟨m, hm, hk⟩ := Lib.ctzFrom_spec 64 y (by omega) (by simpa using hy)
  have e : Lib.ctz 64 y = Lib.ctzFrom 64 y := by simp [Lib.ctz, h0]
  rw [← e] at hm hk
  unfold offM
  generalize Lib.ctz 64 y = c at *
  have hp : 2 ^ c < 2 ^ (c + 1) := Nat.pow_lt_pow_right (by omega) (by omega)
  have hpos : 0 < 2 ^ c := Nat.pos_of_ne_zero (by simp)
  have e1 : y = 2 ^ (c + 1) * m + 2 ^ c := by rw [hm, Nat.pow_succ, Nat.mul_add, Nat.mul_one, Nat.mul_assoc]
  have e2 : y - 2 ^ c = 2 ^ (c + 1) * m + 0 := by omega
  have b1 : ∀ j, y.testBit j = if j < c + 1 then decide (c = j) else m.testBit (j - (c + 1)) := fun j => by
    rw [e1, Nat.testBit_two_pow_mul_add _ hp, Nat.testBit_two_pow]
  have b2 : ∀ j, (y - 2 ^ c).testBit j = if j < c + 1 then false else m.testBit (j - (c + 1)) := fun j => by
    rw [e2, Nat.testBit_two_pow_mul_add _ (by omega), Nat.zero_testBit]
  refine ⟨hk, fun j hj => ?_, ?_, fun j => ?_, by omega⟩
  · rw [b1, if_pos (by omega)]; simp; omega
  · rw [b1, if_pos (by omega)]; simp
  · rw [b1, b2]
    by_cases hj : j < c + 1
    · rw [if_pos hj, if_pos hj]
      by_cases hjc : c = j
      · subst hjc; simp
      · simp [hjc]
    · rw [if_neg hj, if_neg hj]
      have : j ≠ c := by omega
      simp [this]
theorem bitsOf_zero : bitsOf 0 = [] := by
  unfold bitsOf
  rw [List.filter_eq_nil_iff]; intro j _; simp
theorem bitsOf_step {y : Nat} (h0 : y ≠ 0) (hy : y < 2 ^ 33) : Lib.ctz 64 y < 33 ∧ bitsOf y = Lib.ctz 64 y :: bitsOf (offM y) ∧ offM y < y := by
  obtain ⟨hk, h1, h2, h3, h4⟩ := low_nat h0 (Nat.lt_trans hy (by decide))
  generalize Lib.ctz 64 y = c at *
  have hc : c < 33 := by
    rcases Nat.lt_or_ge c 33 with h | h
    · exact h
    · have := Nat.testBit_lt_two_pow (x := y) (i := c) (Nat.lt_of_lt_of_le hy (Nat.pow_le_pow_right (by omega) h))
      rw [this] at h2; cases h2
  refine ⟨hc, ?_, h4⟩
  have split : List.range 33 = List.range c ++ c :: List.range' (c + 1) (32 - c) := by
    rw [List.range_eq_range', List.range_eq_range']
    have := List.range'_append_1 (s := 0) (m := c) (n := 33 - c)
    rw [show c + (33 - c) = 33 by omega] at this
    rw [← this, Nat.zero_add, show 33 - c = (32 - c) + 1 by omega, List.range'_succ]
  unfold bitsOf
  rw [split, List.filter_append, List.filter_append, List.filter_cons, List.filter_cons]
  have a1 : (List.range c).filter (fun k => y.testBit k) = [] := by
    rw [List.filter_eq_nil_iff]; intro j hj; rw [h1 j (List.mem_range.1 hj)]; simp
  have a2 : (List.range c).filter (fun k => (offM y).testBit k) = [] := by
    rw [List.filter_eq_nil_iff]; intro j hj; rw [h3, h1 j (List.mem_range.1 hj)]; simp
  have a4 : (offM y).testBit c = false := by rw [h3]; simp
  rw [a1, a2, h2, a4]
  simp only [List.nil_append, if_true]
  congr 1
  refine List.filter_congr fun j hj => ?_
  have := List.mem_range'_1.1 hj
  rw [h3]
  have : j ≠ c := by omega
  simp [this]
end Go.Proofs.YtadncjpknckaaaaGreatDoor
