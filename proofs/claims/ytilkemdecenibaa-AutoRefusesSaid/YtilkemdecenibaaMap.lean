/-
  Maps that a call makes, told by what stands at each key: 'MapK' (block b is a map; at key x it has 'f x'). Look-up without and with 'ok', store.
  Small words that all chapters share: returned values, rounds of a loop over a list, sounds compared, slices of integers, strings by bytes.
-/
import Derived.Test.YtilkemdecenibaaBase
import Derived.Maps.OwnSet
import Derived.Maps.OwnOps
import Derived.DeepKeys4
import Derived.BigFrame
import Derived.Test.YtilkemdecenibaaProg
import Derived.Test.YtilkemdecenibaaQt
import Derived.Test.YtilkemdecenibaaApp
import Derived.Test.YtilkemdecenibaaMk
import Derived.Laws.StructEq
namespace Go.Proofs.Ytilkemdecenibaa
open Go.RowKit Go.Maps
section
variable {P : Program} {k e t : TypeId} {κ : Type} {kl : κ → Lit} {w : World} {b n : Nat} {f : κ → Option Lit}
/-- Block b is a map of at most n entries; at the key x it has f x. -/
def MapK (P : Program) (k e : TypeId) (kl : κ → Lit) (w : World) (b n : Nat) (f : κ → Option Lit) : Prop :=
  ∃ D : DataW Unit, w.ownsMap P k (plainElem P e) b n D ∧ ∀ x, Maps.has D (kl x) = (f x).isSome ∧ ∀ z, D.atKey (kl x) (.lit z) = .lit ((f x).getD z)
theorem MapK.made (w : World) (P : Program) (k e : TypeId) (kl : κ → Lit) : MapK P k e kl (w.alloc (.map #[] 0)) w.heap.size 0 fun _ => none :=
  ⟨.map [], World.ownsMap_made w P k _, fun _ => ⟨rfl, fun _ => rfl⟩⟩
theorem MapK.lt (h : MapK P k e kl w b n f) : b < w.heap.size := let ⟨_, h1, _⟩ := h; h1.lt
theorem MapK.agr (h : MapK P k e kl w b n f) {w' : World} (hb : w'.heap[b]? = w.heap[b]?) : MapK P k e kl w' b n f := by
  obtain ⟨D, ⟨es, clock, h1, h2⟩, h3⟩ := h
  exact ⟨D, ⟨es, clock, hb.trans h1, h2⟩, h3⟩
theorem MapK.kept (h : MapK P k e kl w b n f) {w' : World} (hx : Ext w w') : MapK P k e kl w' b n f := h.agr (Below.block hx.bel b h.lt)
theorem MapK.grown (h : MapK P k e kl w b n f) {w' : World} {row : Option Nat} (hg : w.grownBy w' row) (hne : some b ≠ row) : MapK P k e kl w' b n f := by
  obtain ⟨D, h1, h3⟩ := h
  exact ⟨D, h1.kept hg hne, h3⟩
theorem plainElem_val {v : Value} {l : Lit} {ps : List MemPlace} (h : plainElem (H := Unit) P e v = some (.lit l, ps)) : v = l.value := by
  unfold plainElem at h
  split at h
  · cases h; rfl
  · split at h
    · rename_i hq; cases h; rw [hq.1]; rfl
    · cases h
  · split at h
    · cases h; simp [Lit.value]
    · cases h
  · cases h
theorem MapK.look (h : MapK P k e kl w b n f) (K : Keyed P k) (ht : P.underlying t = some (.map k e)) {z : Value} (hz : (zeroValue e).run P w = .ok z w) {zl : Lit} {ps : List MemPlace} (hzd : plainElem (H := Unit) P e z = some (.lit zl, ps))
    {key : Value} {x : κ} (hkey : keyOf P k key = some (kl x)) : (Instr.lookup t (.map (some b)) key false).run P w = .ok ((f x).getD zl).value w := by
  obtain ⟨D, h1, h2⟩ := h
  obtain ⟨v, ps', hr, hv⟩ := h1.lookup K ht hz hzd hkey
  rw [(h2 x).2] at hv
  rw [hr, plainElem_val hv]
theorem MapK.lookOk (h : MapK P k e kl w b n f) (K : Keyed P k) (ht : P.underlying t = some (.map k e)) {z : Value} (hz : (zeroValue e).run P w = .ok z w) {zl : Lit} {ps : List MemPlace} (hzd : plainElem (H := Unit) P e z = some (.lit zl, ps))
    {key : Value} {x : κ} (hkey : keyOf P k key = some (kl x)) : (Instr.lookup t (.map (some b)) key true).run P w = .ok (.tuple #[((f x).getD zl).value, .bool (f x).isSome]) w := by
  obtain ⟨D, h1, h2⟩ := h
  obtain ⟨v, ps', hr, hv⟩ := h1.look_ok K ht hz hzd hkey
  rw [(h2 x).2] at hv
  rw [hr, plainElem_val hv, (h2 x).1]
theorem MapK.store [DecidableEq κ] (h : MapK P k e kl w b n f) (K : Keyed P k) (ht : P.underlying t = some (.map k e)) (hn : n < maxLen) (hinj : ∀ x y, kl x = kl y → x = y) (hlit : ∀ x, WideAt.IsKeyLit (kl x))
    {key val : Value} {x : κ} {l : Lit} {ps : List MemPlace} (hkey : keyOf P k key = some (kl x)) (hv : plainElem (H := Unit) P e val = some (.lit l, ps)) :
    ∃ w', (Instr.mapUpdate t (.map (some b)) key val).run P w = .ok () w' ∧ MapK P k e kl w' b (n + 1) (fun y => if y = x then some l else f y) ∧ w.grownBy w' (some b) ∧ w'.drawn = w.drawn := by
  obtain ⟨D, h1, h2⟩ := h
  obtain ⟨w', hr, ho, hg⟩ := h1.store K ht hn hkey hv
  refine ⟨w', hr, ⟨_, ho, fun y => ?_⟩, World.mapTurned.grown hg, ?_⟩
  · by_cases e : y = x
    · subst e
      simp only [↓reduceIte]
      exact ⟨by rw [has_put_same h1.isMap (hlit y)]; rfl, fun z => by rw [atKey_put_same h1.isMap (hlit y)]; rfl⟩
    · simp only [if_neg e]
      have hne : kl y ≠ kl x := fun h => e (hinj _ _ h)
      exact ⟨by rw [has_put_other hne]; exact (h2 y).1, fun z => by rw [atKey_put_other hne]; exact (h2 y).2 z⟩
  · obtain ⟨es, clock, es', clock', hb, rfl⟩ := hg
    rfl
theorem MapK.mono (h : MapK P k e kl w b n f) {n' : Nat} (hn : n ≤ n') : MapK P k e kl w b n' f := by
  obtain ⟨D, h1, h2⟩ := h
  exact ⟨D, h1.mono hn, h2⟩
end
/-! ### At the operation, for the walk -/
section
variable {P : Program} {w : World} {ops : Array Oper} {rest : List Oper} {o : Oper} {a : Act} {Q : Exit → Act → World → Prop} {κ : Type} {kl : κ → Lit}
theorem wp_mapLook (hg : Region.wanted o (yielded ops a.tmps) = true) (m x : Operand) (t : TypeId) (hop : o.op = Op.lookup t m x false) (k e : TypeId) (K : Keyed P k) (ht : P.underlying t = some (.map k e)) {z : Value} (hz : (zeroValue e).run P w = .ok z w)
    {zl : Lit} {ps : List MemPlace} (hzd : plainElem (H := Unit) P e z = some (.lit zl, ps)) {b n : Nat} {f : κ → Option Lit} (hm : a.eval m = .map (some b)) (hown : MapK P k e kl w b n f) (key : Value) (y : κ) (hx : a.eval x = key) (hkey : keyOf P k key = some (kl y))
    (v : Value) (hv : ((f y).getD zl).value = v) (hK : wpList P ops Q rest (a.put o.dst v) w) : wpList P ops Q (o :: rest) a w := by
  refine BigFrame.wpList_want hg fun K' hK' => ?_
  have hrun := hown.look K ht hz hzd hkey
  rw [hv] at hrun
  unfold Oper.wp
  simp [execOp, hop, hm, hx, hrun, Result.andThen]
  exact hK' _ _ hK
theorem wp_mapLookOk (hg : Region.wanted o (yielded ops a.tmps) = true) (m x : Operand) (t : TypeId) (hop : o.op = Op.lookup t m x true) (k e : TypeId) (K : Keyed P k) (ht : P.underlying t = some (.map k e)) {z : Value} (hz : (zeroValue e).run P w = .ok z w)
    {zl : Lit} {ps : List MemPlace} (hzd : plainElem (H := Unit) P e z = some (.lit zl, ps)) {b n : Nat} {f : κ → Option Lit} (hm : a.eval m = .map (some b)) (hown : MapK P k e kl w b n f) (key : Value) (y : κ) (hx : a.eval x = key) (hkey : keyOf P k key = some (kl y))
    (v : Value) (hv : ((f y).getD zl).value = v) (c : Bool) (hc : (f y).isSome = c) (hK : wpList P ops Q rest (a.put o.dst (.tuple #[v, .bool c])) w) : wpList P ops Q (o :: rest) a w := by
  refine BigFrame.wpList_want hg fun K' hK' => ?_
  have hrun := hown.lookOk K ht hz hzd hkey
  rw [hv, hc] at hrun
  unfold Oper.wp
  simp [execOp, hop, hm, hx, hrun, Result.andThen]
  exact hK' _ _ hK
theorem wp_mapStore [DecidableEq κ] (hg : Region.wanted o (yielded ops a.tmps) = true) (m x v : Operand) (t : TypeId) (hop : o.op = Op.mapUpdate t m x v) (k e : TypeId) (K : Keyed P k) (ht : P.underlying t = some (.map k e)) (hinj : ∀ x y, kl x = kl y → x = y) (hlit : ∀ x, WideAt.IsKeyLit (kl x))
    {b n : Nat} {f : κ → Option Lit} (hm : a.eval m = .map (some b)) (hown : MapK P k e kl w b n f) (hn : n < maxLen) (key val : Value) (y : κ) (hx : a.eval x = key) (hv : a.eval v = val) (hkey : keyOf P k key = some (kl y)) {l : Lit} {ps : List MemPlace}
    (hval : plainElem (H := Unit) P e val = some (.lit l, ps))
    (hK : ∀ w', MapK P k e kl w' b (n + 1) (fun z => if z = y then some l else f z) → w.grownBy w' (some b) → w'.drawn = w.drawn → wpList P ops Q rest (a.put o.dst undef) w') : wpList P ops Q (o :: rest) a w := by
  refine BigFrame.wpList_want hg fun K' hK' => ?_
  obtain ⟨w', hrun, r1, r2, r3⟩ := hown.store K ht hn hinj hlit hkey hval
  unfold Oper.wp
  simp [execOp, hop, hm, hx, hv, hrun, Result.andThen]
  exact hK' _ _ (hK w' r1 r2 r3)
end
/-! ### Keys -/
theorem isKeyLit_string (l : List UInt8) : WideAt.IsKeyLit (.string l) := by first | trivial | simp [WideAt.IsKeyLit] | constructor
theorem isKeyLit_int (q : IntKind) (c : Int) : WideAt.IsKeyLit (.int q c) := by first | trivial | simp [WideAt.IsKeyLit] | constructor
def klStr (s : ByteArray) : Lit := .string s.data.toList
theorem klStr_inj (x y : ByteArray) (h : klStr x = klStr y) : x = y := by
  simp only [klStr, Lit.string.injEq] at h
  cases x; cases y
  simp only at h
  congr 1
  exact Array.ext' h
end Go.Proofs.Ytilkemdecenibaa
namespace Go.Proofs.Ytilkemdecenibaa
open Go.RowKit
theorem ret_bool {a b : Bool} (h : a = b) : Ending.returned (.bool a) = .returned (.bool b) := by rw [h]
theorem ret_int {k : IntKind} {a b : Int} (h : a = b) : Ending.returned (.int k a) = .returned (.int k b) := by rw [h]
theorem all_succ {α : Type} {xs : List α} {p : α → Bool} {k : Nat} {s : α} (h : ∀ (i : Nat) (x : α), i < k → xs[i]? = some x → p x = true) (hs : xs[k]? = some s) (hp : p s = true) : ∀ (i : Nat) (x : α), i < k + 1 → xs[i]? = some x → p x = true := by
  intro i x hi hx
  by_cases e : i = k
  · subst e; rw [hs] at hx; cases hx; exact hp
  · exact h i x (by omega) hx
theorem all_of_each {α : Type} {xs : List α} {p : α → Bool} {n : Nat} (hl : xs.length = n) (h : ∀ (i : Nat) (x : α), i < n → xs[i]? = some x → p x = true) : xs.all p = true := by
  rw [List.all_eq_true]; intro x hx
  obtain ⟨i, hi⟩ := List.getElem?_of_mem hx
  exact h i x (by have := (List.getElem?_eq_some_iff.1 hi).1; omega) hi
theorem all_not {α : Type} {xs : List α} {p : α → Bool} {i : Nat} {x : α} (hi : xs[i]? = some x) (hp : p x = false) : xs.all p = false := by
  rw [List.all_eq_false]; exact ⟨x, List.mem_of_getElem? hi, by simp [hp]⟩
section
variable {α : Type} {xs ys : List α} {n k : Nat}
theorem eq_succ (h : xs.take k = ys.take k) {s : α} (h1 : xs[k]? = some s) (h2 : ys[k]? = some s) : xs.take (k + 1) = ys.take (k + 1) := by
  rw [List.take_add_one, List.take_add_one, h, h1, h2]
theorem eq_end (hx : xs.length = n) (hy : ys.length = n) (hk : ¬ k < n) (h : xs.take k = ys.take k) : xs = ys := by
  rwa [List.take_of_length_le (by omega), List.take_of_length_le (by omega)] at h
theorem ne_at {s t : α} (h1 : xs[k]? = some s) (h2 : ys[k]? = some t) (h : s ≠ t) : xs ≠ ys := by
  rintro rfl; rw [h1] at h2; exact h (Option.some.inj h2)
theorem ne_len {m : Nat} (hx : xs.length = n) (hy : ys.length = m) (h : n ≠ m) : xs ≠ ys := by rintro rfl; exact h (hx.symm.trans hy)
end
theorem take_succ_at {α : Type} {xs : List α} {k : Nat} {x : α} (h : xs[k]? = some x) : xs.take (k + 1) = xs.take k ++ [x] := by
  rw [List.take_add_one, h]; rfl
/-- The element at a place, and its cells. -/
theorem RdK.get {α : Type} {k : Nat} {enc : α → List Value} {w : World} {a : Option Addr} {n cap : Nat} {xs : List α} (h : RdK k enc w a n cap xs) {i : Nat} (hi : i < n) :
    ∃ b off x, a = some ⟨b, off, none⟩ ∧ Hid (xs[i]? = some x) ∧ b < w.heap.size ∧ ∀ j u, (enc x)[j]? = some u → w.cell? ⟨b, off + i * k + j, none⟩ = some u := by
  obtain ⟨b, off, ha, hb, hc⟩ := h.pos (by omega)
  have hl := h.len
  have hs : xs[i]? = some xs[i] := List.getElem?_eq_getElem (by omega)
  exact ⟨b, off, xs[i], ha, hs, hb, hc i _ hs⟩
/-! ### Sounds -/
/-- A sound is valid: no feature has both values, and all its features are below 24. -/
def Snd.ok (s : Snd) : Bool := (s.p.toNat &&& s.m.toNat == 0) && decide ((s.p.toNat ||| s.m.toNat) < 16777216)
theorem snd_eq_iff (s t : Snd) : s = t ↔ s.p.toNat = t.p.toNat ∧ s.m.toNat = t.m.toNat := by
  refine ⟨fun h => by rw [h]; exact ⟨rfl, rfl⟩, fun ⟨h1, h2⟩ => ?_⟩
  cases s; cases t; simp only [Snd.mk.injEq]; exact ⟨BitVec.eq_of_toNat_eq h1, BitVec.eq_of_toNat_eq h2⟩
theorem eql_snd (s t : Snd) (w : World) : (binOp .eql 24 (.agg #[.int .u32 s.p.toNat, .int .u32 s.m.toNat]) (.agg #[.int .u32 t.p.toNat, .int .u32 t.m.toNat])).run Try.prog w = .ok (.bool (decide (s = t))) w := by
  have hS : Try.prog.underlying 24 = some (.struct (Try.prog.fieldsOf 24)) := by kernel_rfl
  have hp : Try.prog.stoodInHeld 24 = false := by kernel_rfl
  rw [run_eql_struct, show (10000 : Nat) = 9999 + 1 from rfl, run_equalIn_agg w 9999 24 _ _ hS hp]
  simp only [Program.fieldsOf, Try.underlying24]
  go_simp
  by_cases h1 : s.p.toNat = t.p.toNat <;> by_cases h2 : s.m.toNat = t.m.toNat <;> simp [h1, h2, snd_eq_iff] <;> omega
theorem neq_snd (s t : Snd) (w : World) : (binOp .neq 24 (.agg #[.int .u32 s.p.toNat, .int .u32 s.m.toNat]) (.agg #[.int .u32 t.p.toNat, .int .u32 t.m.toNat])).run Try.prog w = .ok (.bool (!decide (s = t))) w := by
  have hS : Try.prog.underlying 24 = some (.struct (Try.prog.fieldsOf 24)) := by kernel_rfl
  have hp : Try.prog.stoodInHeld 24 = false := by kernel_rfl
  rw [run_neq_struct, show (10000 : Nat) = 9999 + 1 from rfl, run_equalIn_agg w 9999 24 _ _ hS hp]
  simp only [Program.fieldsOf, Try.underlying24]
  go_simp
  by_cases h1 : s.p.toNat = t.p.toNat <;> by_cases h2 : s.m.toNat = t.m.toNat <;> simp [h1, h2, snd_eq_iff] <;> omega
theorem info_snd : (Try.prog.info? 24).map (fun i => (i.zero, i.size, i.bytes)) = some (some (.agg #[.int .u32 0, .int .u32 0]), 2, 8) := by kernel_rfl
theorem Snd.one (s : Snd) : ∀ u ∈ s.enc, u.oneCell' = true := by intro u hu; simp [Snd.enc] at hu; rcases hu with rfl | rfl <;> rfl
theorem div24 (x : Nat) : ((x : Int) / 16777216 == 0) = decide (x < 16777216) := by
  rw [Bool.eq_iff_iff]; simp only [beq_iff_eq, decide_eq_true_eq]; omega
/-! ### Integers -/
/-- An int in a cell. -/
def I64.enc (x : Int) : List Value := [.int .i64 x]
theorem I64.len (x : Int) : (I64.enc x).length = 1 := rfl
theorem I64.one (x : Int) : ∀ u ∈ I64.enc x, u.oneCell' = true := by intro u hu; simp [I64.enc] at hu; subst hu; rfl
abbrev RdI := RdK 1 I64.enc
abbrev OwnI := OwnK 1 I64.enc
theorem RdK.i64 {w : World} {a : Option Addr} {n cap : Nat} {xs : List Int} (h : RdK 1 I64.enc w a n cap xs) {i : Nat} (hi : i < n) :
    ∃ b off x, a = some ⟨b, off, none⟩ ∧ Hid (xs[i]? = some x) ∧ b < w.heap.size ∧ w.cell? ⟨b, off + i, none⟩ = some (.int .i64 x) := by
  obtain ⟨b, off, x, ha, hx, hb, hc⟩ := h.get hi
  exact ⟨b, off, x, ha, hx, hb, by have := hc 0 _ rfl; simpa using this⟩
end Go.Proofs.Ytilkemdecenibaa
