/-
  Maps that a call makes, told by what stands at each key: 'MapK' (block b is a map; at key x it has 'f x'). Look-up without and with 'ok', store.
-/
import Derived.Test.YtjfhfbobnncpkaaDoorBase
import Derived.Maps.OwnSet
import Derived.Maps.OwnOps
import Derived.DeepKeys4
import Derived.BigFrame
namespace Go.Proofs.YtjfhfbobnncpkaaDoor
open Go.RowKit Go.Maps
section
variable {P : Program} {k e t : TypeId} {κ : Type} {kl : κ → Lit} {w : World} {b n : Nat} {f : κ → Option Lit}
/-- Block b is a map of at most n entries; at the key x it has f x. -/
def MapK (P : Program) (k e : TypeId) (kl : κ → Lit) (w : World) (b n : Nat) (f : κ → Option Lit) : Prop :=
  ∃ D : DataW Unit, w.ownsMap P k (plainElem P e) b n D ∧ ∀ x, Maps.has D (kl x) = (f x).isSome ∧ ∀ z, D.atKey (kl x) (.lit z) = .lit ((f x).getD z)
theorem MapK.made (w : World) (P : Program) (k e : TypeId) (kl : κ → Lit) : MapK P k e kl (w.alloc (.map #[] 0)) w.heap.size 0 fun _ => none :=
  ⟨.map [], World.ownsMap_made w P k _, fun _ => ⟨rfl, fun _ => rfl⟩⟩
theorem MapK.lt (h : MapK P k e kl w b n f) : b < w.heap.size := let ⟨_, h1, _⟩ := h; h1.lt
theorem MapK.agr (h : MapK P k e kl w b n f) {w' : World} (hb : w'.heap[b]? = w.heap[b]?) : MapK P k e kl w' b n f := by
  obtain ⟨D, ⟨es, clock, h1, h2⟩, h3⟩ := h
  exact ⟨D, ⟨es, clock, hb.trans h1, h2⟩, h3⟩
theorem MapK.kept (h : MapK P k e kl w b n f) {w' : World} (hx : Ext w w') : MapK P k e kl w' b n f := h.agr (Below.block hx.bel b h.lt)
theorem MapK.grown (h : MapK P k e kl w b n f) {w' : World} {row : Option Nat} (hg : w.grownBy w' row) (hne : some b ≠ row) : MapK P k e kl w' b n f := by
  obtain ⟨D, h1, h3⟩ := h
  exact ⟨D, h1.kept hg hne, h3⟩
theorem plainElem_val {v : Value} {l : Lit} {ps : List MemPlace} (h : plainElem (H := Unit) P e v = some (.lit l, ps)) : v = l.value := by
  unfold plainElem at h
  split at h
  · cases h; rfl
  · split at h
    · rename_i hq; cases h; rw [hq.1]; rfl
    · cases h
  · split at h
    · cases h; simp [Lit.value]
    · cases h
  · cases h
theorem MapK.look (h : MapK P k e kl w b n f) (K : Keyed P k) (ht : P.underlying t = some (.map k e)) {z : Value} (hz : (zeroValue e).run P w = .ok z w) {zl : Lit} {ps : List MemPlace} (hzd : plainElem (H := Unit) P e z = some (.lit zl, ps))
    {key : Value} {x : κ} (hkey : keyOf P k key = some (kl x)) : (Instr.lookup t (.map (some b)) key false).run P w = .ok ((f x).getD zl).value w := by
  obtain ⟨D, h1, h2⟩ := h
  obtain ⟨v, ps', hr, hv⟩ := h1.lookup K ht hz hzd hkey
  rw [(h2 x).2] at hv
  rw [hr, plainElem_val hv]
theorem MapK.lookOk (h : MapK P k e kl w b n f) (K : Keyed P k) (ht : P.underlying t = some (.map k e)) {z : Value} (hz : (zeroValue e).run P w = .ok z w) {zl : Lit} {ps : List MemPlace} (hzd : plainElem (H := Unit) P e z = some (.lit zl, ps))
    {key : Value} {x : κ} (hkey : keyOf P k key = some (kl x)) : (Instr.lookup t (.map (some b)) key true).run P w = .ok (.tuple #[((f x).getD zl).value, .bool (f x).isSome]) w := by
  obtain ⟨D, h1, h2⟩ := h
  obtain ⟨v, ps', hr, hv⟩ := h1.look_ok K ht hz hzd hkey
  rw [(h2 x).2] at hv
  rw [hr, plainElem_val hv, (h2 x).1]
theorem MapK.store [DecidableEq κ] (h : MapK P k e kl w b n f) (K : Keyed P k) (ht : P.underlying t = some (.map k e)) (hn : n < maxLen) (hinj : ∀ x y, kl x = kl y → x = y) (hlit : ∀ x, WideAt.IsKeyLit (kl x))
    {key val : Value} {x : κ} {l : Lit} {ps : List MemPlace} (hkey : keyOf P k key = some (kl x)) (hv : plainElem (H := Unit) P e val = some (.lit l, ps)) :
    ∃ w', (Instr.mapUpdate t (.map (some b)) key val).run P w = .ok () w' ∧ MapK P k e kl w' b (n + 1) (fun y => if y = x then some l else f y) ∧ w.grownBy w' (some b) ∧ w'.drawn = w.drawn := by
  obtain ⟨D, h1, h2⟩ := h
  obtain ⟨w', hr, ho, hg⟩ := h1.store K ht hn hkey hv
  refine ⟨w', hr, ⟨_, ho, fun y => ?_⟩, World.mapTurned.grown hg, ?_⟩
  · by_cases e : y = x
    · subst e
      simp only [↓reduceIte]
      exact ⟨by rw [has_put_same h1.isMap (hlit y)]; rfl, fun z => by rw [atKey_put_same h1.isMap (hlit y)]; rfl⟩
    · simp only [if_neg e]
      have hne : kl y ≠ kl x := fun h => e (hinj _ _ h)
      exact ⟨by rw [has_put_other hne]; exact (h2 y).1, fun z => by rw [atKey_put_other hne]; exact (h2 y).2 z⟩
  · obtain ⟨es, clock, es', clock', hb, rfl⟩ := hg
    rfl
theorem MapK.mono (h : MapK P k e kl w b n f) {n' : Nat} (hn : n ≤ n') : MapK P k e kl w b n' f := by
  obtain ⟨D, h1, h2⟩ := h
  exact ⟨D, h1.mono hn, h2⟩
end
/-! ### At the operation, for the walk -/
section
variable {P : Program} {w : World} {ops : Array Oper} {rest : List Oper} {o : Oper} {a : Act} {Q : Exit → Act → World → Prop} {κ : Type} {kl : κ → Lit}
theorem wp_mapLook (hg : Region.wanted o (yielded ops a.tmps) = true) (m x : Operand) (t : TypeId) (hop : o.op = Op.lookup t m x false) (k e : TypeId) (K : Keyed P k) (ht : P.underlying t = some (.map k e)) {z : Value} (hz : (zeroValue e).run P w = .ok z w)
    {zl : Lit} {ps : List MemPlace} (hzd : plainElem (H := Unit) P e z = some (.lit zl, ps)) {b n : Nat} {f : κ → Option Lit} (hm : a.eval m = .map (some b)) (hown : MapK P k e kl w b n f) (key : Value) (y : κ) (hx : a.eval x = key) (hkey : keyOf P k key = some (kl y))
    (v : Value) (hv : ((f y).getD zl).value = v) (hK : wpList P ops Q rest (a.put o.dst v) w) : wpList P ops Q (o :: rest) a w := by
  refine BigFrame.wpList_want hg fun K' hK' => ?_
  have hrun := hown.look K ht hz hzd hkey
  rw [hv] at hrun
  unfold Oper.wp
  simp [execOp, hop, hm, hx, hrun, Result.andThen]
  exact hK' _ _ hK
theorem wp_mapLookOk (hg : Region.wanted o (yielded ops a.tmps) = true) (m x : Operand) (t : TypeId) (hop : o.op = Op.lookup t m x true) (k e : TypeId) (K : Keyed P k) (ht : P.underlying t = some (.map k e)) {z : Value} (hz : (zeroValue e).run P w = .ok z w)
    {zl : Lit} {ps : List MemPlace} (hzd : plainElem (H := Unit) P e z = some (.lit zl, ps)) {b n : Nat} {f : κ → Option Lit} (hm : a.eval m = .map (some b)) (hown : MapK P k e kl w b n f) (key : Value) (y : κ) (hx : a.eval x = key) (hkey : keyOf P k key = some (kl y))
    (v : Value) (hv : ((f y).getD zl).value = v) (c : Bool) (hc : (f y).isSome = c) (hK : wpList P ops Q rest (a.put o.dst (.tuple #[v, .bool c])) w) : wpList P ops Q (o :: rest) a w := by
  refine BigFrame.wpList_want hg fun K' hK' => ?_
  have hrun := hown.lookOk K ht hz hzd hkey
  rw [hv, hc] at hrun
  unfold Oper.wp
  simp [execOp, hop, hm, hx, hrun, Result.andThen]
  exact hK' _ _ hK
theorem wp_mapStore [DecidableEq κ] (hg : Region.wanted o (yielded ops a.tmps) = true) (m x v : Operand) (t : TypeId) (hop : o.op = Op.mapUpdate t m x v) (k e : TypeId) (K : Keyed P k) (ht : P.underlying t = some (.map k e)) (hinj : ∀ x y, kl x = kl y → x = y) (hlit : ∀ x, WideAt.IsKeyLit (kl x))
    {b n : Nat} {f : κ → Option Lit} (hm : a.eval m = .map (some b)) (hown : MapK P k e kl w b n f) (hn : n < maxLen) (key val : Value) (y : κ) (hx : a.eval x = key) (hv : a.eval v = val) (hkey : keyOf P k key = some (kl y)) {l : Lit} {ps : List MemPlace}
    (hval : plainElem (H := Unit) P e val = some (.lit l, ps))
    (hK : ∀ w', MapK P k e kl w' b (n + 1) (fun z => if z = y then some l else f z) → w.grownBy w' (some b) → w'.drawn = w.drawn → wpList P ops Q rest (a.put o.dst undef) w') : wpList P ops Q (o :: rest) a w := by
  refine BigFrame.wpList_want hg fun K' hK' => ?_
  obtain ⟨w', hrun, r1, r2, r3⟩ := hown.store K ht hn hinj hlit hkey hval
  unfold Oper.wp
  simp [execOp, hop, hm, hx, hv, hrun, Result.andThen]
  exact hK' _ _ (hK w' r1 r2 r3)
end
/-! ### Keys -/
theorem isKeyLit_string (l : List UInt8) : WideAt.IsKeyLit (.string l) := by first | trivial | simp [WideAt.IsKeyLit] | constructor
theorem isKeyLit_int (q : IntKind) (c : Int) : WideAt.IsKeyLit (.int q c) := by first | trivial | simp [WideAt.IsKeyLit] | constructor
def klStr (s : ByteArray) : Lit := .string s.data.toList
theorem klStr_inj (x y : ByteArray) (h : klStr x = klStr y) : x = y := by
  simp only [klStr, Lit.string.injEq] at h
  cases x; cases y
  simp only at h
  congr 1
  exact Array.ext' h
end Go.Proofs.YtjfhfbobnncpkaaDoor
