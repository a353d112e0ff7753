/-
  Maps of counts that a call makes: what stands at each key, and how many keys there are; 'm[k]++' as the program does it (look-up, entry, store at the entry, in a region that draws its order).
-/
import Derived.Test.YtilkemdecenibaaMap
import Derived.WideKeyEntry
import Derived.Maps.OwnSet
namespace Go.Proofs.Ytilkemdecenibaa
open Go.RowKit Go.Maps Go.MapKept Go.ChangeMaps Go.WideElems
section
variable {P : Program} {k e t : TypeId} {κ : Type} {kl : κ → Lit} {w : World} {b n c : Nat} {f : κ → Option Lit}
/-- Block b is a map of at most n entries, of just c; at the key x it has f x. -/
def MapC (P : Program) (k e : TypeId) (kl : κ → Lit) (w : World) (b n c : Nat) (f : κ → Option Lit) : Prop :=
  ∃ D : DataW Unit, w.ownsMap P k (plainElem P e) b n D ∧ Maps.size D = c ∧ (∀ x, Maps.has D (kl x) = (f x).isSome ∧ ∀ z, D.atKey (kl x) (.lit z) = .lit ((f x).getD z)) ∧ ∀ l, Maps.has D l = true → ∃ x, l = kl x
theorem MapC.made (w : World) (P : Program) (k e : TypeId) (kl : κ → Lit) : MapC P k e kl (w.alloc (.map #[] 0)) w.heap.size 0 0 fun _ => none :=
  ⟨.map [], World.ownsMap_made w P k _, rfl, fun _ => ⟨rfl, fun _ => rfl⟩, fun l h => by cases h⟩
theorem MapC.toK (h : MapC P k e kl w b n c f) : MapK P k e kl w b n f := let ⟨D, h1, _, h3, _⟩ := h; ⟨D, h1, h3⟩
theorem MapC.lt (h : MapC P k e kl w b n c f) : b < w.heap.size := h.toK.lt
theorem MapC.agr (h : MapC P k e kl w b n c f) {w' : World} (hb : w'.heap[b]? = w.heap[b]?) : MapC P k e kl w' b n c f := by
  obtain ⟨D, ⟨es, clock, h1, h2⟩, h3⟩ := h
  exact ⟨D, ⟨es, clock, hb.trans h1, h2⟩, h3⟩
theorem MapC.kept (h : MapC P k e kl w b n c f) {w' : World} (hx : Ext w w') : MapC P k e kl w' b n c f := h.agr (Below.block hx.bel b h.lt)
theorem MapC.le (h : MapC P k e kl w b n c f) : c ≤ n := let ⟨_, h1, h2, _⟩ := h; h2 ▸ h1.size_le
theorem MapC.len (h : MapC P k e kl w b n c f) (ht : P.underlying t = some (.map k e)) (ty : TypeId) : (Builtin.len_ #[t] ty #[.map (some b)]).run P w = .ok (.int .i64 c) w := by
  obtain ⟨D, h1, h2, _⟩ := h
  rw [h1.len ht ty, h2]
/-- An entry is laid, and a value stored at it, as by one store. -/
theorem entry_run (K : Keyed P k) (ht : P.underlying t = some (.map k e)) {z : Value} (hz : ∀ u : World, (zeroValue e).run P u = .ok z u) {R : Value → Option (DataW Unit × List MemPlace)} {es : Array MapEntry} {clock : Nat}
    (hb : w.heap[b]? = some (.map es clock)) (F : Fit P k R es clock) {key : Value} {l : Lit} (hkey : keyOf P k key = some l) :
    ∃ (v0 : Value) (st : Nat) (es1 : Array MapEntry) (clock1 : Nat), (Instr.mapEntry t (.map (some b)) key).run P w = .ok (.tuple #[v0, goInt st]) (setBlock w b (.map es1 clock1)) ∧
      (Instr.lookup t (.map (some b)) key false).run P w = .ok v0 w ∧
      (Instr.mapUpdate t (.map (some b)) key v0).run P w = .ok () (setBlock w b (.map es1 clock1)) ∧
      ∀ (w2 : World) (val : Value), w2.heap[b]? = some (.map es1 clock1) → ∃ es' clock', (Instr.entryStore t (.map (some b)) (goInt st) val).run P w2 = .ok () (setBlock w2 b (.map es' clock')) ∧
        (Instr.mapUpdate t (.map (some b)) key val).run P w = .ok () (setBlock w b (.map es' clock')) := by
  obtain ⟨s1, s2, _⟩ := F.stamped
  rcases K.find w hkey es.toList F.keys with ⟨h1, h2⟩ | ⟨j, e0, h1, h2, h3⟩
  · have hup : ∀ val, (Instr.mapUpdate t (.map (some b)) key val).run P w = .ok () (setBlock w b (.map (es.push ⟨key, val, clock⟩) (clock + 1))) := fun val => by
      simp [Instr.mapUpdate, run_underlying ht, MapKept.run_getObj_map hb, K.check w false hkey, h1, MapKept.run_setObj_map _ hb, Result.andThen, setBlock]
    refine ⟨z, clock, es.push ⟨key, z, clock⟩, clock + 1, ?_, ?_, hup z, fun w2 val hw2 => ⟨es.push ⟨key, val, clock⟩, clock + 1, ?_, hup val⟩⟩
    · simp [Instr.mapEntry, run_underlying ht, MapKept.run_getObj_map hb, K.check w false hkey, h1, hz, MapKept.run_setObj_map _ hb, Result.andThen, setBlock]
    · simp [Instr.lookup, run_underlying ht, MapKept.run_getObj_map hb, K.check w _ hkey, h1, hz, Result.andThen]
    · have hnd : ((es.push ⟨key, z, clock⟩).toList.map (·.born)).Nodup := by
        rw [Array.toList_push, List.map_append]
        refine List.nodup_append.2 ⟨s2, by simp, fun a ha c hc e1 => ?_⟩
        obtain ⟨x, hx, rfl⟩ := List.mem_map.1 ha
        have h5 := s1 x hx
        simp at hc
        omega
      have hat : (es.push (⟨key, z, clock⟩ : MapEntry)).toList[es.size]? = some ⟨key, z, clock⟩ := by simp
      have hidx := (findIdx_arr (es.push ⟨key, z, clock⟩) (fun e => ((e.born : Nat) : Int) == ((clock : Nat) : Int))).trans (findIdx_born hnd hat)
      have hmod : (es.push ⟨key, z, clock⟩).modify es.size (fun e => { e with val := val }) = es.push ⟨key, val, clock⟩ := by
        apply Array.ext'
        rw [Array.toList_modify, Array.toList_push, Array.toList_push, ← Array.length_toList, modify_last]
      simp [Instr.entryStore, MapKept.run_getObj_map hw2, asInt, asIntOf, goInt, hidx, hmod, MapKept.run_setObj_map _ hw2, Result.andThen, setBlock]
  · have hj : es[j]? = some e0 := by simpa using h2
    have hself : ∀ g : MapEntry → MapEntry, g e0 = e0 → es.modify j g = es := fun g hg => by
      apply Array.ext'
      rw [Array.toList_modify, modify_eq_set _ _ _ _ h2, hg]
      exact set_self _ _ _ h2
    have hsame : es.modify j (fun e => { e with key := key }) = es := hself _ (by rw [← h3])
    have hup : ∀ val, (Instr.mapUpdate t (.map (some b)) key val).run P w = .ok () (setBlock w b (.map (es.modify j (fun e' => { e' with key := key, val := val })) clock)) := fun val => by
      simp [Instr.mapUpdate, run_underlying ht, MapKept.run_getObj_map hb, K.check w false hkey, h1, hj, h3, K.stays w hkey, MapKept.run_setObj_map _ hb, Result.andThen, setBlock]
    have hup0 := hup e0.val
    rw [hself (fun e' => { e' with key := key, val := e0.val }) (by rw [← h3])] at hup0
    refine ⟨e0.val, e0.born, es, clock, ?_, ?_, hup0, fun w2 val hw2 => ⟨es.modify j (fun e' => { e' with key := key, val := val }), clock, ?_, hup val⟩⟩
    · simp [Instr.mapEntry, run_underlying ht, MapKept.run_getObj_map hb, K.check w false hkey, h1, hj, h3, K.stays w hkey, hsame, MapKept.run_setObj_map _ hb, Result.andThen, setBlock]
    · simp [Instr.lookup, run_underlying ht, MapKept.run_getObj_map hb, K.check w _ hkey, h1, Result.andThen]
    · have hidx := (findIdx_arr es (fun e => ((e.born : Nat) : Int) == ((e0.born : Nat) : Int))).trans (findIdx_born s2 h2)
      have hmod : es.modify j (fun e => { e with val := val }) = es.modify j (fun e' => { e' with key := key, val := val }) := by
        apply Array.ext'
        rw [Array.toList_modify, Array.toList_modify, modify_eq_set _ _ _ _ h2, modify_eq_set _ _ _ _ h2, ← h3]
      simp [Instr.entryStore, MapKept.run_getObj_map hw2, asInt, asIntOf, goInt, hidx, hmod, MapKept.run_setObj_map _ hw2, Result.andThen, setBlock]
theorem has_put_keys {D : DataW Unit} {x : κ} {v : DataW Unit} (h : ∀ l, Maps.has D l = true → ∃ x, l = kl x) : ∀ l, Maps.has (D.put (kl x) v) l = true → ∃ x, l = kl x := by
  intro l hl
  by_cases e : l = kl x
  · exact ⟨x, e⟩
  · rw [has_put_other e] at hl
    exact h l hl
/-- A store, with the count. -/
theorem MapC.store [DecidableEq κ] (h : MapC P k e kl w b n c f) (K : Keyed P k) (ht : P.underlying t = some (.map k e)) (hn : n < maxLen) (hinj : ∀ x y, kl x = kl y → x = y) (hlit : ∀ x, WideAt.IsKeyLit (kl x))
    {key val : Value} {x : κ} {l : Lit} {ps : List MemPlace} (hkey : keyOf P k key = some (kl x)) (hv : plainElem (H := Unit) P e val = some (.lit l, ps)) {es' : Array MapEntry} {clock' : Nat}
    (hrun : (Instr.mapUpdate t (.map (some b)) key val).run P w = .ok () (setBlock w b (.map es' clock'))) :
    ∀ w2 : World, w2.heap[b]? = some (.map es' clock') → MapC P k e kl w2 b (n + 1) (if (f x).isSome then c else c + 1) (fun y => if y = x then some l else f y) := by
  obtain ⟨D, h1, h2, h3, h4⟩ := h
  have hT := h1.tidy K
  obtain ⟨w', hr, ho, hg⟩ := h1.store K ht hn hkey hv
  rw [hrun] at hr
  obtain rfl : _ = w' := by injection hr
  intro w2 hw2
  obtain ⟨es, clock, hb, _⟩ := h1
  have hM : MapC P k e kl (setBlock w b (.map es' clock')) b (n + 1) (if (f x).isSome then c else c + 1) (fun y => if y = x then some l else f y) := by
    refine ⟨_, ho, ?_, fun y => ?_, has_put_keys (x := x) h4⟩
    · rw [size_put hT, (h3 x).1, h2]
    · by_cases e : y = x
      · subst e
        simp only [↓reduceIte]
        exact ⟨by rw [has_put_same hT.isMap (hlit y)]; rfl, fun z => by rw [atKey_put_same hT.isMap (hlit y)]; rfl⟩
      · simp only [if_neg e]
        have hne : kl y ≠ kl x := fun h => e (hinj _ _ h)
        exact ⟨by rw [has_put_other hne]; exact (h3 y).1, fun z => by rw [atKey_put_other hne]; exact (h3 y).2 z⟩
  exact hM.agr (hw2.trans (heap_setBlock_same hb _).symm)
/-- 'm[x]++', operation by operation. -/
theorem MapC.inc [DecidableEq κ] (h : MapC P k e kl w b n c f) (K : Keyed P k) (ht : P.underlying t = some (.map k e)) (he : P.underlying e = some (.int .i64)) (hz : ∀ u : World, (zeroValue e).run P u = .ok (.int .i64 0) u) (hn : n < maxLen)
    (hinj : ∀ x y, kl x = kl y → x = y) (hlit : ∀ x, WideAt.IsKeyLit (kl x)) {key : Value} {x : κ} (hkey : keyOf P k key = some (kl x)) {v : Int} (hv : (f x).getD (.int .i64 0) = .int .i64 v) (hv2 : 0 ≤ v ∧ v < 9223372036854775807) :
    ∃ (v0 : Value) (st : Nat) (es1 es2 : Array MapEntry) (clock1 clock2 : Nat), (∃ es clock, w.heap[b]? = some (.map es clock)) ∧
      (Instr.mapEntry t (.map (some b)) key).run P w = .ok (.tuple #[v0, goInt st]) (setBlock w b (.map es1 clock1)) ∧
      (∀ w2 : World, (w2.heap[b]? = w.heap[b]? ∨ w2.heap[b]? = some (.map es1 clock1)) → (Instr.lookup t (.map (some b)) key false).run P w2 = .ok (.int .i64 v) w2) ∧
      (∀ w2 : World, w2.heap[b]? = some (.map es1 clock1) → (Instr.entryStore t (.map (some b)) (goInt st) (.int .i64 (v + 1))).run P w2 = .ok () (setBlock w2 b (.map es2 clock2)) ∧
        MapC P k e kl (setBlock w2 b (.map es2 clock2)) b (n + 1) (if (f x).isSome then c else c + 1) (fun y => if y = x then some (.int .i64 (v + 1)) else f y)) := by
  have hwf : ∀ a : Int, 0 ≤ a → a ≤ 9223372036854775807 → (Lit.int .i64 a).wf = true := fun a h1 h2 => by
    have e0 : IntKind.i64.min = -9223372036854775808 := by decide
    have e1 : IntKind.i64.max = 9223372036854775807 := by decide
    show (decide (IntKind.i64.min ≤ a) && decide (a ≤ IntKind.i64.max)) = true
    rw [e0, e1, Bool.and_eq_true, decide_eq_true_eq, decide_eq_true_eq]; omega
  have hC := h
  obtain ⟨D, h1, h2, h3, _⟩ := h
  have h1' := h1
  obtain ⟨es, clock, hb, F, hs, rfl⟩ := h1
  obtain ⟨v0, st, es1, clock1, r1, r2, r3, r4⟩ := entry_run K ht hz hb F hkey
  have hzero := plainElem_int (H := Unit) he (hwf 0 (by omega) (by omega))
  have hlook := hC.toK.look (t := t) K ht (hz w) hzero hkey
  rw [hv] at hlook
  -- what the entry holds is what is looked up
  have hv0 : v0 = .int .i64 v := by
    rw [hlook] at r2
    injection r2 with e1
    exact e1.symm
  subst hv0
  have hM1 := hC.store K ht hn hinj hlit hkey (plainElem_int (H := Unit) he (hwf v hv2.1 (by omega))) r3
  obtain ⟨es2, clock2, s1, s2⟩ := r4 (setBlock w b (.map es1 clock1)) (.int .i64 (v + 1)) (heap_setBlock_same hb _)
  have hM2 := hC.store K ht hn hinj hlit hkey (plainElem_int (H := Unit) he (hwf (v + 1) (by omega) (by omega))) s2
  refine ⟨_, st, es1, es2, clock1, clock2, ⟨es, clock, hb⟩, r1, fun w2 hw2 => ?_, fun w2 hw2 => ?_⟩
  · rcases hw2 with hw2 | hw2
    · have := (hC.agr hw2).toK.look (t := t) K ht (hz w2) hzero hkey
      rwa [hv] at this
    · have := (hM1 w2 hw2).toK.look (t := t) K ht (hz w2) hzero hkey
      rw [if_pos rfl] at this
      exact this
  · obtain ⟨es3, clock3, t1, t2⟩ := r4 w2 (.int .i64 (v + 1)) hw2
    rw [s2] at t2
    have t3 : setBlock w b (.map es2 clock2) = setBlock w b (.map es3 clock3) := by injection t2
    have t4 := congrArg (fun u : World => u.heap[b]?) t3
    have t4 : (setBlock w b (.map es2 clock2)).heap[b]? = (setBlock w b (.map es3 clock3)).heap[b]? := t4
    rw [show (setBlock w b (.map es2 clock2)).heap[b]? = some (.map es2 clock2) from heap_setBlock_same hb _, show (setBlock w b (.map es3 clock3)).heap[b]? = some (.map es3 clock3) from heap_setBlock_same hb _] at t4
    have t5 := Option.some.inj t4
    injection t5 with t6 t7
    subst t6; subst t7
    exact ⟨t1, hM2 _ (heap_setBlock_same hw2 _)⟩
end
end Go.Proofs.Ytilkemdecenibaa
