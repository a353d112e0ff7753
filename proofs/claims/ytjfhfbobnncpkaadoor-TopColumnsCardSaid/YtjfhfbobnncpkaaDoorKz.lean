/-
  corr.sum: the program's sum of correspondences, over any iterator.
-/
import Derived.Test.YtjfhfbobnncpkaaDoorKv
import Derived.Test.YtjfhfbobnncpkaaDoorKy
import Derived.Test.YtjfhfbobnncpkaaDoorBl
import Derived.Test.YtjfhfbobnncpkaaDoorBf
import Derived.Test.YtjfhfbobnncpkaaDoorHs
import Derived.Test.YtjfhfbobnncpkaaDoorRg
namespace Go.Proofs.YtjfhfbobnncpkaaDoor
open Go.RowKit Go.Shelf Go.Maps
/-- The key of cells. -/
def kyS (x : List Cl) : ByteArray := ⟨(keyCs x).toArray⟩
/-- The map leads from each key to its place. -/
def Idx (hs : List HCo) (f : ByteArray → Option Lit) : Prop :=
  (∀ (i : Nat) (y : HCo), hs[i]? = some y → f (kyS y.x) = some (.int .i64 i)) ∧ ∀ s l, f s = some l → ∃ (i : Nat) (y : HCo), hs[i]? = some y ∧ s = kyS y.x ∧ l = .int .i64 i
/-- What stands while the correspondences are summed. -/
def SumI (B O Mb M : Nat) (w0 : World) (pre : List HCo) (W : World) : Prop :=
  ∃ v hs f, OwnLC B W v hs ∧ Boxed W O 37 v ∧ Boxed W Mb 93 (.map (some M)) ∧ MapK Tryd.prog 9 3 klStr W M hs.length f ∧ Hid (Idx hs f) ∧ Hid (SumA (pre.map kp) (hs.map kp)) ∧ Hid (hs.length ≤ pre.length) ∧ Hid (∀ y ∈ hs, ∃ z ∈ pre, z.x = y.x) ∧ Ext w0 W
theorem wf_i64 (x : Int) (h0 : 0 ≤ x) (hx : x ≤ 4294967295) : (Lit.int .i64 x).wf = true := by
  have h0 : IntKind.i64.min = -9223372036854775808 := by decide
  have h1 : IntKind.i64.max = 9223372036854775807 := by decide
  show (decide (IntKind.i64.min ≤ x) && decide (x ≤ IntKind.i64.max)) = true
  rw [h0, h1, Bool.and_eq_true, decide_eq_true_eq, decide_eq_true_eq]; omega
theorem zeroI (w : World) : (zeroValue 3).run Tryd.prog w = .ok (.int .i64 0) w := by kernel_rfl
theorem str_key : Keyed Tryd.prog 9 := string_keyed Tryd.underlying9
theorem OwnLC.kept {B : Nat} {w w' : World} {v : Value} {hs : List HCo} (h : OwnLC B w v hs) (hx : Ext w w') : OwnLC B w' v hs := ⟨h.own.kept hx, fun y hy => (h.ok y hy).kept hx⟩
theorem OwnK.hdr {α : Type} {k : Nat} {enc : α → List Value} {B : Nat} {e : TypeId} {w : World} {v : Value} {xs : List α} (h : OwnK k enc B e w v xs) (hx : 0 < xs.length) : ∃ g cap, v = .slice (some ⟨g, 0, none⟩) xs.length cap := by
  obtain ⟨h1, h2⟩ := h
  rcases h2 with ⟨_, h0⟩ | ⟨g', cap', cur, hv, _⟩
  · omega
  · exact ⟨g', cap', hv⟩
theorem OwnLC.cnt {B g n cap : Nat} {w : World} {hs : List HCo} (h : OwnLC B w (.slice (some ⟨g, 0, none⟩) n cap) hs) {i : Nat} {z : HCo} (hi : hs[i]? = some z) (c : Int) :
    OwnLC B (w.setCell ⟨g, i * 2 + 1, none⟩ (.int .i64 c)) (.slice (some ⟨g, 0, none⟩) n cap) (hs.set i { z with cnt := c }) ∧ w.grownBy (w.setCell ⟨g, i * 2 + 1, none⟩ (.int .i64 c)) (some g) := by
  obtain ⟨ho, hok⟩ := h
  have hl := (OwnK.ge ho).2.2.1
  have hin : i < hs.length := (List.getElem?_eq_some_iff.1 hi).1
  subst hl
  have hfl := length_flatMap_enc HCo.len hs
  obtain ⟨h1, h2⟩ := World.ownsRow.stored ho (i * 2 + 1) (.int .i64 c)
  refine ⟨⟨?_, fun y hy => ?_⟩, h2⟩
  · have h3 : (hs.flatMap HCo.enc).set (i * 2) (.slice z.a z.n z.cap) = hs.flatMap HCo.enc := by
      apply List.ext_getElem?
      intro j
      rw [List.getElem?_set]
      split
      · rename_i e
        subst e
        rw [if_pos (by omega)]
        exact (flatMap_at HCo.len hs i z hi 0 _ rfl).symm
      · rfl
    have h4 := flat_set HCo.len hs i { z with cnt := c } hin
    have h5 := set_two (hs.flatMap HCo.enc) (i * 2) (.slice z.a z.n z.cap) (.int .i64 c) (by omega)
    rw [h3] at h5
    unfold OwnK
    rw [List.length_set, h4]
    rw [h5] at h1
    exact h1
  · have hb : ∀ g', some g = some g' → ∃ cur fr, w.heap[g']? = some (.cells cur 45 fr) := fun g' e => OwnK.blk' ho g' e
    rcases List.mem_or_eq_of_mem_set hy with h | h
    · exact (hok y h).other h2 hb (by decide)
    · subst h
      exact (hok z (List.mem_of_getElem? hi)).other h2 hb (by decide)
theorem sumA_hit {pre hs : List HCo} {y z : HCo} {i : Nat} (h : SumA (pre.map kp) (hs.map kp)) (hi : hs[i]? = some z) (hzx : z.x = y.x) : SumA ((pre ++ [y]).map kp) ((hs.set i { z with cnt := z.cnt + y.cnt }).map kp) := by
  rw [List.map_append, List.map_set]
  exact h.hit (i := i) (x := kp y) (y := kp z) (by rw [List.getElem?_map, hi]; rfl) hzx
theorem from_set {pre hs : List HCo} {y z : HCo} {i : Nat} {c : Int} (h : ∀ u ∈ hs, ∃ z ∈ pre, z.x = u.x) (hi : hs[i]? = some z) : ∀ u ∈ hs.set i { z with cnt := c }, ∃ z ∈ pre ++ [y], z.x = u.x := by
  intro u hu
  rcases List.mem_or_eq_of_mem_set hu with h1 | h1
  · obtain ⟨v, h2, h3⟩ := h u h1; exact ⟨v, List.mem_append_left _ h2, h3⟩
  · subst h1
    obtain ⟨v, h2, h3⟩ := h z (List.mem_of_getElem? hi); exact ⟨v, List.mem_append_left _ h2, h3⟩
theorem sumA_miss {pre hs : List HCo} {y z : HCo} (h : SumA (pre.map kp) (hs.map kp)) (hn : ¬ ∃ (i : Nat) (z : HCo), hs[i]? = some z ∧ z.x = y.x) (hzx : z.x = y.x) (hc : z.cnt = y.cnt) : SumA ((pre ++ [y]).map kp) ((hs ++ [z]).map kp) := by
  rw [List.map_append, List.map_append]
  have : [z].map kp = [y].map kp := by simp [kp, hzx, hc]
  rw [this]
  exact h.miss (x := kp y) fun u hu e => by
    obtain ⟨v, hv, rfl⟩ := List.mem_map.1 hu
    obtain ⟨i, hi⟩ := List.getElem?_of_mem hv
    exact hn ⟨i, v, hi, e⟩
theorem set_snoc {α : Type} (b a : α) : ∀ l : List α, (l ++ [a]).set l.length b = l ++ [b]
  | [] => rfl
  | x :: l => by rw [List.cons_append, List.length_cons, List.set_cons_succ, set_snoc b a l]; rfl
theorem Idx.miss {hs : List HCo} {f : ByteArray → Option Lit} (h : Idx hs f) {y z : HCo} (hzx : z.x = y.x) (hf0 : f (kyS y.x) = none) {no : Nat} (hno : no = hs.length) : Idx (hs ++ [z]) (fun u => if u = kyS y.x then some (.int .i64 no) else f u) := by
  subst hno
  refine ⟨fun j u hj => ?_, fun t l ht => ?_⟩
  · show (if kyS u.x = kyS y.x then some (.int .i64 (hs.length : Int)) else f (kyS u.x)) = _
    by_cases hjn : j = hs.length
    · subst hjn
      simp at hj
      subst hj
      rw [if_pos (by rw [hzx])]
    · have hjl : j < hs.length := by
        have := (List.getElem?_eq_some_iff.1 hj).1
        rw [List.length_append, List.length_singleton] at this
        omega
      rw [List.getElem?_append_left hjl] at hj
      have hf := h.1 j u hj
      rw [if_neg (fun e => by rw [e, hf0] at hf; cases hf)]
      exact hf
  · have ht : (if t = kyS y.x then some (.int .i64 (hs.length : Int)) else f t) = some l := ht
    by_cases e : t = kyS y.x
    · rw [if_pos e] at ht
      cases ht
      exact ⟨hs.length, z, by simp, by rw [e, hzx], rfl⟩
    · rw [if_neg e] at ht
      obtain ⟨j, u, r1, r2, r3⟩ := h.2 t l ht
      exact ⟨j, u, by rw [List.getElem?_append_left (List.getElem?_eq_some_iff.1 r1).1]; exact r1, r2, r3⟩
theorem sumK_ex : ∀ l : List (List Cl × Int), ∃ L, SumK cmpCs l.reverse L
  | [] => ⟨[], SumK.nil⟩
  | x :: l => by
    obtain ⟨L, h⟩ := sumK_ex l
    exact ⟨addK cmpCs L x, by rw [List.reverse_cons]; exact h.add cmpCs_tot x⟩
theorem sumK_over {l : List (List Cl × Int)} {hs : List HCo} (h : SumA l (hs.map kp)) (ho : hs.any overB = true) : ∃ L, SumK cmpCs l L ∧ sumE L = 7 := by
  obtain ⟨L, hL⟩ := sumK_ex l.reverse
  rw [List.reverse_reverse] at hL
  refine ⟨L, hL, ?_⟩
  obtain ⟨u, hu, hub⟩ := List.any_eq_true.1 ho
  obtain ⟨h1, y, hy, hyu⟩ := h.2.1 (kp u) (List.mem_map.2 ⟨u, hu, rfl⟩)
  obtain ⟨x, hx, hxy⟩ := hL.2.2 y hy
  obtain ⟨h2, _⟩ := hL.2.1 x hx
  unfold sumE
  rw [if_pos]
  refine List.any_eq_true.2 ⟨x, hx, ?_⟩
  have hub : 2147483647 < u.cnt := by simpa [overB] using hub
  rw [h2, hxy, hyu, ← h1]
  exact decide_eq_true hub
theorem sumK_sorted {l : List (List Cl × Int)} {hs ts : List HCo} (h : SumA l (hs.map kp)) (ho : hs.any overB = false) (hp : ts.Perm hs) (hs2 : ts.Pairwise (fun x y => ¬ cmpCs y.x x.x < 0)) : SumK cmpCs l (ts.map kp) ∧ sumE (ts.map kp) = 0 := by
  refine ⟨h.sorted cmpCs_tot (hp.map _) ?_, ?_⟩
  · rw [List.pairwise_map]
    refine hs2.imp fun {a b} hab => ?_
    have := cmpCs_tot.anti a.x b.x
    show cmpCs a.x b.x ≤ 0
    omega
  · unfold sumE
    rw [if_neg]
    rw [Bool.not_eq_true, List.any_eq_false]
    intro x hx hxo
    obtain ⟨u, hu, rfl⟩ := List.mem_map.1 hx
    have := List.any_eq_false.1 ho u (hp.mem_iff.1 hu)
    exact this hxo
theorem MapK.obj {κ : Type} {kl : κ → Lit} {k e : TypeId} {w : World} {b n : Nat} {f : κ → Option Lit} (h : MapK Tryd.prog k e kl w b n f) : ∃ o : Obj, w.heap[b]? = some o ∧ o.isCells = false := by
  obtain ⟨D, ⟨es, ck, h1, _⟩, _⟩ := h
  exact ⟨_, h1, rfl⟩
theorem MapK.ne {κ : Type} {kl : κ → Lit} {k e t : TypeId} {w : World} {b n : Nat} {f : κ → Option Lit} (h : MapK Tryd.prog k e kl w b n f) {g : Nat} {cur : Array Value} {fr : Nat × Nat} (hg : w.heap[g]? = some (.cells cur t fr)) : some b ≠ some g := fun e1 => by
  obtain ⟨D, ⟨es, ck, h1, _⟩, _⟩ := h
  cases e1
  rw [hg] at h1; cases h1
theorem Boxed.ne {t t' : TypeId} {w : World} {b : Nat} {v : Value} (h : Boxed w b t v) {g : Nat} {cur : Array Value} {fr : Nat × Nat} (hg : w.heap[g]? = some (.cells cur t' fr)) (hne : t ≠ t') : some b ≠ some g := fun e1 => by
  cases e1
  unfold Boxed at h
  rw [hg] at h; cases h; exact hne rfl
theorem Boxed.more {w w' : World} {B : Nat} {t : TypeId} {v : Value} (h : Boxed w B t v) (hx : Ext w w') : Boxed w' B t v := (Below.block hx.bel B h.lt).trans h
theorem keepF {B : Nat} {W W' : World} (h : Ext W W') : KeepsFrom B W W' := ⟨h.le, fun k _ _ hk _ => (Below.block h.bel k (Array.getElem?_eq_some_iff.1 hk).1).trans hk⟩
/-- The list with a count set. -/
theorem Idx.set {hs : List HCo} {f : ByteArray → Option Lit} (h : Idx hs f) {i : Nat} {z : HCo} (hi : hs[i]? = some z) (c : Int) : Idx (hs.set i { z with cnt := c }) f := by
  have hin := (List.getElem?_eq_some_iff.1 hi).1
  refine ⟨fun j y hj => ?_, fun s l hl => ?_⟩
  · rw [List.getElem?_set] at hj
    split at hj
    · rename_i e; subst e
      cases hj
      exact h.1 i z hi
    · exact h.1 j y hj
  · obtain ⟨j, y, hj, r1, r2⟩ := h.2 s l hl
    by_cases e : i = j
    · subst e
      rw [hi] at hj; cases hj
      exact ⟨i, { z with cnt := c }, by simp [hin], r1, r2⟩
    · exact ⟨j, y, by rw [List.getElem?_set, if_neg e]; exact hj, r1, r2⟩
theorem key_str (s : ByteArray) (hs : s.size ≤ maxLen) : keyOf Tryd.prog 9 (.string s) = some (klStr s) := WideMaps.keyOf_string_mk Tryd.underlying9 hs
attribute [local go_sem] Oper.semAt_some
theorem OwnK.beside {α : Type} {k : Nat} {enc : α → List Value} {B : Nat} {e : TypeId} {w w' : World} {v : Value} {xs : List α} {row : Option Nat} (h : OwnK k enc B e w v xs) (hg : w.grownBy w' row) (hr : ∀ r, row = some r → ∃ o : Obj, w.heap[r]? = some o ∧ o.isCells = false) : OwnK k enc B e w' v xs := by
  obtain ⟨h1, h2⟩ := h
  refine ⟨h1, ?_⟩
  rcases h2 with h2 | ⟨g', cap', cur, hv, hB, hh, r⟩
  · exact .inl h2
  · refine .inr ⟨g', cap', cur, hv, hB, (hg.block g' (Array.getElem?_eq_some_iff.1 hh).1 fun e1 => ?_).trans hh, r⟩
    obtain ⟨o, ho, hc⟩ := hr g' e1.symm
    rw [hh] at ho; cases ho; cases hc
theorem OwnLC.beside {B : Nat} {w w' : World} {v : Value} {hs : List HCo} {row : Option Nat} (h : OwnLC B w v hs) (hg : w.grownBy w' row) (hr : ∀ r, row = some r → ∃ o : Obj, w.heap[r]? = some o ∧ o.isCells = false) : OwnLC B w' v hs :=
  ⟨h.own.beside hg hr, fun y hy => (h.ok y hy).beside hg hr⟩
/-- A sum of correspondences handed back, or why there is none. -/
def SumG (l : List (List Cl × Int)) (w : World) (e : Ending) (w' : World) : Prop :=
  ∃ L, SumK cmpCs l L ∧ ∃ v hs, e = .returned (.tuple #[v, .int .i64 (sumE L)]) ∧ OwnLC w.heap.size w' v hs ∧ hs.map kp = (if sumE L = 0 then L else []) ∧ Ext w w'
/-- What an iterator over correspondences does: it hands out xs, as long as it is asked to, and lays blocks. -/
def IterH (gf : Nat) (lb : Array Value) (xs : List HCo) (w : World) : Prop :=
  ∀ (l : Nat) (J Jx : List HCo → World → Prop) (W : World), (∀ s X Y, J s X → X.grownBy Y none → J s Y) → (∀ s X, J s X → Ext w X) →
    (∀ pre y X, J pre X → (pre ++ [y]) <+: xs → YieldAt Fence.wide (8 - 1) Tryd.prog l (encH y) X fun e Y => (e = .returned (.bool true) ∧ J (pre ++ [y]) Y) ∨ (e = .returned (.bool false) ∧ Jx (pre ++ [y]) Y)) →
    J [] W → CallsIn Fence.wide 8 Tryd.prog gf (#[.func (.yield l) #[] #[]] ++ lb) W fun e W' => (∃ v, e = .returned v) ∧ (J xs W' ∨ ∃ pre, Jx pre W')
theorem SumI.beside {B O Mb M : Nat} {w0 : World} {pre : List HCo} {X Y : World} {row : Option Nat} (h : SumI B O Mb M w0 pre X) (hg : X.grownBy Y row) (hr : ∀ r, row = some r → r ≠ O ∧ r ≠ Mb ∧ r ≠ M ∧ w0.heap.size ≤ r ∧ ∃ o : Obj, X.heap[r]? = some o ∧ o.isCells = false) : SumI B O Mb M w0 pre Y := by
  obtain ⟨v, hs, f, h1, h2, h3, h4, h5, h6, h7, h8, h9⟩ := h
  exact ⟨v, hs, f, h1.beside hg (fun r e => (hr r e).2.2.2.2), h2.kept hg (fun e => (hr _ e.symm).1 rfl), h3.kept hg (fun e => (hr _ e.symm).2.1 rfl), h4.grown hg (fun e => (hr _ e.symm).2.2.1 rfl), h5, h6, h7, h8, h9.grown hg fun k e => (hr _ e).2.2.2.1⟩
set_option maxHeartbeats 4000000 in
set_option maxRecDepth 20000 in
theorem csum_any (gf : Nat) (lb : Array Value) (eg : ∀ args w, (callFunc gf args).run Tryd.prog w = .ok (.enter gf args) w) (xs : List HCo) (w : World) (hlen : xs.length ≤ 20000)
    (hy : ∀ y ∈ xs, RdC w y.a y.n y.cap y.x ∧ y.n ≤ 64 ∧ (∀ c ∈ y.x, 0 ≤ c.kind ∧ c.kind < 256) ∧ 0 ≤ y.cnt ∧ y.cnt ≤ 2147483647) (hit : IterH gf lb xs w) :
    Calls Tryd.prog 23 #[.func (.func gf) #[] lb] w (SumG (xs.map kp) w) := by
  have h1 : 1 ≤ 9 := by omega
  have hmm := @run_makeMap Tryd.prog
  refine (callsIn_wide (n := 9)).1 ?_
  refine callsIn_of_wp_marks Tryd.func23 rfl trivial ?_ rfl
  simp only [Tryd.ntmps23, List.size_toArray, List.length_cons, List.length_nil, Nat.reduceAdd, Nat.reduceSub, Array.replicate_succ, Array.replicate_zero, List.push_toArray, List.append_toArray, List.nil_append, List.cons_append]
  gi_wp2
  have hz : ((w.alloc (.map #[] 0)).alloc (.cells #[.map (some w.heap.size)] 93) |>.alloc (.cells #[.slice none 0 0] 37)).heap.size = w.heap.size + 3 := by simp
  have h0 : SumI w.heap.size (w.heap.size + 1 + 1) (w.heap.size + 1) w.heap.size w [] ((w.alloc (.map #[] 0)).alloc (.cells #[.map (some w.heap.size)] 93) |>.alloc (.cells #[.slice none 0 0] 37)) :=
    ⟨_, [], _, ⟨OwnK.nil _ _ _, fun y hy => by cases hy⟩, by have := Boxed.new ((w.alloc (.map #[] 0)).alloc (.cells #[.map (some w.heap.size)] 93)) 37 (.slice none 0 0); simpa using this,
      by have := (Boxed.new (w.alloc (.map #[] 0)) 93 (.map (some w.heap.size))).alloc (.cells #[.slice none 0 0] 37); simpa using this,
      ((MapK.made w Tryd.prog 9 3 klStr).kept (Ext.alloc1 _ _)).kept (Ext.alloc1 _ _), Lib.hid ⟨fun i y h => by simp at h, fun s l h => by cases h⟩, Lib.hid SumA.nil, Lib.hid (Nat.le_refl _), Lib.hid (fun y hy => by cases hy), (by repeat (first | exact Ext.refl _ | assumption | refine Ext.drew ?_ | refine Ext.drewN ?_ _ | refine Ext.alloc ?_ _ | refine Ext.trans ?_ (by assumption)))⟩
  generalize ((w.alloc (.map #[] 0)).alloc (.cells #[.map (some w.heap.size)] 93) |>.alloc (.cells #[.slice none 0 0] 37)) = wA at *
  replace hz := Lib.hid hz
  replace hlen := Lib.hid hlen
  replace hy := Lib.hid hy
  refine wpIn_range_own2 rfl h1 (gf := gf) (lb := lb) rfl trivial eg (encs := encH) (fun _ => rfl) (fun _ => False) (fun r hr => hr.elim) xs
    (SumI w.heap.size (w.heap.size + 1 + 1) (w.heap.size + 1) w.heap.size w)
    (fun s X Y row hs hg hr => hs.beside hg fun r e => by
      rcases hr r e with h | ⟨h2, h3⟩
      · exact h.elim
      · have := hz.out; exact ⟨by omega, by omega, by omega, by omega, h3⟩)
    h0 (fun _ _ _ => False) (fun _ _ _ _ _ hs _ _ => hs)
    (fun lp J Jx W hB hJ0 hJ hJx hI hY => hit lp J Jx W (fun s X Y hs hg => hJ s X Y none hs hg (fun r e => by cases e)) (fun s X hs => by obtain ⟨_, _, _, _, _, _, _, _, _, _, _, h9⟩ := hI s X hs; exact h9)
      (fun pre y X hp hpre => (hY pre y X hp hpre).mono (fun e Y h => h.elim (fun h => .inl ⟨h.1, h.2.1⟩) (fun h => .inr h))) hJ0)
    (fun y a' W => ∃ Bx, wA.heap.size ≤ Bx ∧ W.heap[Bx]? = some (.cells #[.slice y.a y.n y.cap, .int .i64 y.cnt] 45) ∧ (∃ v : Value, W.heap[w.heap.size + 1 + 1]? = some (.cells #[v] 37 (0, 0)) ∧ v.ownBlock ≠ some Bx) ∧ a' = { tmps := #[.func (.func gf) #[] lb, undef, .slice none 0 0, .int .i64 0, .pointer (some ⟨w.heap.size + 1, 0, none⟩), .pointer (some ⟨w.heap.size + 1 + 1, 0, none⟩), .pointer (some ⟨Bx, 0, none⟩), undef, undef, undef, .map (some w.heap.size), .func (.func gf) #[] lb, coV y, undef, undef, undef, undef, undef, undef, undef, undef, undef, undef, undef, undef, undef, undef, undef, undef, undef, undef, undef, undef, undef, undef, undef, undef, undef, undef, undef, undef, undef, undef, undef, undef, undef, undef, undef, undef, undef, undef], defers := [] })
    (fun x a' s X Y row hs hg hr => by
      obtain ⟨Bx, h1, h2, ⟨v, h4, h5⟩, h3⟩ := hs
      refine ⟨Bx, h1, (hg.block Bx (Array.getElem?_eq_some_iff.1 h2).1 (fun e => ?_)).trans h2, ⟨v, (hg.block _ (Array.getElem?_eq_some_iff.1 h4).1 (fun e => ?_)).trans h4, h5⟩, h3⟩
      · rcases hr Bx e.symm with h | ⟨_, o, ho, hc⟩
        · exact h
        · rw [h2] at ho; cases ho; cases hc
      · rcases hr _ e.symm with h | ⟨_, o, ho, hc⟩
        · exact h
        · rw [h4] at ho; cases ho; cases hc)
    ?assign ?body ?done ?stop
  case assign =>
    rintro lp pre y W K hS hK
    obtain ⟨v, hs, f, q1, q2, q3, q4, q5, q6, q7, q8, q9⟩ := id hS
    have hle : wA.heap.size ≤ W.heap.size := by have := q2.lt; have := hz.out; omega
    replace hle := Lib.hid hle
    have hnb : v.ownBlock ≠ some W.heap.size := fun e => OwnK.own_lt q1.own (Nat.le_refl _) e.symm
    replace hnb := Lib.hid (And.intro q2.lt (And.intro q2 hnb))
    clear q1 q2 q3 q4 q5 q6 q7 q8 q9
    gi_wp2
    exact hK _ _ ((KeepsOthers.alloc _ _).from _) (fun r h => h.elim) (hS.beside (World.grownBy_alloc _ _ none) (fun r e => by cases e)) ⟨W.heap.size, hle.out, World.alloc_heap_new W _, ⟨v, (Below.heap_alloc W _ _ hnb.out.1).trans hnb.out.2.1, hnb.out.2.2⟩, rfl⟩
  case body =>
    rintro lp pre y a' W ⟨v, hs, f, q1, q2, q3, q4, q5, q6, q7, q8, q9⟩ ⟨Bx, hBx, hbx, ⟨v', hv'1, hv'2⟩, rfl⟩ hpre
    obtain rfl : v = v' := by
      have := q2.symm.trans hv'1
      simpa using this
    clear hv'1
    replace hv'2 := Lib.hid hv'2
    obtain ⟨hyr, hyn, hyk, hyc1, hyc2⟩ := hy.out y (hpre.subset (by simp))
    have hpl := hpre.length_le
    have c0 : W.cell? ⟨Bx, 0, none⟩ = some (.slice y.a y.n y.cap) := by simp [World.cell?, hbx]
    have c1 : W.cell? ⟨Bx, 1, none⟩ = some (.int .i64 y.cnt) := by simp [World.cell?, hbx]
    have cO := q2.cell
    have cM := q3.cell
    have hkey := key_any y.a y.n y.cap y.x
    replace hpl := Lib.hid hpl
    gi_wp2
    refine ⟨trivial, ?_⟩
    gi_at_call 35
    refine (callsIn_wide.2 (hkey W (hyr.ext q9) (by omega) hyk)).mono ?_
    rintro e w1 ⟨rfl, hx1⟩
    have cO1 := hx1.cellv cO
    have cM1 := hx1.cellv cM
    have c01 := hx1.cellv c0
    have c11 := hx1.cellv c1
    have q41 := q4.kept hx1
    clear cO cM c0 c1 hkey
    have hks : (kyS y.x).size ≤ maxLen := by
      have := keyCs_len y.x
      have := hyr.len
      show (keyCs y.x).toArray.size ≤ _
      simp only [List.size_toArray]
      unfold maxLen; omega
    have hkf : keyOf Tryd.prog 9 (.string ⟨(keyCs y.x).toArray⟩) = some (klStr (kyS y.x)) := key_str _ hks
    have hcb : ∀ z ∈ hs, 0 ≤ z.cnt ∧ z.cnt ≤ 2147483647 * 20000 := fun z hz => by
      have hall : ∀ x ∈ pre.map kp, 0 ≤ x.2 ∧ x.2 ≤ 2147483647 := fun x hx => by
        obtain ⟨u, hu, rfl⟩ := List.mem_map.1 hx
        exact (hy.out u (hpre.subset (List.mem_append_left _ hu))).2.2.2
      have hb := cntK_bd (M := 2147483647) (by omega) hall z.x
      have he := (q6.out.2.1 (kp z) (List.mem_map.2 ⟨z, hz, rfl⟩)).1
      have he : z.cnt = cntK (pre.map kp) z.x := he
      have h2 := hpl.out
      rw [List.length_append] at h2
      rw [List.length_map] at hb
      have := hlen.out
      omega
    by_cases hex : ∃ (i : Nat) (z : HCo), hs[i]? = some z ∧ z.x = y.x
    · obtain ⟨i, z, hi, hzx⟩ := hex
      have hf1 : f (kyS y.x) = some (.int .i64 i) := hzx ▸ q5.out.1 i z hi
      have hv : ((f (kyS y.x)).getD (.int .i64 0)).value = .int .i64 i := by rw [hf1]; rfl
      have hs1 : (f (kyS y.x)).isSome = true := by rw [hf1]; rfl
      have hzb := hcb z (List.mem_of_getElem? hi)
      have hoL := q1.kept hx1
      obtain ⟨g, cp, rfl⟩ := OwnK.hdr q1.own (by have := (List.getElem?_eq_some_iff.1 hi).1; omega)
      replace hf1 := Lib.hid hf1
      replace hv := Lib.hid hv
      replace hs1 := Lib.hid hs1
      replace hi := Lib.hid hi
      replace hzx := Lib.hid hzx
      replace hcb := Lib.hid hcb
      replace hks := Lib.hid hks
      gi_wp2_with (refine list_bridge (by rintro ⟨_, _, h⟩; exact h) _ _ _ (by kernel_rfl) ?_; at_lookup; refine wp_mapLookOk rfl _ _ 93 rfl 9 3 str_key Tryd.underlying93 (zeroI _) (plainElem_int Tryd.underlying3 (by decide)) rfl q41 _ _ rfl hkf _ hv.out _ hs1.out ?_)
      go_wp2_with fail
      have hkW : KeepsFrom wA.heap.size W w1 := keepF hx1
      have hxW := q9.trans hx1
      have bO : Hid (Boxed w1 (w.heap.size + 1 + 1) 37 (.slice (some ⟨g, 0, none⟩) hs.length cp)) := Lib.hid (Boxed.more (show Boxed W (w.heap.size + 1 + 1) 37 _ from q2) hx1)
      have bM : Hid (Boxed w1 (w.heap.size + 1) 93 (.map (some w.heap.size))) := Lib.hid (Boxed.more (show Boxed W (w.heap.size + 1) 93 _ from q3) hx1)
      obtain ⟨hz0, hz1⟩ := hzb
      have hgz := OwnK.ge (hoL).own
      have e1 := fun x : ExtOf w1 => x.cell cO1
      have e2 := fun x : ExtOf w1 => x.cell (OwnK.atk HCo.len (hoL).own (hi).out (j := 1) rfl)
      have e3 := fun x : ExtOf w1 => x.cell c11
      have hwr : IntKind.i64.wrap (z.cnt + y.cnt) = z.cnt + y.cnt := IntWalk.i64_in _ (by omega)
      have hil : i < (hs).length := (List.getElem?_eq_some_iff.1 (hi).out).1
      gi_wp2
      refine wpIn_region_qxt 10 (by kernel_rfl) (by kernel_rfl) (by kernel_rfl) (by rintro ⟨_, _, h⟩; exact h) ?_
      simp only [List.take_succ_cons, List.take_zero, List.drop_succ_cons, List.drop_zero]
      repeat (go_big_quiet_step (fail))
      refine wpQuiet_nil ?_
      intro wq hw'
      have hxq := ext_of_ex hw'
      clear hw' e1 e2 e3
      have hoQ := (hoL).kept hxq
      have hcq := OwnK.atk HCo.len hoQ.own (hi).out (j := 1) rfl
      have hfq := OwnK.free hoQ.own (i * 2 + 1)
      obtain ⟨o2, g2⟩ := hoQ.cnt (hi).out (z.cnt + y.cnt)
      obtain ⟨cur, hcur⟩ := OwnK.blk hoQ.own (g := g) rfl
      have bO2 : Boxed (wq.setCell ⟨g, i * 2 + 1, none⟩ (.int .i64 (z.cnt + y.cnt))) (w.heap.size + 1 + 1) 37 _ := Boxed.kept (Boxed.more (bO).out hxq) g2 (Boxed.ne (Boxed.more (bO).out hxq) hcur (by decide))
      have bM2 : Boxed (wq.setCell ⟨g, i * 2 + 1, none⟩ (.int .i64 (z.cnt + y.cnt))) (w.heap.size + 1) 93 _ := Boxed.kept (Boxed.more (bM).out hxq) g2 (Boxed.ne (Boxed.more (bM).out hxq) hcur (by decide))
      have m2 := ((q41).kept hxq).grown g2 (((q41).kept hxq).ne hcur)
      have kp2 : KeepsFrom wA.heap.size W (wq.setCell ⟨g, i * 2 + 1, none⟩ (.int .i64 (z.cnt + y.cnt))) := (hkW.trans (keepF hxq)).trans ((KeepsOthers.setCell _ _ _).from _)
      have hxf : Ext w (wq.setCell ⟨g, i * 2 + 1, none⟩ (.int .i64 (z.cnt + y.cnt))) := (hxW.trans hxq).grown g2 fun k e => by cases e; exact hgz.1
      have hix := Lib.hid ((q5).out.set (hi).out (z.cnt + y.cnt))
      have fin := Lib.hid (And.intro kp2 (And.intro (And.intro o2 bO2) (And.intro (And.intro bM2 m2) hxf)))
      clear o2 g2 bO2 bM2 m2 kp2 hxf hcur
      go_wp2_with fail
      gi_wp2
      exact ⟨fin.out.1, fun r h => h.elim, ⟨_, _, _, fin.out.2.1.1, fin.out.2.1.2, fin.out.2.2.1.1, by rw [List.length_set]; exact fin.out.2.2.1.2, hix, Lib.hid (sumA_hit q6.out hi.out hzx.out), Lib.hid (by rw [List.length_set, List.length_append]; have := q7.out; omega), Lib.hid (from_set q8.out hi.out), fin.out.2.2.2⟩⟩
    · have hf0 : f (kyS y.x) = none := by
        cases hfe : f (kyS y.x) with
        | none => rfl
        | some l =>
          obtain ⟨i, z, hi, hk, _⟩ := q5.out.2 _ _ hfe
          refine absurd ⟨i, z, hi, ?_⟩ hex
          have hkz : keyCs y.x = keyCs z.x := by
            have : (kyS y.x).data.toList = (kyS z.x).data.toList := by rw [hk]
            exact this
          obtain ⟨z', hz', hzx'⟩ := q8.out z (List.mem_of_getElem? hi)
          exact (keyCs_inj hyk (by rw [← hzx']; exact (hy.out z' (hpre.subset (List.mem_append_left _ hz'))).2.2.1) hkz).symm
      have hv : ((f (kyS y.x)).getD (.int .i64 0)).value = .int .i64 0 := by rw [hf0]; rfl
      have hs1 : (f (kyS y.x)).isSome = false := by rw [hf0]; rfl
      have hoL := q1.kept hx1
      obtain ⟨ao, no, co, hno, rfl, hro⟩ := OwnK.rdn HCo.len q1.own
      have hbl : no ≤ 20000 := by have := q7.out; have h2 := hpl.out; rw [List.length_append] at h2; have := hlen.out; omega
      have hkW : KeepsFrom wA.heap.size W w1 := keepF hx1
      have hxW := q9.trans hx1
      have bO : Hid (Boxed w1 (w.heap.size + 1 + 1) 37 (.slice ao no co)) := Lib.hid (Boxed.more (show Boxed W (w.heap.size + 1 + 1) 37 _ from q2) hx1)
      have bM : Hid (Boxed w1 (w.heap.size + 1) 93 (.map (some w.heap.size))) := Lib.hid (Boxed.more (show Boxed W (w.heap.size + 1) 93 _ from q3) hx1)
      replace hno := Lib.hid hno
      replace hbl := Lib.hid hbl
      replace hf0 := Lib.hid hf0
      replace hv := Lib.hid hv
      replace hs1 := Lib.hid hs1
      replace hcb := Lib.hid hcb
      replace hks := Lib.hid hks
      replace hex := Lib.hid hex
      clear hro
      gi_wp2_with (refine list_bridge (by rintro ⟨_, _, h⟩; exact h) _ _ _ (by kernel_rfl) ?_; at_lookup; refine wp_mapLookOk rfl _ _ 93 rfl 9 3 str_key Tryd.underlying93 (zeroI _) (plainElem_int Tryd.underlying3 (by decide)) rfl q41 _ _ rfl hkf _ hv.out _ hs1.out ?_)
      go_wp2_with fail
      gi_wp2_with (refine list_bridge (by rintro ⟨_, _, h⟩; exact h) _ _ _ (by kernel_rfl) ?_; at_mapUpdate; refine wp_mapStore rfl _ _ _ 93 rfl 9 3 str_key Tryd.underlying93 klStr_inj (fun x => isKeyLit_string _) rfl q41 (by rw [← hno.out]; have := hbl.out; unfold maxLen; omega) _ _ _ rfl rfl hkf (plainElem_int Tryd.underlying3 (wf_i64 _ (by omega) (by have := hbl.out; omega))) ?_; intro w2 hm2 hg2 _)
      go_wp2_with fail
      have nM : Hid (wA.heap.size = w.heap.size + 3) := hz
      have nB : Hid (w.heap.size + 3 ≤ Bx) := Lib.hid (by have := nM.out; omega)
      have hxW2 : Ext w w2 := hxW.grown hg2 fun k e => by cases e; exact Nat.le_refl _
      have hkW2 : KeepsFrom wA.heap.size W w2 := hkW.trans (KeepsFrom.of_grownBy hg2 (fun j e => by cases e; have := nM.out; omega))
      have oL2 : OwnLC w.heap.size w2 (.slice ao no co) hs := hoL.beside hg2 (fun r e => by cases e; exact q41.obj)
      have bO2 : Hid (Boxed w2 (w.heap.size + 1 + 1) 37 (.slice ao no co)) := Lib.hid (Boxed.kept bO.out hg2 (fun e => by have := Option.some.inj e; omega))
      have bM2 : Hid (Boxed w2 (w.heap.size + 1) 93 (.map (some w.heap.size))) := Lib.hid (Boxed.kept bM.out hg2 (fun e => by have := Option.some.inj e; omega))
      have hbx1 := (Below.block hx1.bel Bx (Array.getElem?_eq_some_iff.1 hbx).1).trans hbx
      have hbx2 := (hg2.block Bx (Array.getElem?_eq_some_iff.1 hbx1).1 (fun e => by have e1 : Bx = w.heap.size := Option.some.inj e; have := nB.out; omega)).trans hbx1
      have d0 : w2.cell? ⟨Bx, 0, none⟩ = some (.slice y.a y.n y.cap) := by simp [World.cell?, hbx2]
      have d1 : w2.cell? ⟨Bx, 1, none⟩ = some (.int .i64 y.cnt) := by simp [World.cell?, hbx2]
      have dO : w2.cell? ⟨w.heap.size + 1 + 1, 0, none⟩ = some (.slice ao no co) := bO2.out.cell
      have hyr2 := hyr.ext hxW2
      clear hg2 q41 c01 c11 cO1 cM1 hoL bO bM hbx hbx1 hkW hxW hx1
      gi_wp2
      refine wpIn_region_float (v := .slice ao no co) (S := fun w' => Ext w2 w') (by kernel_rfl) (by kernel_rfl) (by rintro ⟨_, _, h⟩; exact h) (by kernel_rfl) (by kernel_rfl) (by kernel_rfl) (by kernel_rfl) (fun c a w h => h) (.inl ⟨rfl, fun W' hW' => ?_⟩) ((Ext.refl _).drew) ?_
      · have := hW'.cellv dO
        go_simp
      have hS0 : Ext w2 w2.drew := (Ext.refl _).drew
      have dq : w2.drew.cell? ⟨Bx, 0, none⟩ = some (.slice y.a y.n y.cap) := hS0.cellv d0
      refine listF_step (by kernel_rfl) rfl fun K1 hK1 => ?_
      go_simp
      refine hK1 _ _ hS0 ?_
      refine listF_step (by kernel_rfl) rfl fun K2 hK2 => ?_
      go_simp
      refine hK2 _ _ hS0 ?_
      refine listF_step (by kernel_rfl) rfl fun K3 hK3 => ?_
      go_simp
      refine (cloneC_any y.a y.n y.cap y.x w2.drew (hyr2.ext hS0) (by omega)).mono ?_
      rintro e w3 ⟨v3, rfl, ho3, hx3⟩
      obtain ⟨a3, n3, c3, hn3, rfl, hr3⟩ := OwnK.rdn Cl.len ho3
      replace hn3 := Lib.hid hn3
      have hS3 : Ext w2 w3 := hS0.trans hx3
      refine hK3 _ _ hS3 ?_
      refine listF_step (by kernel_rfl) rfl fun K4 hK4 => ?_
      go_simp
      refine hK4 _ _ hS3 ?_
      refine listF_step (by kernel_rfl) rfl fun K5 hK5 => ?_
      go_simp
      refine hK5 _ _ (hS3.alloc _) ?_
      have hoA := oL2.own.kept hS3
      have hxA := hxW2.trans hS3
      have hsA := Ext.alloc1 w3 (.cells #[.slice a3 n3 c3, .int .i64 0] 45)
      have hb4 := OwnK.blk' (hoA.kept hsA)
      have bO4 := Boxed.more (Boxed.more bO2.out hS3) hsA
      have bM4 := Boxed.more (Boxed.more bM2.out hS3) hsA
      have m4 := (hm2.kept hS3).kept hsA
      have x4 : (w3.alloc (.cells #[.slice a3 n3 c3, .int .i64 0] 45)).heap[Bx]? = some (.cells #[.slice y.a y.n y.cap, .int .i64 y.cnt] 45) := (Below.block (hS3.alloc _).bel Bx (Array.getElem?_eq_some_iff.1 hbx2).1).trans hbx2
      have hL6 : ∀ u : HCo, (hs ++ [u]).length = no + 1 := fun u => by rw [List.length_append, ← hno.out]; rfl
      replace hL6 := Lib.hid hL6
      refine listF_tail (by kernel_rfl) ?_
      go_wp2_with (at_builtin; refine wp_app1 w w3 (⟨a3, n3, c3, 0, y.x⟩ : HCo) rfl _ _ 37 rfl 45 Tryd.underlying37 info_corr rfl (by decide) _ _ rfl hoA hxA rfl rfl (HCo.one _) (by rw [← hno.out]; have := hbl.out; omega) (by rw [← hno.out]; have := hbl.out; unfold maxLen; omega) ?_; intro v6 w6 ho6 hx6 hg6; have bO6 : Boxed w6 (w.heap.size + 1 + 1) 37 (.slice ao no co) := Boxed.kept bO4 hg6 (fun e => by obtain ⟨cu, fr, hcu⟩ := hb4 _ e.symm; exact Boxed.ne bO4 hcu (by decide) rfl); have cO6 := bO6.cell; have fO6 := bO6.frozen; obtain ⟨g, cp, hv6⟩ := OwnK.hdr ho6 (by simp); rw [hL6.out _] at hv6; subst hv6; replace bO6 := Lib.hid bO6)
      have oL6 : OwnLC w.heap.size w6 (.slice (some ⟨g, 0, none⟩) (no + 1) cp) (hs ++ [⟨a3, n3, c3, 0, y.x⟩]) := ⟨ho6, fun u hu => by
        rcases List.mem_append.1 hu with h | h
        · exact (((oL2.ok u h).kept hS3).kept hsA).other hg6 hb4 (by decide)
        · rw [List.mem_singleton.1 h]; exact ((OwnK.base ho3 (by have := hxW2.le; simpa using this)).kept hsA).other hg6 hb4 (by decide)⟩
      have bM6 : Boxed w6 (w.heap.size + 1) 93 (.map (some w.heap.size)) := Boxed.kept bM4 hg6 (fun e => by obtain ⟨cu, fr, hcu⟩ := hb4 _ e.symm; exact Boxed.ne bM4 hcu (by decide) rfl)
      have m6 := m4.grown hg6 (fun e => by obtain ⟨cu, fr, hcu⟩ := hb4 _ e.symm; exact MapK.ne m4 hcu rfl)
      have x6 := (hg6.block Bx (Array.getElem?_eq_some_iff.1 x4).1 (fun e => hv'2.out e.symm)).trans x4
      have gO := grownBy_setCell' w6 (w.heap.size + 1 + 1) (.slice (some ⟨g, 0, none⟩) (no + 1) cp)
      have bO7 : Hid (Boxed (w6.setCell ⟨w.heap.size + 1 + 1, 0, none⟩ (.slice (some ⟨g, 0, none⟩) (no + 1) cp)) (w.heap.size + 1 + 1) 37 (.slice (some ⟨g, 0, none⟩) (no + 1) cp)) := Lib.hid (Boxed.set _ bO6.out)
      have bM7 : Hid (Boxed (w6.setCell ⟨w.heap.size + 1 + 1, 0, none⟩ (.slice (some ⟨g, 0, none⟩) (no + 1) cp)) (w.heap.size + 1) 93 (.map (some w.heap.size))) := Lib.hid (Boxed.kept bM6 gO (fun e => by have := Option.some.inj e; omega))
      have m7 := m6.grown gO (fun e => by have := Option.some.inj e; omega)
      have x7 := (gO.block Bx (Array.getElem?_eq_some_iff.1 x6).1 (fun e => by have e1 : Bx = w.heap.size + 1 + 1 := Option.some.inj e; have := nB.out; omega)).trans x6
      have bOr : ∀ r, some (w.heap.size + 1 + 1) = some r → ∃ cur fr, w6.heap[r]? = some (.cells cur 37 fr) := fun r e => by cases e; exact ⟨_, _, bO6.out⟩
      have oL7 : OwnLC w.heap.size (w6.setCell ⟨w.heap.size + 1 + 1, 0, none⟩ (.slice (some ⟨g, 0, none⟩) (no + 1) cp)) (.slice (some ⟨g, 0, none⟩) (no + 1) cp) (hs ++ [⟨a3, n3, c3, 0, y.x⟩]) := ⟨oL6.own.other gO bOr (by decide), fun u hu => (oL6.ok u hu).other gO bOr (by decide)⟩
      have xW7 : Ext w (w6.setCell ⟨w.heap.size + 1 + 1, 0, none⟩ (.slice (some ⟨g, 0, none⟩) (no + 1) cp)) := hx6.grown gO fun k e => by cases e; omega
      have kW7 : KeepsFrom wA.heap.size W (w6.setCell ⟨w.heap.size + 1 + 1, 0, none⟩ (.slice (some ⟨g, 0, none⟩) (no + 1) cp)) := ((hkW2.trans (keepF hS3)).trans ((KeepsOthers.alloc _ _).from _)).trans (((KeepsOthers.of_grownBy hg6 (fun j o e ho => by obtain ⟨cu, fr, hcu⟩ := hb4 _ e; have := hcu.symm.trans ho; cases this; rfl)).trans (KeepsOthers.setCell _ _ _)).from _)
      generalize (w6.setCell ⟨w.heap.size + 1 + 1, 0, none⟩ (.slice (some ⟨g, 0, none⟩) (no + 1) cp)) = w7 at *
      have cO7 := bO7.out.cell
      have c17 : w7.cell? ⟨Bx, 1, none⟩ = some (.int .i64 y.cnt) := by simp [World.cell?, x7]
      obtain ⟨z, hz⟩ : ∃ z : HCo, z = ⟨a3, n3, c3, 0, y.x⟩ := ⟨_, rfl⟩
      have hzc : z.cnt = 0 := by rw [hz]
      have hzx : z.x = y.x := by rw [hz]
      obtain ⟨h2, hh2⟩ : ∃ h2, h2 = hs ++ [z] := ⟨_, rfl⟩
      rw [← hz, ← hh2] at oL7
      have hi2 : h2[no]? = some z := by rw [hh2, hno.out]; simp
      have hst : ∀ c : Int, h2.set no { z with cnt := c } = hs ++ [{ z with cnt := c }] := fun c => by
        rw [hh2]; have := set_snoc { z with cnt := c } z hs; rwa [← hno.out] at this
      have ix2 : Hid (Idx h2 (fun u => if u = kyS y.x then some (.int .i64 no) else f u)) := Lib.hid (by rw [hh2]; exact Idx.miss q5.out hzx hf0.out hno.out)
      have sm2 := Lib.hid (sumA_miss (z := { z with cnt := z.cnt + y.cnt }) q6.out hex.out hzx (by show z.cnt + y.cnt = y.cnt; omega))
      have fr2 : Hid (∀ u ∈ hs ++ [{ z with cnt := z.cnt + y.cnt }], ∃ v ∈ pre ++ [y], v.x = u.x) := Lib.hid (fun u hu => by
        rcases List.mem_append.1 hu with h | h
        · obtain ⟨v, r1, r2⟩ := q8.out u h; exact ⟨v, List.mem_append_left _ r1, r2⟩
        · rw [List.mem_singleton.1 h]; exact ⟨y, by simp, hzx.symm⟩)
      rw [← hst] at sm2 fr2
      have hl2 : Hid (h2.length = no + 1) := Lib.hid (by rw [hh2]; exact hL6.out _)
      have hzb : 0 ≤ z.cnt ∧ z.cnt ≤ 2147483647 * 20000 := by omega
      have hkW := kW7
      have hxW := xW7
      replace hz := Lib.hid hz
      replace hzc := Lib.hid hzc
      replace hzx := Lib.hid hzx
      replace hh2 := Lib.hid hh2
      replace hi2 := Lib.hid hi2
      clear hst x7 bOr kW7 xW7 hx6 gO m6 m4 bM6 oL6 x4 hb4 bM4 bO4 hsA hxA hoA hS3 hr3 ho3 hx3 hS0 dq dO d1 d0 hbx2 bM2 bO2 oL2 hkW2 hxW2 hm2 hyr2
      obtain ⟨hz0, hz1⟩ := hzb
      have hgz := OwnK.ge (oL7).own
      have e1 := fun x : ExtOf w7 => x.cell cO7
      have e2 := fun x : ExtOf w7 => x.cell (OwnK.atk HCo.len (oL7).own (hi2).out (j := 1) rfl)
      have e3 := fun x : ExtOf w7 => x.cell c17
      have hwr : IntKind.i64.wrap (z.cnt + y.cnt) = z.cnt + y.cnt := IntWalk.i64_in _ (by omega)
      have hil : no < (h2).length := (List.getElem?_eq_some_iff.1 (hi2).out).1
      gi_wp2
      refine wpIn_region_qxt 10 (by kernel_rfl) (by kernel_rfl) (by kernel_rfl) (by rintro ⟨_, _, h⟩; exact h) ?_
      simp only [List.take_succ_cons, List.take_zero, List.drop_succ_cons, List.drop_zero]
      repeat (go_big_quiet_step (fail))
      refine wpQuiet_nil ?_
      intro wq hw'
      have hxq := ext_of_ex hw'
      clear hw' e1 e2 e3
      have hoQ := (oL7).kept hxq
      have hcq := OwnK.atk HCo.len hoQ.own (hi2).out (j := 1) rfl
      have hfq := OwnK.free hoQ.own (no * 2 + 1)
      obtain ⟨o2, g2⟩ := hoQ.cnt (hi2).out (z.cnt + y.cnt)
      obtain ⟨cur, hcur⟩ := OwnK.blk hoQ.own (g := g) rfl
      have bO2 : Boxed (wq.setCell ⟨g, no * 2 + 1, none⟩ (.int .i64 (z.cnt + y.cnt))) (w.heap.size + 1 + 1) 37 _ := Boxed.kept (Boxed.more (bO7).out hxq) g2 (Boxed.ne (Boxed.more (bO7).out hxq) hcur (by decide))
      have bM2 : Boxed (wq.setCell ⟨g, no * 2 + 1, none⟩ (.int .i64 (z.cnt + y.cnt))) (w.heap.size + 1) 93 _ := Boxed.kept (Boxed.more (bM7).out hxq) g2 (Boxed.ne (Boxed.more (bM7).out hxq) hcur (by decide))
      have m2 := ((m7).kept hxq).grown g2 (((m7).kept hxq).ne hcur)
      have kp2 : KeepsFrom wA.heap.size W (wq.setCell ⟨g, no * 2 + 1, none⟩ (.int .i64 (z.cnt + y.cnt))) := (hkW.trans (keepF hxq)).trans ((KeepsOthers.setCell _ _ _).from _)
      have hxf : Ext w (wq.setCell ⟨g, no * 2 + 1, none⟩ (.int .i64 (z.cnt + y.cnt))) := (hxW.trans hxq).grown g2 fun k e => by cases e; exact hgz.1
      have hix := Lib.hid ((ix2).out.set (hi2).out (z.cnt + y.cnt))
      have fin := Lib.hid (And.intro kp2 (And.intro (And.intro o2 bO2) (And.intro (And.intro bM2 m2) hxf)))
      clear o2 g2 bO2 bM2 m2 kp2 hxf hcur
      go_wp2_with fail
      gi_wp2
      exact ⟨fin.out.1, fun r h => h.elim, ⟨_, _, _, by have := fin.out.2.1.1; exact this, fin.out.2.1.2, fin.out.2.2.1.1, by rw [List.length_set, hl2.out]; have := fin.out.2.2.1.2; rw [← hno.out] at this; exact this, hix, sm2, Lib.hid (by rw [List.length_set, hl2.out, List.length_append]; have := q7.out; have := hno.out; simp; omega), fr2, fin.out.2.2.2⟩⟩
  case done =>
    rintro D W hD ⟨v, hs, f, q1, q2, q3, q4, q5, q6, q7, q8, q9⟩ hK
    have cO := q2.cell
    obtain ⟨ao, no, co, hno, rfl, hro⟩ := OwnK.rdn HCo.len q1.own
    have hco := containsO_any ao no co hs W ⟨hro, fun u hu => OwnK.rdv Cl.len (q1.ok u hu)⟩
    replace hno := Lib.hid hno
    cases hov : hs.any overB
    · replace hco := cbool hco hov
      gi_wp2
      refine ⟨trivial, ?_⟩
      gi_at_call 24
      refine (callsIn_wide.2 hco).mono ?_
      rintro e w1 ⟨rfl, hx1⟩
      have cO1 := hx1.cellv cO
      have hK1 := (Below.block hx1.bel D (Array.getElem?_eq_some_iff.1 hK).1).trans hK
      have oL1 := q1.kept hx1
      have bO1 : Boxed w1 (w.heap.size + 1 + 1) 37 (.slice ao no co) := Boxed.more (show Boxed W (w.heap.size + 1 + 1) 37 _ from q2) hx1
      have hxw1 := q9.trans hx1
      have hsrt : Calls Tryd.prog 38 #[.slice ao no co, .func (.func 39) #[] #[]] w1 fun en w' => en = .returned (.tuple #[]) ∧ (Ext w w' ∧ w'.heap[D]? = some (.deferred (some [])) ∧ w'.cell? ⟨w.heap.size + 1 + 1, 0, none⟩ = some (.slice ao no co) ∧
          ∃ ts : List HCo, ts.Perm hs ∧ ts.Pairwise (fun x y => ¬ cmpCs y.x x.x < 0) ∧ OwnLC w.heap.size w' (.slice ao no co) ts) := by
        rcases Nat.eq_zero_or_pos no with h0 | h0
        · subst h0
          have hh : hs = [] := List.eq_nil_of_length_eq_zero hno.out.symm
          subst hh
          refine (sortC_none ao co _ w1).mono ?_
          rintro e w' ⟨rfl, rfl⟩
          exact ⟨rfl, hxw1, hK1, cO1, [], List.Perm.refl _, List.Pairwise.nil, oL1⟩
        · obtain ⟨g, cp, he⟩ := OwnK.hdr q1.own (by rw [← hno.out]; exact h0)
          cases he
          refine (sortC_any hxw1 oL1 (by have := q7.out; have := hlen.out; omega)).mono ?_
          rintro e w' ⟨rfl, hx', hO, ts, r1, r2, r3⟩
          obtain ⟨cur, hcur⟩ := OwnK.blk oL1.own (g := g) rfl
          have hDg : D ≠ g := fun e => by rw [← e, hK1] at hcur; cases hcur
          have hOg : w.heap.size + 1 + 1 ≠ g := fun e => Boxed.ne bO1 hcur (by decide) (by rw [e])
          exact ⟨rfl, hx', (hO.block D (Array.getElem?_eq_some_iff.1 hK1).1 hDg).trans hK1, Boxed.cell ((hO.block _ bO1.lt hOg).trans bO1), ts, r1, r2, r3⟩
      replace bO1 := Lib.hid bO1
      gi_wp2
      refine ⟨trivial, ?_⟩
      gi_at_call 38
      refine (callsIn_wide.2 hsrt).mono ?_
      rintro e w2 ⟨rfl, hx2, hK2, cO2, ts, r1, r2, r3⟩
      gi_wp2
      refine ⟨by simp, .inl ⟨_, _, rfl, run_takeDeferred hK2, ?_⟩⟩
      refine ⟨_, results_tmp2 rfl _ _ _, ?_⟩
      obtain ⟨hL, h7⟩ := sumK_sorted q6.out hov r1 (r2.imp fun h => by omega)
      exact ⟨_, hL, _, ts, by rw [h7]; rfl, r3.beside (grownBy_putObj' _ _ _) (fun r e => by cases e; exact ⟨_, hK2, rfl⟩), by rw [h7]; rfl, hx2.grown (grownBy_putObj' _ _ _) fun k e => by cases e; have := hz.out; omega⟩
    · replace hco := cbool hco hov
      gi_wp2
      refine ⟨trivial, ?_⟩
      gi_at_call 24
      refine (callsIn_wide.2 hco).mono ?_
      rintro e w1 ⟨rfl, hx1⟩
      have cO1 := hx1.cellv cO
      have hK1 := (Below.block hx1.bel D (Array.getElem?_eq_some_iff.1 hK).1).trans hK
      gi_wp2
      refine ⟨by simp, .inl ⟨_, _, rfl, run_takeDeferred hK1, ?_⟩⟩
      refine ⟨_, results_tmp2 rfl _ _ _, ?_⟩
      obtain ⟨L, hL, h7⟩ := sumK_over q6.out hov
      exact ⟨L, hL, _, [], by rw [h7]; rfl, ⟨OwnK.nil _ _ _, fun u hu => by cases hu⟩, by rw [h7]; rfl, (q9.trans hx1).grown (grownBy_putObj' _ _ _) fun k e => by cases e; have := hz.out; omega⟩
  case stop =>
    rintro D c pre W _ h _
    exact h.elim
end Go.Proofs.YtjfhfbobnncpkaaDoor
