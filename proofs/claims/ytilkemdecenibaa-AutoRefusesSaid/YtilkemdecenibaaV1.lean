/-
  slices.Backward at patterns; a range over an iterator in a loop: its marks.
-/
import Derived.Test.YtilkemdecenibaaU8
import Derived.Test.YtilkemdecenibaaRg
import Derived.Test.YtilkemdecenibaaBr
namespace Go.Proofs.Ytilkemdecenibaa
open Go.RowKit Go.Shelf
def backP (l : List HP) : List (Nat × HP) := (List.range l.length).reverse.map fun i => (i, l.getD i zP)
theorem backP_len (l : List HP) : (backP l).length = l.length := by simp [backP]
theorem backP_at {l : List HP} {j : Nat} (h : j < l.length) : (backP l)[j]? = some (l.length - 1 - j, l.getD (l.length - 1 - j) zP) := by
  unfold backP
  rw [List.getElem?_map, List.getElem?_reverse (by simpa using h), List.length_range, List.getElem?_range (by omega)]
  rfl
theorem backP_mem {l : List HP} {y : Nat × HP} (h : y ∈ backP l) : l[y.1]? = some y.2 := by
  unfold backP at h
  obtain ⟨i, hi, rfl⟩ := List.mem_map.1 h
  have hi : i < l.length := by simpa using hi
  show l[i]? = some (l.getD i zP)
  rw [List.getD_eq_getElem?_getD, List.getElem?_eq_getElem hi]; rfl
theorem backP_snd (l : List HP) : (backP l).map (·.2) = l.reverse := by
  apply List.ext_getElem?
  intro j
  rw [List.getElem?_map]
  by_cases h : j < l.length
  · rw [backP_at h, List.getElem?_reverse h]
    show some (l.getD (l.length - 1 - j) zP) = _
    rw [List.getD_eq_getElem?_getD, List.getElem?_eq_getElem (by omega)]; rfl
  · rw [List.getElem?_eq_none (by rw [backP_len]; omega), List.getElem?_eq_none (by simp; omega)]; rfl
abbrev encP (y : Nat × HP) : Array Value := #[.int .i64 y.1, patV y.2]
theorem backward_in (n : Nat) (a : Option Addr) (m cap : Nat) (w : World) :
    CallsIn Fence.wide n Try.prog 111 #[.slice a m cap] w fun e w' => e = .returned (.func (.func 131) #[] #[.pointer (some ⟨w.heap.size, 0, none⟩)]) ∧ w' = w.alloc (.cells #[.slice a m cap] 25) := by
  refine callsIn_of_wp Try.func111 rfl trivial ?_ rfl
  simp only [Try.ntmps111, List.size_toArray, List.length_cons, List.length_nil, Nat.reduceAdd, Nat.reduceSub, Array.replicate_succ, Array.replicate_zero, List.push_toArray, List.append_toArray, List.nil_append, List.cons_append]
  gi_wp2
  go_ret
  exact ⟨rfl, rfl⟩
set_option maxHeartbeats 1000000 in
theorem backward1_in (n l Bx : Nat) (hn : 1 ≤ n) (w0 : World) (h : HP) (hr : RdPt w0 h) (J Jx : List (Nat × HP) → World → Prop)
    (hrd : ∀ s X, J s X → X.cell? ⟨Bx, 0, none⟩ = some (.slice h.a h.n h.cap) ∧ Ext w0 X)
    (hY : ∀ pre y X, J pre X → (pre ++ [y]) <+: backP h.l → YieldAt Fence.wide (n - 1) Try.prog l (encP y) X fun e Y => (e = .returned (.bool true) ∧ J (pre ++ [y]) Y) ∨ (e = .returned (.bool false) ∧ Jx (pre ++ [y]) Y))
    (W : World) (h0 : J [] W) :
    CallsIn Fence.wide n Try.prog 131 #[.func (.yield l) #[] #[], .pointer (some ⟨Bx, 0, none⟩)] W fun e W' => (∃ v, e = .returned v) ∧ (J (backP h.l) W' ∨ ∃ pre, Jx pre W') := by
  have hro : Fence.wide.round = none := rfl
  have hbox := (hrd _ _ h0).1
  have hle := hr.rd.le
  have hmost := hr.rd.most
  have hl := hr.rd.len
  unfold maxLen at hmost
  have hwm : wrap64 ((h.n : Int) - 1) = (h.n : Int) - 1 := by unfold wrap64; omega
  obtain ⟨kd, is, ng, mn, mx, a, m, cap, xs⟩ := h
  change m ≤ cap at hle
  change cap ≤ _ at hmost
  change xs.length = m at hl
  change wrap64 ((m : Int) - 1) = (m : Int) - 1 at hwm
  change W.cell? _ = some (.slice a m cap) at hbox
  have hlen := Lib.hid (backP_len xs)
  replace hl := Lib.hid hl
  refine callsIn_of_wp Try.func131 rfl trivial ?_ hro
  simp only [Try.ntmps131, List.size_toArray, List.length_cons, List.length_nil, Nat.reduceAdd, Nat.reduceSub, Array.replicate_succ, Array.replicate_zero, List.push_toArray, List.append_toArray, List.nil_append, List.cons_append]
  gi_wp2
  gi_loopw [3] (fun i wr => ∃ (j : Nat) (z : Int), j ≤ m ∧ i = .int .i64 z ∧ z = (m : Int) - 1 - (j : Int) ∧ J ((backP xs).take j) wr) (fun i _ => (intOf i + 1).toNat)
  case atStart => exact ⟨0, _, Nat.zero_le _, rfl, by omega, h0⟩
  case round =>
    obtain ⟨j, z, hj, rfl, hz, hJ1⟩ := hrel
    obtain ⟨hb1, hx1⟩ := hrd _ _ hJ1
    change wr.cell? _ = some (.slice a m cap) at hb1
    by_cases hlt : j < m
    · obtain ⟨i, hi⟩ : ∃ i, i = m - 1 - j := ⟨_, rfl⟩
      have hzi : z = (i : Int) := by omega
      subst hzi
      obtain ⟨b, off, x, ha, hxi, hb, hrx, c0, c1, c2, c3, c4, c5, c6⟩ := (hr.ext hx1).at (i := i) (by show i < m; omega)
      change a = some _ at ha
      subst ha
      have hxi : Hid (xs[i]? = some x) := hxi
      have hat : (backP xs)[j]? = some (i, x) := by
        have := backP_at (l := xs) (j := j) (by rw [hl.out]; exact hlt)
        rw [hl.out, ← hi, List.getD_eq_getElem?_getD, hxi.out] at this
        exact this
      have hsu := take_succ_at hat
      have hpre : ((backP xs).take j) ++ [(i, x)] <+: backP xs := by rw [← hsu]; exact List.take_prefix _ _
      obtain ⟨fn, tmps, assign, body, hyl, hR⟩ := hY _ (i, x) wr hJ1 hpre
      have him : (i : Int) < (m : Int) := by omega
      have hi0 : (0 : Int) ≤ (i : Int) := by omega
      replace hsu := Lib.hid hsu
      replace hi := Lib.hid hi
      replace hat := Lib.hid hat
      replace hz := Lib.hid hz
      gi_wp2
      refine hR.mono ?_
      rintro e W3 (⟨rfl, hJ4⟩ | ⟨rfl, hJx4⟩)
      · rw [← hsu.out] at hJ4
        have hwi : wrap64 ((i : Int) - 1) = (i : Int) - 1 := by unfold wrap64; omega
        gi_wp2
        refine ⟨⟨j + 1, _, by omega, rfl, by have := hi.out; omega, hJ4⟩, ?_⟩
        simp only [intOf]; omega
      · gi_wp2
        refine bodyPost_ret (results_none rfl _ _ _) rfl ?_
        exact ⟨⟨_, rfl⟩, .inr ⟨_, hJx4⟩⟩
    · have hjm : j = m := by omega
      have hz1 : z = -1 := by omega
      subst hz1
      rw [hjm, List.take_of_length_le (by rw [hlen.out, hl.out]; exact Nat.le_refl _)] at hJ1
      gi_wp2
      go_end0
      exact ⟨⟨_, rfl⟩, .inl hJ1⟩
/-! ### Marks of loops over iterators -/
def markD (D : Nat) : Deferred := { target := .collected D, args := #[] }
theorem leaves_marks {F : Fence} {n : Nat} {P : Program} {fn : Func} {tmps : Array Value} {R : Ending → World → Prop} {w0 : World} : ∀ (Ds : List Nat) (w : World), Ds.Nodup → (∀ D ∈ Ds, w0.heap.size ≤ D ∧ w.heap[D]? = some (.deferred (some []))) → Ext w0 w →
    (∀ w', Ext w0 w' → LeavesInM F n P fn tmps R [] .returning w') → LeavesInM F n P fn tmps R (Ds.map markD) .returning w
  | [], w, _, _, hx, h => h w hx
  | D :: Ds, w, hn, hD, hx, h => by
    obtain ⟨h1, h2⟩ := hD D List.mem_cons_self
    rw [List.nodup_cons] at hn
    refine ⟨by simp, .inl ⟨D, _, rfl, run_takeDeferred h2, leaves_marks Ds _ hn.2 (fun E hE => ⟨(hD E (List.mem_cons_of_mem _ hE)).1, ?_⟩) (hx.grown (grownBy_putObj' _ _ _) fun k e => by cases e; exact h1) h⟩⟩
    have := (hD E (List.mem_cons_of_mem _ hE)).2
    rw [World.putObj_heap_other (fun e => hn.1 (by subst e; exact hE))]
    exact this
section
variable {F : Fence} {n : Nat} {P : Program} {w : World}
/-- A range over an iterator; what the body is told of its frame is told by the frame ahead of the loop. -/
theorem wpIn_range_ownA {α : Type} {g : Operand} {ps : Array Tmp} {assign body : Code} {Q : Exit → Act → World → Prop} {a : Act}
    (hro : F.round = none) (h1 : 1 ≤ n) {gf : Nat} {lb : Array Value} (hg : a.eval g = .func (.func gf) #[] lb) (hFg : F.fn gf) (eg : ∀ args w, (callFunc gf args).run P w = .ok (.enter gf args) w)
    {encs : α → Array Value} (hps : ∀ x, (encs x).size = ps.size) (own : Nat → Prop) (hlow : ∀ r, own r → r < w.heap.size) (xs : List α)
    (I : List α → World → Prop) (hI : AbideOwn w.heap.size own I) (h0 : I [] w) (Ix : Code → List α → World → Prop) (hIx : ∀ c, AbideOwn w.heap.size own (Ix c))
    (hiter : ∀ (l : Nat) (J Jx : List α → World → Prop) (W : World), Below w.heap.size w W → J [] W → (∀ s X Y row, J s X → X.grownBy Y row → (∀ r, row = some r → own r) → J s Y) → (∀ s X Y row, Jx s X → X.grownBy Y row → (∀ r, row = some r → own r) → Jx s Y) → (∀ s X, J s X → I s X) →
      (∀ pre x X, J pre X → (pre ++ [x]) <+: xs → YieldAt F (n - 1 - 1) P l (encs x) X fun e Y => (e = .returned (.bool true) ∧ J (pre ++ [x]) Y ∧ Same own X Y) ∨ (e = .returned (.bool false) ∧ Jx (pre ++ [x]) Y)) →
      CallsIn F (n - 1) P gf (#[.func (.yield l) #[] #[]] ++ lb) W fun e W' => (∃ v, e = .returned v) ∧ (J xs W' ∨ ∃ pre, Jx pre W'))
    (Ax : Array Value → α → Act → World → Prop) (hAx : ∀ x a', AbideOwn w.heap.size (fun _ => False) (fun (_ : List α) W => Ax a.tmps x a' W))
    (hassign : ∀ (l : Nat) (pre : List α) (x : α) (W : World) (K : Act → World → Prop), I pre W → (∀ a' W', KeepsFrom w.heap.size W W' → Same own W W' → I pre W' → Ax a.tmps x a' W' → K a' W') →
      assign.wpIn (F.inRound l) (n - 1 - 1) P (Exit.then K (fun _ _ _ => False)) { tmps := (ps.zip (encs x)).foldl (fun t (p, v) => t.setIfInBounds p v) a.tmps, defers := [] } W)
    (hbody : ∀ (l : Nat) (pre : List α) (x : α) (a' : Act) (W : World), I pre W → Ax a.tmps x a' W → (pre ++ [x]) <+: xs → body.wpIn (F.inRound l) (n - 1 - 1) P (roundEnd2 w.heap.size own I Ix (pre ++ [x]) W) a' W)
    (hdone : ∀ (D : Nat) (W : World), w.heap.size ≤ D → I xs W → W.heap[D]? = some (.deferred (some [])) → Q .normal { a with defers := { target := .collected D, args := #[] } :: a.defers } W)
    (hstop : ∀ (D : Nat) (c : Code) (pre : List α) (W : World), w.heap.size ≤ D → Ix c pre W → W.heap[D]? = some (.deferred (some [])) → c.wpIn F n P Q { a with defers := { target := .collected D, args := #[] } :: a.defers } W) :
    (Code.rangeFunc g ps assign body).wpIn F n P Q a w :=
  wpIn_range_own2 hro h1 hg hFg eg hps own hlow xs I hI h0 Ix hIx hiter (Ax a.tmps) hAx hassign hbody hdone hstop
end
end Go.Proofs.Ytilkemdecenibaa
