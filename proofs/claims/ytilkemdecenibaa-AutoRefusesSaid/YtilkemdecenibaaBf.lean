/-
  A region whose first operation, a load, may come up late: all others wait for one another. What is walked in the text's order serves for every order, in a round too.
  A drawn region with several loads that float beside a call: each is taken first; S is shown behind an operation only where some load may still come after it. In a round too.
-/
import Derived.Test.YtilkemdecenibaaBr
import Derived.OrdersHeld
import Derived.StillTail
namespace Go.Proofs.Ytilkemdecenibaa
open Go.RowKit
section
variable {P : Program} {ops : Array Oper} {Q : Exit → Act → World → Prop} {md : Region.Mode} {S : World → Prop}
/-- Does the operation wait for number i? -/
def waitsB (md : Region.Mode) (o : Oper) (i : Nat) : Bool := o.after.any fun e => Region.binds md e && (e.on == i)
/-- The text's order; while an operation does not wait for number i, S is shown behind it. -/
def listF (P : Program) (md : Region.Mode) (ops : Array Oper) (Q : Exit → Act → World → Prop) (S : World → Prop) (i : Nat) : List Oper → Act → World → Prop
  | [], a, w => Q .normal a w
  | o :: rest, a, w => if waitsB md o i then wpList P ops Q (o :: rest) a w else Region.wanted o (yielded ops a.tmps) = true ∧ o.wp P a w (fun a' w' => S w' ∧ listF P md ops Q S i rest a' w') Q
theorem wpList_of_listF {i : Nat} : ∀ (l : List Oper) (a : Act) (w : World), listF P md ops Q S i l a w → wpList P ops Q l a w
  | [], _, _, h => h
  | o :: rest, a, w, h => by
    unfold listF at h
    split at h
    · exact h
    · unfold wpList
      rw [if_pos h.1]
      exact .inl (Oper.wp_mono (fun a' w' h' => wpList_of_listF rest a' w' h'.2) h.2)
theorem float_first {i : Nat} {oi : Oper} {v : Value} (hi : ops[i]? = some oi) (hsel : ∀ (j : Nat) (o : Oper) cs b, ops[j]? = some o → o.op ≠ .select cs b)
    (hQ : ∀ c a w, Q (.panic c) (a.put oi.dst v) w → Q (.panic c) a w) :
    ∀ (l : List Oper) (k : Nat) (listed : Array Bool) (a : Act) (w : World), (∀ j, l[j]? = ops[k + j]?) → Region.seqB md ops l.length k (listed.setIfInBounds i true) = true →
      (∀ j oj, ops[j]? = some oj → j ≠ i → listed.getD j true = false → (∀ e ∈ oj.after, Region.binds md e = true → e.on ≠ i) → oi.apart ops oj = true) →
      i ∈ Region.ready md ops listed → YieldsIf P ops S oi v a → S w → listF P md ops Q S i l (a.put oi.dst v) w → wpAny P md ops Q (l.length + 1) listed a w
  | l, k, listed, a, w, hl, hB, hfree, hr, hy, hS, H => by
    refine ⟨fun h => (by rw [h] at hr; cases hr), fun j hj => ?_⟩
    by_cases hji : j = i
    · subst hji; exact hy.wpOp hi hS (wpAny_of_seq l k _ _ _ hl hB (wpList_of_listF _ _ _ H))
    · have hj2 := ready_mono (i := i) hj hji
      match l, hl, hB, H with
      | [], _, hB, _ => simp [Region.seqB] at hB; rw [hB] at hj2; cases hj2
      | o :: rest, hl, hB, H =>
        simp only [List.length_cons, Region.seqB, Bool.and_eq_true, decide_eq_true_eq] at hB
        rw [hB.1] at hj2
        have hjk : j = k := by simpa using hj2
        subst hjk
        have h0 : ops[j]? = some o := by simpa using (hl 0).symm
        obtain ⟨hjun, oj, hoj, hall⟩ := mem_ready.1 hj
        rw [h0] at hoj; cases hoj
        have hnot : ∀ e ∈ o.after, Region.binds md e = true → e.on ≠ i := fun e he hb heq => by
          have h1 := hall e he hb
          have h0 := (mem_ready.1 hr).1
          rw [heq] at h1
          rcases Nat.lt_or_ge i listed.size with h' | h'
          · simp [h'] at h0 h1; rw [h0] at h1; cases h1
          · simp [Array.getElem?_eq_none h'] at h1
        have hw : waitsB md o i = false := by
          unfold waitsB
          rw [Array.any_eq_false]
          intro q hq h
          rw [Bool.and_eq_true, beq_iff_eq] at h
          exact hnot _ (Array.getElem_mem hq) h.1 h.2
        unfold listF at H
        rw [hw] at H
        simp only [Bool.false_eq_true, if_false] at H
        have h1 : wpOp P ops Q j (fun a' w' => S w' ∧ listF P md ops Q S i rest a' w') (a.put oi.dst v) w := by
          unfold wpOp
          simp only [h0]
          rw [if_pos H.1]; exact .inl H.2
        have h2 := wpOp_putIf h0 (hfree j o h0 hji hjun hnot) (fun cs b => hsel i oi cs b hi) (fun cs b => hsel j o cs b h0) hQ hy h1
        have hfree' : ∀ k ok, ops[k]? = some ok → k ≠ i → (listed.setIfInBounds j true).getD k true = false →
            (∀ e ∈ ok.after, Region.binds md e = true → e.on ≠ i) → oi.apart ops ok = true := fun k ok hk hki hun hno => by
          refine hfree k ok hk hki ?_ hno
          by_cases hjk : j = k
          · subst hjk; exact hjun
          · rw [getD_set_ne true hjk] at hun; exact hun
        refine wpOp_mono (fun a' w' h3 => float_first hi hsel hQ rest (j + 1) (listed.setIfInBounds j true) a' w' (fun q => by have := hl (q + 1); simpa [Nat.add_comm, Nat.add_left_comm, Nat.add_assoc] using this) ?_ hfree' (ready_mono hr (Ne.symm hji)) h3.1 h3.2.1 h3.2.2) h2
        rw [Array.setIfInBounds_comm _ _ hji]
        exact hB.2
/-- The law: the first operation is a load that yields v while S stands. -/
theorem wpIn_region_float {lr nf : Nat} {id : Nat} {a : Act} {w : World} {oi : Oper} {l : List Oper} {v : Value} (hm : P.follows .mixedOrders = true) (hnd : ((oi :: l).all fun o => match o.op with | .defer _ => false | _ => true) = true) (hLO : ¬ LetsOut Q)
    (hs : Region.noSelect (oi :: l).toArray = true) (hf : Region.free .any (oi :: l).toArray (Array.replicate (oi :: l).toArray.size false) 0 = true) (hr : (Region.ready .any (oi :: l).toArray (Array.replicate (oi :: l).toArray.size false)).contains 0 = true)
    (hB : Region.seqB .any (oi :: l).toArray l.length 1 ((Array.replicate (oi :: l).toArray.size false).setIfInBounds 0 true) = true)
    (hQ : ∀ c a w, Q (.panic c) (a.put oi.dst v) w → Q (.panic c) a w) (hy : YieldsIf P (oi :: l).toArray S oi v a) (hS : S w.drew)
    (h : listF P .any (oi :: l).toArray Q S 0 l (a.put oi.dst v) w.drew) : (Code.region id (oi :: l).toArray true).wpIn (Fence.wide.inRound lr) nf P Q a w := by
  have hi : (oi :: l).toArray[0]? = some oi := rfl
  refine wpIn_region_any hm (any_bridge (fun i o ho c hc => by
    have hmem : o ∈ (oi :: l) := List.mem_of_getElem? (by simpa using ho)
    have := List.all_eq_true.1 hnd o hmem
    rw [hc] at this; cases this) hLO _ _ _ _ ?_)
  have hsz : (oi :: l).toArray.size = l.length + 1 := by simp
  have := float_first (md := .any) (Q := Q) hi (Region.noSelect_spec hs) hQ l 1 (Array.replicate (oi :: l).toArray.size false) a w.drew (fun j => by simp [Nat.add_comm]) hB (Region.free_spec hi hf) (by simpa using hr) hy hS h
  rw [← hsz] at this
  exact this
/-- A step that does not wait for the load. -/
theorem listF_step {o : Oper} {rest : List Oper} {a : Act} {w : World} {i : Nat} (hw : waitsB md o i = false) (hwa : Region.wanted o (yielded ops a.tmps) = true)
    (h : ∀ K : Act → World → Prop, (∀ a w, S w → listF P md ops Q S i rest a w → K a w) → o.wp P a w K Q) : listF P md ops Q S i (o :: rest) a w := by
  unfold listF
  rw [hw]
  exact ⟨hwa, h _ fun a w h1 h2 => ⟨h1, h2⟩⟩
theorem listF_tail {o : Oper} {rest : List Oper} {a : Act} {w : World} {i : Nat} (hw : waitsB md o i = true) (h : wpList P ops Q (o :: rest) a w) : listF P md ops Q S i (o :: rest) a w := by
  unfold listF
  rw [hw]; exact h
end
end Go.Proofs.Ytilkemdecenibaa
namespace Go.Proofs.Ytilkemdecenibaa
open Go.RowKit
section
variable {P : Program} {ops : Array Oper} {Q : Exit → Act → World → Prop} {md : Region.Mode} {S : World → Prop} {I : List Nat}
/-- May one of the loads still come after this operation? -/
def needO (md : Region.Mode) (I : List Nat) (o : Oper) : Bool := I.any fun i => !waitsB md o i
def wpF (P : Program) (md : Region.Mode) (ops : Array Oper) (Q : Exit → Act → World → Prop) (S : World → Prop) (I : List Nat) : Nat → Array Bool → Act → World → Prop
  | 0, listed, a, w => Region.ready md ops listed = [] ∧ Q .normal a w
  | fuel + 1, listed, a, w => (Region.ready md ops listed = [] → Q .normal a w) ∧
      ∀ j ∈ Region.ready md ops listed, wpOp P ops Q j (fun a' w' => (∀ o, ops[j]? = some o → needO md I o = true → S w') ∧ wpF P md ops Q S I fuel (listed.setIfInBounds j true) a' w') a w
theorem wpAny_of_wpF : ∀ (fuel : Nat) (listed : Array Bool) (a : Act) (w : World), wpF P md ops Q S I fuel listed a w → wpAny P md ops Q fuel listed a w
  | 0, _, _, _, h => h
  | fuel + 1, _, _, _, h => ⟨h.1, fun i hi => wpOp_mono (fun a' w' h' => wpAny_of_wpF fuel _ a' w' h'.2) (h.2 i hi)⟩
theorem wpF_first {i : Nat} {oi : Oper} {v : Value} (hI : i ∈ I) (hi : ops[i]? = some oi) (hsel : ∀ (j : Nat) (o : Oper) cs b, ops[j]? = some o → o.op ≠ .select cs b)
    (hQ : ∀ c a w, Q (.panic c) (a.put oi.dst v) w → Q (.panic c) a w) :
    ∀ (fuel : Nat) (listed : Array Bool) (a : Act) (w : World),
      (∀ j oj, ops[j]? = some oj → j ≠ i → listed.getD j true = false → (∀ e ∈ oj.after, Region.binds md e = true → e.on ≠ i) → oi.apart ops oj = true) →
      i ∈ Region.ready md ops listed → YieldsIf P ops S oi v a → S w →
      wpF P md ops Q S I fuel (listed.setIfInBounds i true) (a.put oi.dst v) w → wpF P md ops Q S I (fuel + 1) listed a w := by
  intro fuel
  induction fuel with
  | zero =>
    intro listed a w _ hr hy hS H
    refine ⟨fun h => (by rw [h] at hr; cases hr), fun j hj => ?_⟩
    by_cases hji : j = i
    · subst hji; exact hy.wpOp hi hS ⟨fun _ _ _ => hS, H⟩
    · have := ready_mono hj hji
      rw [H.1] at this
      cases this
  | succ fuel ih =>
    intro listed a w hfree hr hy hS H
    refine ⟨fun h => (by rw [h] at hr; cases hr), fun j hj => ?_⟩
    by_cases hji : j = i
    · subst hji; exact hy.wpOp hi hS ⟨fun _ _ _ => hS, H⟩
    · have h1 := H.2 j (ready_mono hj hji)
      obtain ⟨hjun, oj, hoj, hall⟩ := mem_ready.1 hj
      have hnot : ∀ e ∈ oj.after, Region.binds md e = true → e.on ≠ i := fun e he hb heq => by
        have h1 := hall e he hb
        have h0 := (mem_ready.1 hr).1
        rw [heq] at h1
        rcases Nat.lt_or_ge i listed.size with h' | h'
        · simp [h'] at h0 h1; rw [h0] at h1; cases h1
        · simp [Array.getElem?_eq_none h'] at h1
      have hneed : needO md I oj = true := by
        refine List.any_eq_true.2 ⟨i, hI, ?_⟩
        have hw : waitsB md oj i = false := by
          unfold waitsB
          rw [Array.any_eq_false]
          intro q hq h
          rw [Bool.and_eq_true, beq_iff_eq] at h
          exact hnot _ (Array.getElem_mem hq) h.1 h.2
        rw [hw]; rfl
      have h2 := wpOp_putIf hoj (hfree j oj hoj hji hjun hnot) (fun cs b => hsel i oi cs b hi) (fun cs b => hsel j oj cs b hoj) hQ hy h1
      have hfree' : ∀ k ok, ops[k]? = some ok → k ≠ i → (listed.setIfInBounds j true).getD k true = false →
          (∀ e ∈ ok.after, Region.binds md e = true → e.on ≠ i) → oi.apart ops ok = true := fun k ok hk hki hun hno => by
        refine hfree k ok hk hki ?_ hno
        by_cases hjk : j = k
        · subst hjk; exact hjun
        · rw [getD_set_ne true hjk] at hun; exact hun
      refine wpOp_mono (fun a' w' h3 => ⟨h3.2.1, ih (listed.setIfInBounds j true) a' w' hfree' (ready_mono hr (Ne.symm hji)) h3.1 (h3.2.1 oj hoj hneed) ?_⟩) h2
      rw [Array.setIfInBounds_comm _ _ hji]
      exact h3.2.2
/-- Number i is taken first. -/
theorem wpF_take {i : Nat} {oi : Oper} {v : Value} {fuel : Nat} {listed : Array Bool} {a : Act} {w : World} (hi : ops[i]? = some oi) (hI : I.contains i = true)
    (hs : Region.noSelect ops = true) (hf : Region.free md ops listed i = true) (hr : (Region.ready md ops listed).contains i = true)
    (hQ : ∀ c a w, Q (.panic c) (a.put oi.dst v) w → Q (.panic c) a w) (hy : YieldsIf P ops S oi v a) (hS : S w)
    (h : wpF P md ops Q S I fuel (listed.setIfInBounds i true) (a.put oi.dst v) w) : wpF P md ops Q S I (fuel + 1) listed a w :=
  wpF_first (by simpa using hI) hi (Region.noSelect_spec hs) hQ fuel listed a w (Region.free_spec hi hf) (by simpa using hr) hy hS h
/-- The only one that may come up. -/
theorem wpF_step {k : Nat} {o : Oper} {fuel : Nat} {listed : Array Bool} {a : Act} {w : World} (ho : ops[k]? = some o) (hr : Region.ready md ops listed = [k]) (hwa : Region.wanted o (yielded ops a.tmps) = true)
    (h : ∀ K : Act → World → Prop, (∀ a w, S w → wpF P md ops Q S I fuel (listed.setIfInBounds k true) a w → K a w) → o.wp P a w K Q) : wpF P md ops Q S I (fuel + 1) listed a w := by
  refine ⟨fun h1 => (by rw [hr] at h1; cases h1), fun j hj => ?_⟩
  rw [hr] at hj
  obtain rfl : j = k := by simpa using hj
  unfold wpOp
  simp only [ho]
  rw [if_pos hwa]
  exact .inl (h _ fun a w h1 h2 => ⟨fun _ _ _ => h1, h2⟩)
/-- The rest, in the text's order, where no load can come after. -/
theorem wpF_tail : ∀ (l : List Oper) (k : Nat) (listed : Array Bool) (a : Act) (w : World), (∀ j, l[j]? = ops[k + j]?) → Region.seqB md ops l.length k listed = true → (l.all fun o => !needO md I o) = true →
    wpList P ops Q l a w → wpF P md ops Q S I l.length listed a w
  | [], _, _, _, _, _, hB, _, h => ⟨by simpa [Region.seqB] using hB, h⟩
  | o :: l, k, listed, a, w, hl, hB, hn, h => by
    have h0 : ops[k]? = some o := by simpa using (hl 0).symm
    simp only [List.length_cons, Region.seqB, Bool.and_eq_true, decide_eq_true_eq] at hB
    rw [List.all_cons, Bool.and_eq_true] at hn
    refine ⟨fun h1 => (by rw [hB.1] at h1; cases h1), fun i hi => ?_⟩
    rw [hB.1] at hi
    obtain rfl : i = k := by simpa using hi
    have hw : wpOp P ops Q i (wpList P ops Q l) a w := by unfold wpOp; simp only [h0]; exact h
    refine wpOp_mono (fun a' w' h' => ⟨fun o' ho' hne => ?_, wpF_tail l (i + 1) _ a' w' (fun j => by have := hl (j + 1); simpa [Nat.add_assoc, Nat.add_comm 1 j] using this) hB.2 hn.2 h'⟩) hw
    rw [h0] at ho'; cases ho'
    rw [hne] at hn
    exact absurd hn.1 (by simp)
/-- The last one, behind which no load comes. -/
theorem wpF_last {k : Nat} {o : Oper} {listed : Array Bool} {a : Act} {w : World} (ho : ops[k]? = some o) (hr : Region.ready md ops listed = [k]) (hd : Region.ready md ops (listed.setIfInBounds k true) = []) (hn : needO md I o = false) (hwa : Region.wanted o (yielded ops a.tmps) = true)
    (h : ∀ K : Act → World → Prop, (∀ a w, Q .normal a w → K a w) → o.wp P a w K Q) : wpF P md ops Q S I 1 listed a w := by
  refine ⟨fun h1 => (by rw [hr] at h1; cases h1), fun j hj => ?_⟩
  rw [hr] at hj
  obtain rfl : j = k := by simpa using hj
  unfold wpOp
  simp only [ho]
  rw [if_pos hwa]
  exact .inl (h _ fun a w h1 => ⟨fun o' ho' hne => (by cases ho'; rw [hn] at hne; cases hne), hd, h1⟩)
theorem step_of_list {o : Oper} {a : Act} {w : World} {K : Act → World → Prop} (hw : Region.wanted o (yielded ops a.tmps) = true) (hLO : ¬ LetsOut Q) (h : wpList P ops (Exit.then K Q) [o] a w) : o.wp P a w K Q := by
  unfold wpList at h
  rw [if_pos hw] at h
  rcases h with h | h
  · unfold Oper.wp at *
    generalize (execOp a.eval o).run P w = r at *
    cases r with
    | ok x w' =>
      cases x with
      | value v => exact h
      | skip => exact h
      | «defer» d => exact h
      | enter f args =>
        refine Calls.mono h fun e w'' he => ?_
        cases e with
        | returned v => exact he
        | panicked ch => exact he
        | outgrown => exact he
      | row row args =>
        intro c cs
        obtain ⟨v, w'', hr, hs⟩ := h c cs
        exact ⟨v, w'', hr, hs⟩
      | _ => exact h
    | halt x w' =>
      cases x with
      | panic v => exact h
      | _ => exact h
  · exact absurd (show LetsOut Q from h.2) hLO
/-- The beginning, in a round. -/
theorem wpIn_region_F {lr nf : Nat} {id : Nat} {a : Act} {w : World} (S : World → Prop) (I : List Nat) (hm : P.follows .mixedOrders = true) (hnd : (ops.toList.all fun o => match o.op with | .defer _ => false | _ => true) = true) (hLO : ¬ LetsOut Q)
    (h : wpF P .any ops Q S I ops.size (Array.replicate ops.size false) a w.drew) : (Code.region id ops true).wpIn (Fence.wide.inRound lr) nf P Q a w :=
  wpIn_region_any hm (any_bridge (fun i o ho c hc => by
    have hmem : o ∈ ops.toList := List.mem_of_getElem? (by simpa using ho)
    have := List.all_eq_true.1 hnd o hmem
    rw [hc] at this; cases this) hLO _ _ _ _ (wpAny_of_wpF _ _ _ _ h))
/-- The beginning, without a fence. -/
theorem wp_region_F {id : Nat} {a : Act} {w : World} (S : World → Prop) (I : List Nat) (hm : P.follows .mixedOrders = true)
    (h : wpF P .any ops Q S I ops.size (Array.replicate ops.size false) a w.drew) : (Code.region id ops true).wp P Q a w :=
  wp_region_any hm (wpAny_of_wpF _ _ _ _ h)
end
end Go.Proofs.Ytilkemdecenibaa
