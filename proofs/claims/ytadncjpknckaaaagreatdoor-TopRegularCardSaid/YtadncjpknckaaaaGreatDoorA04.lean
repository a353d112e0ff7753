/-
  A bridge: a region that is walked without a fence serves inside the widest fence, in a round too (where it holds no defer). A bridge for a list of operations: what is walked without a fence serves in a round.
  A region whose first operation, a load, may come up late: all others wait for one another. What is walked in the text's order serves for every order, in a round too. A drawn region with several loads that float beside a call: each is taken first; S is shown behind an operation only where some load may still come after it. In a round too.
  A range over an iterator in a loop: its marks (cut from V1).
-/
import Derived.Test.YtadncjpknckaaaaGreatDoorA01
import Derived.OrdersIn
import Derived.AtR
import Derived.TacticsInMore
import Derived.OrdersHeld
import Derived.StillTail
import Derived.Test.YtadncjpknckaaaaGreatDoorA03
namespace Go.Proofs.YtadncjpknckaaaaGreatDoor
open Go.RowKit
section
variable {l n : Nat} {P : Program} {ops : Array Oper} {Q : Exit → Act → World → Prop}
theorem oper_bridge {o : Oper} {a : Act} {w : World} {K K' : Act → World → Prop} (hnd : ∀ c, o.op ≠ .defer c) (hK : ∀ a w, K a w → K' a w) (h : o.wp P a w K Q) : o.wpIn (Fence.wide.inRound l) n P a w K' Q := by
  refine ⟨fun f _ => trivial, ?_⟩
  rw [Oper.semAt_eq _ _ _ hnd]
  unfold Oper.wp at h
  generalize (execOp a.eval o).run P w = r at *
  cases r with
  | ok x w' =>
    cases x with
    | value v => exact hK _ _ h
    | skip => exact hK _ _ h
    | «defer» d => exact hK _ _ h
    | enter f args =>
      refine ⟨(fun he => by cases he), ?_⟩
      refine CallsIn.mono (show CallsIn (Fence.wide.inRound l) (n - 1) P f args w' _ from callsIn_wide.2 h) ?_
      intro e w'' he
      cases e with
      | returned v => exact hK _ _ he
      | panicked ch => exact he
      | outgrown => exact he
    | row row args =>
      refine ⟨(fun he => by cases he), fun c cs _ => ?_⟩
      obtain ⟨v, w'', hr, hs⟩ := h c cs
      exact ⟨v, w'', hK _ _ hr, stepsIn_wide.2 hs⟩
    | _ => exact h.elim
  | halt x w' =>
    cases x with
    | panic v => exact h
    | _ => exact h.elim
theorem any_bridge {md : Region.Mode} (hnd : ∀ (i : Nat) (o : Oper), ops[i]? = some o → ∀ c, o.op ≠ .defer c) (hLO : ¬ LetsOut Q) : ∀ (fuel : Nat) (listed : Array Bool) (a : Act) (w : World), wpAny P md ops Q fuel listed a w → wpAnyIn (Fence.wide.inRound l) n P md ops Q fuel listed a w
  | 0, _, _, _, h => h
  | fuel + 1, listed, a, w, h => ⟨h.1, fun i hi => by
    have h2 := h.2 i hi
    unfold wpOp at h2
    unfold wpOpIn
    split
    · rename_i ho; simp only [ho] at h2; exact any_bridge hnd hLO fuel _ _ _ h2
    · rename_i o ho
      simp only [ho] at h2
      split
      · rename_i hw
        rw [if_pos hw] at h2
        rcases h2 with h2 | h2
        · exact oper_bridge (hnd i o ho) (fun a w => any_bridge hnd hLO fuel _ a w) h2
        · exact absurd h2.2 hLO
      · rename_i hw
        rw [if_neg hw] at h2
        exact ⟨fun _ _ => trivial, any_bridge hnd hLO fuel _ _ _ h2⟩⟩
theorem any_qt {a : Act} {w : World} {l : List Oper} (C : World → Prop) (n : Nat) (hB : Region.lexTailB .any l.toArray n = true) (hC : C w.drew)
    (h : wpQuiet P l.toArray C (fun a' => ∀ w', C w' → wpList P l.toArray Q (l.drop n) a' w') (l.take n) a) : wpAny P .any l.toArray Q l.toArray.size (Array.replicate l.toArray.size false) a w.drew := by
  simp only [Region.lexTailB, Bool.and_eq_true, decide_eq_true_eq] at hB
  obtain ⟨⟨⟨⟨hsel, hn⟩, hs⟩, hc⟩, hlex⟩ := hB
  have hn' : n < l.length := by simpa using hn
  have htl : (l.take n).length = n := by simp; omega
  have hdl : (l.drop n).length = l.toArray.size - n := by simp
  have inv0 : HeadInv .any l.toArray n (Array.replicate l.toArray.size false) :=
    ⟨by simp, fun j oj _ hl => (by rw [getD_replicate_false] at hl; cases hl), fun t _ ht => getD_in (by simpa using ht) (getD_replicate_false _ _)⟩
  have H := headAny_lex (C := C) (md := .any) (g := l.toArray.size - n) hsel hs hc hn (l.take n) 0 _ a (fun j hj => by
    have hj' : j < n := by rw [htl] at hj; exact hj
    simp [hj']) (by simpa using htl) inv0 (by rw [htl]; exact hlex) h
  have := any_of_headAny (Q' := Q) (g := l.toArray.size - n) (fun listed a' w' hw' hL => by
    have := wpAny_of_seq (md := .any) (Q' := Q) (l.drop n) n listed a' w' (fun j => by simp [List.getElem?_drop]) (by rw [hdl]; exact hL.1) (hL.2 w' hw')
    rwa [hdl] at this) _ _ _ _ hC H
  rw [htl, show n + (l.toArray.size - n) = l.toArray.size by omega] at this
  exact this
/-- A region in a round: its head is quiet, its tail is forced. -/
theorem wpIn_region_qxt {lr nf : Nat} {id : Nat} {a : Act} {w : World} {l : List Oper} (n : Nat) (hm : P.follows .mixedOrders = true) (hB : Region.lexTailB .any l.toArray n = true) (hnd : (l.all fun o => match o.op with | .defer _ => false | _ => true) = true) (hLO : ¬ LetsOut Q)
    (h : wpQuiet P l.toArray (fun w' => ∃ x : ExtOf w, w' = x.w) (fun a' => ∀ w', (∃ x : ExtOf w, w' = x.w) → wpList P l.toArray Q (l.drop n) a' w') (l.take n) a) : (Code.region id l.toArray true).wpIn (Fence.wide.inRound lr) nf P Q a w :=
  wpIn_region_any hm (any_bridge (fun i o ho c hc => by
    have hmem : o ∈ l := List.mem_of_getElem? (by simpa using ho)
    have := List.all_eq_true.1 hnd o hmem
    rw [hc] at this; cases this) hLO _ _ _ _ (any_qt (fun w' => ∃ x : ExtOf w, w' = x.w) n hB ⟨⟨w.drew, (Ext.refl w).drew⟩, rfl⟩ h))
end
end Go.Proofs.YtadncjpknckaaaaGreatDoor
namespace Go.Proofs.YtadncjpknckaaaaGreatDoor
open Go.RowKit
theorem list_bridge {lr n : Nat} {P : Program} {ops : Array Oper} {Q : Exit → Act → World → Prop} (hLO : ¬ LetsOut Q) : ∀ (l : List Oper) (a : Act) (w : World), (l.all fun o => match o.op with | .defer _ => false | _ => true) = true →
    wpList P ops Q l a w → wpListIn (Fence.wide.inRound lr) n P ops Q l a w
  | [], _, _, _, h => h
  | o :: rest, a, w, hd, h => by
    rw [List.all_cons, Bool.and_eq_true] at hd
    unfold wpList at h
    unfold wpListIn
    split
    · rename_i hw
      rw [if_pos hw] at h
      rcases h with h | h
      · exact oper_bridge (fun c hc => by have := hd.1; rw [hc] at this; cases this) (fun a w => list_bridge hLO rest a w hd.2) h
      · exact absurd h.2 hLO
    · rename_i hw
      rw [if_neg hw] at h
      exact ⟨fun _ _ => trivial, list_bridge hLO rest _ _ hd.2 h⟩
theorem wpIn_region_plain {lr nf : Nat} {P : Program} {id : Nat} {a : Act} {w : World} {l : List Oper} {Q : Exit → Act → World → Prop} (hnd : (l.all fun o => match o.op with | .defer _ => false | _ => true) = true) (hLO : ¬ LetsOut Q)
    (h : wpList P l.toArray Q l a w) : (Code.region id l.toArray false).wpIn (Fence.wide.inRound lr) nf P Q a w :=
  wpIn_region_lit (list_bridge hLO l a w hnd h)
end Go.Proofs.YtadncjpknckaaaaGreatDoor
namespace Go.Proofs.YtadncjpknckaaaaGreatDoor
open Go.RowKit
section
variable {P : Program} {ops : Array Oper} {Q : Exit → Act → World → Prop} {md : Region.Mode} {S : World → Prop}
/-- Does the operation wait for number i? -/
def waitsB (md : Region.Mode) (o : Oper) (i : Nat) : Bool := o.after.any fun e => Region.binds md e && (e.on == i)
/-- The text's order; while an operation does not wait for number i, S is shown behind it. -/
def listF (P : Program) (md : Region.Mode) (ops : Array Oper) (Q : Exit → Act → World → Prop) (S : World → Prop) (i : Nat) : List Oper → Act → World → Prop
  | [], a, w => Q .normal a w
  | o :: rest, a, w => if waitsB md o i then wpList P ops Q (o :: rest) a w else Region.wanted o (yielded ops a.tmps) = true ∧ o.wp P a w (fun a' w' => S w' ∧ listF P md ops Q S i rest a' w') Q
theorem wpList_of_listF {i : Nat} : ∀ (l : List Oper) (a : Act) (w : World), listF P md ops Q S i l a w → wpList P ops Q l a w
  | [], _, _, h => h
  | o :: rest, a, w, h => by
    unfold listF at h
    split at h
    · exact h
    · unfold wpList
      rw [if_pos h.1]
      exact .inl (Oper.wp_mono (fun a' w' h' => wpList_of_listF rest a' w' h'.2) h.2)
theorem float_first {i : Nat} {oi : Oper} {v : Value} (hi : ops[i]? = some oi) (hsel : ∀ (j : Nat) (o : Oper) cs b, ops[j]? = some o → o.op ≠ .select cs b)
    (hQ : ∀ c a w, Q (.panic c) (a.put oi.dst v) w → Q (.panic c) a w) :
    ∀ (l : List Oper) (k : Nat) (listed : Array Bool) (a : Act) (w : World), (∀ j, l[j]? = ops[k + j]?) → Region.seqB md ops l.length k (listed.setIfInBounds i true) = true →
      (∀ j oj, ops[j]? = some oj → j ≠ i → listed.getD j true = false → (∀ e ∈ oj.after, Region.binds md e = true → e.on ≠ i) → oi.apart ops oj = true) →
      i ∈ Region.ready md ops listed → YieldsIf P ops S oi v a → S w → listF P md ops Q S i l (a.put oi.dst v) w → wpAny P md ops Q (l.length + 1) listed a w
  | l, k, listed, a, w, hl, hB, hfree, hr, hy, hS, H => by
    refine ⟨fun h => (by rw [h] at hr; cases hr), fun j hj => ?_⟩
    by_cases hji : j = i
    · subst hji; exact hy.wpOp hi hS (wpAny_of_seq l k _ _ _ hl hB (wpList_of_listF _ _ _ H))
    · have hj2 := ready_mono (i := i) hj hji
      match l, hl, hB, H with
      | [], _, hB, _ => simp [Region.seqB] at hB; rw [hB] at hj2; cases hj2
      | o :: rest, hl, hB, H =>
        simp only [List.length_cons, Region.seqB, Bool.and_eq_true, decide_eq_true_eq] at hB
        rw [hB.1] at hj2
        have hjk : j = k := by simpa using hj2
        subst hjk
        have h0 : ops[j]? = some o := by simpa using (hl 0).symm
        obtain ⟨hjun, oj, hoj, hall⟩ := mem_ready.1 hj
        rw [h0] at hoj; cases hoj
        have hnot : ∀ e ∈ o.after, Region.binds md e = true → e.on ≠ i := fun e he hb heq => by
          have h1 := hall e he hb
          have h0 := (mem_ready.1 hr).1
          rw [heq] at h1
          rcases Nat.lt_or_ge i listed.size with h' | h'
          · simp [h'] at h0 h1; rw [h0] at h1; cases h1
          · simp [Array.getElem?_eq_none h'] at h1
        have hw : waitsB md o i = false := by
          unfold waitsB
          rw [Array.any_eq_false]
          intro q hq h
          rw [Bool.and_eq_true, beq_iff_eq] at h
          exact hnot _ (Array.getElem_mem hq) h.1 h.2
        unfold listF at H
        rw [hw] at H
        simp only [Bool.false_eq_true, if_false] at H
        have h1 : wpOp P ops Q j (fun a' w' => S w' ∧ listF P md ops Q S i rest a' w') (a.put oi.dst v) w := by
          unfold wpOp
          simp only [h0]
          rw [if_pos H.1]; exact .inl H.2
        have h2 := wpOp_putIf h0 (hfree j o h0 hji hjun hnot) (fun cs b => hsel i oi cs b hi) (fun cs b => hsel j o cs b h0) hQ hy h1
        have hfree' : ∀ k ok, ops[k]? = some ok → k ≠ i → (listed.setIfInBounds j true).getD k true = false →
            (∀ e ∈ ok.after, Region.binds md e = true → e.on ≠ i) → oi.apart ops ok = true := fun k ok hk hki hun hno => by
          refine hfree k ok hk hki ?_ hno
          by_cases hjk : j = k
          · subst hjk; exact hjun
          · rw [getD_set_ne true hjk] at hun; exact hun
        refine wpOp_mono (fun a' w' h3 => float_first hi hsel hQ rest (j + 1) (listed.setIfInBounds j true) a' w' (fun q => by have := hl (q + 1); simpa [Nat.add_comm, Nat.add_left_comm, Nat.add_assoc] using this) ?_ hfree' (ready_mono hr (Ne.symm hji)) h3.1 h3.2.1 h3.2.2) h2
        rw [Array.setIfInBounds_comm _ _ hji]
        exact hB.2
/-- The law: the first operation is a load that yields v while S stands. -/
theorem wpIn_region_float {lr nf : Nat} {id : Nat} {a : Act} {w : World} {oi : Oper} {l : List Oper} {v : Value} (hm : P.follows .mixedOrders = true) (hnd : ((oi :: l).all fun o => match o.op with | .defer _ => false | _ => true) = true) (hLO : ¬ LetsOut Q)
    (hs : Region.noSelect (oi :: l).toArray = true) (hf : Region.free .any (oi :: l).toArray (Array.replicate (oi :: l).toArray.size false) 0 = true) (hr : (Region.ready .any (oi :: l).toArray (Array.replicate (oi :: l).toArray.size false)).contains 0 = true)
    (hB : Region.seqB .any (oi :: l).toArray l.length 1 ((Array.replicate (oi :: l).toArray.size false).setIfInBounds 0 true) = true)
    (hQ : ∀ c a w, Q (.panic c) (a.put oi.dst v) w → Q (.panic c) a w) (hy : YieldsIf P (oi :: l).toArray S oi v a) (hS : S w.drew)
    (h : listF P .any (oi :: l).toArray Q S 0 l (a.put oi.dst v) w.drew) : (Code.region id (oi :: l).toArray true).wpIn (Fence.wide.inRound lr) nf P Q a w := by
  have hi : (oi :: l).toArray[0]? = some oi := rfl
  refine wpIn_region_any hm (any_bridge (fun i o ho c hc => by
    have hmem : o ∈ (oi :: l) := List.mem_of_getElem? (by simpa using ho)
    have := List.all_eq_true.1 hnd o hmem
    rw [hc] at this; cases this) hLO _ _ _ _ ?_)
  have hsz : (oi :: l).toArray.size = l.length + 1 := by simp
  have := float_first (md := .any) (Q := Q) hi (Region.noSelect_spec hs) hQ l 1 (Array.replicate (oi :: l).toArray.size false) a w.drew (fun j => by simp [Nat.add_comm]) hB (Region.free_spec hi hf) (by simpa using hr) hy hS h
  rw [← hsz] at this
  exact this
/-- A step that does not wait for the load. -/
theorem listF_step {o : Oper} {rest : List Oper} {a : Act} {w : World} {i : Nat} (hw : waitsB md o i = false) (hwa : Region.wanted o (yielded ops a.tmps) = true)
    (h : ∀ K : Act → World → Prop, (∀ a w, S w → listF P md ops Q S i rest a w → K a w) → o.wp P a w K Q) : listF P md ops Q S i (o :: rest) a w := by
  unfold listF
  rw [hw]
  exact ⟨hwa, h _ fun a w h1 h2 => ⟨h1, h2⟩⟩
theorem listF_tail {o : Oper} {rest : List Oper} {a : Act} {w : World} {i : Nat} (hw : waitsB md o i = true) (h : wpList P ops Q (o :: rest) a w) : listF P md ops Q S i (o :: rest) a w := by
  unfold listF
  rw [hw]; exact h
end
end Go.Proofs.YtadncjpknckaaaaGreatDoor
namespace Go.Proofs.YtadncjpknckaaaaGreatDoor
open Go.RowKit
section
variable {P : Program} {ops : Array Oper} {Q : Exit → Act → World → Prop} {md : Region.Mode} {S : World → Prop} {I : List Nat}
/-- May one of the loads still come after this operation? -/
def needO (md : Region.Mode) (I : List Nat) (o : Oper) : Bool := I.any fun i => !waitsB md o i
def wpF (P : Program) (md : Region.Mode) (ops : Array Oper) (Q : Exit → Act → World → Prop) (S : World → Prop) (I : List Nat) : Nat → Array Bool → Act → World → Prop
  | 0, listed, a, w => Region.ready md ops listed = [] ∧ Q .normal a w
  | fuel + 1, listed, a, w => (Region.ready md ops listed = [] → Q .normal a w) ∧
      ∀ j ∈ Region.ready md ops listed, wpOp P ops Q j (fun a' w' => (∀ o, ops[j]? = some o → needO md I o = true → S w') ∧ wpF P md ops Q S I fuel (listed.setIfInBounds j true) a' w') a w
theorem wpAny_of_wpF : ∀ (fuel : Nat) (listed : Array Bool) (a : Act) (w : World), wpF P md ops Q S I fuel listed a w → wpAny P md ops Q fuel listed a w
  | 0, _, _, _, h => h
  | fuel + 1, _, _, _, h => ⟨h.1, fun i hi => wpOp_mono (fun a' w' h' => wpAny_of_wpF fuel _ a' w' h'.2) (h.2 i hi)⟩
theorem wpF_first {i : Nat} {oi : Oper} {v : Value} (hI : i ∈ I) (hi : ops[i]? = some oi) (hsel : ∀ (j : Nat) (o : Oper) cs b, ops[j]? = some o → o.op ≠ .select cs b)
    (hQ : ∀ c a w, Q (.panic c) (a.put oi.dst v) w → Q (.panic c) a w) :
    ∀ (fuel : Nat) (listed : Array Bool) (a : Act) (w : World),
      (∀ j oj, ops[j]? = some oj → j ≠ i → listed.getD j true = false → (∀ e ∈ oj.after, Region.binds md e = true → e.on ≠ i) → oi.apart ops oj = true) →
      i ∈ Region.ready md ops listed → YieldsIf P ops S oi v a → S w →
      wpF P md ops Q S I fuel (listed.setIfInBounds i true) (a.put oi.dst v) w → wpF P md ops Q S I (fuel + 1) listed a w := by
  intro fuel
  induction fuel with
  | zero =>
    intro listed a w _ hr hy hS H
    refine ⟨fun h => (by rw [h] at hr; cases hr), fun j hj => ?_⟩
    by_cases hji : j = i
    · subst hji; exact hy.wpOp hi hS ⟨fun _ _ _ => hS, H⟩
    · have := ready_mono hj hji
      rw [H.1] at this
      cases this
  | succ fuel ih =>
    intro listed a w hfree hr hy hS H
    refine ⟨fun h => (by rw [h] at hr; cases hr), fun j hj => ?_⟩
    by_cases hji : j = i
    · subst hji; exact hy.wpOp hi hS ⟨fun _ _ _ => hS, H⟩
    · have h1 := H.2 j (ready_mono hj hji)
      obtain ⟨hjun, oj, hoj, hall⟩ := mem_ready.1 hj
      have hnot : ∀ e ∈ oj.after, Region.binds md e = true → e.on ≠ i := fun e he hb heq => by
        have h1 := hall e he hb
        have h0 := (mem_ready.1 hr).1
        rw [heq] at h1
        rcases Nat.lt_or_ge i listed.size with h' | h'
        · simp [h'] at h0 h1; rw [h0] at h1; cases h1
        · simp [Array.getElem?_eq_none h'] at h1
      have hneed : needO md I oj = true := by
        refine List.any_eq_true.2 ⟨i, hI, ?_⟩
        have hw : waitsB md oj i = false := by
          unfold waitsB
          rw [Array.any_eq_false]
          intro q hq h
          rw [Bool.and_eq_true, beq_iff_eq] at h
          exact hnot _ (Array.getElem_mem hq) h.1 h.2
        rw [hw]; rfl
      have h2 := wpOp_putIf hoj (hfree j oj hoj hji hjun hnot) (fun cs b => hsel i oi cs b hi) (fun cs b => hsel j oj cs b hoj) hQ hy h1
      have hfree' : ∀ k ok, ops[k]? = some ok → k ≠ i → (listed.setIfInBounds j true).getD k true = false →
          (∀ e ∈ ok.after, Region.binds md e = true → e.on ≠ i) → oi.apart ops ok = true := fun k ok hk hki hun hno => by
        refine hfree k ok hk hki ?_ hno
        by_cases hjk : j = k
        · subst hjk; exact hjun
        · rw [getD_set_ne true hjk] at hun; exact hun
      refine wpOp_mono (fun a' w' h3 => ⟨h3.2.1, ih (listed.setIfInBounds j true) a' w' hfree' (ready_mono hr (Ne.symm hji)) h3.1 (h3.2.1 oj hoj hneed) ?_⟩) h2
      rw [Array.setIfInBounds_comm _ _ hji]
      exact h3.2.2
/-- Number i is taken first. -/
theorem wpF_take {i : Nat} {oi : Oper} {v : Value} {fuel : Nat} {listed : Array Bool} {a : Act} {w : World} (hi : ops[i]? = some oi) (hI : I.contains i = true)
    (hs : Region.noSelect ops = true) (hf : Region.free md ops listed i = true) (hr : (Region.ready md ops listed).contains i = true)
    (hQ : ∀ c a w, Q (.panic c) (a.put oi.dst v) w → Q (.panic c) a w) (hy : YieldsIf P ops S oi v a) (hS : S w)
    (h : wpF P md ops Q S I fuel (listed.setIfInBounds i true) (a.put oi.dst v) w) : wpF P md ops Q S I (fuel + 1) listed a w :=
  wpF_first (by simpa using hI) hi (Region.noSelect_spec hs) hQ fuel listed a w (Region.free_spec hi hf) (by simpa using hr) hy hS h
/-- The only one that may come up. -/
theorem wpF_step {k : Nat} {o : Oper} {fuel : Nat} {listed : Array Bool} {a : Act} {w : World} (ho : ops[k]? = some o) (hr : Region.ready md ops listed = [k]) (hwa : Region.wanted o (yielded ops a.tmps) = true)
    (h : ∀ K : Act → World → Prop, (∀ a w, S w → wpF P md ops Q S I fuel (listed.setIfInBounds k true) a w → K a w) → o.wp P a w K Q) : wpF P md ops Q S I (fuel + 1) listed a w := by
  refine ⟨fun h1 => (by rw [hr] at h1; cases h1), fun j hj => ?_⟩
  rw [hr] at hj
  obtain rfl : j = k := by simpa using hj
  unfold wpOp
  simp only [ho]
  rw [if_pos hwa]
  exact .inl (h _ fun a w h1 h2 => ⟨fun _ _ _ => h1, h2⟩)
/-- The rest, in the text's order, where no load can come after. -/
theorem wpF_tail : ∀ (l : List Oper) (k : Nat) (listed : Array Bool) (a : Act) (w : World), (∀ j, l[j]? = ops[k + j]?) → Region.seqB md ops l.length k listed = true → (l.all fun o => !needO md I o) = true →
    wpList P ops Q l a w → wpF P md ops Q S I l.length listed a w
  | [], _, _, _, _, _, hB, _, h => ⟨by simpa [Region.seqB] using hB, h⟩
  | o :: l, k, listed, a, w, hl, hB, hn, h => by
    have h0 : ops[k]? = some o := by simpa using (hl 0).symm
    simp only [List.length_cons, Region.seqB, Bool.and_eq_true, decide_eq_true_eq] at hB
    rw [List.all_cons, Bool.and_eq_true] at hn
    refine ⟨fun h1 => (by rw [hB.1] at h1; cases h1), fun i hi => ?_⟩
    rw [hB.1] at hi
    obtain rfl : i = k := by simpa using hi
    have hw : wpOp P ops Q i (wpList P ops Q l) a w := by unfold wpOp; simp only [h0]; exact h
    refine wpOp_mono (fun a' w' h' => ⟨fun o' ho' hne => ?_, wpF_tail l (i + 1) _ a' w' (fun j => by have := hl (j + 1); simpa [Nat.add_assoc, Nat.add_comm 1 j] using this) hB.2 hn.2 h'⟩) hw
    rw [h0] at ho'; cases ho'
    rw [hne] at hn
    exact absurd hn.1 (by simp)
/-- The last one, behind which no load comes. -/
theorem wpF_last {k : Nat} {o : Oper} {listed : Array Bool} {a : Act} {w : World} (ho : ops[k]? = some o) (hr : Region.ready md ops listed = [k]) (hd : Region.ready md ops (listed.setIfInBounds k true) = []) (hn : needO md I o = false) (hwa : Region.wanted o (yielded ops a.tmps) = true)
    (h : ∀ K : Act → World → Prop, (∀ a w, Q .normal a w → K a w) → o.wp P a w K Q) : wpF P md ops Q S I 1 listed a w := by
  refine ⟨fun h1 => (by rw [hr] at h1; cases h1), fun j hj => ?_⟩
  rw [hr] at hj
  obtain rfl : j = k := by simpa using hj
  unfold wpOp
  simp only [ho]
  rw [if_pos hwa]
  exact .inl (h _ fun a w h1 => ⟨fun o' ho' hne => (by cases ho'; rw [hn] at hne; cases hne), hd, h1⟩)
theorem step_of_list {o : Oper} {a : Act} {w : World} {K : Act → World → Prop} (hw : Region.wanted o (yielded ops a.tmps) = true) (hLO : ¬ LetsOut Q) (h : wpList P ops (Exit.then K Q) [o] a w) : o.wp P a w K Q := by
  unfold wpList at h
  rw [if_pos hw] at h
  rcases h with h | h
  · unfold Oper.wp at *
    generalize (execOp a.eval o).run P w = r at *
    cases r with
    | ok x w' =>
      cases x with
      | value v => exact h
      | skip => exact h
      | «defer» d => exact h
      | enter f args =>
        refine Calls.mono h fun e w'' he => ?_
        cases e with
        | returned v => exact he
        | panicked ch => exact he
        | outgrown => exact he
      | row row args =>
        intro c cs
        obtain ⟨v, w'', hr, hs⟩ := h c cs
        exact ⟨v, w'', hr, hs⟩
      | _ => exact h
    | halt x w' =>
      cases x with
      | panic v => exact h
      | _ => exact h
  · exact absurd (show LetsOut Q from h.2) hLO
/-- The beginning, in a round. -/
theorem wpIn_region_F {lr nf : Nat} {id : Nat} {a : Act} {w : World} (S : World → Prop) (I : List Nat) (hm : P.follows .mixedOrders = true) (hnd : (ops.toList.all fun o => match o.op with | .defer _ => false | _ => true) = true) (hLO : ¬ LetsOut Q)
    (h : wpF P .any ops Q S I ops.size (Array.replicate ops.size false) a w.drew) : (Code.region id ops true).wpIn (Fence.wide.inRound lr) nf P Q a w :=
  wpIn_region_any hm (any_bridge (fun i o ho c hc => by
    have hmem : o ∈ ops.toList := List.mem_of_getElem? (by simpa using ho)
    have := List.all_eq_true.1 hnd o hmem
    rw [hc] at this; cases this) hLO _ _ _ _ (wpAny_of_wpF _ _ _ _ h))
/-- The beginning, without a fence. -/
theorem wp_region_F {id : Nat} {a : Act} {w : World} (S : World → Prop) (I : List Nat) (hm : P.follows .mixedOrders = true)
    (h : wpF P .any ops Q S I ops.size (Array.replicate ops.size false) a w.drew) : (Code.region id ops true).wp P Q a w :=
  wp_region_any hm (wpAny_of_wpF _ _ _ _ h)
end
end Go.Proofs.YtadncjpknckaaaaGreatDoor
namespace Go.Proofs.YtadncjpknckaaaaGreatDoor
open Go.RowKit
/-! ### Marks of loops over iterators -/
def markD (D : Nat) : Deferred := { target := .collected D, args := #[] }
theorem leaves_marks {F : Fence} {n : Nat} {P : Program} {fn : Func} {tmps : Array Value} {R : Ending → World → Prop} {w0 : World} : ∀ (Ds : List Nat) (w : World), Ds.Nodup → (∀ D ∈ Ds, w0.heap.size ≤ D ∧ w.heap[D]? = some (.deferred (some []))) → Ext w0 w →
    (∀ w', Ext w0 w' → LeavesInM F n P fn tmps R [] .returning w') → LeavesInM F n P fn tmps R (Ds.map markD) .returning w
  | [], w, _, _, hx, h => h w hx
  | D :: Ds, w, hn, hD, hx, h => by
    obtain ⟨h1, h2⟩ := hD D List.mem_cons_self
    rw [List.nodup_cons] at hn
    refine ⟨by simp, .inl ⟨D, _, rfl, run_takeDeferred h2, leaves_marks Ds _ hn.2 (fun E hE => ⟨(hD E (List.mem_cons_of_mem _ hE)).1, ?_⟩) (hx.grown (grownBy_putObj' _ _ _) fun k e => by cases e; exact h1) h⟩⟩
    have := (hD E (List.mem_cons_of_mem _ hE)).2
    rw [World.putObj_heap_other (fun e => hn.1 (by subst e; exact hE))]
    exact this
section
variable {F : Fence} {n : Nat} {P : Program} {w : World}
/-- A range over an iterator; what the body is told of its frame is told by the frame ahead of the loop. -/
theorem wpIn_range_ownA {α : Type} {g : Operand} {ps : Array Tmp} {assign body : Code} {Q : Exit → Act → World → Prop} {a : Act}
    (hro : F.round = none) (h1 : 1 ≤ n) {gf : Nat} {lb : Array Value} (hg : a.eval g = .func (.func gf) #[] lb) (hFg : F.fn gf) (eg : ∀ args w, (callFunc gf args).run P w = .ok (.enter gf args) w)
    {encs : α → Array Value} (hps : ∀ x, (encs x).size = ps.size) (own : Nat → Prop) (hlow : ∀ r, own r → r < w.heap.size) (xs : List α)
    (I : List α → World → Prop) (hI : AbideOwn w.heap.size own I) (h0 : I [] w) (Ix : Code → List α → World → Prop) (hIx : ∀ c, AbideOwn w.heap.size own (Ix c))
    (hiter : ∀ (l : Nat) (J Jx : List α → World → Prop) (W : World), Below w.heap.size w W → J [] W → (∀ s X Y row, J s X → X.grownBy Y row → (∀ r, row = some r → own r) → J s Y) → (∀ s X Y row, Jx s X → X.grownBy Y row → (∀ r, row = some r → own r) → Jx s Y) → (∀ s X, J s X → I s X) →
      (∀ pre x X, J pre X → (pre ++ [x]) <+: xs → YieldAt F (n - 1 - 1) P l (encs x) X fun e Y => (e = .returned (.bool true) ∧ J (pre ++ [x]) Y ∧ Same own X Y) ∨ (e = .returned (.bool false) ∧ Jx (pre ++ [x]) Y)) →
      CallsIn F (n - 1) P gf (#[.func (.yield l) #[] #[]] ++ lb) W fun e W' => (∃ v, e = .returned v) ∧ (J xs W' ∨ ∃ pre, Jx pre W'))
    (Ax : Array Value → α → Act → World → Prop) (hAx : ∀ x a', AbideOwn w.heap.size (fun _ => False) (fun (_ : List α) W => Ax a.tmps x a' W))
    (hassign : ∀ (l : Nat) (pre : List α) (x : α) (W : World) (K : Act → World → Prop), I pre W → (∀ a' W', KeepsFrom w.heap.size W W' → Same own W W' → I pre W' → Ax a.tmps x a' W' → K a' W') →
      assign.wpIn (F.inRound l) (n - 1 - 1) P (Exit.then K (fun _ _ _ => False)) { tmps := (ps.zip (encs x)).foldl (fun t (p, v) => t.setIfInBounds p v) a.tmps, defers := [] } W)
    (hbody : ∀ (l : Nat) (pre : List α) (x : α) (a' : Act) (W : World), I pre W → Ax a.tmps x a' W → (pre ++ [x]) <+: xs → body.wpIn (F.inRound l) (n - 1 - 1) P (roundEnd2 w.heap.size own I Ix (pre ++ [x]) W) a' W)
    (hdone : ∀ (D : Nat) (W : World), w.heap.size ≤ D → I xs W → W.heap[D]? = some (.deferred (some [])) → Q .normal { a with defers := { target := .collected D, args := #[] } :: a.defers } W)
    (hstop : ∀ (D : Nat) (c : Code) (pre : List α) (W : World), w.heap.size ≤ D → Ix c pre W → W.heap[D]? = some (.deferred (some [])) → c.wpIn F n P Q { a with defers := { target := .collected D, args := #[] } :: a.defers } W) :
    (Code.rangeFunc g ps assign body).wpIn F n P Q a w :=
  wpIn_range_own2 hro h1 hg hFg eg hps own hlow xs I hI h0 Ix hIx hiter (Ax a.tmps) hAx hassign hbody hdone hstop
end
end Go.Proofs.YtadncjpknckaaaaGreatDoor
namespace Go.Proofs.YtadncjpknckaaaaGreatDoor
open Go.RowKit
/-! ### What is walked without a fence serves in the widest one -/
theorem oper_wide {n : Nat} {P : Program} {Q : Exit → Act → World → Prop} {o : Oper} {a : Act} {w : World} {K K' : Act → World → Prop} (hnd : ∀ c, o.op ≠ .defer c) (hK : ∀ a w, K a w → K' a w) (h : o.wp P a w K Q) : o.wpIn Fence.wide n P a w K' Q := by
  refine ⟨fun f _ => trivial, ?_⟩
  rw [Oper.semAt_eq _ _ _ hnd]
  unfold Oper.wp at h
  generalize (execOp a.eval o).run P w = r at *
  cases r with
  | ok x w' =>
    cases x with
    | value v => exact hK _ _ h
    | skip => exact hK _ _ h
    | «defer» d => exact hK _ _ h
    | enter f args =>
      refine ⟨(fun he => by cases he), ?_⟩
      refine CallsIn.mono (show CallsIn Fence.wide (n - 1) P f args w' _ from callsIn_wide.2 h) ?_
      intro e w'' he
      cases e with
      | returned v => exact hK _ _ he
      | panicked ch => exact he
      | outgrown => exact he
    | row row args =>
      refine ⟨(fun he => by cases he), fun c cs _ => ?_⟩
      obtain ⟨v, w'', hr, hs⟩ := h c cs
      exact ⟨v, w'', hK _ _ hr, stepsIn_wide.2 hs⟩
    | _ => exact h.elim
  | halt x w' =>
    cases x with
    | panic v => exact h
    | _ => exact h.elim
theorem listIn_of {n : Nat} {P : Program} {ops : Array Oper} {Q : Exit → Act → World → Prop} {o : Oper} {rest : List Oper} {a : Act} {w : World} (hwa : Region.wanted o (yielded ops a.tmps) = true) (hnd : ∀ c, o.op ≠ .defer c)
    (h : ∀ K : Act → World → Prop, (∀ a w, wpListIn Fence.wide n P ops Q rest a w → K a w) → o.wp P a w K Q) : wpListIn Fence.wide n P ops Q (o :: rest) a w := by
  unfold wpListIn
  rw [if_pos hwa]
  exact oper_wide hnd (fun _ _ h => h) (h _ fun _ _ h => h)
/-- The walk stops behind the first part. -/
theorem seq_stop {P : Program} {A B : Code} {Q : Exit → Act → World → Prop} {a : Act} {w : World} (h : ∀ K : Act → World → Prop, Hid (∀ a w, Code.wp P B Q a w → K a w) → Code.wp P A (Exit.then K Q) a w) : Code.wp P (A.seq B) Q a w :=
  wp_seq (h _ (Lib.hid fun _ _ h => h))
/-- A region that neither panics nor lets out: the rest of the post is of no account. -/
theorem region_only {F : Fence} {n : Nat} {P : Program} {c : Code} {K : Act → World → Prop} {Q : Exit → Act → World → Prop} {a : Act} {w : World} (h : c.wpIn F n P (Exit.then K fun _ _ _ => False) a w) : c.wpIn F n P (Exit.then K Q) a w :=
  wpIn_mono h fun e a w h => by cases e <;> first | exact h | exact h.elim
theorem any_wide {n : Nat} {P : Program} {ops : Array Oper} {Q : Exit → Act → World → Prop} {md : Region.Mode} (hnd : ∀ (i : Nat) (o : Oper), ops[i]? = some o → ∀ c, o.op ≠ .defer c) (hLO : ¬ LetsOut Q) : ∀ (fuel : Nat) (listed : Array Bool) (a : Act) (w : World), wpAny P md ops Q fuel listed a w → wpAnyIn Fence.wide n P md ops Q fuel listed a w
  | 0, _, _, _, h => h
  | fuel + 1, listed, a, w, h => ⟨h.1, fun i hi => by
    have h2 := h.2 i hi
    unfold wpOp at h2
    unfold wpOpIn
    split
    · rename_i ho; simp only [ho] at h2; exact any_wide hnd hLO fuel _ _ _ h2
    · rename_i o ho
      simp only [ho] at h2
      split
      · rename_i hw
        rw [if_pos hw] at h2
        rcases h2 with h2 | h2
        · exact oper_wide (hnd i o ho) (fun a w => any_wide hnd hLO fuel _ a w) h2
        · exact absurd h2.2 hLO
      · rename_i hw
        rw [if_neg hw] at h2
        exact ⟨fun _ _ => trivial, any_wide hnd hLO fuel _ _ _ h2⟩⟩
theorem wpIn_region_FW {nf : Nat} {P : Program} {ops : Array Oper} {Q : Exit → Act → World → Prop} {id : Nat} {a : Act} {w : World} (S : World → Prop) (I : List Nat) (hm : P.follows .mixedOrders = true) (hnd : (ops.toList.all fun o => match o.op with | .defer _ => false | _ => true) = true) (hLO : ¬ LetsOut Q)
    (h : wpF P .any ops Q S I ops.size (Array.replicate ops.size false) a w.drew) : (Code.region id ops true).wpIn Fence.wide nf P Q a w :=
  wpIn_region_any hm (any_wide (fun i o ho c hc => by
    have hmem : o ∈ ops.toList := List.mem_of_getElem? (by simpa using ho)
    have := List.all_eq_true.1 hnd o hmem
    rw [hc] at this; cases this) hLO _ _ _ _ (wpAny_of_wpF _ _ _ _ h))
/-- A block that is no mark stands behind the marks' end. -/
theorem leaves_marksK {F : Fence} {n : Nat} {P : Program} {fn : Func} {tmps : Array Value} {R : Ending → World → Prop} {w0 : World} {b : Nat} {o : Obj} : ∀ (Ds : List Nat) (w : World), Ds.Nodup → (∀ D ∈ Ds, w0.heap.size ≤ D ∧ w.heap[D]? = some (.deferred (some []))) → Ext w0 w → b ∉ Ds → w.heap[b]? = some o →
    (∀ w', Ext w0 w' → w'.heap[b]? = some o → LeavesInM F n P fn tmps R [] .returning w') → LeavesInM F n P fn tmps R (Ds.map markD) .returning w
  | [], w, _, _, hx, _, ho, h => h w hx ho
  | D :: Ds, w, hn, hD, hx, hb, ho, h => by
    obtain ⟨h1, h2⟩ := hD D List.mem_cons_self
    rw [List.nodup_cons] at hn
    refine ⟨by simp, .inl ⟨D, _, rfl, run_takeDeferred h2, leaves_marksK Ds _ hn.2 (fun E hE => ⟨(hD E (List.mem_cons_of_mem _ hE)).1, ?_⟩) (hx.grown (grownBy_putObj' _ _ _) fun k e => by cases e; exact h1) (fun h => hb (List.mem_cons_of_mem _ h)) ?_ h⟩⟩
    · have := (hD E (List.mem_cons_of_mem _ hE)).2
      rw [World.putObj_heap_other (fun e => hn.1 (by subst e; exact hE))]
      exact this
    · rw [World.putObj_heap_other (fun e => hb (by subst e; exact List.mem_cons_self))]
      exact ho
end Go.Proofs.YtadncjpknckaaaaGreatDoor
