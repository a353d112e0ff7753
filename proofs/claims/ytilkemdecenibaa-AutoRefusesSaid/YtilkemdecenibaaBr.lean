/-
  A bridge: a region that is walked without a fence serves inside the widest fence, in a round too (where it holds no defer).
  A bridge for a list of operations: what is walked without a fence serves in a round.
-/
import Derived.Test.YtilkemdecenibaaQt
import Derived.OrdersIn
import Derived.AtR
import Derived.TacticsInMore
namespace Go.Proofs.Ytilkemdecenibaa
open Go.RowKit
section
variable {l n : Nat} {P : Program} {ops : Array Oper} {Q : Exit → Act → World → Prop}
theorem oper_bridge {o : Oper} {a : Act} {w : World} {K K' : Act → World → Prop} (hnd : ∀ c, o.op ≠ .defer c) (hK : ∀ a w, K a w → K' a w) (h : o.wp P a w K Q) : o.wpIn (Fence.wide.inRound l) n P a w K' Q := by
  refine ⟨fun f _ => trivial, ?_⟩
  rw [Oper.semAt_eq _ _ _ hnd]
  unfold Oper.wp at h
  generalize (execOp a.eval o).run P w = r at *
  cases r with
  | ok x w' =>
    cases x with
    | value v => exact hK _ _ h
    | skip => exact hK _ _ h
    | «defer» d => exact hK _ _ h
    | enter f args =>
      refine ⟨(fun he => by cases he), ?_⟩
      refine CallsIn.mono (show CallsIn (Fence.wide.inRound l) (n - 1) P f args w' _ from callsIn_wide.2 h) ?_
      intro e w'' he
      cases e with
      | returned v => exact hK _ _ he
      | panicked ch => exact he
      | outgrown => exact he
    | row row args =>
      refine ⟨(fun he => by cases he), fun c cs _ => ?_⟩
      obtain ⟨v, w'', hr, hs⟩ := h c cs
      exact ⟨v, w'', hK _ _ hr, stepsIn_wide.2 hs⟩
    | _ => exact h.elim
  | halt x w' =>
    cases x with
    | panic v => exact h
    | _ => exact h.elim
theorem any_bridge {md : Region.Mode} (hnd : ∀ (i : Nat) (o : Oper), ops[i]? = some o → ∀ c, o.op ≠ .defer c) (hLO : ¬ LetsOut Q) : ∀ (fuel : Nat) (listed : Array Bool) (a : Act) (w : World), wpAny P md ops Q fuel listed a w → wpAnyIn (Fence.wide.inRound l) n P md ops Q fuel listed a w
  | 0, _, _, _, h => h
  | fuel + 1, listed, a, w, h => ⟨h.1, fun i hi => by
    have h2 := h.2 i hi
    unfold wpOp at h2
    unfold wpOpIn
    split
    · rename_i ho; simp only [ho] at h2; exact any_bridge hnd hLO fuel _ _ _ h2
    · rename_i o ho
      simp only [ho] at h2
      split
      · rename_i hw
        rw [if_pos hw] at h2
        rcases h2 with h2 | h2
        · exact oper_bridge (hnd i o ho) (fun a w => any_bridge hnd hLO fuel _ a w) h2
        · exact absurd h2.2 hLO
      · rename_i hw
        rw [if_neg hw] at h2
        exact ⟨fun _ _ => trivial, any_bridge hnd hLO fuel _ _ _ h2⟩⟩
theorem any_qt {a : Act} {w : World} {l : List Oper} (C : World → Prop) (n : Nat) (hB : Region.lexTailB .any l.toArray n = true) (hC : C w.drew)
    (h : wpQuiet P l.toArray C (fun a' => ∀ w', C w' → wpList P l.toArray Q (l.drop n) a' w') (l.take n) a) : wpAny P .any l.toArray Q l.toArray.size (Array.replicate l.toArray.size false) a w.drew := by
  simp only [Region.lexTailB, Bool.and_eq_true, decide_eq_true_eq] at hB
  obtain ⟨⟨⟨⟨hsel, hn⟩, hs⟩, hc⟩, hlex⟩ := hB
  have hn' : n < l.length := by simpa using hn
  have htl : (l.take n).length = n := by simp; omega
  have hdl : (l.drop n).length = l.toArray.size - n := by simp
  have inv0 : HeadInv .any l.toArray n (Array.replicate l.toArray.size false) :=
    ⟨by simp, fun j oj _ hl => (by rw [getD_replicate_false] at hl; cases hl), fun t _ ht => getD_in (by simpa using ht) (getD_replicate_false _ _)⟩
  have H := headAny_lex (C := C) (md := .any) (g := l.toArray.size - n) hsel hs hc hn (l.take n) 0 _ a (fun j hj => by
    have hj' : j < n := by rw [htl] at hj; exact hj
    simp [hj']) (by simpa using htl) inv0 (by rw [htl]; exact hlex) h
  have := any_of_headAny (Q' := Q) (g := l.toArray.size - n) (fun listed a' w' hw' hL => by
    have := wpAny_of_seq (md := .any) (Q' := Q) (l.drop n) n listed a' w' (fun j => by simp [List.getElem?_drop]) (by rw [hdl]; exact hL.1) (hL.2 w' hw')
    rwa [hdl] at this) _ _ _ _ hC H
  rw [htl, show n + (l.toArray.size - n) = l.toArray.size by omega] at this
  exact this
/-- A region in a round: its head is quiet, its tail is forced. -/
theorem wpIn_region_qxt {lr nf : Nat} {id : Nat} {a : Act} {w : World} {l : List Oper} (n : Nat) (hm : P.follows .mixedOrders = true) (hB : Region.lexTailB .any l.toArray n = true) (hnd : (l.all fun o => match o.op with | .defer _ => false | _ => true) = true) (hLO : ¬ LetsOut Q)
    (h : wpQuiet P l.toArray (fun w' => ∃ x : ExtOf w, w' = x.w) (fun a' => ∀ w', (∃ x : ExtOf w, w' = x.w) → wpList P l.toArray Q (l.drop n) a' w') (l.take n) a) : (Code.region id l.toArray true).wpIn (Fence.wide.inRound lr) nf P Q a w :=
  wpIn_region_any hm (any_bridge (fun i o ho c hc => by
    have hmem : o ∈ l := List.mem_of_getElem? (by simpa using ho)
    have := List.all_eq_true.1 hnd o hmem
    rw [hc] at this; cases this) hLO _ _ _ _ (any_qt (fun w' => ∃ x : ExtOf w, w' = x.w) n hB ⟨⟨w.drew, (Ext.refl w).drew⟩, rfl⟩ h))
end
end Go.Proofs.Ytilkemdecenibaa
namespace Go.Proofs.Ytilkemdecenibaa
open Go.RowKit
theorem list_bridge {lr n : Nat} {P : Program} {ops : Array Oper} {Q : Exit → Act → World → Prop} (hLO : ¬ LetsOut Q) : ∀ (l : List Oper) (a : Act) (w : World), (l.all fun o => match o.op with | .defer _ => false | _ => true) = true →
    wpList P ops Q l a w → wpListIn (Fence.wide.inRound lr) n P ops Q l a w
  | [], _, _, _, h => h
  | o :: rest, a, w, hd, h => by
    rw [List.all_cons, Bool.and_eq_true] at hd
    unfold wpList at h
    unfold wpListIn
    split
    · rename_i hw
      rw [if_pos hw] at h
      rcases h with h | h
      · exact oper_bridge (fun c hc => by have := hd.1; rw [hc] at this; cases this) (fun a w => list_bridge hLO rest a w hd.2) h
      · exact absurd h.2 hLO
    · rename_i hw
      rw [if_neg hw] at h
      exact ⟨fun _ _ => trivial, list_bridge hLO rest _ _ hd.2 h⟩
theorem wpIn_region_plain {lr nf : Nat} {P : Program} {id : Nat} {a : Act} {w : World} {l : List Oper} {Q : Exit → Act → World → Prop} (hnd : (l.all fun o => match o.op with | .defer _ => false | _ => true) = true) (hLO : ¬ LetsOut Q)
    (h : wpList P l.toArray Q l a w) : (Code.region id l.toArray false).wpIn (Fence.wide.inRound lr) nf P Q a w :=
  wpIn_region_lit (list_bridge hLO l a w hnd h)
end Go.Proofs.Ytilkemdecenibaa
