/-
  A bridge for a list of operations: what is walked without a fence serves in a round.
-/
import Derived.Test.YtjfhfbobnncpkaaDoorBr
import Derived.TacticsInMore
namespace Go.Proofs.YtjfhfbobnncpkaaDoor
open Go.RowKit
theorem list_bridge {lr n : Nat} {P : Program} {ops : Array Oper} {Q : Exit → Act → World → Prop} (hLO : ¬ LetsOut Q) : ∀ (l : List Oper) (a : Act) (w : World), (l.all fun o => match o.op with | .defer _ => false | _ => true) = true →
    wpList P ops Q l a w → wpListIn (Fence.wide.inRound lr) n P ops Q l a w
  | [], _, _, _, h => h
  | o :: rest, a, w, hd, h => by
    rw [List.all_cons, Bool.and_eq_true] at hd
    unfold wpList at h
    unfold wpListIn
    split
    · rename_i hw
      rw [if_pos hw] at h
      rcases h with h | h
      · exact oper_bridge (fun c hc => by have := hd.1; rw [hc] at this; cases this) (fun a w => list_bridge hLO rest a w hd.2) h
      · exact absurd h.2 hLO
    · rename_i hw
      rw [if_neg hw] at h
      exact ⟨fun _ _ => trivial, list_bridge hLO rest _ _ hd.2 h⟩
theorem wpIn_region_plain {lr nf : Nat} {P : Program} {id : Nat} {a : Act} {w : World} {l : List Oper} {Q : Exit → Act → World → Prop} (hnd : (l.all fun o => match o.op with | .defer _ => false | _ => true) = true) (hLO : ¬ LetsOut Q)
    (h : wpList P l.toArray Q l a w) : (Code.region id l.toArray false).wpIn (Fence.wide.inRound lr) nf P Q a w :=
  wpIn_region_lit (list_bridge hLO l a w hnd h)
end Go.Proofs.YtjfhfbobnncpkaaDoor
