/-
  A range over an iterator that writes boxes of its own: 'wpIn_range_own'. The caller's word I abides what the iterator does to its own blocks; the body leaves these blocks as they are. The wider law for a range over an iterator: the assigning part may lay blocks, and the body may leave the loop.
  The places of a set, one after the other.
  Relations of places in memory: identity, then, or, power.
-/
import Derived.Test.YtadncjpknckaaaaGreatDoorA02
import Derived.RangeFuncNested
import Derived.RangeFuncBound
import Derived.RangeFuncCalls
import Derived.RangeFuncLeaves
import Derived.RangeFuncBox
import Derived.Shelf.Abstract
import Derived.RegionIn
import Derived.Shelf.RegionOpen
import Derived.OwnWalkIn
import Derived.TacticsInMore
import Derived.LoopNIn
import Derived.LoopIn
import Derived.Sort.BigQuietIn
import Derived.BigRegion
import Derived.Laws.BitsAllLaws
import Derived.Test.YtadncjpknckaaaaGreatDoorA01
import Derived.Laws.CopyOwn
import Derived.Laws.Tables
namespace Go.Proofs.YtadncjpknckaaaaGreatDoor
open Go.RowKit Go.Shelf
/-- The blocks of which p speaks lie as they lay. -/
def Same (p : Nat → Prop) (W W' : World) : Prop := ∀ r, p r → W'.heap[r]? = W.heap[r]?
theorem Same.refl (p : Nat → Prop) (W : World) : Same p W W := fun _ _ => rfl
theorem Same.trans {p : Nat → Prop} {A B C : World} (h : Same p A B) (k : Same p B C) : Same p A C := fun r hr => (k r hr).trans (h r hr)
/-- How a round's body is left. -/
def roundEnd {α : Type} (B : Nat) (own : Nat → Prop) (I : List α → World → Prop) (ys : List α) (W : World) : Exit → Act → World → Prop
  | .normal, _, W' => KeepsFrom B W W' ∧ Same own W W' ∧ I ys W'
  | _, _, _ => False
/-- What the caller's word must abide. -/
def AbideOwn {α : Type} (B : Nat) (own : Nat → Prop) (I : List α → World → Prop) : Prop :=
  ∀ s X Y row, I s X → X.grownBy Y row → (∀ r, row = some r → own r ∨ (B ≤ r ∧ ∃ o : Obj, X.heap[r]? = some o ∧ o.isCells = false)) → I s Y
variable {F : Fence} {n : Nat} {P : Program} {w : World}
theorem wpIn_range_own {α : Type} {g : Operand} {ps : Array Tmp} {assign body : Code} {Q : Exit → Act → World → Prop} {a : Act}
    (hro : F.round = none) (h1 : 1 ≤ n) {gf : Nat} {lb : Array Value} (hg : a.eval g = .func (.func gf) #[] lb) (hFg : F.fn gf) (eg : ∀ args w, (callFunc gf args).run P w = .ok (.enter gf args) w)
    {encs : α → Array Value} (hps : ∀ x, (encs x).size = ps.size) (own : Nat → Prop) (hlow : ∀ r, own r → r < w.heap.size) (xs : List α)
    (I : List α → World → Prop) (hI : AbideOwn w.heap.size own I) (h0 : I [] w)
    (hiter : ∀ (l : Nat) (J : List α → World → Prop) (W : World), Below w.heap.size w W → J [] W → (∀ s X Y row, J s X → X.grownBy Y row → (∀ r, row = some r → own r) → J s Y) → (∀ s X, J s X → I s X) →
      (∀ pre x X, J pre X → pre.length < xs.length → YieldAt F (n - 1 - 1) P l (encs x) X fun e Y => e = .returned (.bool true) ∧ J (pre ++ [x]) Y ∧ Same own X Y) →
      CallsIn F (n - 1) P gf (#[.func (.yield l) #[] #[]] ++ lb) W fun e W' => (∃ v, e = .returned v) ∧ J xs W')
    (st : α → Array Value → Array Value)
    (hassign : ∀ (l : Nat) (x : α) (W : World) (K : Act → World → Prop), K { tmps := st x a.tmps, defers := [] } W →
      assign.wpIn (F.inRound l) (n - 1 - 1) P (Exit.then K (fun _ _ _ => False)) { tmps := (ps.zip (encs x)).foldl (fun t (p, v) => t.setIfInBounds p v) a.tmps, defers := [] } W)
    (hbody : ∀ (l : Nat) (pre : List α) (x : α) (W : World), I pre W → pre.length < xs.length → body.wpIn (F.inRound l) (n - 1 - 1) P (roundEnd w.heap.size own I (pre ++ [x]) W) { tmps := st x a.tmps, defers := [] } W)
    (hdone : ∀ (D : Nat) (W : World), w.heap.size ≤ D → I xs W → W.heap[D]? = some (.deferred (some [])) → Q .normal { a with defers := { target := .collected D, args := #[] } :: a.defers } W) :
    (Code.rangeFunc g ps assign body).wpIn F n P Q a w := by
  refine wpIn_rangeFunc fun fn hfn => ?_
  rw [hro]
  let rc : LoopState → Option Code → Loop := fun st pe => { state := st, pending := pe, fn := fn, tmps := a.tmps, params := ps, assign := assign, body := body, defers := w.heap.size }
  obtain ⟨W1, hW1⟩ : ∃ W1, (w.alloc (.deferred (some []))).alloc (.loop (rc .ready none)) = W1 := ⟨_, rfl⟩
  have he : (Instr.enterLoop fn a.tmps ps assign body none).run P w = .ok (w.heap.size + 1, [{ target := .collected w.heap.size, args := #[] }]) W1 := by
    rw [← hW1]; exact run_enterLoop_outer (P := P) (w := w) fn a.tmps ps assign body
  have hL : W1.heap[w.heap.size + 1]? = some (.loop (rc .ready none)) := by
    rw [← hW1]; have := World.alloc_heap_new (w.alloc (.deferred (some []))) (.loop (rc .ready none)); rwa [World.size_alloc] at this
  have hD : W1.heap[w.heap.size]? = some (.deferred (some [])) := by
    rw [← hW1]; exact (Below.heap_alloc _ _ _ (by simp)).trans (World.alloc_heap_new w _)
  have hBel : Below w.heap.size w W1 := by rw [← hW1]; exact ((Below.refl _ w).alloc (Nat.le_refl _) _).alloc (by simp) _
  have hI1 : I [] W1 := by
    rw [← hW1]; exact hI _ _ _ none (hI _ _ _ none h0 (World.grownBy_alloc _ _ _) (fun r e => by cases e)) (World.grownBy_alloc _ _ _) (fun r e => by cases e)
  clear hW1
  have turn : ∀ (s : List α) (X : World) (o o' : Obj), I s X → X.heap[w.heap.size + 1]? = some o → o.isCells = false → I s (X.putObj (w.heap.size + 1) o') := fun s X o o' hs ho hc =>
    hI s X _ (some (w.heap.size + 1)) hs (grownBy_putObj' X _ o') (fun r e => by cases e; exact .inr ⟨by omega, o, ho, hc⟩)
  have keep : ∀ (X : World) (o' : Obj), Same own X (X.putObj (w.heap.size + 1) o') := fun X o' r hr => World.putObj_heap_other (by have := hlow r hr; omega)
  refine ⟨w.heap.size + 1, [{ target := .collected w.heap.size, args := #[] }], W1, { target := .fn (.func gf) lb, args := #[.func (.yield (w.heap.size + 1)) #[] #[]] }, W1, gf,
    #[.func (.yield (w.heap.size + 1)) #[] #[]] ++ lb, W1, he, ?_, ?_, ?_, fun _ => h1, ?_⟩
  · simp only [resolve, hg]
    simp [go_sem]
  · intro f' hf'; simp [Target.leads] at hf'; subst hf'; exact hFg
  · simp [invoke, go_sem, eg]
  · refine (hiter (w.heap.size + 1) (fun s X => I s X ∧ X.heap[w.heap.size + 1]? = some (.loop (rc .ready none)) ∧ X.heap[w.heap.size]? = some (.deferred (some [])))
      W1 hBel ⟨hI1, hL, hD⟩ (fun s X Y row hs hg' hr => ?_) (fun s X hs => hs.1) ?_).mono ?_
    · have out : ∀ j, w.heap.size ≤ j → some j ≠ row := fun j hj e => by have := hlow j (hr j e.symm); omega
      exact ⟨hI s X Y row hs.1 hg' (fun r e => .inl (hr r e)), (hg'.block _ (Array.getElem?_eq_some_iff.1 hs.2.1).1 (out _ (by omega))).trans hs.2.1, (hg'.block _ (Array.getElem?_eq_some_iff.1 hs.2.2).1 (out _ (by omega))).trans hs.2.2⟩
    · rintro pre x X ⟨hi, hl, hk⟩ hlen
      refine ⟨fn, _, assign, body, run_yield (P := P) (args := encs x) hl (hps x), roundIn_of_wpIn hfn (hassign _ x X _ ?_)⟩
      refine ⟨_, run_beginRound hl rfl, ?_⟩
      have hlt : w.heap.size + 1 < X.heap.size := (Array.getElem?_eq_some_iff.1 hl).1
      have hl2 : (X.putObj (w.heap.size + 1) (.loop { rc .ready none with state := .busy })).heap[w.heap.size + 1]? = some (.loop { rc .ready none with state := .busy }) := World.putObj_heap_same hlt
      have hk2 : (X.putObj (w.heap.size + 1) (.loop { rc .ready none with state := .busy })).heap[w.heap.size]? = some (.deferred (some [])) := (World.putObj_heap_other (by omega)).trans hk
      refine wpIn_mono (hbody _ pre x _ (turn _ _ _ _ hi hl rfl) hlen) ?_
      rintro e a3 X3 hp
      cases e with
      | normal =>
        obtain ⟨hk3, hs3, hi3⟩ := hp
        have hl3 := hk3.same _ _ (by omega) hl2 rfl
        have hd3 := hk3.same _ _ (Nat.le_refl _) hk2 rfl
        refine ⟨_, _, run_endRound (P := P) none hl3, rfl, ⟨turn _ _ _ _ hi3 hl3 rfl, World.putObj_heap_same (Array.getElem?_eq_some_iff.1 hl3).1, (World.putObj_heap_other (by omega)).trans hd3⟩, ?_⟩
        exact ((keep X _).trans hs3).trans (keep X3 _)
      | ret => exact hp.elim
      | exit id => exact hp.elim
      | goto t => exact hp.elim
      | panic ch => exact hp.elim
      | outgrown => exact hp.elim
    · rintro e W2 ⟨⟨v, rfl⟩, hi, hl, hk⟩
      exact ⟨none, _, run_endLoop (P := P) hl (by simp [rc]), hdone _ _ (Nat.le_refl _) (turn _ _ _ _ hi hl rfl) ((World.putObj_heap_other (by omega)).trans hk)⟩
end Go.Proofs.YtadncjpknckaaaaGreatDoor
namespace Go.Proofs.YtadncjpknckaaaaGreatDoor
open Go.RowKit Go.Shelf
/-- How a round's body is left; the loop may be left too. -/
def roundEnd2 {α : Type} (B : Nat) (own : Nat → Prop) (I : List α → World → Prop) (Ix : Code → List α → World → Prop) (ys : List α) (W : World) : Exit → Act → World → Prop
  | .normal, _, W' => KeepsFrom B W W' ∧ Same own W W' ∧ I ys W'
  | .exit i, _, W' => KeepsFrom B W W' ∧ Ix (.exit i) ys W'
  | .ret, _, W' => KeepsFrom B W W' ∧ Ix .ret ys W'
  | _, _, _ => False
variable {F : Fence} {n : Nat} {P : Program} {w : World}
theorem wpIn_range_own2 {α : Type} {g : Operand} {ps : Array Tmp} {assign body : Code} {Q : Exit → Act → World → Prop} {a : Act}
    (hro : F.round = none) (h1 : 1 ≤ n) {gf : Nat} {lb : Array Value} (hg : a.eval g = .func (.func gf) #[] lb) (hFg : F.fn gf) (eg : ∀ args w, (callFunc gf args).run P w = .ok (.enter gf args) w)
    {encs : α → Array Value} (hps : ∀ x, (encs x).size = ps.size) (own : Nat → Prop) (hlow : ∀ r, own r → r < w.heap.size) (xs : List α)
    (I : List α → World → Prop) (hI : AbideOwn w.heap.size own I) (h0 : I [] w) (Ix : Code → List α → World → Prop) (hIx : ∀ c, AbideOwn w.heap.size own (Ix c))
    (hiter : ∀ (l : Nat) (J Jx : List α → World → Prop) (W : World), Below w.heap.size w W → J [] W → (∀ s X Y row, J s X → X.grownBy Y row → (∀ r, row = some r → own r) → J s Y) → (∀ s X Y row, Jx s X → X.grownBy Y row → (∀ r, row = some r → own r) → Jx s Y) → (∀ s X, J s X → I s X) →
      (∀ pre x X, J pre X → (pre ++ [x]) <+: xs → YieldAt F (n - 1 - 1) P l (encs x) X fun e Y => (e = .returned (.bool true) ∧ J (pre ++ [x]) Y ∧ Same own X Y) ∨ (e = .returned (.bool false) ∧ Jx (pre ++ [x]) Y)) →
      CallsIn F (n - 1) P gf (#[.func (.yield l) #[] #[]] ++ lb) W fun e W' => (∃ v, e = .returned v) ∧ (J xs W' ∨ ∃ pre, Jx pre W'))
    (Ax : α → Act → World → Prop) (hAx : ∀ x a', AbideOwn w.heap.size (fun _ => False) (fun (_ : List α) W => Ax x a' W))
    (hassign : ∀ (l : Nat) (pre : List α) (x : α) (W : World) (K : Act → World → Prop), I pre W → (∀ a' W', KeepsFrom w.heap.size W W' → Same own W W' → I pre W' → Ax x a' W' → K a' W') →
      assign.wpIn (F.inRound l) (n - 1 - 1) P (Exit.then K (fun _ _ _ => False)) { tmps := (ps.zip (encs x)).foldl (fun t (p, v) => t.setIfInBounds p v) a.tmps, defers := [] } W)
    (hbody : ∀ (l : Nat) (pre : List α) (x : α) (a' : Act) (W : World), I pre W → Ax x a' W → (pre ++ [x]) <+: xs → body.wpIn (F.inRound l) (n - 1 - 1) P (roundEnd2 w.heap.size own I Ix (pre ++ [x]) W) a' W)
    (hdone : ∀ (D : Nat) (W : World), w.heap.size ≤ D → I xs W → W.heap[D]? = some (.deferred (some [])) → Q .normal { a with defers := { target := .collected D, args := #[] } :: a.defers } W)
    (hstop : ∀ (D : Nat) (c : Code) (pre : List α) (W : World), w.heap.size ≤ D → Ix c pre W → W.heap[D]? = some (.deferred (some [])) → c.wpIn F n P Q { a with defers := { target := .collected D, args := #[] } :: a.defers } W) :
    (Code.rangeFunc g ps assign body).wpIn F n P Q a w := by
  refine wpIn_rangeFunc fun fn hfn => ?_
  rw [hro]
  let rc : LoopState → Option Code → Loop := fun st pe => { state := st, pending := pe, fn := fn, tmps := a.tmps, params := ps, assign := assign, body := body, defers := w.heap.size }
  obtain ⟨W1, hW1⟩ : ∃ W1, (w.alloc (.deferred (some []))).alloc (.loop (rc .ready none)) = W1 := ⟨_, rfl⟩
  have he : (Instr.enterLoop fn a.tmps ps assign body none).run P w = .ok (w.heap.size + 1, [{ target := .collected w.heap.size, args := #[] }]) W1 := by
    rw [← hW1]; exact run_enterLoop_outer (P := P) (w := w) fn a.tmps ps assign body
  have hL : W1.heap[w.heap.size + 1]? = some (.loop (rc .ready none)) := by
    rw [← hW1]; have := World.alloc_heap_new (w.alloc (.deferred (some []))) (.loop (rc .ready none)); rwa [World.size_alloc] at this
  have hD : W1.heap[w.heap.size]? = some (.deferred (some [])) := by
    rw [← hW1]; exact (Below.heap_alloc _ _ _ (by simp)).trans (World.alloc_heap_new w _)
  have hBel : Below w.heap.size w W1 := by rw [← hW1]; exact ((Below.refl _ w).alloc (Nat.le_refl _) _).alloc (by simp) _
  have hI1 : I [] W1 := by
    rw [← hW1]; exact hI _ _ _ none (hI _ _ _ none h0 (World.grownBy_alloc _ _ _) (fun r e => by cases e)) (World.grownBy_alloc _ _ _) (fun r e => by cases e)
  clear hW1
  have turn : ∀ {own' : Nat → Prop} {I' : List α → World → Prop} (hI' : AbideOwn w.heap.size own' I') (s : List α) (X : World) (o o' : Obj), I' s X → X.heap[w.heap.size + 1]? = some o → o.isCells = false → I' s (X.putObj (w.heap.size + 1) o') := fun hI' s X o o' hs ho hc =>
    hI' s X _ (some (w.heap.size + 1)) hs (grownBy_putObj' X _ o') (fun r e => by cases e; exact .inr ⟨by omega, o, ho, hc⟩)
  have keep : ∀ (X : World) (o' : Obj), Same own X (X.putObj (w.heap.size + 1) o') := fun X o' r hr => World.putObj_heap_other (by have := hlow r hr; omega)
  refine ⟨w.heap.size + 1, [{ target := .collected w.heap.size, args := #[] }], W1, { target := .fn (.func gf) lb, args := #[.func (.yield (w.heap.size + 1)) #[] #[]] }, W1, gf,
    #[.func (.yield (w.heap.size + 1)) #[] #[]] ++ lb, W1, he, ?_, ?_, ?_, fun _ => h1, ?_⟩
  · simp only [resolve, hg]
    simp [go_sem]
  · intro f' hf'; simp [Target.leads] at hf'; subst hf'; exact hFg
  · simp [invoke, go_sem, eg]
  · have out : ∀ {X Y : World} {row : Option Nat} {j : Nat}, (∀ r, row = some r → own r) → w.heap.size ≤ j → some j ≠ row := fun hr hj e => by have := hlow _ (hr _ e.symm); omega
    refine (hiter (w.heap.size + 1) (fun s X => I s X ∧ X.heap[w.heap.size + 1]? = some (.loop (rc .ready none)) ∧ X.heap[w.heap.size]? = some (.deferred (some [])))
      (fun s X => ∃ c, Ix c s X ∧ X.heap[w.heap.size + 1]? = some (.loop (rc .done (some c))) ∧ X.heap[w.heap.size]? = some (.deferred (some [])))
      W1 hBel ⟨hI1, hL, hD⟩ (fun s X Y row hs hg' hr => ?_) (fun s X Y row hs hg' hr => ?_) (fun s X hs => hs.1) ?_).mono ?_
    · exact ⟨hI s X Y row hs.1 hg' (fun r e => .inl (hr r e)), (hg'.block _ (Array.getElem?_eq_some_iff.1 hs.2.1).1 (out (X := X) (Y := Y) hr (by omega))).trans hs.2.1, (hg'.block _ (Array.getElem?_eq_some_iff.1 hs.2.2).1 (out (X := X) (Y := Y) hr (by omega))).trans hs.2.2⟩
    · obtain ⟨c, hc, hl, hk⟩ := hs
      exact ⟨c, hIx c s X Y row hc hg' (fun r e => .inl (hr r e)), (hg'.block _ (Array.getElem?_eq_some_iff.1 hl).1 (out (X := X) (Y := Y) hr (by omega))).trans hl, (hg'.block _ (Array.getElem?_eq_some_iff.1 hk).1 (out (X := X) (Y := Y) hr (by omega))).trans hk⟩
    · rintro pre x X ⟨hi, hl, hk⟩ hlen
      refine ⟨fn, _, assign, body, run_yield (P := P) (args := encs x) hl (hps x), roundIn_of_wpIn hfn (hassign _ pre x X _ hi ?_)⟩
      intro a' Xa hkfa hsa hia hax
      replace hl := hkfa.same _ _ (by omega) hl rfl
      replace hk := hkfa.same _ _ (Nat.le_refl _) hk rfl
      refine ⟨_, run_beginRound hl rfl, ?_⟩
      have hlt : w.heap.size + 1 < Xa.heap.size := (Array.getElem?_eq_some_iff.1 hl).1
      have hl2 : (Xa.putObj (w.heap.size + 1) (.loop { rc .ready none with state := .busy })).heap[w.heap.size + 1]? = some (.loop { rc .ready none with state := .busy }) := World.putObj_heap_same hlt
      have hk2 : (Xa.putObj (w.heap.size + 1) (.loop { rc .ready none with state := .busy })).heap[w.heap.size]? = some (.deferred (some [])) := (World.putObj_heap_other (by omega)).trans hk
      refine wpIn_mono (hbody _ pre x a' _ (turn hI _ _ _ _ hia hl rfl) (turn (hAx x a') [] _ _ _ hax hl rfl) hlen) ?_
      rintro e a3 X3 hp
      cases e with
      | normal =>
        obtain ⟨hk3, hs3, hi3⟩ := hp
        have hl3 := hk3.same _ _ (by omega) hl2 rfl
        have hd3 := hk3.same _ _ (Nat.le_refl _) hk2 rfl
        refine ⟨_, _, run_endRound (P := P) none hl3, .inl ⟨rfl, ⟨turn hI _ _ _ _ hi3 hl3 rfl, World.putObj_heap_same (Array.getElem?_eq_some_iff.1 hl3).1, (World.putObj_heap_other (by omega)).trans hd3⟩, ?_⟩⟩
        exact hsa.trans (((keep Xa _).trans hs3).trans (keep X3 _))
      | ret =>
        obtain ⟨hk3, hi3⟩ := hp
        have hl3 := hk3.same _ _ (by omega) hl2 rfl
        have hd3 := hk3.same _ _ (Nat.le_refl _) hk2 rfl
        exact ⟨_, _, run_endRound (P := P) (some .ret) hl3, .inr ⟨rfl, .ret, turn (hIx _) _ _ _ _ hi3 hl3 rfl, World.putObj_heap_same (Array.getElem?_eq_some_iff.1 hl3).1, (World.putObj_heap_other (by omega)).trans hd3⟩⟩
      | exit id =>
        obtain ⟨hk3, hi3⟩ := hp
        have hl3 := hk3.same _ _ (by omega) hl2 rfl
        have hd3 := hk3.same _ _ (Nat.le_refl _) hk2 rfl
        exact ⟨_, _, run_endRound (P := P) (some (.exit id)) hl3, .inr ⟨rfl, .exit id, turn (hIx _) _ _ _ _ hi3 hl3 rfl, World.putObj_heap_same (Array.getElem?_eq_some_iff.1 hl3).1, (World.putObj_heap_other (by omega)).trans hd3⟩⟩
      | goto t => exact hp.elim
      | panic ch => exact hp.elim
      | outgrown => exact hp.elim
    · rintro e W2 ⟨⟨v, rfl⟩, (⟨hi, hl, hk⟩ | ⟨pre, c, hi, hl, hk⟩)⟩
      · exact ⟨none, _, run_endLoop (P := P) hl (by simp [rc]), hdone _ _ (Nat.le_refl _) (turn hI _ _ _ _ hi hl rfl) ((World.putObj_heap_other (by omega)).trans hk)⟩
      · exact ⟨some c, _, run_endLoop (P := P) hl (by simp [rc]), hstop _ c pre _ (Nat.le_refl _) (turn (hIx c) _ _ _ _ hi hl rfl) ((World.putObj_heap_other (by omega)).trans hk)⟩
end Go.Proofs.YtadncjpknckaaaaGreatDoor
namespace Go.Proofs.YtadncjpknckaaaaGreatDoor
open Go.RowKit Go.Maps
theorem andNot_off {y : Nat} (h0 : y ≠ 0) (hy : y < 2 ^ 33) : bits .andNot .u64 (y : Int) (IntKind.u64.wrap (2 ^ Lib.ctz 64 y)) = ((offM y : Nat) : Int) := by
  obtain ⟨hk, _, _, h3, _⟩ := low_nat h0 (Nat.lt_trans hy (by decide))
  obtain ⟨hc, _, _⟩ := bitsOf_step h0 hy
  generalize Lib.ctz 64 y = c at *
  have hp : 2 ^ c < 2 ^ 33 := Nat.pow_lt_pow_right (by omega) hc
  have e : (2 : Int) ^ c = ((2 ^ c : Nat) : Int) := by simp
  have hw : IntKind.u64.wrap (2 ^ c) = ((2 ^ c : Nat) : Int) := by
    rw [e]
    generalize 2 ^ c = q at *
    rw [IntKind.wrap_u64]; omega
  rw [hw, u64_andNot_nat y (2 ^ c) (Nat.lt_trans hy (by decide)) (Nat.lt_trans hp (by decide))]
  congr 1
  apply Nat.eq_of_testBit_eq
  intro j
  rw [h3, Nat.testBit_and, show 18446744073709551615 - 2 ^ c = 2 ^ 64 - (2 ^ c + 1) by omega, Nat.testBit_two_pow_sub_succ (Nat.lt_trans hp (by decide)), Nat.testBit_two_pow]
  by_cases hj : j < 64
  · by_cases hjc : c = j
    · subst hjc; simp
    · simp [hj, hjc, Ne.symm hjc]
  · have : y.testBit j = false := Nat.testBit_lt_two_pow (Nat.lt_of_lt_of_le (Nat.lt_trans hy (by decide)) (Nat.pow_le_pow_right (n := 2) (by omega) (show 64 ≤ j by omega)))
    rw [this]; simp
attribute [local go_sem] Oper.semAt_some
abbrev encF (f : Nat) : Array Value := #[.int .i64 f]
theorem all_in (n : Nat) (x : Nat) (w : World) :
    CallsIn Fence.wide n Tryz.prog 107 #[.int .u64 x] w fun e w' => e = .returned (.func (.func 113) #[] #[.pointer (some ⟨w.heap.size, 0, none⟩)]) ∧ w' = w.alloc (.cells #[.int .u64 x] 171) := by
  refine callsIn_of_wp Tryz.func107 rfl trivial ?_ rfl
  simp only [Tryz.ntmps107, List.size_toArray, List.length_cons, List.length_nil, Nat.reduceAdd, Nat.reduceSub, Array.replicate_succ, Array.replicate_zero, List.push_toArray, List.append_toArray, List.nil_append, List.cons_append]
  gi_wp2
  go_ret
  exact ⟨rfl, rfl⟩
set_option maxHeartbeats 1000000 in
theorem all1_in (n l Bx : Nat) (hn : 1 ≤ n) (x : Nat) (hx33 : x < 2 ^ 33) (J Jx : List Nat → World → Prop) (hJ : ∀ s X Y row, J s X → X.grownBy Y row → (∀ r, row = some r → r = Bx) → J s Y) (hT : ∀ s X, J s X → Tab64 X)
    (hY : ∀ pre f X, J pre X → (pre ++ [f]) <+: bitsOf x → YieldAt Fence.wide (n - 1) Tryz.prog l (encF f) X fun e Y => (e = .returned (.bool true) ∧ J (pre ++ [f]) Y ∧ Same (fun r => r = Bx) X Y) ∨ (e = .returned (.bool false) ∧ Jx (pre ++ [f]) Y))
    (W : World) (hbox : Boxed W Bx 171 (.int .u64 x)) (h0 : J [] W) :
    CallsIn Fence.wide n Tryz.prog 113 #[.func (.yield l) #[] #[], .pointer (some ⟨Bx, 0, none⟩)] W fun e W' => (∃ v, e = .returned v) ∧ (J (bitsOf x) W' ∨ ∃ pre, Jx pre W') := by
  have hro : Fence.wide.round = none := rfl
  refine callsIn_of_wp Tryz.func113 rfl trivial ?_ hro
  simp only [Tryz.ntmps113, List.size_toArray, List.length_cons, List.length_nil, Nat.reduceAdd, Nat.reduceSub, Array.replicate_succ, Array.replicate_zero, List.push_toArray, List.append_toArray, List.nil_append, List.cons_append]
  gi_wp2
  gi_loopw [3] (fun _ wr => ∃ (pre : List Nat) (y : Nat), y < 2 ^ 33 ∧ J pre wr ∧ Boxed wr Bx 171 (.int .u64 y) ∧ Hid (bitsOf x = pre ++ bitsOf y)) (fun _ wr => match wr.cell? ⟨Bx, 0, none⟩ with | some (.int _ k) => k.toNat | _ => 0)
  case atStart => exact ⟨[], x, hx33, h0, hbox, rfl⟩
  case round =>
    obtain ⟨pre, y, hy33, hJ1, hb1, hbits⟩ := hrel
    have hc := hb1.cell
    by_cases hy0 : y = 0
    · have hz : ((y : Int) != 0) = false := by simp [hy0]
      replace hy0 := Lib.hid hy0
      gi_wp2
      go_end0
      refine ⟨⟨_, rfl⟩, ?_⟩
      rw [hbits.out, hy0.out, bitsOf_zero, List.append_nil]; exact .inl hJ1
    · have hz : ((y : Int) != 0) = true := by simp; omega
      have hT1 := hT _ _ hJ1
      obtain ⟨hc33, hst, hlow⟩ := bitsOf_step hy0 hy33
      have hlen : (pre ++ [Lib.ctz 64 y]) <+: bitsOf x := by rw [hbits.out, hst]; exact ⟨_, by rw [List.append_assoc]; rfl⟩
      have hgd : wr.grownBy ((wr.setCell ⟨Bx, 0, none⟩ (.int .u64 ((offM y : Nat) : Int))).drew) (some Bx) := by
        have h := grownBy_setCell' wr Bx (.int .u64 ((offM y : Nat) : Int))
        exact ⟨h.os, h.tape, h.output, h.size, h.block⟩
      obtain ⟨fn, tmps, assign, body, hyl, hR⟩ := hY pre (Lib.ctz 64 y) ((wr.setCell ⟨Bx, 0, none⟩ (.int .u64 ((offM y : Nat) : Int))).drew) (hJ _ _ _ (some Bx) hJ1 hgd (fun r e => by cases e; rfl)) hlen
      have hclr := andNot_off hy0 hy33
      replace hst := Lib.hid hst
      replace hlow := Lib.hid hlow
      gi_wp2
      refine ⟨trivial, ?_⟩
      gi_at_call 114
      refine (callsIn_wide.2 (tz64_any y hy0 (Nat.lt_trans hy33 (by decide)) _ hT1)).mono ?_
      rintro e w' ⟨rfl, rfl⟩
      generalize hcc : Lib.ctz 64 y = c at *
      have hf1 := hb1.frozen
      have hmx : Tryz.prog.follows .mixedOrders = true := by kernel_rfl
      gi_wp2
      gi_region_with_o (fail)
      all_goals gi_wp2
      all_goals
        refine hR.mono ?_
        rintro e W3 (⟨rfl, hJ3, hs3⟩ | ⟨rfl, hJx3⟩)
        rotate_left
        · gi_wp2
          refine bodyPost_ret (results_none rfl _ _ _) rfl ?_
          exact ⟨⟨_, rfl⟩, .inr ⟨_, hJx3⟩⟩
        gi_wp2
        have hbs : Boxed ((w'.setCell ⟨Bx, 0, none⟩ (.int .u64 ((offM y : Nat) : Int))).drew) Bx 171 (.int .u64 ((offM y : Nat) : Int)) := hb1.set _
        have hb3 : Boxed W3 Bx 171 (.int .u64 ((offM y : Nat) : Int)) := (hs3 Bx rfl).trans hbs
        have hrel : bitsOf x = (pre ++ [c]) ++ bitsOf (offM y) := by have := hbits.out; rw [hst.out] at this; rw [this]; simp
        refine ⟨⟨_, offM y, Nat.lt_trans hlow.out hy33, hJ3, hb3, Lib.hid hrel⟩, ?_⟩
        rw [hb3.cell, hc]
        have := hlow.out
        simp; omega
end Go.Proofs.YtadncjpknckaaaaGreatDoor
namespace Go.Proofs.YtadncjpknckaaaaGreatDoor
open Go.RowKit Go.Maps
def relV (x : Rel) : List Value := x.map fun v : Nat => .int .u64 (v : Int)
def relA (x : Rel) : Array Value := (relV x).toArray
/-- A relation in a block of its own. -/
def RelB (w : World) (b : Nat) (x : Rel) : Prop := w.heap[b]? = some (.cells (relA x) 173 (0, 0))
theorem RelB.ext {w w' : World} {b : Nat} {x : Rel} (h : RelB w b x) (hx : Ext w w') : RelB w' b x := (Below.block hx.bel _ (Array.getElem?_eq_some_iff.1 h).1).trans h
theorem relA_len {x : Rel} (h : x.length = 33) : (relA x).size = 33 := by simp [relA, relV, h]
theorem relA_one (x : Rel) : (relA x).all (·.oneCell') = true := by
  rw [Array.all_eq_true_iff_forall_mem]
  intro v hv
  simp only [relA, List.mem_toArray, relV] at hv
  obtain ⟨n, _, rfl⟩ := List.mem_map.1 hv
  rfl
theorem size_rel : (Tryz.prog.info? 173).map (·.size) = some 33 := by kernel_rfl
theorem size_of {x : Rel} (h : x.length = 33) : (Tryz.prog.info? 173).map (·.size) = some (relA x).size := by rw [relA_len h]; exact size_rel
theorem RelB.lt {w : World} {b : Nat} {x : Rel} (h : RelB w b x) : b < w.heap.size := (Array.getElem?_eq_some_iff.1 h).1
theorem RelB.cell {w : World} {b : Nat} {x : Rel} (h : RelB w b x) {i v : Nat} (hi : x[i]? = some v) : w.cell? ⟨b, i, none⟩ = some (.int .u64 (v : Int)) := by
  simp only [World.cell?]
  rw [show w.heap[b]? = _ from h]
  simp [relA, relV, hi]
theorem RelB.free {w : World} {b : Nat} {x : Rel} (h : RelB w b x) (i : Nat) : w.frozen? ⟨b, i, none⟩ = false := by
  simp only [World.frozen?]
  rw [show w.heap[b]? = _ from h]; rfl
theorem RelB.set {w : World} {b : Nat} {x : Rel} (h : RelB w b x) {i : Nat} (_hi : i < x.length) (v : Nat) : RelB (w.setCell ⟨b, i, none⟩ (.int .u64 (v : Int))) b (x.set i v) := by
  have hh : w.heap[b]? = some (.cells (relA x) 173 (0, 0)) := h
  have := heap_setCell_same w b i (relA x) 173 (.int .u64 (v : Int)) hh
  unfold RelB
  rw [this]
  simp only [relA, relV, List.map_set]
  congr 2
  rw [← Array.toList_inj]; simp
theorem rel_at {x : Rel} (h : x.length = 33) {i : Nat} (hi : i < 33) : x[i]? = some (x.getD i 0) := by
  rw [List.getD_eq_getElem?_getD, List.getElem?_eq_getElem (by omega)]; rfl
theorem pow_wrap {i : Nat} (hi : i ≤ 33) : IntKind.u64.wrap ((2 : Int) ^ i) = ((2 ^ i : Nat) : Int) := by
  have e : (2 : Int) ^ i = ((2 ^ i : Nat) : Int) := by simp
  have hp : 2 ^ i ≤ 2 ^ 33 := Nat.pow_le_pow_right (by omega) hi
  rw [e]
  generalize 2 ^ i = q at *
  rw [IntKind.wrap_u64]; omega
theorem RelB.new (w : World) (x : Rel) : RelB (w.alloc (.cells (relA x) 173)) w.heap.size x := World.alloc_heap_new w _
theorem RelB.put {w : World} {b : Nat} {x : Rel} (h : RelB w b x) (y : Rel) : RelB (w.setRow b (relA y)) b y := by
  unfold RelB
  exact setRow_heap w b _ _ 173 _ h
theorem ext_setRow {a w : World} (h : Ext a w) {b : Nat} (hb : a.heap.size ≤ b) (cs : Array Value) : Ext a (w.setRow b cs) := ⟨below_setRow h.bel hb cs⟩
theorem RelB.off {w : World} {b c : Nat} {x : Rel} (h : RelB w b x) (hne : c ≠ b) (cs : Array Value) : RelB (w.setRow c cs) b x := by
  unfold RelB
  rw [setRow_other w c b cs (Ne.symm hne)]; exact h
def RetR (x : Rel) (w : World) (e : Ending) (w' : World) : Prop := e = .returned (.agg (relA x)) ∧ Ext w w'
def idTo (k : Nat) : Rel := (List.range 33).map fun a => if a < k then 2 ^ a else 0
theorem idTo_zero : idTo 0 = zeroM := by unfold idTo zeroM; simp [List.map_const']
theorem idTo_len (k : Nat) : (idTo k).length = 33 := by simp [idTo]
theorem idTo_succ (k : Nat) : idTo (k + 1) = (idTo k).set k (2 ^ k) := by
  apply List.ext_getElem?
  intro i
  rw [List.getElem?_set]
  unfold idTo
  rw [List.getElem?_map, List.getElem?_map, List.length_map, List.length_range]
  by_cases hi : i < 33
  · rw [List.getElem?_range hi]
    simp only [Option.map_some]
    by_cases hk : k = i
    · subst hk; simp [hi]
    · rw [if_neg hk]
      congr 1
      by_cases h : i < k
      · rw [if_pos h, if_pos (by omega)]
      · rw [if_neg h, if_neg (by omega)]
  · rw [List.getElem?_eq_none (by simpa using hi)]
    simp only [Option.map_none]
    split
    · rw [if_neg (by omega)]
    · rfl
theorem idTo_id (n : Nat) : idTo (n + 1) = idM n := by
  unfold idTo idM
  refine List.map_congr_left fun a _ => ?_
  simp only [Nat.lt_succ_iff]
set_option maxHeartbeats 1000000 in
theorem identity_any (n : Nat) (hn : n ≤ 32) (w : World) : Calls Tryz.prog 142 #[.int .i64 (n : Int)] w (RetR (idM n) w) := by
  go_enter Tryz.func142, Tryz.ntmps142
  go_wp2_with fail
  have b2 := (RelB.new w zeroM).ext (Ext.alloc1 _ (.cells (relA zeroM) 173))
  have b3 := RelB.new (w.alloc (.cells (relA zeroM) 173)) zeroM
  have hx := (Ext.alloc1 w (.cells (relA zeroM) 173)).trans (Ext.alloc1 _ (.cells (relA zeroM) 173))
  rw [World.size_alloc] at b3
  change RelB ((w.alloc (.cells (relA zeroM) 173)).alloc (.cells (relA zeroM) 173)) w.heap.size zeroM at b2
  generalize hW : (World.alloc (World.alloc w _) _) = w1
  replace b2 : RelB w1 w.heap.size zeroM := by rw [← hW]; exact b2
  replace b3 : RelB w1 (w.heap.size + 1) zeroM := by rw [← hW]; exact b3
  replace hx : Ext w w1 := by rw [← hW]; exact hx
  clear hW
  go_loopw [7] (fun iv wr => ∃ i : Nat, i ≤ n + 1 ∧ iv = .int .i64 i ∧ RelB wr (w.heap.size + 1) (idTo i) ∧ Ext w wr ∧ RelB wr w.heap.size zeroM) (fun iv _ => n + 1 - (intOf iv).toNat)
  case atStart => exact ⟨0, Nat.zero_le _, rfl, by rw [idTo_zero]; exact b3, hx, b2⟩
  case round =>
    obtain ⟨i, hi, rfl, hb, hxr, hb2⟩ := hrel
    by_cases hlt : i < n + 1
    · have hki : (i : Int) < (n : Int) + 1 := by omega
      have hi33 : (i : Int) < 33 := by omega
      have hi64 : (i : Int) < 64 := by omega
      have hset := hb.set (i := i) (by rw [idTo_len]; omega) (2 ^ i)
      rw [← idTo_succ] at hset
      have hc := hb.cell (rel_at (idTo_len i) (i := i) (by omega))
      have hf := hb.free i
      have hw := pow_wrap (i := i) (by omega)
      have hxs := ext_set hxr (b := w.heap.size + 1) (by omega) i (.int .u64 ((2 ^ i : Nat) : Int))
      have hb2s : RelB (wr.setCell ⟨w.heap.size + 1, i, none⟩ (.int .u64 ((2 ^ i : Nat) : Int))) w.heap.size zeroM := by
        unfold RelB
        rw [Below.heap_setCell _ _ _ _ (by show w.heap.size ≠ w.heap.size + 1; omega)]; exact hb2
      generalize hp : 2 ^ i = p at *
      replace hp := Lib.hid hp
      go_wp2_with fail
      (first | exact ⟨⟨i + 1, hlt, by go_num, hset, hxs, hb2s⟩, (by simp [intOf]; omega)⟩ | (go_roundw; case rel => exact ⟨i + 1, hlt, by go_num, hset, hxs, hb2s⟩; case measure => exact (by simp [intOf]; omega)))
    · obtain rfl : i = n + 1 := by omega
      rw [idTo_id] at hb
      go_wp2_with (first | (refine wpList_load_row rfl 173 _ rfl (w.heap.size + 1) rfl 173 _ (0, 0) _ hb Tryz.underlying173 rfl (size_of (idM_ok hn).1) ?_) | (refine wpList_store_row rfl 173 _ _ rfl w.heap.size (relA (idM n)) rfl rfl 173 (relA zeroM) hb2 (size_of (idM_ok hn).1) (by rw [relA_len zeroM_ok.1, relA_len (idM_ok hn).1]) (relA_one _) ?_))
      refine bodyPost_ret (results_cell_row rfl _ _ w.heap.size 173 (relA (idM n)) (0, 0) _ rfl (hb2.put (idM n)) Tryz.underlying173 rfl (size_of (idM_ok hn).1)) rfl ?_
      exact ⟨rfl, ext_setRow hxr (Nat.le_refl _) _⟩
/-! ### or -/
def ordTo (x y : Rel) (k : Nat) : Rel := (List.range 33).map fun a => if a < k then x.getD a 0 ||| y.getD a 0 else x.getD a 0
theorem ordTo_len (x y : Rel) (k : Nat) : (ordTo x y k).length = 33 := by simp [ordTo]
theorem ordTo_at (x y : Rel) (k : Nat) {i : Nat} (hi : i < 33) : (ordTo x y k)[i]? = some (if i < k then x.getD i 0 ||| y.getD i 0 else x.getD i 0) := by
  unfold ordTo; rw [List.getElem?_map, List.getElem?_range hi]; rfl
theorem rel_ext {x y : Rel} (hx : x.length = 33) (hy : y.length = 33) (h : ∀ i, i < 33 → x[i]? = y[i]?) : x = y := by
  apply List.ext_getElem?
  intro i
  by_cases hi : i < 33
  · exact h i hi
  · rw [List.getElem?_eq_none (by omega), List.getElem?_eq_none (by omega)]
theorem ordTo_zero {x : Rel} (hx : x.length = 33) (y : Rel) : ordTo x y 0 = x := rel_ext (ordTo_len _ _ _) hx fun i hi => by
  rw [ordTo_at _ _ _ hi, if_neg (by omega), rel_at hx hi]
theorem ordTo_succ {x y : Rel} {k : Nat} (_hk : k < 33) : ordTo x y (k + 1) = (ordTo x y k).set k (x.getD k 0 ||| y.getD k 0) := rel_ext (ordTo_len _ _ _) (by rw [List.length_set, ordTo_len]) fun i hi => by
  rw [ordTo_at _ _ _ hi, List.getElem?_set, ordTo_len]
  by_cases hik : k = i
  · subst hik; simp [hi]
  · rw [if_neg hik, ordTo_at _ _ _ hi]
    by_cases h : i < k
    · rw [if_pos h, if_pos (by omega)]
    · rw [if_neg h, if_neg (by omega)]
theorem ordTo_all {x y : Rel} (hx : x.length = 33) (hy : y.length = 33) : ordTo x y 33 = orM x y := rel_ext (ordTo_len _ _ _) (by unfold orM; rw [List.length_zipWith, hx, hy]; rfl) fun i hi => by
  rw [ordTo_at _ _ _ hi, if_pos hi]
  unfold orM
  rw [List.getElem?_zipWith, rel_at hx hi, rel_at hy hi]
theorem bits_or64 {x y : Nat} (hx : x < 2 ^ 33) (hy : y < 2 ^ 33) : bits .or .u64 (x : Int) (y : Int) = ((x ||| y : Nat) : Int) := u64_or_nat x y (Nat.lt_trans hx (by decide)) (Nat.lt_trans hy (by decide))
set_option maxHeartbeats 1000000 in
theorem or_any (x y : Rel) (hx : RelOk x) (hy : RelOk y) (bx by_ : Nat) (w : World) (hbx : RelB w bx x) (hby : RelB w by_ y) (hne : bx ≠ by_) :
    Calls Tryz.prog 140 #[.pointer (some ⟨bx, 0, none⟩), .pointer (some ⟨by_, 0, none⟩)] w fun e w' => (∃ v, e = .returned v) ∧ RelB w' bx (orM x y) ∧ w.grownBy w' (some bx) := by
  go_enter Tryz.func140, Tryz.ntmps140
  go_wp2_with fail
  go_loopw [7] (fun iv wr => ∃ i : Nat, i ≤ 33 ∧ iv = .int .i64 i ∧ RelB wr bx (ordTo x y i) ∧ RelB wr by_ y ∧ w.grownBy wr (some bx)) (fun iv _ => 33 - (intOf iv).toNat)
  case atStart => exact ⟨0, Nat.zero_le _, rfl, by rw [ordTo_zero hx.1]; exact hbx, hby, World.grownBy.refl _ _⟩
  case round =>
    obtain ⟨i, hi, rfl, hb, hc, hg⟩ := hrel
    by_cases hlt : i < 33
    · have hki : (i : Int) < 33 := by omega
      have c1 := hb.cell (ordTo_at x y i hlt)
      rw [if_neg (Nat.lt_irrefl i)] at c1
      have c2 := hc.cell (rel_at hy.1 hlt)
      have hor := bits_or64 (hx.getD i) (hy.getD i)
      have hsu := ordTo_succ (x := x) (y := y) hlt
      obtain ⟨p, hp⟩ : ∃ p, p = x.getD i 0 := ⟨_, rfl⟩
      obtain ⟨q, hq⟩ : ∃ q, q = y.getD i 0 := ⟨_, rfl⟩
      rw [← hp, ← hq] at hor hsu
      rw [← hp] at c1
      rw [← hq] at c2
      replace hp := Lib.hid hp
      replace hq := Lib.hid hq
      replace hsu := Lib.hid hsu
      go_wp2_with fail
      go_region
      go_wp2_with fail
      clear c1 c2
      replace hb : RelB wr.drew bx (ordTo x y i) := hb
      replace hc : RelB wr.drew by_ y := hc
      replace hg : w.grownBy wr.drew (some bx) := ⟨hg.os, hg.tape, hg.output, hg.size, hg.block⟩
      generalize wr.drew = wd at *
      have c1 := hb.cell (ordTo_at x y i hlt)
      rw [if_neg (Nat.lt_irrefl i)] at c1
      have hf := hb.free i
      rw [← hp.out] at c1
      have hset := hb.set (i := i) (by rw [ordTo_len]; omega) (p ||| q)
      rw [← hsu.out] at hset
      have hcs : RelB (wd.setCell ⟨bx, i, none⟩ (.int .u64 ((p ||| q : Nat) : Int))) by_ y := by
        unfold RelB
        rw [Below.heap_setCell _ _ _ _ (fun e => hne e.symm)]; exact hc
      have hgs : w.grownBy (wd.setCell ⟨bx, i, none⟩ (.int .u64 ((p ||| q : Nat) : Int))).drew (some bx) := by
        have h := gb_trans hg (grownBy_set wd bx i (.int .u64 ((p ||| q : Nat) : Int)))
        exact ⟨h.os, h.tape, h.output, h.size, h.block⟩
      go_region
      go_wp2_with fail
      (first | exact ⟨⟨i + 1, hlt, by go_num, hset, hcs, hgs⟩, (by simp [intOf]; omega)⟩ | (go_roundw; case rel => exact ⟨i + 1, hlt, by go_num, hset, hcs, hgs⟩; case measure => exact (by simp [intOf]; omega)))
    · obtain rfl : i = 33 := by omega
      rw [ordTo_all hx.1 hy.1] at hb
      go_wp2_with fail
      go_end0
      exact ⟨⟨_, rfl⟩, hb, hg⟩
end Go.Proofs.YtadncjpknckaaaaGreatDoor
