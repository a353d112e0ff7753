/-
  A range over an iterator that writes boxes of its own: 'wpIn_range_own'. The caller's word I abides what the iterator does to its own blocks; the body leaves these blocks as they are.
  The wider law for a range over an iterator: the assigning part may lay blocks, and the body may leave the loop.
-/
import Derived.Test.YtilkemdecenibaaMap
import Derived.RangeFuncNested
import Derived.RangeFuncBound
import Derived.RangeFuncCalls
import Derived.RangeFuncLeaves
import Derived.RangeFuncBox
import Derived.Shelf.Abstract
import Derived.RegionIn
import Derived.Shelf.RegionOpen
import Derived.OwnWalkIn
import Derived.TacticsInMore
import Derived.LoopNIn
import Derived.LoopIn
import Derived.Sort.BigQuietIn
namespace Go.Proofs.Ytilkemdecenibaa
open Go.RowKit Go.Shelf
/-- The blocks of which p speaks lie as they lay. -/
def Same (p : Nat → Prop) (W W' : World) : Prop := ∀ r, p r → W'.heap[r]? = W.heap[r]?
theorem Same.refl (p : Nat → Prop) (W : World) : Same p W W := fun _ _ => rfl
theorem Same.trans {p : Nat → Prop} {A B C : World} (h : Same p A B) (k : Same p B C) : Same p A C := fun r hr => (k r hr).trans (h r hr)
/-- How a round's body is left. -/
def roundEnd {α : Type} (B : Nat) (own : Nat → Prop) (I : List α → World → Prop) (ys : List α) (W : World) : Exit → Act → World → Prop
  | .normal, _, W' => KeepsFrom B W W' ∧ Same own W W' ∧ I ys W'
  | _, _, _ => False
/-- What the caller's word must abide. -/
def AbideOwn {α : Type} (B : Nat) (own : Nat → Prop) (I : List α → World → Prop) : Prop :=
  ∀ s X Y row, I s X → X.grownBy Y row → (∀ r, row = some r → own r ∨ (B ≤ r ∧ ∃ o : Obj, X.heap[r]? = some o ∧ o.isCells = false)) → I s Y
variable {F : Fence} {n : Nat} {P : Program} {w : World}
theorem wpIn_range_own {α : Type} {g : Operand} {ps : Array Tmp} {assign body : Code} {Q : Exit → Act → World → Prop} {a : Act}
    (hro : F.round = none) (h1 : 1 ≤ n) {gf : Nat} {lb : Array Value} (hg : a.eval g = .func (.func gf) #[] lb) (hFg : F.fn gf) (eg : ∀ args w, (callFunc gf args).run P w = .ok (.enter gf args) w)
    {encs : α → Array Value} (hps : ∀ x, (encs x).size = ps.size) (own : Nat → Prop) (hlow : ∀ r, own r → r < w.heap.size) (xs : List α)
    (I : List α → World → Prop) (hI : AbideOwn w.heap.size own I) (h0 : I [] w)
    (hiter : ∀ (l : Nat) (J : List α → World → Prop) (W : World), Below w.heap.size w W → J [] W → (∀ s X Y row, J s X → X.grownBy Y row → (∀ r, row = some r → own r) → J s Y) → (∀ s X, J s X → I s X) →
      (∀ pre x X, J pre X → pre.length < xs.length → YieldAt F (n - 1 - 1) P l (encs x) X fun e Y => e = .returned (.bool true) ∧ J (pre ++ [x]) Y ∧ Same own X Y) →
      CallsIn F (n - 1) P gf (#[.func (.yield l) #[] #[]] ++ lb) W fun e W' => (∃ v, e = .returned v) ∧ J xs W')
    (st : α → Array Value → Array Value)
    (hassign : ∀ (l : Nat) (x : α) (W : World) (K : Act → World → Prop), K { tmps := st x a.tmps, defers := [] } W →
      assign.wpIn (F.inRound l) (n - 1 - 1) P (Exit.then K (fun _ _ _ => False)) { tmps := (ps.zip (encs x)).foldl (fun t (p, v) => t.setIfInBounds p v) a.tmps, defers := [] } W)
    (hbody : ∀ (l : Nat) (pre : List α) (x : α) (W : World), I pre W → pre.length < xs.length → body.wpIn (F.inRound l) (n - 1 - 1) P (roundEnd w.heap.size own I (pre ++ [x]) W) { tmps := st x a.tmps, defers := [] } W)
    (hdone : ∀ (D : Nat) (W : World), w.heap.size ≤ D → I xs W → W.heap[D]? = some (.deferred (some [])) → Q .normal { a with defers := { target := .collected D, args := #[] } :: a.defers } W) :
    (Code.rangeFunc g ps assign body).wpIn F n P Q a w := by
  refine wpIn_rangeFunc fun fn hfn => ?_
  rw [hro]
  let rc : LoopState → Option Code → Loop := fun st pe => { state := st, pending := pe, fn := fn, tmps := a.tmps, params := ps, assign := assign, body := body, defers := w.heap.size }
  obtain ⟨W1, hW1⟩ : ∃ W1, (w.alloc (.deferred (some []))).alloc (.loop (rc .ready none)) = W1 := ⟨_, rfl⟩
  have he : (Instr.enterLoop fn a.tmps ps assign body none).run P w = .ok (w.heap.size + 1, [{ target := .collected w.heap.size, args := #[] }]) W1 := by
    rw [← hW1]; exact run_enterLoop_outer (P := P) (w := w) fn a.tmps ps assign body
  have hL : W1.heap[w.heap.size + 1]? = some (.loop (rc .ready none)) := by
    rw [← hW1]; have := World.alloc_heap_new (w.alloc (.deferred (some []))) (.loop (rc .ready none)); rwa [World.size_alloc] at this
  have hD : W1.heap[w.heap.size]? = some (.deferred (some [])) := by
    rw [← hW1]; exact (Below.heap_alloc _ _ _ (by simp)).trans (World.alloc_heap_new w _)
  have hBel : Below w.heap.size w W1 := by rw [← hW1]; exact ((Below.refl _ w).alloc (Nat.le_refl _) _).alloc (by simp) _
  have hI1 : I [] W1 := by
    rw [← hW1]; exact hI _ _ _ none (hI _ _ _ none h0 (World.grownBy_alloc _ _ _) (fun r e => by cases e)) (World.grownBy_alloc _ _ _) (fun r e => by cases e)
  clear hW1
  have turn : ∀ (s : List α) (X : World) (o o' : Obj), I s X → X.heap[w.heap.size + 1]? = some o → o.isCells = false → I s (X.putObj (w.heap.size + 1) o') := fun s X o o' hs ho hc =>
    hI s X _ (some (w.heap.size + 1)) hs (grownBy_putObj' X _ o') (fun r e => by cases e; exact .inr ⟨by omega, o, ho, hc⟩)
  have keep : ∀ (X : World) (o' : Obj), Same own X (X.putObj (w.heap.size + 1) o') := fun X o' r hr => World.putObj_heap_other (by have := hlow r hr; omega)
  refine ⟨w.heap.size + 1, [{ target := .collected w.heap.size, args := #[] }], W1, { target := .fn (.func gf) lb, args := #[.func (.yield (w.heap.size + 1)) #[] #[]] }, W1, gf,
    #[.func (.yield (w.heap.size + 1)) #[] #[]] ++ lb, W1, he, ?_, ?_, ?_, fun _ => h1, ?_⟩
  · simp only [resolve, hg]
    simp [go_sem]
  · intro f' hf'; simp [Target.leads] at hf'; subst hf'; exact hFg
  · simp [invoke, go_sem, eg]
  · refine (hiter (w.heap.size + 1) (fun s X => I s X ∧ X.heap[w.heap.size + 1]? = some (.loop (rc .ready none)) ∧ X.heap[w.heap.size]? = some (.deferred (some [])))
      W1 hBel ⟨hI1, hL, hD⟩ (fun s X Y row hs hg' hr => ?_) (fun s X hs => hs.1) ?_).mono ?_
    · have out : ∀ j, w.heap.size ≤ j → some j ≠ row := fun j hj e => by have := hlow j (hr j e.symm); omega
      exact ⟨hI s X Y row hs.1 hg' (fun r e => .inl (hr r e)), (hg'.block _ (Array.getElem?_eq_some_iff.1 hs.2.1).1 (out _ (by omega))).trans hs.2.1, (hg'.block _ (Array.getElem?_eq_some_iff.1 hs.2.2).1 (out _ (by omega))).trans hs.2.2⟩
    · rintro pre x X ⟨hi, hl, hk⟩ hlen
      refine ⟨fn, _, assign, body, run_yield (P := P) (args := encs x) hl (hps x), roundIn_of_wpIn hfn (hassign _ x X _ ?_)⟩
      refine ⟨_, run_beginRound hl rfl, ?_⟩
      have hlt : w.heap.size + 1 < X.heap.size := (Array.getElem?_eq_some_iff.1 hl).1
      have hl2 : (X.putObj (w.heap.size + 1) (.loop { rc .ready none with state := .busy })).heap[w.heap.size + 1]? = some (.loop { rc .ready none with state := .busy }) := World.putObj_heap_same hlt
      have hk2 : (X.putObj (w.heap.size + 1) (.loop { rc .ready none with state := .busy })).heap[w.heap.size]? = some (.deferred (some [])) := (World.putObj_heap_other (by omega)).trans hk
      refine wpIn_mono (hbody _ pre x _ (turn _ _ _ _ hi hl rfl) hlen) ?_
      rintro e a3 X3 hp
      cases e with
      | normal =>
        obtain ⟨hk3, hs3, hi3⟩ := hp
        have hl3 := hk3.same _ _ (by omega) hl2 rfl
        have hd3 := hk3.same _ _ (Nat.le_refl _) hk2 rfl
        refine ⟨_, _, run_endRound (P := P) none hl3, rfl, ⟨turn _ _ _ _ hi3 hl3 rfl, World.putObj_heap_same (Array.getElem?_eq_some_iff.1 hl3).1, (World.putObj_heap_other (by omega)).trans hd3⟩, ?_⟩
        exact ((keep X _).trans hs3).trans (keep X3 _)
      | ret => exact hp.elim
      | exit id => exact hp.elim
      | goto t => exact hp.elim
      | panic ch => exact hp.elim
      | outgrown => exact hp.elim
    · rintro e W2 ⟨⟨v, rfl⟩, hi, hl, hk⟩
      exact ⟨none, _, run_endLoop (P := P) hl (by simp [rc]), hdone _ _ (Nat.le_refl _) (turn _ _ _ _ hi hl rfl) ((World.putObj_heap_other (by omega)).trans hk)⟩
end Go.Proofs.Ytilkemdecenibaa
namespace Go.Proofs.Ytilkemdecenibaa
open Go.RowKit Go.Shelf
/-- How a round's body is left; the loop may be left too. -/
def roundEnd2 {α : Type} (B : Nat) (own : Nat → Prop) (I : List α → World → Prop) (Ix : Code → List α → World → Prop) (ys : List α) (W : World) : Exit → Act → World → Prop
  | .normal, _, W' => KeepsFrom B W W' ∧ Same own W W' ∧ I ys W'
  | .exit i, _, W' => KeepsFrom B W W' ∧ Ix (.exit i) ys W'
  | .ret, _, W' => KeepsFrom B W W' ∧ Ix .ret ys W'
  | _, _, _ => False
variable {F : Fence} {n : Nat} {P : Program} {w : World}
theorem wpIn_range_own2 {α : Type} {g : Operand} {ps : Array Tmp} {assign body : Code} {Q : Exit → Act → World → Prop} {a : Act}
    (hro : F.round = none) (h1 : 1 ≤ n) {gf : Nat} {lb : Array Value} (hg : a.eval g = .func (.func gf) #[] lb) (hFg : F.fn gf) (eg : ∀ args w, (callFunc gf args).run P w = .ok (.enter gf args) w)
    {encs : α → Array Value} (hps : ∀ x, (encs x).size = ps.size) (own : Nat → Prop) (hlow : ∀ r, own r → r < w.heap.size) (xs : List α)
    (I : List α → World → Prop) (hI : AbideOwn w.heap.size own I) (h0 : I [] w) (Ix : Code → List α → World → Prop) (hIx : ∀ c, AbideOwn w.heap.size own (Ix c))
    (hiter : ∀ (l : Nat) (J Jx : List α → World → Prop) (W : World), Below w.heap.size w W → J [] W → (∀ s X Y row, J s X → X.grownBy Y row → (∀ r, row = some r → own r) → J s Y) → (∀ s X Y row, Jx s X → X.grownBy Y row → (∀ r, row = some r → own r) → Jx s Y) → (∀ s X, J s X → I s X) →
      (∀ pre x X, J pre X → (pre ++ [x]) <+: xs → YieldAt F (n - 1 - 1) P l (encs x) X fun e Y => (e = .returned (.bool true) ∧ J (pre ++ [x]) Y ∧ Same own X Y) ∨ (e = .returned (.bool false) ∧ Jx (pre ++ [x]) Y)) →
      CallsIn F (n - 1) P gf (#[.func (.yield l) #[] #[]] ++ lb) W fun e W' => (∃ v, e = .returned v) ∧ (J xs W' ∨ ∃ pre, Jx pre W'))
    (Ax : α → Act → World → Prop) (hAx : ∀ x a', AbideOwn w.heap.size (fun _ => False) (fun (_ : List α) W => Ax x a' W))
    (hassign : ∀ (l : Nat) (pre : List α) (x : α) (W : World) (K : Act → World → Prop), I pre W → (∀ a' W', KeepsFrom w.heap.size W W' → Same own W W' → I pre W' → Ax x a' W' → K a' W') →
      assign.wpIn (F.inRound l) (n - 1 - 1) P (Exit.then K (fun _ _ _ => False)) { tmps := (ps.zip (encs x)).foldl (fun t (p, v) => t.setIfInBounds p v) a.tmps, defers := [] } W)
    (hbody : ∀ (l : Nat) (pre : List α) (x : α) (a' : Act) (W : World), I pre W → Ax x a' W → (pre ++ [x]) <+: xs → body.wpIn (F.inRound l) (n - 1 - 1) P (roundEnd2 w.heap.size own I Ix (pre ++ [x]) W) a' W)
    (hdone : ∀ (D : Nat) (W : World), w.heap.size ≤ D → I xs W → W.heap[D]? = some (.deferred (some [])) → Q .normal { a with defers := { target := .collected D, args := #[] } :: a.defers } W)
    (hstop : ∀ (D : Nat) (c : Code) (pre : List α) (W : World), w.heap.size ≤ D → Ix c pre W → W.heap[D]? = some (.deferred (some [])) → c.wpIn F n P Q { a with defers := { target := .collected D, args := #[] } :: a.defers } W) :
    (Code.rangeFunc g ps assign body).wpIn F n P Q a w := by
  refine wpIn_rangeFunc fun fn hfn => ?_
  rw [hro]
  let rc : LoopState → Option Code → Loop := fun st pe => { state := st, pending := pe, fn := fn, tmps := a.tmps, params := ps, assign := assign, body := body, defers := w.heap.size }
  obtain ⟨W1, hW1⟩ : ∃ W1, (w.alloc (.deferred (some []))).alloc (.loop (rc .ready none)) = W1 := ⟨_, rfl⟩
  have he : (Instr.enterLoop fn a.tmps ps assign body none).run P w = .ok (w.heap.size + 1, [{ target := .collected w.heap.size, args := #[] }]) W1 := by
    rw [← hW1]; exact run_enterLoop_outer (P := P) (w := w) fn a.tmps ps assign body
  have hL : W1.heap[w.heap.size + 1]? = some (.loop (rc .ready none)) := by
    rw [← hW1]; have := World.alloc_heap_new (w.alloc (.deferred (some []))) (.loop (rc .ready none)); rwa [World.size_alloc] at this
  have hD : W1.heap[w.heap.size]? = some (.deferred (some [])) := by
    rw [← hW1]; exact (Below.heap_alloc _ _ _ (by simp)).trans (World.alloc_heap_new w _)
  have hBel : Below w.heap.size w W1 := by rw [← hW1]; exact ((Below.refl _ w).alloc (Nat.le_refl _) _).alloc (by simp) _
  have hI1 : I [] W1 := by
    rw [← hW1]; exact hI _ _ _ none (hI _ _ _ none h0 (World.grownBy_alloc _ _ _) (fun r e => by cases e)) (World.grownBy_alloc _ _ _) (fun r e => by cases e)
  clear hW1
  have turn : ∀ {own' : Nat → Prop} {I' : List α → World → Prop} (hI' : AbideOwn w.heap.size own' I') (s : List α) (X : World) (o o' : Obj), I' s X → X.heap[w.heap.size + 1]? = some o → o.isCells = false → I' s (X.putObj (w.heap.size + 1) o') := fun hI' s X o o' hs ho hc =>
    hI' s X _ (some (w.heap.size + 1)) hs (grownBy_putObj' X _ o') (fun r e => by cases e; exact .inr ⟨by omega, o, ho, hc⟩)
  have keep : ∀ (X : World) (o' : Obj), Same own X (X.putObj (w.heap.size + 1) o') := fun X o' r hr => World.putObj_heap_other (by have := hlow r hr; omega)
  refine ⟨w.heap.size + 1, [{ target := .collected w.heap.size, args := #[] }], W1, { target := .fn (.func gf) lb, args := #[.func (.yield (w.heap.size + 1)) #[] #[]] }, W1, gf,
    #[.func (.yield (w.heap.size + 1)) #[] #[]] ++ lb, W1, he, ?_, ?_, ?_, fun _ => h1, ?_⟩
  · simp only [resolve, hg]
    simp [go_sem]
  · intro f' hf'; simp [Target.leads] at hf'; subst hf'; exact hFg
  · simp [invoke, go_sem, eg]
  · have out : ∀ {X Y : World} {row : Option Nat} {j : Nat}, (∀ r, row = some r → own r) → w.heap.size ≤ j → some j ≠ row := fun hr hj e => by have := hlow _ (hr _ e.symm); omega
    refine (hiter (w.heap.size + 1) (fun s X => I s X ∧ X.heap[w.heap.size + 1]? = some (.loop (rc .ready none)) ∧ X.heap[w.heap.size]? = some (.deferred (some [])))
      (fun s X => ∃ c, Ix c s X ∧ X.heap[w.heap.size + 1]? = some (.loop (rc .done (some c))) ∧ X.heap[w.heap.size]? = some (.deferred (some [])))
      W1 hBel ⟨hI1, hL, hD⟩ (fun s X Y row hs hg' hr => ?_) (fun s X Y row hs hg' hr => ?_) (fun s X hs => hs.1) ?_).mono ?_
    · exact ⟨hI s X Y row hs.1 hg' (fun r e => .inl (hr r e)), (hg'.block _ (Array.getElem?_eq_some_iff.1 hs.2.1).1 (out (X := X) (Y := Y) hr (by omega))).trans hs.2.1, (hg'.block _ (Array.getElem?_eq_some_iff.1 hs.2.2).1 (out (X := X) (Y := Y) hr (by omega))).trans hs.2.2⟩
    · obtain ⟨c, hc, hl, hk⟩ := hs
      exact ⟨c, hIx c s X Y row hc hg' (fun r e => .inl (hr r e)), (hg'.block _ (Array.getElem?_eq_some_iff.1 hl).1 (out (X := X) (Y := Y) hr (by omega))).trans hl, (hg'.block _ (Array.getElem?_eq_some_iff.1 hk).1 (out (X := X) (Y := Y) hr (by omega))).trans hk⟩
    · rintro pre x X ⟨hi, hl, hk⟩ hlen
      refine ⟨fn, _, assign, body, run_yield (P := P) (args := encs x) hl (hps x), roundIn_of_wpIn hfn (hassign _ pre x X _ hi ?_)⟩
      intro a' Xa hkfa hsa hia hax
      replace hl := hkfa.same _ _ (by omega) hl rfl
      replace hk := hkfa.same _ _ (Nat.le_refl _) hk rfl
      refine ⟨_, run_beginRound hl rfl, ?_⟩
      have hlt : w.heap.size + 1 < Xa.heap.size := (Array.getElem?_eq_some_iff.1 hl).1
      have hl2 : (Xa.putObj (w.heap.size + 1) (.loop { rc .ready none with state := .busy })).heap[w.heap.size + 1]? = some (.loop { rc .ready none with state := .busy }) := World.putObj_heap_same hlt
      have hk2 : (Xa.putObj (w.heap.size + 1) (.loop { rc .ready none with state := .busy })).heap[w.heap.size]? = some (.deferred (some [])) := (World.putObj_heap_other (by omega)).trans hk
      refine wpIn_mono (hbody _ pre x a' _ (turn hI _ _ _ _ hia hl rfl) (turn (hAx x a') [] _ _ _ hax hl rfl) hlen) ?_
      rintro e a3 X3 hp
      cases e with
      | normal =>
        obtain ⟨hk3, hs3, hi3⟩ := hp
        have hl3 := hk3.same _ _ (by omega) hl2 rfl
        have hd3 := hk3.same _ _ (Nat.le_refl _) hk2 rfl
        refine ⟨_, _, run_endRound (P := P) none hl3, .inl ⟨rfl, ⟨turn hI _ _ _ _ hi3 hl3 rfl, World.putObj_heap_same (Array.getElem?_eq_some_iff.1 hl3).1, (World.putObj_heap_other (by omega)).trans hd3⟩, ?_⟩⟩
        exact hsa.trans (((keep Xa _).trans hs3).trans (keep X3 _))
      | ret =>
        obtain ⟨hk3, hi3⟩ := hp
        have hl3 := hk3.same _ _ (by omega) hl2 rfl
        have hd3 := hk3.same _ _ (Nat.le_refl _) hk2 rfl
        exact ⟨_, _, run_endRound (P := P) (some .ret) hl3, .inr ⟨rfl, .ret, turn (hIx _) _ _ _ _ hi3 hl3 rfl, World.putObj_heap_same (Array.getElem?_eq_some_iff.1 hl3).1, (World.putObj_heap_other (by omega)).trans hd3⟩⟩
      | exit id =>
        obtain ⟨hk3, hi3⟩ := hp
        have hl3 := hk3.same _ _ (by omega) hl2 rfl
        have hd3 := hk3.same _ _ (Nat.le_refl _) hk2 rfl
        exact ⟨_, _, run_endRound (P := P) (some (.exit id)) hl3, .inr ⟨rfl, .exit id, turn (hIx _) _ _ _ _ hi3 hl3 rfl, World.putObj_heap_same (Array.getElem?_eq_some_iff.1 hl3).1, (World.putObj_heap_other (by omega)).trans hd3⟩⟩
      | goto t => exact hp.elim
      | panic ch => exact hp.elim
      | outgrown => exact hp.elim
    · rintro e W2 ⟨⟨v, rfl⟩, (⟨hi, hl, hk⟩ | ⟨pre, c, hi, hl, hk⟩)⟩
      · exact ⟨none, _, run_endLoop (P := P) hl (by simp [rc]), hdone _ _ (Nat.le_refl _) (turn hI _ _ _ _ hi hl rfl) ((World.putObj_heap_other (by omega)).trans hk)⟩
      · exact ⟨some c, _, run_endLoop (P := P) hl (by simp [rc]), hstop _ c pre _ (Nat.le_refl _) (turn (hIx c) _ _ _ _ hi hl rfl) ((World.putObj_heap_other (by omega)).trans hk)⟩
end Go.Proofs.Ytilkemdecenibaa
