/-
  A range over an iterator that makes memory of its own between two rounds: the body touches only what T names, all other cells stand.
  from: the words from a state on, handed to yield.
-/
import Derived.Test.YtilkemdecenibaaRg
import Derived.Test.YtilkemdecenibaaNa
import Derived.Test.YtilkemdecenibaaV1
namespace Go.Proofs.Ytilkemdecenibaa
open Go.RowKit Go.Shelf
/-- All cells that T does not name stand; T grows by what is new. -/
structure KeepT (T : World → Nat → Prop) (X Y : World) : Prop where
  le : X.heap.size ≤ Y.heap.size
  same : ∀ r o, X.heap[r]? = some o → o.isCells = true → ¬ T X r → Y.heap[r]? = some o
  new : ∀ r, T Y r → T X r ∨ X.heap.size ≤ r
theorem KeepT.refl (T : World → Nat → Prop) (X : World) : KeepT T X X := ⟨Nat.le_refl _, fun _ _ h _ _ => h, fun _ h => .inl h⟩
theorem KeepT.trans {T : World → Nat → Prop} {X Y Z : World} (h : KeepT T X Y) (k : KeepT T Y Z) : KeepT T X Z :=
  ⟨Nat.le_trans h.le k.le, fun r o h1 h2 h3 => k.same r o (h.same r o h1 h2 h3) h2 fun h4 => by
    rcases h.new r h4 with h5 | h5
    · exact h3 h5
    · have := (Array.getElem?_eq_some_iff.1 h1).1; omega, fun r h1 => by
    rcases k.new r h1 with h2 | h2
    · exact h.new r h2
    · exact .inr (Nat.le_trans h.le h2)⟩
/-- How a round's body is left. -/
def roundEndT {α : Type} (B : Nat) (T : World → Nat → Prop) (I : List α → World → Prop) (Ix : Code → List α → World → Prop) (ys : List α) (W : World) : Exit → Act → World → Prop
  | .normal, _, W' => KeepsFrom B W W' ∧ KeepT T W W' ∧ I ys W'
  | .exit i, _, W' => KeepsFrom B W W' ∧ Ix (.exit i) ys W'
  | _, _, _ => False
variable {F : Fence} {n : Nat} {P : Program} {w : World}
theorem wpIn_range_T {α : Type} {g : Operand} {ps : Array Tmp} {assign body : Code} {Q : Exit → Act → World → Prop} {a : Act}
    (hro : F.round = none) (h1 : 1 ≤ n) {gf : Nat} {lb : Array Value} (hg : a.eval g = .func (.func gf) #[] lb) (hFg : F.fn gf) (eg : ∀ args w, (callFunc gf args).run P w = .ok (.enter gf args) w)
    (T : World → Nat → Prop) (Nx : List α → α → Array Value → World → Prop) (I : List α → World → Prop) (Ix : Code → List α → World → Prop) (Full : List α → Prop)
    (hTc : ∀ s X r, I s X → T X r → ∃ o : Obj, X.heap[r]? = some o ∧ o.isCells = true)
    (hI : ∀ s X Y row, I s X → X.grownBy Y row → (∀ r, row = some r → ¬ T X r ∧ w.heap.size ≤ r) → I s Y ∧ ∀ r, T Y r ↔ T X r)
    (hIx : ∀ c s X Y row, Ix c s X → X.grownBy Y row → (∀ r, row = some r → ∃ o : Obj, X.heap[r]? = some o ∧ o.isCells = false) → (∀ r, row = some r → w.heap.size ≤ r) → Ix c s Y)
    (hNx : ∀ s x v X Y row, Nx s x v X → X.grownBy Y row → (∀ r, row = some r → ∃ o : Obj, X.heap[r]? = some o ∧ o.isCells = false) → Nx s x v Y)
    (h0 : I [] w)
    (hiter : ∀ (l : Nat) (J Jx : List α → World → Prop) (W : World), Below w.heap.size w W → J [] W → (∀ s X, J s X → I s X) →
      (∀ s X Y row, J s X → X.grownBy Y row → (∀ r, row = some r → ¬ T X r ∧ w.heap.size ≤ r ∧ ∀ o : Obj, X.heap[r]? = some o → o.isCells = true) → J s Y ∧ ∀ r, T Y r ↔ T X r) →
      (∀ pre x v X, J pre X → v.size = ps.size → Nx pre x v X → YieldAt F (n - 1 - 1) P l v X fun e Y => (e = .returned (.bool true) ∧ J (pre ++ [x]) Y ∧ KeepT T X Y) ∨ (e = .returned (.bool false) ∧ Jx (pre ++ [x]) Y)) →
      CallsIn F (n - 1) P gf (#[.func (.yield l) #[] #[]] ++ lb) W fun e W' => (∃ v, e = .returned v) ∧ ((∃ s, Full s ∧ J s W') ∨ ∃ pre, Jx pre W'))
    (st : Array Value → Array Value → Array Value)
    (hassign : ∀ (l : Nat) (v : Array Value) (W : World) (K : Act → World → Prop), v.size = ps.size → K { tmps := st v a.tmps, defers := [] } W →
      assign.wpIn (F.inRound l) (n - 1 - 1) P (Exit.then K (fun _ _ _ => False)) { tmps := (ps.zip v).foldl (fun t (p, u) => t.setIfInBounds p u) a.tmps, defers := [] } W)
    (hbody : ∀ (l : Nat) (pre : List α) (x : α) (v : Array Value) (W : World), I pre W → v.size = ps.size → Nx pre x v W → body.wpIn (F.inRound l) (n - 1 - 1) P (roundEndT w.heap.size T I Ix (pre ++ [x]) W) { tmps := st v a.tmps, defers := [] } W)
    (hdone : ∀ (D : Nat) (s : List α) (W : World), w.heap.size ≤ D → Full s → I s W → W.heap[D]? = some (.deferred (some [])) → Q .normal { a with defers := { target := .collected D, args := #[] } :: a.defers } W)
    (hstop : ∀ (D : Nat) (c : Code) (pre : List α) (W : World), w.heap.size ≤ D → Ix c pre W → W.heap[D]? = some (.deferred (some [])) → c.wpIn F n P Q { a with defers := { target := .collected D, args := #[] } :: a.defers } W) :
    (Code.rangeFunc g ps assign body).wpIn F n P Q a w := by
  refine wpIn_rangeFunc fun fn hfn => ?_
  rw [hro]
  let rc : LoopState → Option Code → Loop := fun st pe => { state := st, pending := pe, fn := fn, tmps := a.tmps, params := ps, assign := assign, body := body, defers := w.heap.size }
  obtain ⟨W1, hW1⟩ : ∃ W1, (w.alloc (.deferred (some []))).alloc (.loop (rc .ready none)) = W1 := ⟨_, rfl⟩
  have he : (Instr.enterLoop fn a.tmps ps assign body none).run P w = .ok (w.heap.size + 1, [{ target := .collected w.heap.size, args := #[] }]) W1 := by
    rw [← hW1]; exact run_enterLoop_outer (P := P) (w := w) fn a.tmps ps assign body
  have hL : W1.heap[w.heap.size + 1]? = some (.loop (rc .ready none)) := by
    rw [← hW1]; have := World.alloc_heap_new (w.alloc (.deferred (some []))) (.loop (rc .ready none)); rwa [World.size_alloc] at this
  have hD : W1.heap[w.heap.size]? = some (.deferred (some [])) := by
    rw [← hW1]; exact (Below.heap_alloc _ _ _ (by simp)).trans (World.alloc_heap_new w _)
  have hBel : Below w.heap.size w W1 := by rw [← hW1]; exact ((Below.refl _ w).alloc (Nat.le_refl _) _).alloc (by simp) _
  have hI1 : I [] W1 := by
    rw [← hW1]
    exact (hI _ _ _ none (hI _ _ _ none h0 (World.grownBy_alloc _ _ _) (fun r e => by cases e)).1 (World.grownBy_alloc _ _ _) (fun r e => by cases e)).1
  clear hW1
  have noT : ∀ {s : List α} {X : World} {o : Obj} {r : Nat}, I s X → X.heap[r]? = some o → o.isCells = false → ¬ T X r := fun hi ho hc ht => by
    obtain ⟨o', h1, h2⟩ := hTc _ _ _ hi ht
    rw [ho] at h1; cases h1; rw [hc] at h2; cases h2
  have turn : ∀ (s : List α) (X : World) (o o' : Obj), I s X → X.heap[w.heap.size + 1]? = some o → o.isCells = false → I s (X.putObj (w.heap.size + 1) o') ∧ ∀ r, T (X.putObj (w.heap.size + 1) o') r ↔ T X r := fun s X o o' hs ho hc =>
    hI s X _ (some (w.heap.size + 1)) hs (grownBy_putObj' X _ o') (fun r e => by cases e; exact ⟨noT hs ho hc, by omega⟩)
  have keep : ∀ (s : List α) (X : World) (o o' : Obj), I s X → X.heap[w.heap.size + 1]? = some o → o.isCells = false → KeepT T X (X.putObj (w.heap.size + 1) o') := fun s X o o' hs ho hc =>
    ⟨(grownBy_putObj' X _ o').size, fun r q h1 h2 _ => by
      rw [World.putObj_heap_other (fun e => by subst e; rw [ho] at h1; cases h1; rw [hc] at h2; cases h2)]; exact h1, fun r h => .inl (((turn s X o o' hs ho hc).2 r).1 h)⟩
  refine ⟨w.heap.size + 1, [{ target := .collected w.heap.size, args := #[] }], W1, { target := .fn (.func gf) lb, args := #[.func (.yield (w.heap.size + 1)) #[] #[]] }, W1, gf,
    #[.func (.yield (w.heap.size + 1)) #[] #[]] ++ lb, W1, he, ?_, ?_, ?_, fun _ => h1, ?_⟩
  · simp only [resolve, hg]
    simp [go_sem]
  · intro f' hf'; simp [Target.leads] at hf'; subst hf'; exact hFg
  · simp [invoke, go_sem, eg]
  · refine (hiter (w.heap.size + 1) (fun s X => I s X ∧ X.heap[w.heap.size + 1]? = some (.loop (rc .ready none)) ∧ X.heap[w.heap.size]? = some (.deferred (some [])))
      (fun s X => ∃ c, Ix c s X ∧ X.heap[w.heap.size + 1]? = some (.loop (rc .done (some c))) ∧ X.heap[w.heap.size]? = some (.deferred (some [])))
      W1 hBel ⟨hI1, hL, hD⟩ (fun s X hs => hs.1) (fun s X Y row hs hg' hr => ?_) ?_).mono ?_
    · obtain ⟨h2, h3⟩ := hI s X Y row hs.1 hg' (fun r e => ⟨(hr r e).1, (hr r e).2.1⟩)
      refine ⟨⟨h2, (hg'.block _ (Array.getElem?_eq_some_iff.1 hs.2.1).1 fun e => ?_).trans hs.2.1, (hg'.block _ (Array.getElem?_eq_some_iff.1 hs.2.2).1 fun e => ?_).trans hs.2.2⟩, h3⟩
      · have := (hr _ e.symm).2.2 _ hs.2.1; cases this
      · have := (hr _ e.symm).2.2 _ hs.2.2; cases this
    · rintro pre x v X ⟨hi, hl, hk⟩ hv hlen
      refine ⟨fn, _, assign, body, run_yield (P := P) (args := v) hl hv, roundIn_of_wpIn hfn (hassign _ v X _ hv ?_)⟩
      refine ⟨_, run_beginRound hl rfl, ?_⟩
      have hlt : w.heap.size + 1 < X.heap.size := (Array.getElem?_eq_some_iff.1 hl).1
      have hl2 : (X.putObj (w.heap.size + 1) (.loop { rc .ready none with state := .busy })).heap[w.heap.size + 1]? = some (.loop { rc .ready none with state := .busy }) := World.putObj_heap_same hlt
      have hk2 : (X.putObj (w.heap.size + 1) (.loop { rc .ready none with state := .busy })).heap[w.heap.size]? = some (.deferred (some [])) := (World.putObj_heap_other (by omega)).trans hk
      refine wpIn_mono (hbody _ pre x v _ (turn _ _ _ _ hi hl rfl).1 hv (hNx _ _ _ _ _ _ hlen (grownBy_putObj' X _ _) (fun r e => by cases e; exact ⟨_, hl, rfl⟩))) ?_
      rintro e a3 X3 hp
      cases e with
      | normal =>
        obtain ⟨hk3, hs3, hi3⟩ := hp
        have hl3 := hk3.same _ _ (by omega) hl2 rfl
        have hd3 := hk3.same _ _ (Nat.le_refl _) hk2 rfl
        refine ⟨_, _, run_endRound (P := P) none hl3, .inl ⟨rfl, ⟨(turn _ _ _ _ hi3 hl3 rfl).1, World.putObj_heap_same (Array.getElem?_eq_some_iff.1 hl3).1, (World.putObj_heap_other (by omega)).trans hd3⟩, ?_⟩⟩
        exact ((keep _ X _ _ hi hl rfl).trans hs3).trans (keep _ X3 _ _ hi3 hl3 rfl)
      | ret => exact hp.elim
      | exit id =>
        obtain ⟨hk3, hi3⟩ := hp
        have hl3 := hk3.same _ _ (by omega) hl2 rfl
        have hd3 := hk3.same _ _ (Nat.le_refl _) hk2 rfl
        exact ⟨_, _, run_endRound (P := P) (some (.exit id)) hl3, .inr ⟨rfl, .exit id, hIx _ _ _ _ _ hi3 (grownBy_putObj' X3 _ _) (fun r e => by cases e; exact ⟨_, hl3, rfl⟩) (fun r e => by cases e; omega), World.putObj_heap_same (Array.getElem?_eq_some_iff.1 hl3).1, (World.putObj_heap_other (by omega)).trans hd3⟩⟩
      | goto t => exact hp.elim
      | panic ch => exact hp.elim
      | outgrown => exact hp.elim
    · rintro e W2 ⟨⟨v, rfl⟩, (⟨s, hf, hi, hl, hk⟩ | ⟨pre, c, hi, hl, hk⟩)⟩
      · exact ⟨none, _, run_endLoop (P := P) hl (by simp [rc]), hdone _ s _ (Nat.le_refl _) hf (turn _ _ _ _ hi hl rfl).1 ((World.putObj_heap_other (by omega)).trans hk)⟩
      · exact ⟨some c, _, run_endLoop (P := P) hl (by simp [rc]), hstop _ c pre _ (Nat.le_refl _) (hIx _ _ _ _ _ hi (grownBy_putObj' W2 _ _) (fun r e => by cases e; exact ⟨_, hl, rfl⟩) (fun r e => by cases e; omega)) ((World.putObj_heap_other (by omega)).trans hk)⟩
end Go.Proofs.Ytilkemdecenibaa
namespace Go.Proofs.Ytilkemdecenibaa
open Go.RowKit Go.Maps Go.Shelf
/-! ### The words, plain -/
def wordsFrom (A : Au) (ord : List Nat) : Nat → Nat → List Snd → List (List Snd)
  | 0, _, u => [u]
  | n + 1, s, u => ord.flatMap fun k => if (cntRow A n).getD ((A.next.getD s []).getD k 0) 0 = 0 then [] else wordsFrom A ord n ((A.next.getD s []).getD k 0) (u ++ [A.snd.getD k ⟨0#32, 0#32⟩])
def wordsAll (A : Au) (ord : List Nat) : List (List Snd) := (List.range 33).flatMap fun n => if (cntRow A n).getD 0 0 = 0 then [] else wordsFrom A ord n 0 []
/-! ### What stands while words are handed on -/
/-- The yield of a range: what is handed on is the next word, and is read. -/
def NxW (L : List (List Snd)) (pre : List (List Snd)) (u : List Snd) (v : Array Value) (X : World) : Prop := (pre ++ [u]) <+: L ∧ ∃ a n cap, v = #[.slice a n cap] ∧ RdS X a n cap u
/-- Blocks that stand. -/
def Stt (T : World → Nat → Prop) (S : Nat → Prop) (W1 X : World) : Prop := ∀ r, S r → X.heap[r]? = W1.heap[r]? ∧ ¬ T X r
/-- The word that grows: its box and its row. -/
structure WB (T : World → Nat → Prop) (S : Nat → Prop) (W1 : World) (B Bw : Nat) (X : World) (u : List Snd) : Prop where
  le : W1.heap.size ≤ X.heap.size
  ex : ∃ v, Boxed X Bw 28 v ∧ OwnK 2 Snd.enc B 24 X v u ∧ ¬ T X Bw ∧ ∀ g, v.ownBlock = some g → ¬ T X g ∧ ¬ S g
theorem Stt.cell {T : World → Nat → Prop} {S : Nat → Prop} {W1 X : World} (h : Stt T S W1 X) {b o : Nat} (hb : S b) {v : Value} (hc : W1.cell? ⟨b, o, none⟩ = some v) : X.cell? ⟨b, o, none⟩ = some v := by
  simp only [World.cell?, (h b hb).1] at hc ⊢; exact hc
theorem Stt.rdk {T : World → Nat → Prop} {S : Nat → Prop} {W1 X : World} (h : Stt T S W1 X) {α : Type} {k : Nat} {enc : α → List Value} {b off n cap : Nat} {xs : List α} (hr : RdK k enc W1 (some ⟨b, off, none⟩) n cap xs) (hb : S b) : RdK k enc X (some ⟨b, off, none⟩) n cap xs :=
  ⟨hr.len, hr.le, hr.most, hr.isnil, fun hn => by
    obtain ⟨b', off', e, hlt, hc⟩ := hr.pos hn
    cases e
    refine ⟨b, off, rfl, ?_, fun i x hi j u hu => h.cell hb (hc i x hi j u hu)⟩
    obtain ⟨o, ho⟩ : ∃ o, W1.heap[b]? = some o := ⟨_, Array.getElem?_eq_getElem hlt⟩
    exact (Array.getElem?_eq_some_iff.1 ((h b hb).1.trans ho)).1⟩
theorem Stt.keep {T : World → Nat → Prop} {S : Nat → Prop} {W1 X Y : World} (h : Stt T S W1 X) (hS : ∀ r, S r → ∃ cs e fr, W1.heap[r]? = some (.cells cs e fr)) (hk : KeepT T X Y) : Stt T S W1 Y := fun r hr => by
  obtain ⟨cs, e, fr, hc⟩ := hS r hr
  obtain ⟨h1, h2⟩ := h r hr
  have h3 := h1.trans hc
  refine ⟨(hk.same r _ h3 rfl h2).trans hc.symm, fun h4 => ?_⟩
  rcases hk.new r h4 with h5 | h5
  · exact h2 h5
  · have := (Array.getElem?_eq_some_iff.1 h3).1; omega
/-- A growth beside: own rows, new blocks. -/
theorem Stt.grown {T : World → Nat → Prop} {S : Nat → Prop} {W1 X Y : World} (h : Stt T S W1 X) (hS : ∀ r, S r → ∃ cs e fr, W1.heap[r]? = some (.cells cs e fr)) {row : Option Nat} (hg : X.grownBy Y row) (hr : ∀ r, row = some r → ¬ S r) (hT : ∀ r, T Y r ↔ T X r) : Stt T S W1 Y := fun r hs => by
  obtain ⟨cs, e, fr, hc⟩ := hS r hs
  obtain ⟨h1, h2⟩ := h r hs
  have h3 := h1.trans hc
  exact ⟨(hg.block r (Array.getElem?_eq_some_iff.1 h3).1 fun e => hr r e.symm hs).trans h1, fun h4 => h2 ((hT r).1 h4)⟩
theorem WB.keep {T : World → Nat → Prop} {S : Nat → Prop} {W1 : World} {B Bw : Nat} {X Y : World} {u : List Snd} (h : WB T S W1 B Bw X u) (hk : KeepT T X Y) : WB T S W1 B Bw Y u := by
  obtain ⟨v, hb, ho, h1, h2⟩ := h.ex
  have hb2 := hk.same Bw _ hb rfl h1
  have noT : ∀ r o, X.heap[r]? = some o → ¬ T X r → ¬ T Y r := fun r o h3 h4 h5 => by
    rcases hk.new r h5 with h6 | h6
    · exact h4 h6
    · have := (Array.getElem?_eq_some_iff.1 h3).1; omega
  refine ⟨Nat.le_trans h.le hk.le, v, hb2, ?_, noT _ _ hb h1, fun g hg => ?_⟩
  · obtain ⟨k1, k2⟩ := ho
    refine ⟨k1, ?_⟩
    rcases k2 with k2 | ⟨g', cap', cur, hv, hB, hh, r⟩
    · exact .inl k2
    · exact .inr ⟨g', cap', cur, hv, hB, hk.same g' _ hh rfl (h2 g' (by rw [hv]; rfl)).1, r⟩
  · obtain ⟨cur, hc⟩ := own_type ho hg
    exact ⟨noT _ _ hc (h2 g hg).1, (h2 g hg).2⟩
/-- What J abides. -/
def AbideT (T : World → Nat → Prop) (B : Nat) (J : List (List Snd) → World → Prop) : Prop :=
  ∀ s X Y row, J s X → X.grownBy Y row → (∀ r, row = some r → ¬ T X r ∧ B ≤ r ∧ ∀ o : Obj, X.heap[r]? = some o → o.isCells = true) → J s Y ∧ ∀ r, T Y r ↔ T X r
section
variable {T : World → Nat → Prop} {S : Nat → Prop} {W1 X : World} {B Bw : Nat} {J : List (List Snd) → World → Prop} {pre : List (List Snd)} {u : List Snd}
theorem fs_push (hA : AbideT T B J) (hS : ∀ r, S r → ∃ cs e fr, W1.heap[r]? = some (.cells cs e fr)) (hSw : ¬ S Bw) (hBw : B ≤ Bw) (hTl : ∀ X r, T X r → r < X.heap.size) (hJ : J pre X) (hs : Stt T S W1 X) (hle : W1.heap.size ≤ X.heap.size) {v : Value} (hb : Boxed X Bw 28 v) (ho : OwnK 2 Snd.enc B 24 X v u) (h1 : ¬ T X Bw) (h2 : ∀ g, v.ownBlock = some g → ¬ T X g ∧ ¬ S g)
    {XL w5 : World} (hXL : Ext X XL) {v5 : Value} {x : Snd} (o5 : OwnK 2 Snd.enc B 24 w5 v5 (u ++ [x])) (g5 : XL.grownBy w5 v.ownBlock) (n5 : v5.ownBlock = v.ownBlock ∨ v5.ownBlock = some XL.heap.size) :
    w5.cell? ⟨Bw, 0, none⟩ = some v ∧ w5.frozen? ⟨Bw, 0, none⟩ = false ∧ J pre w5 ∧ J pre (w5.setCell ⟨Bw, 0, none⟩ v5) ∧ Stt T S W1 (w5.setCell ⟨Bw, 0, none⟩ v5) ∧ WB T S W1 B Bw (w5.setCell ⟨Bw, 0, none⟩ v5) (u ++ [x]) := by
  obtain ⟨j1, t1⟩ := hA _ _ _ none hJ (gb_ext hXL none) (fun r e => by cases e)
  have s1 := hs.grown hS (gb_ext hXL none) (fun r e => by cases e) t1
  have b1 := Boxed.more hb hXL
  have o1 := ho.kept hXL
  obtain ⟨j2, t2⟩ := hA _ _ _ _ j1 g5 (fun r e => by
    obtain ⟨cur, hc⟩ := own_type o1 e
    exact ⟨fun h => (h2 r e).1 ((t1 r).1 h), (own_lt o1 e).1, fun o ho' => by rw [hc] at ho'; cases ho'; rfl⟩)
  have s2 := s1.grown hS g5 (fun r e => (h2 r e).2) t2
  have b2 : Boxed w5 Bw 28 v := blk_otherT b1 o1 g5 (by decide)
  have g6 := grownBy_set w5 Bw 0 v5
  have nT2 : ¬ T w5 Bw := fun h => h1 ((t1 Bw).1 ((t2 Bw).1 h))
  obtain ⟨j3, t3⟩ := hA _ _ _ _ j2 g6 (fun r e => by cases e; exact ⟨nT2, hBw, fun o ho' => by rw [show w5.heap[Bw]? = _ from b2] at ho'; cases ho'; rfl⟩)
  refine ⟨Boxed.cell b2, Boxed.frozen b2, j2, j3, s2.grown hS g6 (fun r e => by cases e; exact hSw) t3, Nat.le_trans hle (Nat.le_trans hXL.le (Nat.le_trans g5.size g6.size)), v5, Boxed.set _ b2, own_offT o5 b2 (by decide), fun h => nT2 ((t3 Bw).1 h), fun g hg => ?_⟩
  have hgT : ¬ T w5 g ∧ ¬ S g := by
    rcases n5 with e | e
    · rw [e] at hg
      exact ⟨fun h => (h2 g hg).1 ((t1 g).1 ((t2 g).1 h)), (h2 g hg).2⟩
    · rw [e] at hg
      cases hg
      refine ⟨fun h => ?_, fun h => ?_⟩
      · have := hTl _ _ ((t2 _).1 h); omega
      · obtain ⟨cs, e', fr, hc⟩ := hS _ h
        have := (Array.getElem?_eq_some_iff.1 hc).1
        have := hXL.le
        omega
  exact ⟨fun h => hgT.1 ((t3 g).1 h), hgT.2⟩
theorem fs_pop (hA : AbideT T B J) (hS : ∀ r, S r → ∃ cs e fr, W1.heap[r]? = some (.cells cs e fr)) (hSw : ¬ S Bw) (hBw : B ≤ Bw) (hJ : J pre X) (hs : Stt T S W1 X) (hle : W1.heap.size ≤ X.heap.size) {g n cap : Nat} (hb : Boxed X Bw 28 (.slice (some ⟨g, 0, none⟩) n cap)) {x : Snd} (ho : OwnK 2 Snd.enc B 24 X (.slice (some ⟨g, 0, none⟩) n cap) (u ++ [x])) (h1 : ¬ T X Bw) (h2 : ¬ T X g ∧ ¬ S g) :
    J pre (X.setCell ⟨Bw, 0, none⟩ (.slice (some ⟨g, 0, none⟩) u.length cap)) ∧ Stt T S W1 (X.setCell ⟨Bw, 0, none⟩ (.slice (some ⟨g, 0, none⟩) u.length cap)) ∧ WB T S W1 B Bw (X.setCell ⟨Bw, 0, none⟩ (.slice (some ⟨g, 0, none⟩) u.length cap)) u := by
  have hn := (own_ge ho).2.2.1
  have g6 := grownBy_set X Bw 0 (.slice (some ⟨g, 0, none⟩) u.length cap)
  obtain ⟨j3, t3⟩ := hA _ _ _ _ hJ g6 (fun r e => by cases e; exact ⟨h1, hBw, fun o ho' => by rw [show X.heap[Bw]? = _ from hb] at ho'; cases ho'; rfl⟩)
  have ho2 := own_take Snd.len ho (m := u.length) (by rw [← hn]; simp)
  rw [List.take_left] at ho2
  exact ⟨j3, hs.grown hS g6 (fun r e => by cases e; exact hSw) t3, Nat.le_trans hle g6.size, _, Boxed.set _ hb, own_offT ho2 hb (by decide), fun h => h1 ((t3 Bw).1 h), fun g' hg => by
    cases hg
    exact ⟨fun h => h2.1 ((t3 g).1 h), h2.2⟩⟩
end
end Go.Proofs.Ytilkemdecenibaa
