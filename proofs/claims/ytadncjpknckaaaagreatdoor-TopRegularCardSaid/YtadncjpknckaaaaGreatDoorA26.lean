/-
  derive: a range over an iterator that may panic; a law loaded and laid in a fence.
-/
import Derived.Test.YtadncjpknckaaaaGreatDoorA25
namespace Go.Proofs.YtadncjpknckaaaaGreatDoor
open Go.RowKit Go.Shelf
section
variable {F : Fence} {n : Nat} {P : Program} {w : World}
theorem wpIn_range_T3 {α : Type} {g : Operand} {ps : Array Tmp} {assign body : Code} {Q : Exit → Act → World → Prop} {a : Act}
    (hro : F.round = none) (h1 : 1 ≤ n) {gf : Nat} {lb : Array Value} (hg : a.eval g = .func (.func gf) #[] lb) (hFg : F.fn gf) (eg : ∀ args w, (callFunc gf args).run P w = .ok (.enter gf args) w)
    (T : World → Nat → Prop) (Nx : List α → α → Array Value → World → Prop) (I : List α → World → Prop) (Ix : Code → List α → World → Prop) (Full : List α → Prop) (Qr : World → Nat → Prop) (Pn : List PanicEntry → List α → Prop)
    (hQr : ∀ X r o, X.heap[r]? = some o → o.isCells = false → Qr X r)
    (hTc : ∀ s X r, I s X → T X r → ∃ o : Obj, X.heap[r]? = some o ∧ o.isCells = true)
    (hI : ∀ s X Y row, I s X → X.grownBy Y row → (∀ r, row = some r → ¬ T X r ∧ w.heap.size ≤ r ∧ Qr X r) → I s Y ∧ ∀ r, T Y r ↔ T X r)
    (hIx : ∀ c s X Y row, Ix c s X → X.grownBy Y row → (∀ r, row = some r → ∃ o : Obj, X.heap[r]? = some o ∧ o.isCells = false) → (∀ r, row = some r → w.heap.size ≤ r) → Ix c s Y)
    (hNx : ∀ s x v X Y row, Nx s x v X → X.grownBy Y row → (∀ r, row = some r → ∃ o : Obj, X.heap[r]? = some o ∧ o.isCells = false) → Nx s x v Y)
    (h0 : I [] w)
    (hiter : ∀ (l : Nat) (J Jx : List α → World → Prop) (W : World), Below w.heap.size w W → J [] W → (∀ s X, J s X → I s X) →
      (∀ s X Y row, J s X → X.grownBy Y row → (∀ r, row = some r → ¬ T X r ∧ W.heap.size ≤ r ∧ Qr X r) → J s Y ∧ ∀ r, T Y r ↔ T X r) →
      (∀ s X Y row, Jx s X → X.grownBy Y row → (∀ r, row = some r → (∃ o : Obj, X.heap[r]? = some o ∧ o.isCells = false) ∧ W.heap.size ≤ r) → Jx s Y) →
      (∀ pre x v X, J pre X → v.size = ps.size → Nx pre x v X → YieldAt F (n - 1 - 1) P l v X fun e Y => KeepsFrom W.heap.size X Y ∧ ((e = .returned (.bool true) ∧ J (pre ++ [x]) Y ∧ KeepT T X Y) ∨ (e = .returned (.bool false) ∧ Jx (pre ++ [x]) Y))) →
      CallsIn F (n - 1) P gf (#[.func (.yield l) #[] #[]] ++ lb) W fun e W' => ((∃ v, e = .returned v) ∧ ((∃ s, Full s ∧ J s W') ∨ ∃ pre, Jx pre W')) ∨ ∃ ch s, e = .panicked ch ∧ Pn ch s ∧ J s W')
    (st : Array Value → Array Value → Array Value)
    (hassign : ∀ (l : Nat) (v : Array Value) (W : World) (K : Act → World → Prop), v.size = ps.size → K { tmps := st v a.tmps, defers := [] } W →
      assign.wpIn (F.inRound l) (n - 1 - 1) P (Exit.then K (fun _ _ _ => False)) { tmps := (ps.zip v).foldl (fun t (p, u) => t.setIfInBounds p u) a.tmps, defers := [] } W)
    (hbody : ∀ (l : Nat) (pre : List α) (x : α) (v : Array Value) (W : World), I pre W → v.size = ps.size → Nx pre x v W → body.wpIn (F.inRound l) (n - 1 - 1) P (roundEndT w.heap.size T I Ix (pre ++ [x]) W) { tmps := st v a.tmps, defers := [] } W)
    (hdone : ∀ (D : Nat) (s : List α) (W : World), w.heap.size ≤ D → Full s → I s W → W.heap[D]? = some (.deferred (some [])) → Q .normal { a with defers := { target := .collected D, args := #[] } :: a.defers } W)
    (hpanic : ∀ (D : Nat) (s : List α) (ch : List PanicEntry) (W : World), w.heap.size ≤ D → Pn ch s → I s W → W.heap[D]? = some (.deferred (some [])) → Q (.panic ch) { a with defers := { target := .collected D, args := #[] } :: a.defers } W)
    (hstop : ∀ (D : Nat) (c : Code) (pre : List α) (W : World), w.heap.size ≤ D → Ix c pre W → W.heap[D]? = some (.deferred (some [])) → c.wpIn F n P Q { a with defers := { target := .collected D, args := #[] } :: a.defers } W) :
    (Code.rangeFunc g ps assign body).wpIn F n P Q a w := by
  refine wpIn_rangeFunc fun fn hfn => ?_
  rw [hro]
  let rc : LoopState → Option Code → Loop := fun st pe => { state := st, pending := pe, fn := fn, tmps := a.tmps, params := ps, assign := assign, body := body, defers := w.heap.size }
  obtain ⟨W1, hW1⟩ : ∃ W1, (w.alloc (.deferred (some []))).alloc (.loop (rc .ready none)) = W1 := ⟨_, rfl⟩
  have he : (Instr.enterLoop fn a.tmps ps assign body none).run P w = .ok (w.heap.size + 1, [{ target := .collected w.heap.size, args := #[] }]) W1 := by
    rw [← hW1]; exact run_enterLoop_outer (P := P) (w := w) fn a.tmps ps assign body
  have hL : W1.heap[w.heap.size + 1]? = some (.loop (rc .ready none)) := by
    rw [← hW1]; have := World.alloc_heap_new (w.alloc (.deferred (some []))) (.loop (rc .ready none)); rwa [World.size_alloc] at this
  have hD : W1.heap[w.heap.size]? = some (.deferred (some [])) := by
    rw [← hW1]; exact (Below.heap_alloc _ _ _ (by simp)).trans (World.alloc_heap_new w _)
  have hBel : Below w.heap.size w W1 := by rw [← hW1]; exact ((Below.refl _ w).alloc (Nat.le_refl _) _).alloc (by simp) _
  have hI1 : I [] W1 := by
    rw [← hW1]
    exact (hI _ _ _ none (hI _ _ _ none h0 (World.grownBy_alloc _ _ _) (fun r e => by cases e)).1 (World.grownBy_alloc _ _ _) (fun r e => by cases e)).1
  have hz1 : W1.heap.size = w.heap.size + 2 := by rw [← hW1]; simp
  clear hW1
  have noT : ∀ {s : List α} {X : World} {o : Obj} {r : Nat}, I s X → X.heap[r]? = some o → o.isCells = false → ¬ T X r := fun hi ho hc ht => by
    obtain ⟨o', h1, h2⟩ := hTc _ _ _ hi ht
    rw [ho] at h1; cases h1; rw [hc] at h2; cases h2
  have turn : ∀ (s : List α) (X : World) (o o' : Obj), I s X → X.heap[w.heap.size + 1]? = some o → o.isCells = false → I s (X.putObj (w.heap.size + 1) o') ∧ ∀ r, T (X.putObj (w.heap.size + 1) o') r ↔ T X r := fun s X o o' hs ho hc =>
    hI s X _ (some (w.heap.size + 1)) hs (grownBy_putObj' X _ o') (fun r e => by cases e; exact ⟨noT hs ho hc, by omega, hQr _ _ _ ho hc⟩)
  have keep : ∀ (s : List α) (X : World) (o o' : Obj), I s X → X.heap[w.heap.size + 1]? = some o → o.isCells = false → KeepT T X (X.putObj (w.heap.size + 1) o') := fun s X o o' hs ho hc =>
    ⟨(grownBy_putObj' X _ o').size, fun r q h1 h2 _ => by
      rw [World.putObj_heap_other (fun e => by subst e; rw [ho] at h1; cases h1; rw [hc] at h2; cases h2)]; exact h1, fun r h => .inl (((turn s X o o' hs ho hc).2 r).1 h)⟩
  refine ⟨w.heap.size + 1, [{ target := .collected w.heap.size, args := #[] }], W1, { target := .fn (.func gf) lb, args := #[.func (.yield (w.heap.size + 1)) #[] #[]] }, W1, gf,
    #[.func (.yield (w.heap.size + 1)) #[] #[]] ++ lb, W1, he, ?_, ?_, ?_, fun _ => h1, ?_⟩
  · simp only [resolve, hg]
    simp [go_sem]
  · intro f' hf'; simp [Target.leads] at hf'; subst hf'; exact hFg
  · simp [invoke, go_sem, eg]
  · refine (hiter (w.heap.size + 1) (fun s X => I s X ∧ X.heap[w.heap.size + 1]? = some (.loop (rc .ready none)) ∧ X.heap[w.heap.size]? = some (.deferred (some [])))
      (fun s X => ∃ c, Ix c s X ∧ X.heap[w.heap.size + 1]? = some (.loop (rc .done (some c))) ∧ X.heap[w.heap.size]? = some (.deferred (some [])))
      W1 hBel ⟨hI1, hL, hD⟩ (fun s X hs => hs.1) (fun s X Y row hs hg' hr => ?_) (fun s X Y row hs hg' hr => ?_) ?_).mono ?_
    · obtain ⟨h2, h3⟩ := hI s X Y row hs.1 hg' (fun r e => ⟨(hr r e).1, by have := (hr r e).2.1; omega, (hr r e).2.2⟩)
      refine ⟨⟨h2, (hg'.block _ (Array.getElem?_eq_some_iff.1 hs.2.1).1 fun e => ?_).trans hs.2.1, (hg'.block _ (Array.getElem?_eq_some_iff.1 hs.2.2).1 fun e => ?_).trans hs.2.2⟩, h3⟩
      · have := (hr _ e.symm).2.1; omega
      · have := (hr _ e.symm).2.1; omega
    · obtain ⟨c, h2, h3, h4⟩ := hs
      refine ⟨c, hIx _ _ _ _ _ h2 hg' (fun r e => (hr r e).1) (fun r e => by have := (hr r e).2; omega), (hg'.block _ (Array.getElem?_eq_some_iff.1 h3).1 fun e => ?_).trans h3, (hg'.block _ (Array.getElem?_eq_some_iff.1 h4).1 fun e => ?_).trans h4⟩
      · have := (hr _ e.symm).2; omega
      · have := (hr _ e.symm).2; omega
    · rintro pre x v X ⟨hi, hl, hk⟩ hv hlen
      refine ⟨fn, _, assign, body, run_yield (P := P) (args := v) hl hv, roundIn_of_wpIn hfn (hassign _ v X _ hv ?_)⟩
      refine ⟨_, run_beginRound hl rfl, ?_⟩
      have hlt : w.heap.size + 1 < X.heap.size := (Array.getElem?_eq_some_iff.1 hl).1
      have hl2 : (X.putObj (w.heap.size + 1) (.loop { rc .ready none with state := .busy })).heap[w.heap.size + 1]? = some (.loop { rc .ready none with state := .busy }) := World.putObj_heap_same hlt
      have hk2 : (X.putObj (w.heap.size + 1) (.loop { rc .ready none with state := .busy })).heap[w.heap.size]? = some (.deferred (some [])) := (World.putObj_heap_other (by omega)).trans hk
      have kf : ∀ (X3 : World) (o' : Obj), KeepsFrom w.heap.size (X.putObj (w.heap.size + 1) (.loop { rc .ready none with state := .busy })) X3 → KeepsFrom W1.heap.size X (X3.putObj (w.heap.size + 1) o') := fun X3 o' hk => by
        refine ⟨Nat.le_trans (grownBy_putObj' X _ _).size (Nat.le_trans hk.size (grownBy_putObj' X3 _ _).size), fun k o hB hk' hc => ?_⟩
        rw [World.putObj_heap_other (by omega)]
        refine hk.same k o (by omega) ?_ hc
        rw [World.putObj_heap_other (by omega)]; exact hk'
      refine wpIn_mono (hbody _ pre x v _ (turn _ _ _ _ hi hl rfl).1 hv (hNx _ _ _ _ _ _ hlen (grownBy_putObj' X _ _) (fun r e => by cases e; exact ⟨_, hl, rfl⟩))) ?_
      rintro e a3 X3 hp
      cases e with
      | normal =>
        obtain ⟨hk3, hs3, hi3⟩ := hp
        have hl3 := hk3.same _ _ (by omega) hl2 rfl
        have hd3 := hk3.same _ _ (Nat.le_refl _) hk2 rfl
        refine ⟨_, _, run_endRound (P := P) none hl3, kf _ _ hk3, .inl ⟨rfl, ⟨(turn _ _ _ _ hi3 hl3 rfl).1, World.putObj_heap_same (Array.getElem?_eq_some_iff.1 hl3).1, (World.putObj_heap_other (by omega)).trans hd3⟩, ?_⟩⟩
        exact ((keep _ X _ _ hi hl rfl).trans hs3).trans (keep _ X3 _ _ hi3 hl3 rfl)
      | ret =>
        obtain ⟨hk3, hi3⟩ := hp
        have hl3 := hk3.same _ _ (by omega) hl2 rfl
        have hd3 := hk3.same _ _ (Nat.le_refl _) hk2 rfl
        exact ⟨_, _, run_endRound (P := P) (some .ret) hl3, kf _ _ hk3, .inr ⟨rfl, .ret, hIx _ _ _ _ _ hi3 (grownBy_putObj' X3 _ _) (fun r e => by cases e; exact ⟨_, hl3, rfl⟩) (fun r e => by cases e; omega), World.putObj_heap_same (Array.getElem?_eq_some_iff.1 hl3).1, (World.putObj_heap_other (by omega)).trans hd3⟩⟩
      | exit id =>
        obtain ⟨hk3, hi3⟩ := hp
        have hl3 := hk3.same _ _ (by omega) hl2 rfl
        have hd3 := hk3.same _ _ (Nat.le_refl _) hk2 rfl
        exact ⟨_, _, run_endRound (P := P) (some (.exit id)) hl3, kf _ _ hk3, .inr ⟨rfl, .exit id, hIx _ _ _ _ _ hi3 (grownBy_putObj' X3 _ _) (fun r e => by cases e; exact ⟨_, hl3, rfl⟩) (fun r e => by cases e; omega), World.putObj_heap_same (Array.getElem?_eq_some_iff.1 hl3).1, (World.putObj_heap_other (by omega)).trans hd3⟩⟩
      | goto t => exact hp.elim
      | panic ch => exact hp.elim
      | outgrown => exact hp.elim
    · rintro e W2 (⟨⟨v, rfl⟩, (⟨s, hf, hi, hl, hk⟩ | ⟨pre, c, hi, hl, hk⟩)⟩ | ⟨ch, s, rfl, hp, hi, hl, hk⟩)
      · exact ⟨none, _, run_endLoop (P := P) hl (by simp [rc]), hdone _ s _ (Nat.le_refl _) hf (turn _ _ _ _ hi hl rfl).1 ((World.putObj_heap_other (by omega)).trans hk)⟩
      · exact ⟨some c, _, run_endLoop (P := P) hl (by simp [rc]), hstop _ c pre _ (Nat.le_refl _) (hIx _ _ _ _ _ hi (grownBy_putObj' W2 _ _) (fun r e => by cases e; exact ⟨_, hl, rfl⟩) (fun r e => by cases e; omega)) ((World.putObj_heap_other (by omega)).trans hk)⟩
      · exact hpanic _ s ch W2 (Nat.le_refl _) hp hi hk
variable {F : Fence} {n : Nat} {P : Program} {w : World}
theorem wpIn_range_T4 {α : Type} {g : Operand} {ps : Array Tmp} {assign body : Code} {Q : Exit → Act → World → Prop} {a : Act}
    (hro : F.round = none) (h1 : 1 ≤ n) {gf : Nat} {lb : Array Value} (hg : a.eval g = .func (.func gf) #[] lb) (hFg : F.fn gf) (eg : ∀ args w, (callFunc gf args).run P w = .ok (.enter gf args) w)
    (T : World → Nat → Prop) (Nx : List α → α → Array Value → World → Prop) (I : List α → World → Prop) (Ix : Code → List α → World → Prop) (Full : List α → Prop) (Qr : World → Nat → Prop) (Pn : List PanicEntry → List α → Prop) (I2 : List α → α → World → Prop)
    (hQr : ∀ X r o, X.heap[r]? = some o → o.isCells = false → Qr X r)
    (hTc : ∀ s X r, I s X → T X r → ∃ o : Obj, X.heap[r]? = some o ∧ o.isCells = true)
    (hI : ∀ s X Y row, I s X → X.grownBy Y row → (∀ r, row = some r → ¬ T X r ∧ w.heap.size ≤ r ∧ Qr X r) → I s Y ∧ ∀ r, T Y r ↔ T X r)
    (hIx : ∀ c s X Y row, Ix c s X → X.grownBy Y row → (∀ r, row = some r → ∃ o : Obj, X.heap[r]? = some o ∧ o.isCells = false) → (∀ r, row = some r → w.heap.size ≤ r) → Ix c s Y)
    (hI2 : ∀ pre x X Y row, I2 pre x X → X.grownBy Y row → (∀ r, row = some r → (∃ o : Obj, X.heap[r]? = some o ∧ o.isCells = false) ∧ w.heap.size ≤ r) → I2 pre x Y ∧ ∀ r, T Y r ↔ T X r)
    (h0 : I [] w)
    (hiter : ∀ (l : Nat) (J Jx : List α → World → Prop) (W : World), Below w.heap.size w W → J [] W → (∀ s X, J s X → I s X) →
      (∀ s X Y row, J s X → X.grownBy Y row → (∀ r, row = some r → ¬ T X r ∧ W.heap.size ≤ r ∧ Qr X r) → J s Y ∧ ∀ r, T Y r ↔ T X r) →
      (∀ s X Y row, Jx s X → X.grownBy Y row → (∀ r, row = some r → (∃ o : Obj, X.heap[r]? = some o ∧ o.isCells = false) ∧ W.heap.size ≤ r) → Jx s Y) →
      (∀ pre x v X, J pre X → v.size = ps.size → Nx pre x v X → YieldAt F (n - 1 - 1) P l v X fun e Y => KeepsFrom W.heap.size X Y ∧ ((e = .returned (.bool true) ∧ J (pre ++ [x]) Y ∧ KeepT T X Y) ∨ (e = .returned (.bool false) ∧ Jx (pre ++ [x]) Y))) →
      CallsIn F (n - 1) P gf (#[.func (.yield l) #[] #[]] ++ lb) W fun e W' => ((∃ v, e = .returned v) ∧ ((∃ s, Full s ∧ J s W') ∨ ∃ pre, Jx pre W')) ∨ ∃ ch s, e = .panicked ch ∧ Pn ch s ∧ J s W')
    (st : Array Value → Array Value → Array Value)
    (hassign : ∀ (l : Nat) (pre : List α) (x : α) (v : Array Value) (W : World) (K : Act → World → Prop), I pre W → v.size = ps.size → Nx pre x v W → (∀ W1, KeepsFrom w.heap.size W W1 → KeepT T W W1 → I2 pre x W1 → K { tmps := st v a.tmps, defers := [] } W1) →
      assign.wpIn (F.inRound l) (n - 1 - 1) P (Exit.then K (fun _ _ _ => False)) { tmps := (ps.zip v).foldl (fun t (p, u) => t.setIfInBounds p u) a.tmps, defers := [] } W)
    (hbody : ∀ (l : Nat) (pre : List α) (x : α) (v : Array Value) (W : World), I2 pre x W → v.size = ps.size → body.wpIn (F.inRound l) (n - 1 - 1) P (roundEndT w.heap.size T I Ix (pre ++ [x]) W) { tmps := st v a.tmps, defers := [] } W)
    (hdone : ∀ (D : Nat) (s : List α) (W : World), w.heap.size ≤ D → Full s → I s W → W.heap[D]? = some (.deferred (some [])) → Q .normal { a with defers := { target := .collected D, args := #[] } :: a.defers } W)
    (hpanic : ∀ (D : Nat) (s : List α) (ch : List PanicEntry) (W : World), w.heap.size ≤ D → Pn ch s → I s W → W.heap[D]? = some (.deferred (some [])) → Q (.panic ch) { a with defers := { target := .collected D, args := #[] } :: a.defers } W)
    (hstop : ∀ (D : Nat) (c : Code) (pre : List α) (W : World), w.heap.size ≤ D → Ix c pre W → W.heap[D]? = some (.deferred (some [])) → c.wpIn F n P Q { a with defers := { target := .collected D, args := #[] } :: a.defers } W) :
    (Code.rangeFunc g ps assign body).wpIn F n P Q a w := by
  refine wpIn_rangeFunc fun fn hfn => ?_
  rw [hro]
  let rc : LoopState → Option Code → Loop := fun st pe => { state := st, pending := pe, fn := fn, tmps := a.tmps, params := ps, assign := assign, body := body, defers := w.heap.size }
  obtain ⟨W1, hW1⟩ : ∃ W1, (w.alloc (.deferred (some []))).alloc (.loop (rc .ready none)) = W1 := ⟨_, rfl⟩
  have he : (Instr.enterLoop fn a.tmps ps assign body none).run P w = .ok (w.heap.size + 1, [{ target := .collected w.heap.size, args := #[] }]) W1 := by
    rw [← hW1]; exact run_enterLoop_outer (P := P) (w := w) fn a.tmps ps assign body
  have hL : W1.heap[w.heap.size + 1]? = some (.loop (rc .ready none)) := by
    rw [← hW1]; have := World.alloc_heap_new (w.alloc (.deferred (some []))) (.loop (rc .ready none)); rwa [World.size_alloc] at this
  have hD : W1.heap[w.heap.size]? = some (.deferred (some [])) := by
    rw [← hW1]; exact (Below.heap_alloc _ _ _ (by simp)).trans (World.alloc_heap_new w _)
  have hBel : Below w.heap.size w W1 := by rw [← hW1]; exact ((Below.refl _ w).alloc (Nat.le_refl _) _).alloc (by simp) _
  have hI1 : I [] W1 := by
    rw [← hW1]
    exact (hI _ _ _ none (hI _ _ _ none h0 (World.grownBy_alloc _ _ _) (fun r e => by cases e)).1 (World.grownBy_alloc _ _ _) (fun r e => by cases e)).1
  have hz1 : W1.heap.size = w.heap.size + 2 := by rw [← hW1]; simp
  clear hW1
  have noT : ∀ {s : List α} {X : World} {o : Obj} {r : Nat}, I s X → X.heap[r]? = some o → o.isCells = false → ¬ T X r := fun hi ho hc ht => by
    obtain ⟨o', h1, h2⟩ := hTc _ _ _ hi ht
    rw [ho] at h1; cases h1; rw [hc] at h2; cases h2
  have turn : ∀ (s : List α) (X : World) (o o' : Obj), I s X → X.heap[w.heap.size + 1]? = some o → o.isCells = false → I s (X.putObj (w.heap.size + 1) o') ∧ ∀ r, T (X.putObj (w.heap.size + 1) o') r ↔ T X r := fun s X o o' hs ho hc =>
    hI s X _ (some (w.heap.size + 1)) hs (grownBy_putObj' X _ o') (fun r e => by cases e; exact ⟨noT hs ho hc, by omega, hQr _ _ _ ho hc⟩)
  have keep : ∀ (s : List α) (X : World) (o o' : Obj), I s X → X.heap[w.heap.size + 1]? = some o → o.isCells = false → KeepT T X (X.putObj (w.heap.size + 1) o') := fun s X o o' hs ho hc =>
    ⟨(grownBy_putObj' X _ o').size, fun r q h1 h2 _ => by
      rw [World.putObj_heap_other (fun e => by subst e; rw [ho] at h1; cases h1; rw [hc] at h2; cases h2)]; exact h1, fun r h => .inl (((turn s X o o' hs ho hc).2 r).1 h)⟩
  refine ⟨w.heap.size + 1, [{ target := .collected w.heap.size, args := #[] }], W1, { target := .fn (.func gf) lb, args := #[.func (.yield (w.heap.size + 1)) #[] #[]] }, W1, gf,
    #[.func (.yield (w.heap.size + 1)) #[] #[]] ++ lb, W1, he, ?_, ?_, ?_, fun _ => h1, ?_⟩
  · simp only [resolve, hg]
    simp [go_sem]
  · intro f' hf'; simp [Target.leads] at hf'; subst hf'; exact hFg
  · simp [invoke, go_sem, eg]
  · refine (hiter (w.heap.size + 1) (fun s X => I s X ∧ X.heap[w.heap.size + 1]? = some (.loop (rc .ready none)) ∧ X.heap[w.heap.size]? = some (.deferred (some [])))
      (fun s X => ∃ c, Ix c s X ∧ X.heap[w.heap.size + 1]? = some (.loop (rc .done (some c))) ∧ X.heap[w.heap.size]? = some (.deferred (some [])))
      W1 hBel ⟨hI1, hL, hD⟩ (fun s X hs => hs.1) (fun s X Y row hs hg' hr => ?_) (fun s X Y row hs hg' hr => ?_) ?_).mono ?_
    · obtain ⟨h2, h3⟩ := hI s X Y row hs.1 hg' (fun r e => ⟨(hr r e).1, by have := (hr r e).2.1; omega, (hr r e).2.2⟩)
      refine ⟨⟨h2, (hg'.block _ (Array.getElem?_eq_some_iff.1 hs.2.1).1 fun e => ?_).trans hs.2.1, (hg'.block _ (Array.getElem?_eq_some_iff.1 hs.2.2).1 fun e => ?_).trans hs.2.2⟩, h3⟩
      · have := (hr _ e.symm).2.1; omega
      · have := (hr _ e.symm).2.1; omega
    · obtain ⟨c, h2, h3, h4⟩ := hs
      refine ⟨c, hIx _ _ _ _ _ h2 hg' (fun r e => (hr r e).1) (fun r e => by have := (hr r e).2; omega), (hg'.block _ (Array.getElem?_eq_some_iff.1 h3).1 fun e => ?_).trans h3, (hg'.block _ (Array.getElem?_eq_some_iff.1 h4).1 fun e => ?_).trans h4⟩
      · have := (hr _ e.symm).2; omega
      · have := (hr _ e.symm).2; omega
    · rintro pre x v X ⟨hi, hl, hk⟩ hv hlen
      refine ⟨fn, _, assign, body, run_yield (P := P) (args := v) hl hv, roundIn_of_wpIn hfn (hassign _ pre x v X _ hi hv hlen fun Xa hka hta hia => ?_)⟩
      have hla := hka.same _ _ (by omega) hl rfl
      have hda := hka.same _ _ (Nat.le_refl _) hk rfl
      refine ⟨_, run_beginRound hla rfl, ?_⟩
      have hlt : w.heap.size + 1 < Xa.heap.size := (Array.getElem?_eq_some_iff.1 hla).1
      have hl2 : (Xa.putObj (w.heap.size + 1) (.loop { rc .ready none with state := .busy })).heap[w.heap.size + 1]? = some (.loop { rc .ready none with state := .busy }) := World.putObj_heap_same hlt
      have hk2 : (Xa.putObj (w.heap.size + 1) (.loop { rc .ready none with state := .busy })).heap[w.heap.size]? = some (.deferred (some [])) := (World.putObj_heap_other (by omega)).trans hda
      obtain ⟨hib, htb⟩ := hI2 _ _ _ _ _ hia (grownBy_putObj' Xa (w.heap.size + 1) (.loop { rc .ready none with state := .busy })) (fun r e => by cases e; exact ⟨⟨_, hla, rfl⟩, by omega⟩)
      have kb : KeepT T X (Xa.putObj (w.heap.size + 1) (.loop { rc .ready none with state := .busy })) := hta.trans ⟨(grownBy_putObj' Xa _ _).size, fun r q h1 h2 _ => by
        rw [World.putObj_heap_other (fun e => by subst e; rw [hla] at h1; cases h1; cases h2)]; exact h1, fun r h => .inl ((htb r).1 h)⟩
      have kf : ∀ (X3 : World) (o' : Obj), KeepsFrom w.heap.size (Xa.putObj (w.heap.size + 1) (.loop { rc .ready none with state := .busy })) X3 → KeepsFrom W1.heap.size X (X3.putObj (w.heap.size + 1) o') := fun X3 o' hk => by
        refine ⟨Nat.le_trans hka.size (Nat.le_trans (grownBy_putObj' Xa _ _).size (Nat.le_trans hk.size (grownBy_putObj' X3 _ _).size)), fun k o hB hk' hc => ?_⟩
        rw [World.putObj_heap_other (by omega)]
        refine hk.same k o (by omega) ?_ hc
        rw [World.putObj_heap_other (by omega)]; exact hka.same k o (by omega) hk' hc
      refine wpIn_mono (hbody _ pre x v _ hib hv) ?_
      rintro e a3 X3 hp
      cases e with
      | normal =>
        obtain ⟨hk3, hs3, hi3⟩ := hp
        have hl3 := hk3.same _ _ (by omega) hl2 rfl
        have hd3 := hk3.same _ _ (Nat.le_refl _) hk2 rfl
        refine ⟨_, _, run_endRound (P := P) none hl3, kf _ _ hk3, .inl ⟨rfl, ⟨(turn _ _ _ _ hi3 hl3 rfl).1, World.putObj_heap_same (Array.getElem?_eq_some_iff.1 hl3).1, (World.putObj_heap_other (by omega)).trans hd3⟩, ?_⟩⟩
        exact (kb.trans hs3).trans (keep _ X3 _ _ hi3 hl3 rfl)
      | ret =>
        obtain ⟨hk3, hi3⟩ := hp
        have hl3 := hk3.same _ _ (by omega) hl2 rfl
        have hd3 := hk3.same _ _ (Nat.le_refl _) hk2 rfl
        exact ⟨_, _, run_endRound (P := P) (some .ret) hl3, kf _ _ hk3, .inr ⟨rfl, .ret, hIx _ _ _ _ _ hi3 (grownBy_putObj' X3 _ _) (fun r e => by cases e; exact ⟨_, hl3, rfl⟩) (fun r e => by cases e; omega), World.putObj_heap_same (Array.getElem?_eq_some_iff.1 hl3).1, (World.putObj_heap_other (by omega)).trans hd3⟩⟩
      | exit id =>
        obtain ⟨hk3, hi3⟩ := hp
        have hl3 := hk3.same _ _ (by omega) hl2 rfl
        have hd3 := hk3.same _ _ (Nat.le_refl _) hk2 rfl
        exact ⟨_, _, run_endRound (P := P) (some (.exit id)) hl3, kf _ _ hk3, .inr ⟨rfl, .exit id, hIx _ _ _ _ _ hi3 (grownBy_putObj' X3 _ _) (fun r e => by cases e; exact ⟨_, hl3, rfl⟩) (fun r e => by cases e; omega), World.putObj_heap_same (Array.getElem?_eq_some_iff.1 hl3).1, (World.putObj_heap_other (by omega)).trans hd3⟩⟩
      | goto t => exact hp.elim
      | panic ch => exact hp.elim
      | outgrown => exact hp.elim
    · rintro e W2 (⟨⟨v, rfl⟩, (⟨s, hf, hi, hl, hk⟩ | ⟨pre, c, hi, hl, hk⟩)⟩ | ⟨ch, s, rfl, hp, hi, hl, hk⟩)
      · exact ⟨none, _, run_endLoop (P := P) hl (by simp [rc]), hdone _ s _ (Nat.le_refl _) hf (turn _ _ _ _ hi hl rfl).1 ((World.putObj_heap_other (by omega)).trans hk)⟩
      · exact ⟨some c, _, run_endLoop (P := P) hl (by simp [rc]), hstop _ c pre _ (Nat.le_refl _) (hIx _ _ _ _ _ hi (grownBy_putObj' W2 _ _) (fun r e => by cases e; exact ⟨_, hl, rfl⟩) (fun r e => by cases e; omega)) ((World.putObj_heap_other (by omega)).trans hk)⟩
      · exact hpanic _ s ch W2 (Nat.le_refl _) hp hi hk
end
/-- The marks are taken while a panic goes through. -/
theorem leaves_marksP {F : Fence} {n : Nat} {P : Program} {fn : Func} {tmps : Array Value} {R : Ending → World → Prop} (S : World → Prop) (ch : List PanicEntry) : ∀ (Ds : List Nat) (w : World), Ds.Nodup → (∀ D ∈ Ds, w.heap[D]? = some (.deferred (some []))) → S w →
    (∀ (W : World) (D : Nat) (o : Obj), S W → D ∈ Ds → W.heap[D]? = some (.deferred (some [])) → S (W.putObj D o)) →
    (∀ w', S w' → R (.panicked ch) w') → LeavesInM F n P fn tmps R (Ds.map markD) (.panicking ch) w
  | [], w, _, _, hs, _, h => h w hs
  | D :: Ds, w, hn, hD, hs, hst, h => by
    have h2 := hD D List.mem_cons_self
    rw [List.nodup_cons] at hn
    refine ⟨by simp, .inl ⟨D, _, rfl, run_takeDeferred h2, leaves_marksP S ch Ds _ hn.2 (fun E hE => ?_) (hst _ _ _ hs List.mem_cons_self h2) (fun W E o h1 h2 h3 => hst W E o h1 (List.mem_cons_of_mem _ h2) h3) h⟩⟩
    have := hD E (List.mem_cons_of_mem _ hE)
    rw [World.putObj_heap_other (fun e => hn.1 (by subst e; exact hE))]
    exact this
theorem enc_one (L : HL) : (#[.string L.name, .int .i64 L.left.kind, .int .u32 L.left.is.p.toNat, .int .u32 L.left.is.m.toNat, .bool L.left.neg, .int .i64 L.left.mn, .int .i64 L.left.mx, .slice L.left.a L.left.n L.left.cap, .int .i64 L.right.kind, .int .u32 L.right.is.p.toNat, .int .u32 L.right.is.m.toNat, .bool L.right.neg, .int .i64 L.right.mn, .int .i64 L.right.mx, .slice L.right.a L.right.n L.right.cap, .slice L.ia L.ifs.length L.icap, .slice L.oa L.outs.length L.ocap, .int .i64 L.mode] : Array Value).all (·.oneCell') = true := by simp [Value.oneCell']
theorem wp_store_law_new {o : Oper} {a : Act} {W : World} {K : Act → World → Prop} {Q : Exit → Act → World → Prop} (L : HL) (x y : Operand) (ho : o.op = .store 58 x y) (hx : a.eval x = .pointer (some ⟨W.heap.size, 0, none⟩)) (hy : a.eval y = lawV L) (old : Array Value) (hold : old.size = 18)
    (h : K (a.put o.dst undef) (W.alloc (.cells #[.string L.name, .int .i64 L.left.kind, .int .u32 L.left.is.p.toNat, .int .u32 L.left.is.m.toNat, .bool L.left.neg, .int .i64 L.left.mn, .int .i64 L.left.mx, .slice L.left.a L.left.n L.left.cap, .int .i64 L.right.kind, .int .u32 L.right.is.p.toNat, .int .u32 L.right.is.m.toNat, .bool L.right.neg, .int .i64 L.right.mn, .int .i64 L.right.mx, .slice L.right.a L.right.n L.right.cap, .slice L.ia L.ifs.length L.icap, .slice L.oa L.outs.length L.ocap, .int .i64 L.mode] 58))) : o.wp Tryz.prog a (W.alloc (.cells old 58)) K Q := by
  refine wp_store_row 58 x y ho W.heap.size #[.string L.name, .int .i64 L.left.kind, .int .u32 L.left.is.p.toNat, .int .u32 L.left.is.m.toNat, .bool L.left.neg, .int .i64 L.left.mn, .int .i64 L.left.mx, .slice L.left.a L.left.n L.left.cap, .int .i64 L.right.kind, .int .u32 L.right.is.p.toNat, .int .u32 L.right.is.m.toNat, .bool L.right.neg, .int .i64 L.right.mn, .int .i64 L.right.mx, .slice L.right.a L.right.n L.right.cap, .slice L.ia L.ifs.length L.icap, .slice L.oa L.outs.length L.ocap, .int .i64 L.mode] hx hy 58 old (World.alloc_heap_new _ _) (by kernel_rfl) hold (enc_one L) ?_
  rw [World.setRow_alloc_new]
  exact h
theorem wp_load_law {o : Oper} {a : Act} {w : World} {K : Act → World → Prop} {Q : Exit → Act → World → Prop} (L : HL) (x : Operand) (ho : o.op = .load 58 x) (b p : Nat) (hx : a.eval x = .pointer (some ⟨b, p, none⟩)) (hc : w.rangeAt b p L.enc) (h : K (a.put o.dst (lawV L)) w) : o.wp Tryz.prog a w K Q :=
  wp_load_mid 58 x ho b p hx L.enc _ hc Tryz.underlying58 rfl (by rw [HL.len]; kernel_rfl) h
end Go.Proofs.YtadncjpknckaaaaGreatDoor
