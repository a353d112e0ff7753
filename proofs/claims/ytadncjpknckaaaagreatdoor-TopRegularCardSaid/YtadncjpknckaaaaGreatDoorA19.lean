/-
  A range over an iterator that makes memory of its own between two rounds: the body touches only what T names, all other cells stand; the body may return (turned from my text of chapter 07).
-/
import Derived.Test.YtadncjpknckaaaaGreatDoorA18
import Derived.Scope
namespace Go.Proofs.YtadncjpknckaaaaGreatDoor
open Go.RowKit Go.Shelf
/-- All cells that T does not name stand; T grows by what is new. -/
structure KeepT (T : World → Nat → Prop) (X Y : World) : Prop where
  le : X.heap.size ≤ Y.heap.size
  same : ∀ r o, X.heap[r]? = some o → o.isCells = true → ¬ T X r → Y.heap[r]? = some o
  new : ∀ r, T Y r → T X r ∨ X.heap.size ≤ r
theorem KeepT.refl (T : World → Nat → Prop) (X : World) : KeepT T X X := ⟨Nat.le_refl _, fun _ _ h _ _ => h, fun _ h => .inl h⟩
theorem KeepT.trans {T : World → Nat → Prop} {X Y Z : World} (h : KeepT T X Y) (k : KeepT T Y Z) : KeepT T X Z :=
  ⟨Nat.le_trans h.le k.le, fun r o h1 h2 h3 => k.same r o (h.same r o h1 h2 h3) h2 fun h4 => by
    rcases h.new r h4 with h5 | h5
    · exact h3 h5
    · have := (Array.getElem?_eq_some_iff.1 h1).1; omega, fun r h1 => by
    rcases k.new r h1 with h2 | h2
    · exact h.new r h2
    · exact .inr (Nat.le_trans h.le h2)⟩
/-- How a round's body is left. -/
def roundEndT {α : Type} (B : Nat) (T : World → Nat → Prop) (I : List α → World → Prop) (Ix : Code → List α → World → Prop) (ys : List α) (W : World) : Exit → Act → World → Prop
  | .normal, _, W' => KeepsFrom B W W' ∧ KeepT T W W' ∧ I ys W'
  | .exit i, _, W' => KeepsFrom B W W' ∧ Ix (.exit i) ys W'
  | .ret, _, W' => KeepsFrom B W W' ∧ Ix .ret ys W'
  | _, _, _ => False
variable {F : Fence} {n : Nat} {P : Program} {w : World}
theorem wpIn_range_T2 {α : Type} {g : Operand} {ps : Array Tmp} {assign body : Code} {Q : Exit → Act → World → Prop} {a : Act}
    (hro : F.round = none) (h1 : 1 ≤ n) {gf : Nat} {lb : Array Value} (hg : a.eval g = .func (.func gf) #[] lb) (hFg : F.fn gf) (eg : ∀ args w, (callFunc gf args).run P w = .ok (.enter gf args) w)
    (T : World → Nat → Prop) (Nx : List α → α → Array Value → World → Prop) (I : List α → World → Prop) (Ix : Code → List α → World → Prop) (Full : List α → Prop) (Qr : World → Nat → Prop)
    (hQr : ∀ X r o, X.heap[r]? = some o → o.isCells = false → Qr X r)
    (hTc : ∀ s X r, I s X → T X r → ∃ o : Obj, X.heap[r]? = some o ∧ o.isCells = true)
    (hI : ∀ s X Y row, I s X → X.grownBy Y row → (∀ r, row = some r → ¬ T X r ∧ w.heap.size ≤ r ∧ Qr X r) → I s Y ∧ ∀ r, T Y r ↔ T X r)
    (hIx : ∀ c s X Y row, Ix c s X → X.grownBy Y row → (∀ r, row = some r → ∃ o : Obj, X.heap[r]? = some o ∧ o.isCells = false) → (∀ r, row = some r → w.heap.size ≤ r) → Ix c s Y)
    (hNx : ∀ s x v X Y row, Nx s x v X → X.grownBy Y row → (∀ r, row = some r → ∃ o : Obj, X.heap[r]? = some o ∧ o.isCells = false) → Nx s x v Y)
    (h0 : I [] w)
    (hiter : ∀ (l : Nat) (J Jx : List α → World → Prop) (W : World), Below w.heap.size w W → J [] W → (∀ s X, J s X → I s X) →
      (∀ s X Y row, J s X → X.grownBy Y row → (∀ r, row = some r → ¬ T X r ∧ W.heap.size ≤ r ∧ Qr X r) → J s Y ∧ ∀ r, T Y r ↔ T X r) →
      (∀ s X Y row, Jx s X → X.grownBy Y row → (∀ r, row = some r → (∃ o : Obj, X.heap[r]? = some o ∧ o.isCells = false) ∧ W.heap.size ≤ r) → Jx s Y) →
      (∀ pre x v X, J pre X → v.size = ps.size → Nx pre x v X → YieldAt F (n - 1 - 1) P l v X fun e Y => KeepsFrom W.heap.size X Y ∧ ((e = .returned (.bool true) ∧ J (pre ++ [x]) Y ∧ KeepT T X Y) ∨ (e = .returned (.bool false) ∧ Jx (pre ++ [x]) Y))) →
      CallsIn F (n - 1) P gf (#[.func (.yield l) #[] #[]] ++ lb) W fun e W' => (∃ v, e = .returned v) ∧ ((∃ s, Full s ∧ J s W') ∨ ∃ pre, Jx pre W'))
    (st : Array Value → Array Value → Array Value)
    (hassign : ∀ (l : Nat) (v : Array Value) (W : World) (K : Act → World → Prop), v.size = ps.size → K { tmps := st v a.tmps, defers := [] } W →
      assign.wpIn (F.inRound l) (n - 1 - 1) P (Exit.then K (fun _ _ _ => False)) { tmps := (ps.zip v).foldl (fun t (p, u) => t.setIfInBounds p u) a.tmps, defers := [] } W)
    (hbody : ∀ (l : Nat) (pre : List α) (x : α) (v : Array Value) (W : World), I pre W → v.size = ps.size → Nx pre x v W → body.wpIn (F.inRound l) (n - 1 - 1) P (roundEndT w.heap.size T I Ix (pre ++ [x]) W) { tmps := st v a.tmps, defers := [] } W)
    (hdone : ∀ (D : Nat) (s : List α) (W : World), w.heap.size ≤ D → Full s → I s W → W.heap[D]? = some (.deferred (some [])) → Q .normal { a with defers := { target := .collected D, args := #[] } :: a.defers } W)
    (hstop : ∀ (D : Nat) (c : Code) (pre : List α) (W : World), w.heap.size ≤ D → Ix c pre W → W.heap[D]? = some (.deferred (some [])) → c.wpIn F n P Q { a with defers := { target := .collected D, args := #[] } :: a.defers } W) :
    (Code.rangeFunc g ps assign body).wpIn F n P Q a w := by
  refine wpIn_rangeFunc fun fn hfn => ?_
  rw [hro]
  let rc : LoopState → Option Code → Loop := fun st pe => { state := st, pending := pe, fn := fn, tmps := a.tmps, params := ps, assign := assign, body := body, defers := w.heap.size }
  obtain ⟨W1, hW1⟩ : ∃ W1, (w.alloc (.deferred (some []))).alloc (.loop (rc .ready none)) = W1 := ⟨_, rfl⟩
  have he : (Instr.enterLoop fn a.tmps ps assign body none).run P w = .ok (w.heap.size + 1, [{ target := .collected w.heap.size, args := #[] }]) W1 := by
    rw [← hW1]; exact run_enterLoop_outer (P := P) (w := w) fn a.tmps ps assign body
  have hL : W1.heap[w.heap.size + 1]? = some (.loop (rc .ready none)) := by
    rw [← hW1]; have := World.alloc_heap_new (w.alloc (.deferred (some []))) (.loop (rc .ready none)); rwa [World.size_alloc] at this
  have hD : W1.heap[w.heap.size]? = some (.deferred (some [])) := by
    rw [← hW1]; exact (Below.heap_alloc _ _ _ (by simp)).trans (World.alloc_heap_new w _)
  have hBel : Below w.heap.size w W1 := by rw [← hW1]; exact ((Below.refl _ w).alloc (Nat.le_refl _) _).alloc (by simp) _
  have hI1 : I [] W1 := by
    rw [← hW1]
    exact (hI _ _ _ none (hI _ _ _ none h0 (World.grownBy_alloc _ _ _) (fun r e => by cases e)).1 (World.grownBy_alloc _ _ _) (fun r e => by cases e)).1
  have hz1 : W1.heap.size = w.heap.size + 2 := by rw [← hW1]; simp
  clear hW1
  have noT : ∀ {s : List α} {X : World} {o : Obj} {r : Nat}, I s X → X.heap[r]? = some o → o.isCells = false → ¬ T X r := fun hi ho hc ht => by
    obtain ⟨o', h1, h2⟩ := hTc _ _ _ hi ht
    rw [ho] at h1; cases h1; rw [hc] at h2; cases h2
  have turn : ∀ (s : List α) (X : World) (o o' : Obj), I s X → X.heap[w.heap.size + 1]? = some o → o.isCells = false → I s (X.putObj (w.heap.size + 1) o') ∧ ∀ r, T (X.putObj (w.heap.size + 1) o') r ↔ T X r := fun s X o o' hs ho hc =>
    hI s X _ (some (w.heap.size + 1)) hs (grownBy_putObj' X _ o') (fun r e => by cases e; exact ⟨noT hs ho hc, by omega, hQr _ _ _ ho hc⟩)
  have keep : ∀ (s : List α) (X : World) (o o' : Obj), I s X → X.heap[w.heap.size + 1]? = some o → o.isCells = false → KeepT T X (X.putObj (w.heap.size + 1) o') := fun s X o o' hs ho hc =>
    ⟨(grownBy_putObj' X _ o').size, fun r q h1 h2 _ => by
      rw [World.putObj_heap_other (fun e => by subst e; rw [ho] at h1; cases h1; rw [hc] at h2; cases h2)]; exact h1, fun r h => .inl (((turn s X o o' hs ho hc).2 r).1 h)⟩
  refine ⟨w.heap.size + 1, [{ target := .collected w.heap.size, args := #[] }], W1, { target := .fn (.func gf) lb, args := #[.func (.yield (w.heap.size + 1)) #[] #[]] }, W1, gf,
    #[.func (.yield (w.heap.size + 1)) #[] #[]] ++ lb, W1, he, ?_, ?_, ?_, fun _ => h1, ?_⟩
  · simp only [resolve, hg]
    simp [go_sem]
  · intro f' hf'; simp [Target.leads] at hf'; subst hf'; exact hFg
  · simp [invoke, go_sem, eg]
  · refine (hiter (w.heap.size + 1) (fun s X => I s X ∧ X.heap[w.heap.size + 1]? = some (.loop (rc .ready none)) ∧ X.heap[w.heap.size]? = some (.deferred (some [])))
      (fun s X => ∃ c, Ix c s X ∧ X.heap[w.heap.size + 1]? = some (.loop (rc .done (some c))) ∧ X.heap[w.heap.size]? = some (.deferred (some [])))
      W1 hBel ⟨hI1, hL, hD⟩ (fun s X hs => hs.1) (fun s X Y row hs hg' hr => ?_) (fun s X Y row hs hg' hr => ?_) ?_).mono ?_
    · obtain ⟨h2, h3⟩ := hI s X Y row hs.1 hg' (fun r e => ⟨(hr r e).1, by have := (hr r e).2.1; omega, (hr r e).2.2⟩)
      refine ⟨⟨h2, (hg'.block _ (Array.getElem?_eq_some_iff.1 hs.2.1).1 fun e => ?_).trans hs.2.1, (hg'.block _ (Array.getElem?_eq_some_iff.1 hs.2.2).1 fun e => ?_).trans hs.2.2⟩, h3⟩
      · have := (hr _ e.symm).2.1; omega
      · have := (hr _ e.symm).2.1; omega
    · obtain ⟨c, h2, h3, h4⟩ := hs
      refine ⟨c, hIx _ _ _ _ _ h2 hg' (fun r e => (hr r e).1) (fun r e => by have := (hr r e).2; omega), (hg'.block _ (Array.getElem?_eq_some_iff.1 h3).1 fun e => ?_).trans h3, (hg'.block _ (Array.getElem?_eq_some_iff.1 h4).1 fun e => ?_).trans h4⟩
      · have := (hr _ e.symm).2; omega
      · have := (hr _ e.symm).2; omega
    · rintro pre x v X ⟨hi, hl, hk⟩ hv hlen
      refine ⟨fn, _, assign, body, run_yield (P := P) (args := v) hl hv, roundIn_of_wpIn hfn (hassign _ v X _ hv ?_)⟩
      refine ⟨_, run_beginRound hl rfl, ?_⟩
      have hlt : w.heap.size + 1 < X.heap.size := (Array.getElem?_eq_some_iff.1 hl).1
      have hl2 : (X.putObj (w.heap.size + 1) (.loop { rc .ready none with state := .busy })).heap[w.heap.size + 1]? = some (.loop { rc .ready none with state := .busy }) := World.putObj_heap_same hlt
      have hk2 : (X.putObj (w.heap.size + 1) (.loop { rc .ready none with state := .busy })).heap[w.heap.size]? = some (.deferred (some [])) := (World.putObj_heap_other (by omega)).trans hk
      have kf : ∀ (X3 : World) (o' : Obj), KeepsFrom w.heap.size (X.putObj (w.heap.size + 1) (.loop { rc .ready none with state := .busy })) X3 → KeepsFrom W1.heap.size X (X3.putObj (w.heap.size + 1) o') := fun X3 o' hk => by
        refine ⟨Nat.le_trans (grownBy_putObj' X _ _).size (Nat.le_trans hk.size (grownBy_putObj' X3 _ _).size), fun k o hB hk' hc => ?_⟩
        rw [World.putObj_heap_other (by omega)]
        refine hk.same k o (by omega) ?_ hc
        rw [World.putObj_heap_other (by omega)]; exact hk'
      refine wpIn_mono (hbody _ pre x v _ (turn _ _ _ _ hi hl rfl).1 hv (hNx _ _ _ _ _ _ hlen (grownBy_putObj' X _ _) (fun r e => by cases e; exact ⟨_, hl, rfl⟩))) ?_
      rintro e a3 X3 hp
      cases e with
      | normal =>
        obtain ⟨hk3, hs3, hi3⟩ := hp
        have hl3 := hk3.same _ _ (by omega) hl2 rfl
        have hd3 := hk3.same _ _ (Nat.le_refl _) hk2 rfl
        refine ⟨_, _, run_endRound (P := P) none hl3, kf _ _ hk3, .inl ⟨rfl, ⟨(turn _ _ _ _ hi3 hl3 rfl).1, World.putObj_heap_same (Array.getElem?_eq_some_iff.1 hl3).1, (World.putObj_heap_other (by omega)).trans hd3⟩, ?_⟩⟩
        exact ((keep _ X _ _ hi hl rfl).trans hs3).trans (keep _ X3 _ _ hi3 hl3 rfl)
      | ret =>
        obtain ⟨hk3, hi3⟩ := hp
        have hl3 := hk3.same _ _ (by omega) hl2 rfl
        have hd3 := hk3.same _ _ (Nat.le_refl _) hk2 rfl
        exact ⟨_, _, run_endRound (P := P) (some .ret) hl3, kf _ _ hk3, .inr ⟨rfl, .ret, hIx _ _ _ _ _ hi3 (grownBy_putObj' X3 _ _) (fun r e => by cases e; exact ⟨_, hl3, rfl⟩) (fun r e => by cases e; omega), World.putObj_heap_same (Array.getElem?_eq_some_iff.1 hl3).1, (World.putObj_heap_other (by omega)).trans hd3⟩⟩
      | exit id =>
        obtain ⟨hk3, hi3⟩ := hp
        have hl3 := hk3.same _ _ (by omega) hl2 rfl
        have hd3 := hk3.same _ _ (Nat.le_refl _) hk2 rfl
        exact ⟨_, _, run_endRound (P := P) (some (.exit id)) hl3, kf _ _ hk3, .inr ⟨rfl, .exit id, hIx _ _ _ _ _ hi3 (grownBy_putObj' X3 _ _) (fun r e => by cases e; exact ⟨_, hl3, rfl⟩) (fun r e => by cases e; omega), World.putObj_heap_same (Array.getElem?_eq_some_iff.1 hl3).1, (World.putObj_heap_other (by omega)).trans hd3⟩⟩
      | goto t => exact hp.elim
      | panic ch => exact hp.elim
      | outgrown => exact hp.elim
    · rintro e W2 ⟨⟨v, rfl⟩, (⟨s, hf, hi, hl, hk⟩ | ⟨pre, c, hi, hl, hk⟩)⟩
      · exact ⟨none, _, run_endLoop (P := P) hl (by simp [rc]), hdone _ s _ (Nat.le_refl _) hf (turn _ _ _ _ hi hl rfl).1 ((World.putObj_heap_other (by omega)).trans hk)⟩
      · exact ⟨some c, _, run_endLoop (P := P) hl (by simp [rc]), hstop _ c pre _ (Nat.le_refl _) (hIx _ _ _ _ _ hi (grownBy_putObj' W2 _ _) (fun r e => by cases e; exact ⟨_, hl, rfl⟩) (fun r e => by cases e; omega)) ((World.putObj_heap_other (by omega)).trans hk)⟩
theorem wpIn_region_HW {nf : Nat} {P : Program} {ops : Array Oper} {Q : Exit → Act → World → Prop} {id : Nat} {a : Act} {w : World} (S : World → Prop) (I : List Nat) (hm : P.follows .mixedOrders = true) (hnd : (ops.toList.all fun o => match o.op with | .defer _ => false | _ => true) = true) (hLO : ¬ LetsOut Q)
    (h : wpH P .any ops Q S I ops.size (Array.replicate ops.size false) a w.drew) : (Code.region id ops true).wpIn Fence.wide nf P Q a w :=
  wpIn_region_any hm (any_wide (fun i o ho c hc => by
    have hmem : o ∈ ops.toList := List.mem_of_getElem? (by simpa using ho)
    have := List.all_eq_true.1 hnd o hmem
    rw [hc] at this; cases this) hLO _ _ _ _ (wpAny_of_wpH _ _ _ _ h))
/-- .. in a round. -/
theorem wpIn_region_HR {lr nf : Nat} {P : Program} {ops : Array Oper} {Q : Exit → Act → World → Prop} {id : Nat} {a : Act} {w : World} (S : World → Prop) (I : List Nat) (hm : P.follows .mixedOrders = true) (hnd : (ops.toList.all fun o => match o.op with | .defer _ => false | _ => true) = true) (hLO : ¬ LetsOut Q)
    (h : wpH P .any ops Q S I ops.size (Array.replicate ops.size false) a w.drew) : (Code.region id ops true).wpIn (Fence.wide.inRound lr) nf P Q a w :=
  wpIn_region_any hm (any_bridge (fun i o ho c hc => by
    have hmem : o ∈ ops.toList := List.mem_of_getElem? (by simpa using ho)
    have := List.all_eq_true.1 hnd o hmem
    rw [hc] at this; cases this) hLO _ _ _ _ (wpAny_of_wpH _ _ _ _ h))
/-! ### A scope without a goto, inside a fence -/
section
variable {P : Program} {b : Frame} {a : Act} {k : List Item} {cs : List Frame} {w : World} {Q : Exit → Act → World → Prop} {F : Fence} {n : Nat}
theorem stepR_scope {c : Code} : step P (lone (b.atR a (.code (.scope c) :: k)) cs w) = .next (lone (b.atR a (.code c :: .inScope c :: k)) cs w) :=
  step_lone_go (by simp [stepG, stepG.exec, Frame.atR])
theorem stepR_inScope {c : Code} : step P (lone (b.atR a (.inScope c :: k)) cs w) = .next (lone (b.atR a k) cs w) :=
  step_lone_go (by simp [stepG, stepG.exec, Frame.atR])
theorem wpIn_scope_straight {c : Code} (h : c.wpIn F n P (Exit.noGoto Q) a w) : (Code.scope c).wpIn F n P Q a w := by
  intro b k cs hro hb hr
  have h0 : (lone (b.atR a (.code (.scope c) :: k)) cs w).fenced P F := fenced_calm hb hr rfl
  obtain ⟨e, a₁, w₁, hq, harr⟩ := h b (.inScope c :: k) cs hro hb hr
  cases e with
  | normal => exact ⟨.normal, a₁, w₁, hq, .head h0 stepR_scope (StepsIn.trans harr (.one (fenced_calm hb hr rfl) stepR_inScope))⟩
  | exit id =>
    have hx : exitTo id (.inScope c :: k) = exitTo id k := by simp [exitTo]
    exact ⟨.exit id, a₁, w₁, hq, fun k' hk => .head h0 stepR_scope (harr.1 k' (by rw [hx]; exact hk)),
      fun hr' hk => let ⟨k₁, h1, h2⟩ := harr.2 hr' (by rw [hx]; exact hk); ⟨k₁, h1, .head h0 stepR_scope h2⟩⟩
  | goto l => exact hq.elim
  | ret => exact ⟨_, a₁, w₁, hq, .of_steps (.one h0 stepR_scope) harr⟩
  | panic ch => exact ⟨_, a₁, w₁, hq, .of_steps (.one h0 stepR_scope) harr⟩
  | outgrown => exact ⟨_, a₁, w₁, hq, .of_steps (.one h0 stepR_scope) harr⟩
end
/-- A block of cells that stands, and that T does not name. -/
structure Held (T : World → Nat → Prop) (X : World) (b : Nat) (o : Obj) : Prop where
  at' : X.heap[b]? = some o
  cl : o.isCells = true
  no : ¬ T X b
theorem Held.keep {T : World → Nat → Prop} {X Y : World} {b : Nat} {o : Obj} (h : Held T X b o) (hk : KeepT T X Y) : Held T Y b o :=
  ⟨hk.same b o h.at' h.cl h.no, h.cl, fun h4 => by
    rcases hk.new b h4 with h5 | h5
    · exact h.no h5
    · have := (Array.getElem?_eq_some_iff.1 h.at').1; omega⟩
theorem Held.ext {T : World → Nat → Prop} {X Y : World} {b : Nat} {o : Obj} (h : Held T X b o) (hx : Ext X Y) (hT : ∀ r, T Y r ↔ T X r) : Held T Y b o :=
  ⟨(Below.block hx.bel b (Array.getElem?_eq_some_iff.1 h.at').1).trans h.at', h.cl, fun h2 => h.no ((hT b).1 h2)⟩
theorem YieldAt.mono {F : Fence} {m : Nat} {P : Program} {l : Nat} {v : Array Value} {X : World} {R R' : Ending → World → Prop} (h : YieldAt F m P l v X R) (hr : ∀ e Y, R e Y → R' e Y) : YieldAt F m P l v X R' :=
  let ⟨fn, tmps, assign, body, h1, h2⟩ := h
  ⟨fn, tmps, assign, body, h1, h2.mono hr⟩
theorem YieldAt.wide {m m' : Nat} {P : Program} {l : Nat} {v : Array Value} {X : World} {R : Ending → World → Prop} (h : YieldAt Fence.wide m P l v X R) : YieldAt Fence.wide m' P l v X R :=
  let ⟨fn, tmps, assign, body, h1, h2⟩ := h
  ⟨fn, tmps, assign, body, h1, h2.1, fun c cs _ => h2.2 c cs (room_wide _)⟩
/-- What an iterator may do while J stands: make new memory. -/
def NewT (T : World → Nat → Prop) {α : Type} (J : List α → World → Prop) : Prop := ∀ s X Y, J s X → Ext X Y → J s Y ∧ ∀ r, T Y r ↔ T X r
end Go.Proofs.YtadncjpknckaaaaGreatDoor
