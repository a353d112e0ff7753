/-
  corr.sum once more: over an iterator whose elements come to be while it runs.
-/
import Derived.Test.YtkdancoffmhjhaaKz
namespace Go.Proofs.Ytkdancoffmhjhaa
open Go.RowKit Go.Shelf
section
variable {F : Fence} {n : Nat} {P : Program} {w : World}
theorem wpIn_range_own4 {α : Type} {g : Operand} {ps : Array Tmp} {assign body : Code} {Q : Exit → Act → World → Prop} {a : Act}
    (hro : F.round = none) (h1 : 1 ≤ n) {gf : Nat} {lb : Array Value} (hg : a.eval g = .func (.func gf) #[] lb) (hFg : F.fn gf) (eg : ∀ args w, (callFunc gf args).run P w = .ok (.enter gf args) w)
    {encs : α → Array Value} (hps : ∀ x, (encs x).size = ps.size) (own : Nat → Prop) (hlow : ∀ r, own r → r < w.heap.size) (Ok : List α → α → World → Prop) (Fin : List α → Prop)
    (I : List α → World → Prop) (hI : AbideOwn w.heap.size own I) (h0 : I [] w) (Ix : Code → List α → World → Prop) (hIx : ∀ c, AbideOwn w.heap.size own (Ix c))
    (hiter : ∀ (l : Nat) (J Jx : List α → World → Prop) (W : World), Below w.heap.size w W → J [] W → (∀ s X Y row, J s X → X.grownBy Y row → (∀ r, row = some r → own r) → J s Y) → (∀ s X Y row, Jx s X → X.grownBy Y row → (∀ r, row = some r → own r) → Jx s Y) → (∀ s X, J s X → I s X) →
      (∀ pre x X, J pre X → Ok pre x X → YieldAt F (n - 1 - 1) P l (encs x) X fun e Y => (e = .returned (.bool true) ∧ J (pre ++ [x]) Y ∧ Same own X Y) ∨ (e = .returned (.bool false) ∧ Jx (pre ++ [x]) Y)) →
      CallsIn F (n - 1) P gf (#[.func (.yield l) #[] #[]] ++ lb) W fun e W' => (∃ v, e = .returned v) ∧ ((∃ ys, Fin ys ∧ J ys W') ∨ ∃ pre, Jx pre W'))
    (Ax : List α → α → Act → World → Prop) (hAx : ∀ pre x a', AbideOwn w.heap.size (fun _ => False) (fun (_ : List α) W => Ax pre x a' W))
    (hassign : ∀ (l : Nat) (pre : List α) (x : α) (W : World) (K : Act → World → Prop), I pre W → Ok pre x W → (∀ a' W', KeepsFrom w.heap.size W W' → Same own W W' → I pre W' → Ax pre x a' W' → K a' W') →
      assign.wpIn (F.inRound l) (n - 1 - 1) P (Exit.then K (fun _ _ _ => False)) { tmps := (ps.zip (encs x)).foldl (fun t (p, v) => t.setIfInBounds p v) a.tmps, defers := [] } W)
    (hbody : ∀ (l : Nat) (pre : List α) (x : α) (a' : Act) (W : World), I pre W → Ax pre x a' W → body.wpIn (F.inRound l) (n - 1 - 1) P (roundEnd2 w.heap.size own I Ix (pre ++ [x]) W) a' W)
    (hdone : ∀ (D : Nat) (ys : List α) (W : World), w.heap.size ≤ D → Fin ys → I ys W → W.heap[D]? = some (.deferred (some [])) → Q .normal { a with defers := { target := .collected D, args := #[] } :: a.defers } W)
    (hstop : ∀ (D : Nat) (c : Code) (pre : List α) (W : World), w.heap.size ≤ D → Ix c pre W → W.heap[D]? = some (.deferred (some [])) → c.wpIn F n P Q { a with defers := { target := .collected D, args := #[] } :: a.defers } W) :
    (Code.rangeFunc g ps assign body).wpIn F n P Q a w := by
  refine wpIn_rangeFunc fun fn hfn => ?_
  rw [hro]
  let rc : LoopState → Option Code → Loop := fun st pe => { state := st, pending := pe, fn := fn, tmps := a.tmps, params := ps, assign := assign, body := body, defers := w.heap.size }
  obtain ⟨W1, hW1⟩ : ∃ W1, (w.alloc (.deferred (some []))).alloc (.loop (rc .ready none)) = W1 := ⟨_, rfl⟩
  have he : (Instr.enterLoop fn a.tmps ps assign body none).run P w = .ok (w.heap.size + 1, [{ target := .collected w.heap.size, args := #[] }]) W1 := by
    rw [← hW1]; exact run_enterLoop_outer (P := P) (w := w) fn a.tmps ps assign body
  have hL : W1.heap[w.heap.size + 1]? = some (.loop (rc .ready none)) := by
    rw [← hW1]; have := World.alloc_heap_new (w.alloc (.deferred (some []))) (.loop (rc .ready none)); rwa [World.size_alloc] at this
  have hD : W1.heap[w.heap.size]? = some (.deferred (some [])) := by
    rw [← hW1]; exact (Below.heap_alloc _ _ _ (by simp)).trans (World.alloc_heap_new w _)
  have hBel : Below w.heap.size w W1 := by rw [← hW1]; exact ((Below.refl _ w).alloc (Nat.le_refl _) _).alloc (by simp) _
  have hI1 : I [] W1 := by
    rw [← hW1]; exact hI _ _ _ none (hI _ _ _ none h0 (World.grownBy_alloc _ _ _) (fun r e => by cases e)) (World.grownBy_alloc _ _ _) (fun r e => by cases e)
  clear hW1
  have turn : ∀ {own' : Nat → Prop} {I' : List α → World → Prop} (hI' : AbideOwn w.heap.size own' I') (s : List α) (X : World) (o o' : Obj), I' s X → X.heap[w.heap.size + 1]? = some o → o.isCells = false → I' s (X.putObj (w.heap.size + 1) o') := fun hI' s X o o' hs ho hc =>
    hI' s X _ (some (w.heap.size + 1)) hs (grownBy_putObj' X _ o') (fun r e => by cases e; exact .inr ⟨by omega, o, ho, hc⟩)
  have keep : ∀ (X : World) (o' : Obj), Same own X (X.putObj (w.heap.size + 1) o') := fun X o' r hr => World.putObj_heap_other (by have := hlow r hr; omega)
  refine ⟨w.heap.size + 1, [{ target := .collected w.heap.size, args := #[] }], W1, { target := .fn (.func gf) lb, args := #[.func (.yield (w.heap.size + 1)) #[] #[]] }, W1, gf,
    #[.func (.yield (w.heap.size + 1)) #[] #[]] ++ lb, W1, he, ?_, ?_, ?_, fun _ => h1, ?_⟩
  · simp only [resolve, hg]
    simp [go_sem]
  · intro f' hf'; simp [Target.leads] at hf'; subst hf'; exact hFg
  · simp [invoke, go_sem, eg]
  · have out : ∀ {X Y : World} {row : Option Nat} {j : Nat}, (∀ r, row = some r → own r) → w.heap.size ≤ j → some j ≠ row := fun hr hj e => by have := hlow _ (hr _ e.symm); omega
    refine (hiter (w.heap.size + 1) (fun s X => I s X ∧ X.heap[w.heap.size + 1]? = some (.loop (rc .ready none)) ∧ X.heap[w.heap.size]? = some (.deferred (some [])))
      (fun s X => ∃ c, Ix c s X ∧ X.heap[w.heap.size + 1]? = some (.loop (rc .done (some c))) ∧ X.heap[w.heap.size]? = some (.deferred (some [])))
      W1 hBel ⟨hI1, hL, hD⟩ (fun s X Y row hs hg' hr => ?_) (fun s X Y row hs hg' hr => ?_) (fun s X hs => hs.1) ?_).mono ?_
    · exact ⟨hI s X Y row hs.1 hg' (fun r e => .inl (hr r e)), (hg'.block _ (Array.getElem?_eq_some_iff.1 hs.2.1).1 (out (X := X) (Y := Y) hr (by omega))).trans hs.2.1, (hg'.block _ (Array.getElem?_eq_some_iff.1 hs.2.2).1 (out (X := X) (Y := Y) hr (by omega))).trans hs.2.2⟩
    · obtain ⟨c, hc, hl, hk⟩ := hs
      exact ⟨c, hIx c s X Y row hc hg' (fun r e => .inl (hr r e)), (hg'.block _ (Array.getElem?_eq_some_iff.1 hl).1 (out (X := X) (Y := Y) hr (by omega))).trans hl, (hg'.block _ (Array.getElem?_eq_some_iff.1 hk).1 (out (X := X) (Y := Y) hr (by omega))).trans hk⟩
    · rintro pre x X ⟨hi, hl, hk⟩ hok
      refine ⟨fn, _, assign, body, run_yield (P := P) (args := encs x) hl (hps x), roundIn_of_wpIn hfn (hassign _ pre x X _ hi hok ?_)⟩
      intro a' Xa hkfa hsa hia hax
      replace hl := hkfa.same _ _ (by omega) hl rfl
      replace hk := hkfa.same _ _ (Nat.le_refl _) hk rfl
      refine ⟨_, run_beginRound hl rfl, ?_⟩
      have hlt : w.heap.size + 1 < Xa.heap.size := (Array.getElem?_eq_some_iff.1 hl).1
      have hl2 : (Xa.putObj (w.heap.size + 1) (.loop { rc .ready none with state := .busy })).heap[w.heap.size + 1]? = some (.loop { rc .ready none with state := .busy }) := World.putObj_heap_same hlt
      have hk2 : (Xa.putObj (w.heap.size + 1) (.loop { rc .ready none with state := .busy })).heap[w.heap.size]? = some (.deferred (some [])) := (World.putObj_heap_other (by omega)).trans hk
      refine wpIn_mono (hbody _ pre x a' _ (turn hI _ _ _ _ hia hl rfl) (turn (hAx pre x a') [] _ _ _ hax hl rfl)) ?_
      rintro e a3 X3 hp
      cases e with
      | normal =>
        obtain ⟨hk3, hs3, hi3⟩ := hp
        have hl3 := hk3.same _ _ (by omega) hl2 rfl
        have hd3 := hk3.same _ _ (Nat.le_refl _) hk2 rfl
        refine ⟨_, _, run_endRound (P := P) none hl3, .inl ⟨rfl, ⟨turn hI _ _ _ _ hi3 hl3 rfl, World.putObj_heap_same (Array.getElem?_eq_some_iff.1 hl3).1, (World.putObj_heap_other (by omega)).trans hd3⟩, ?_⟩⟩
        exact hsa.trans (((keep Xa _).trans hs3).trans (keep X3 _))
      | ret =>
        obtain ⟨hk3, hi3⟩ := hp
        have hl3 := hk3.same _ _ (by omega) hl2 rfl
        have hd3 := hk3.same _ _ (Nat.le_refl _) hk2 rfl
        exact ⟨_, _, run_endRound (P := P) (some .ret) hl3, .inr ⟨rfl, .ret, turn (hIx _) _ _ _ _ hi3 hl3 rfl, World.putObj_heap_same (Array.getElem?_eq_some_iff.1 hl3).1, (World.putObj_heap_other (by omega)).trans hd3⟩⟩
      | exit id =>
        obtain ⟨hk3, hi3⟩ := hp
        have hl3 := hk3.same _ _ (by omega) hl2 rfl
        have hd3 := hk3.same _ _ (Nat.le_refl _) hk2 rfl
        exact ⟨_, _, run_endRound (P := P) (some (.exit id)) hl3, .inr ⟨rfl, .exit id, turn (hIx _) _ _ _ _ hi3 hl3 rfl, World.putObj_heap_same (Array.getElem?_eq_some_iff.1 hl3).1, (World.putObj_heap_other (by omega)).trans hd3⟩⟩
      | goto t => exact hp.elim
      | panic ch => exact hp.elim
      | outgrown => exact hp.elim
    · rintro e W2 ⟨⟨v, rfl⟩, (⟨ys, hfin, hi, hl, hk⟩ | ⟨pre, c, hi, hl, hk⟩)⟩
      · exact ⟨none, _, run_endLoop (P := P) hl (by simp [rc]), hdone _ ys _ (Nat.le_refl _) hfin (turn hI _ _ _ _ hi hl rfl) ((World.putObj_heap_other (by omega)).trans hk)⟩
      · exact ⟨some c, _, run_endLoop (P := P) hl (by simp [rc]), hstop _ c pre _ (Nat.le_refl _) (turn (hIx c) _ _ _ _ hi hl rfl) ((World.putObj_heap_other (by omega)).trans hk)⟩
end
end Go.Proofs.Ytkdancoffmhjhaa
namespace Go.Proofs.Ytkdancoffmhjhaa
open Go.RowKit Go.Shelf Go.Maps
theorem RdK.beside {α : Type} {k : Nat} {enc : α → List Value} {w w' : World} {a : Option Addr} {n cap : Nat} {xs : List α} {row : Option Nat} (h : RdK k enc w a n cap xs) (hg : w.grownBy w' row) (hr : ∀ r, row = some r → ∃ o : Obj, w.heap[r]? = some o ∧ o.isCells = false) : RdK k enc w' a n cap xs := by
  refine ⟨h.len, h.le, h.most, h.isnil, fun hp => ?_⟩
  obtain ⟨b, off, ha, hb, hc⟩ := h.pos hp
  refine ⟨b, off, ha, Nat.lt_of_lt_of_le hb hg.size, fun i x hi j u hu => hg.cell (hc i x hi j u hu) fun e => ?_⟩
  obtain ⟨o, ho, hcl⟩ := hr b e.symm
  have := hc i x hi j u hu
  simp only [World.cell?, ho] at this
  cases o <;> simp_all [Obj.isCells]
/-- What an iterator over correspondences does whose cells come to be while it runs: it hands out what reads as xs, as long as it is asked to, and lays blocks. -/
def IterV (gf : Nat) (lb : Array Value) (xs : List (List Cl × Int)) (w : World) : Prop :=
  ∀ (l : Nat) (J Jx : List HCo → World → Prop) (W : World), (∀ s X Y, J s X → X.grownBy Y none → J s Y) → (∀ s X, J s X → Ext w X) →
    (∀ pre y X, J pre X → ((pre ++ [y]).map kp <+: xs) → RdC X y.a y.n y.cap y.x → YieldAt Fence.wide (8 - 1) Try.prog l (encH y) X fun e Y => (e = .returned (.bool true) ∧ J (pre ++ [y]) Y) ∨ (e = .returned (.bool false) ∧ Jx (pre ++ [y]) Y)) →
    J [] W → CallsIn Fence.wide 8 Try.prog gf (#[.func (.yield l) #[] #[]] ++ lb) W fun e W' => (∃ v, e = .returned v) ∧ ((∃ ys, ys.map kp = xs ∧ J ys W') ∨ ∃ pre, Jx pre W')
attribute [local go_sem] Oper.semAt_some
set_option maxHeartbeats 4000000 in
set_option maxRecDepth 20000 in
theorem csumV_any (gf : Nat) (lb : Array Value) (eg : ∀ args w, (callFunc gf args).run Try.prog w = .ok (.enter gf args) w) (xs : List (List Cl × Int)) (w : World) (hlen : xs.length ≤ 20000)
    (hy : ∀ p ∈ xs, p.1.length ≤ 64 ∧ (∀ c ∈ p.1, 0 ≤ c.kind ∧ c.kind < 256) ∧ 0 ≤ p.2 ∧ p.2 ≤ 2147483647) (hit : IterV gf lb xs w) :
    Calls Try.prog 49 #[.func (.func gf) #[] lb] w (SumG xs w) := by
  have h1 : 1 ≤ 9 := by omega
  have hmm := @run_makeMap Try.prog
  refine (callsIn_wide (n := 9)).1 ?_
  refine callsIn_of_wp_marks Try.func49 rfl trivial ?_ rfl
  simp only [Try.ntmps49, List.size_toArray, List.length_cons, List.length_nil, Nat.reduceAdd, Nat.reduceSub, Array.replicate_succ, Array.replicate_zero, List.push_toArray, List.append_toArray, List.nil_append, List.cons_append]
  gi_wp2
  have hz : ((w.alloc (.map #[] 0)).alloc (.cells #[.map (some w.heap.size)] 102) |>.alloc (.cells #[.slice none 0 0] 24)).heap.size = w.heap.size + 3 := by simp
  have h0 : SumI w.heap.size (w.heap.size + 1 + 1) (w.heap.size + 1) w.heap.size w [] ((w.alloc (.map #[] 0)).alloc (.cells #[.map (some w.heap.size)] 102) |>.alloc (.cells #[.slice none 0 0] 24)) :=
    ⟨_, [], _, ⟨OwnK.nil _ _ _, fun y hy => by cases hy⟩, by have := Boxed.new ((w.alloc (.map #[] 0)).alloc (.cells #[.map (some w.heap.size)] 102)) 24 (.slice none 0 0); simpa using this,
      by have := (Boxed.new (w.alloc (.map #[] 0)) 102 (.map (some w.heap.size))).alloc (.cells #[.slice none 0 0] 24); simpa using this,
      ((MapK.made w Try.prog 9 3 klStr).kept (Ext.alloc1 _ _)).kept (Ext.alloc1 _ _), Lib.hid ⟨fun i y h => by simp at h, fun s l h => by cases h⟩, Lib.hid SumA.nil, Lib.hid (Nat.le_refl _), Lib.hid (fun y hy => by cases hy), (by repeat (first | exact Ext.refl _ | assumption | refine Ext.drew ?_ | refine Ext.drewN ?_ _ | refine Ext.alloc ?_ _ | refine Ext.trans ?_ (by assumption)))⟩
  generalize ((w.alloc (.map #[] 0)).alloc (.cells #[.map (some w.heap.size)] 102) |>.alloc (.cells #[.slice none 0 0] 24)) = wA at *
  replace hz := Lib.hid hz
  replace hlen := Lib.hid hlen
  replace hy := Lib.hid hy
  refine wpIn_range_own4 rfl h1 (gf := gf) (lb := lb) rfl trivial eg (encs := encH) (fun _ => rfl) (fun _ => False) (fun r hr => hr.elim) (fun pre y X => ((pre ++ [y]).map kp <+: xs) ∧ RdC X y.a y.n y.cap y.x) (fun ys => ys.map kp = xs)
    (SumI w.heap.size (w.heap.size + 1 + 1) (w.heap.size + 1) w.heap.size w)
    (fun s X Y row hs hg hr => hs.beside hg fun r e => by
      rcases hr r e with h | ⟨h2, h3⟩
      · exact h.elim
      · have := hz.out; exact ⟨by omega, by omega, by omega, by omega, h3⟩)
    h0 (fun _ _ _ => False) (fun _ _ _ _ _ hs _ _ => hs)
    (fun lp J Jx W hB hJ0 hJ hJx hI hY => hit lp J Jx W (fun s X Y hs hg => hJ s X Y none hs hg (fun r e => by cases e)) (fun s X hs => by obtain ⟨_, _, _, _, _, _, _, _, _, _, _, h9⟩ := hI s X hs; exact h9)
      (fun pre y X hp hpre hrd => (hY pre y X hp ⟨hpre, hrd⟩).mono (fun e Y h => h.elim (fun h => .inl ⟨h.1, h.2.1⟩) (fun h => .inr h))) hJ0)
    (fun pre y a' W => RdC W y.a y.n y.cap y.x ∧ ((pre ++ [y]).map kp <+: xs) ∧ ∃ Bx, wA.heap.size ≤ Bx ∧ W.heap[Bx]? = some (.cells #[.slice y.a y.n y.cap, .int .i64 y.cnt] 49) ∧ (∃ v : Value, W.heap[w.heap.size + 1 + 1]? = some (.cells #[v] 24 (0, 0)) ∧ v.ownBlock ≠ some Bx) ∧ a' = { tmps := #[.func (.func gf) #[] lb, undef, .slice none 0 0, .int .i64 0, .pointer (some ⟨w.heap.size + 1, 0, none⟩), .pointer (some ⟨w.heap.size + 1 + 1, 0, none⟩), .pointer (some ⟨Bx, 0, none⟩), undef, undef, undef, .map (some w.heap.size), .func (.func gf) #[] lb, coV y, undef, undef, undef, undef, undef, undef, undef, undef, undef, undef, undef, undef, undef, undef, undef, undef, undef, undef, undef, undef, undef, undef, undef, undef, undef, undef, undef, undef, undef, undef, undef, undef, undef, undef, undef, undef, undef, undef], defers := [] })
    (fun pre x a' s X Y row hs hg hr => by
      obtain ⟨hrd, hpx, Bx, h1, h2, ⟨v, h4, h5⟩, h3⟩ := hs
      refine ⟨hrd.beside hg (fun r e => by rcases hr r e with h | ⟨_, h⟩; exact h.elim; exact h), hpx, Bx, h1, (hg.block Bx (Array.getElem?_eq_some_iff.1 h2).1 (fun e => ?_)).trans h2, ⟨v, (hg.block _ (Array.getElem?_eq_some_iff.1 h4).1 (fun e => ?_)).trans h4, h5⟩, h3⟩
      · rcases hr Bx e.symm with h | ⟨_, o, ho, hc⟩
        · exact h
        · rw [h2] at ho; cases ho; cases hc
      · rcases hr _ e.symm with h | ⟨_, o, ho, hc⟩
        · exact h
        · rw [h4] at ho; cases ho; cases hc)
    ?assign ?body ?done ?stop
  case assign =>
    rintro lp pre y W K hS ⟨hpx, hrd⟩ hK
    obtain ⟨v, hs, f, q1, q2, q3, q4, q5, q6, q7, q8, q9⟩ := id hS
    have hle : wA.heap.size ≤ W.heap.size := by have := q2.lt; have := hz.out; omega
    replace hle := Lib.hid hle
    have hnb : v.ownBlock ≠ some W.heap.size := fun e => OwnK.own_lt q1.own (Nat.le_refl _) e.symm
    replace hnb := Lib.hid (And.intro q2.lt (And.intro q2 hnb))
    clear q1 q2 q3 q4 q5 q6 q7 q8 q9
    gi_wp2
    exact hK _ _ ((KeepsOthers.alloc _ _).from _) (fun r h => h.elim) (hS.beside (World.grownBy_alloc _ _ none) (fun r e => by cases e)) ⟨hrd.ext (Ext.alloc1 _ _), hpx, W.heap.size, hle.out, World.alloc_heap_new W _, ⟨v, (Below.heap_alloc W _ _ hnb.out.1).trans hnb.out.2.1, hnb.out.2.2⟩, rfl⟩
  case body =>
    rintro lp pre y a' W ⟨v, hs, f, q1, q2, q3, q4, q5, q6, q7, q8, q9⟩ ⟨hyr0, hpre, Bx, hBx, hbx, ⟨v', hv'1, hv'2⟩, rfl⟩
    obtain rfl : v = v' := by
      have := q2.symm.trans hv'1
      simpa using this
    clear hv'1
    replace hv'2 := Lib.hid hv'2
    obtain ⟨hyn, hyk, hyc1, hyc2⟩ := hy.out (kp y) (hpre.subset (by simp))
    have hyn : y.n ≤ 64 := by rw [← hyr0.len]; exact hyn
    have hyk : ∀ c ∈ y.x, 0 ≤ c.kind ∧ c.kind < 256 := hyk
    have hyc1 : 0 ≤ y.cnt := hyc1
    have hyc2 : y.cnt ≤ 2147483647 := hyc2
    have hpl := hpre.length_le
    rw [List.length_map] at hpl
    have c0 : W.cell? ⟨Bx, 0, none⟩ = some (.slice y.a y.n y.cap) := by simp [World.cell?, hbx]
    have c1 : W.cell? ⟨Bx, 1, none⟩ = some (.int .i64 y.cnt) := by simp [World.cell?, hbx]
    have cO := q2.cell
    have cM := q3.cell
    have hkey := key_any y.a y.n y.cap y.x
    replace hpl := Lib.hid hpl
    gi_wp2
    refine ⟨trivial, ?_⟩
    gi_at_call 75
    refine (callsIn_wide.2 (hkey W hyr0 (by omega) hyk)).mono ?_
    rintro e w1 ⟨rfl, hx1⟩
    have cO1 := hx1.cellv cO
    have cM1 := hx1.cellv cM
    have c01 := hx1.cellv c0
    have c11 := hx1.cellv c1
    have q41 := q4.kept hx1
    clear cO cM c0 c1 hkey
    have hks : (kyS y.x).size ≤ maxLen := by
      have := keyCs_len y.x
      have := hyr0.len
      show (keyCs y.x).toArray.size ≤ _
      simp only [List.size_toArray]
      unfold maxLen; omega
    have hkf : keyOf Try.prog 9 (.string ⟨(keyCs y.x).toArray⟩) = some (klStr (kyS y.x)) := key_str _ hks
    have hcb : ∀ z ∈ hs, 0 ≤ z.cnt ∧ z.cnt ≤ 2147483647 * 20000 := fun z hz => by
      have hall : ∀ x ∈ pre.map kp, 0 ≤ x.2 ∧ x.2 ≤ 2147483647 := fun x hx => by
        obtain ⟨u, hu, rfl⟩ := List.mem_map.1 hx
        exact (hy.out (kp u) (hpre.subset (List.mem_map.2 ⟨u, List.mem_append_left _ hu, rfl⟩))).2.2
      have hb := cntK_bd (M := 2147483647) (by omega) hall z.x
      have he := (q6.out.2.1 (kp z) (List.mem_map.2 ⟨z, hz, rfl⟩)).1
      have he : z.cnt = cntK (pre.map kp) z.x := he
      have h2 := hpl.out
      rw [List.length_append] at h2
      rw [List.length_map] at hb
      have := hlen.out
      omega
    by_cases hex : ∃ (i : Nat) (z : HCo), hs[i]? = some z ∧ z.x = y.x
    · obtain ⟨i, z, hi, hzx⟩ := hex
      have hf1 : f (kyS y.x) = some (.int .i64 i) := hzx ▸ q5.out.1 i z hi
      have hv : ((f (kyS y.x)).getD (.int .i64 0)).value = .int .i64 i := by rw [hf1]; rfl
      have hs1 : (f (kyS y.x)).isSome = true := by rw [hf1]; rfl
      have hzb := hcb z (List.mem_of_getElem? hi)
      have hoL := q1.kept hx1
      obtain ⟨g, cp, rfl⟩ := OwnK.hdr q1.own (by have := (List.getElem?_eq_some_iff.1 hi).1; omega)
      replace hf1 := Lib.hid hf1
      replace hv := Lib.hid hv
      replace hs1 := Lib.hid hs1
      replace hi := Lib.hid hi
      replace hzx := Lib.hid hzx
      replace hcb := Lib.hid hcb
      replace hks := Lib.hid hks
      gi_wp2_with (refine list_bridge (by rintro ⟨_, _, h⟩; exact h) _ _ _ (by kernel_rfl) ?_; at_lookup; refine wp_mapLookOk rfl _ _ 102 rfl 9 3 str_key Try.underlying102 (zeroI _) (plainElem_int Try.underlying3 (by decide)) rfl q41 _ _ rfl hkf _ hv.out _ hs1.out ?_)
      go_wp2_with fail
      have hkW : KeepsFrom wA.heap.size W w1 := keepF hx1
      have hxW := q9.trans hx1
      have bO : Hid (Boxed w1 (w.heap.size + 1 + 1) 24 (.slice (some ⟨g, 0, none⟩) hs.length cp)) := Lib.hid (Boxed.more (show Boxed W (w.heap.size + 1 + 1) 24 _ from q2) hx1)
      have bM : Hid (Boxed w1 (w.heap.size + 1) 102 (.map (some w.heap.size))) := Lib.hid (Boxed.more (show Boxed W (w.heap.size + 1) 102 _ from q3) hx1)
      obtain ⟨hz0, hz1⟩ := hzb
      have hgz := OwnK.ge (hoL).own
      have e1 := fun x : ExtOf w1 => x.cell cO1
      have e2 := fun x : ExtOf w1 => x.cell (OwnK.atk HCo.len (hoL).own (hi).out (j := 1) rfl)
      have e3 := fun x : ExtOf w1 => x.cell c11
      have hwr : IntKind.i64.wrap (z.cnt + y.cnt) = z.cnt + y.cnt := IntWalk.i64_in _ (by omega)
      have hil : i < (hs).length := (List.getElem?_eq_some_iff.1 (hi).out).1
      gi_wp2
      refine wpIn_region_qxt 10 (by kernel_rfl) (by kernel_rfl) (by kernel_rfl) (by rintro ⟨_, _, h⟩; exact h) ?_
      simp only [List.take_succ_cons, List.take_zero, List.drop_succ_cons, List.drop_zero]
      repeat (go_big_quiet_step (fail))
      refine wpQuiet_nil ?_
      intro wq hw'
      have hxq := ext_of_ex hw'
      clear hw' e1 e2 e3
      have hoQ := (hoL).kept hxq
      have hcq := OwnK.atk HCo.len hoQ.own (hi).out (j := 1) rfl
      have hfq := OwnK.free hoQ.own (i * 2 + 1)
      obtain ⟨o2, g2⟩ := hoQ.cnt (hi).out (z.cnt + y.cnt)
      obtain ⟨cur, hcur⟩ := OwnK.blk hoQ.own (g := g) rfl
      have bO2 : Boxed (wq.setCell ⟨g, i * 2 + 1, none⟩ (.int .i64 (z.cnt + y.cnt))) (w.heap.size + 1 + 1) 24 _ := Boxed.kept (Boxed.more (bO).out hxq) g2 (Boxed.ne (Boxed.more (bO).out hxq) hcur (by decide))
      have bM2 : Boxed (wq.setCell ⟨g, i * 2 + 1, none⟩ (.int .i64 (z.cnt + y.cnt))) (w.heap.size + 1) 102 _ := Boxed.kept (Boxed.more (bM).out hxq) g2 (Boxed.ne (Boxed.more (bM).out hxq) hcur (by decide))
      have m2 := ((q41).kept hxq).grown g2 (((q41).kept hxq).ne hcur)
      have kp2 : KeepsFrom wA.heap.size W (wq.setCell ⟨g, i * 2 + 1, none⟩ (.int .i64 (z.cnt + y.cnt))) := (hkW.trans (keepF hxq)).trans ((KeepsOthers.setCell _ _ _).from _)
      have hxf : Ext w (wq.setCell ⟨g, i * 2 + 1, none⟩ (.int .i64 (z.cnt + y.cnt))) := (hxW.trans hxq).grown g2 fun k e => by cases e; exact hgz.1
      have hix := Lib.hid ((q5).out.set (hi).out (z.cnt + y.cnt))
      have fin := Lib.hid (And.intro kp2 (And.intro (And.intro o2 bO2) (And.intro (And.intro bM2 m2) hxf)))
      clear o2 g2 bO2 bM2 m2 kp2 hxf hcur
      go_wp2_with fail
      gi_wp2
      exact ⟨fin.out.1, fun r h => h.elim, ⟨_, _, _, fin.out.2.1.1, fin.out.2.1.2, fin.out.2.2.1.1, by rw [List.length_set]; exact fin.out.2.2.1.2, hix, Lib.hid (sumA_hit q6.out hi.out hzx.out), Lib.hid (by rw [List.length_set, List.length_append]; have := q7.out; omega), Lib.hid (from_set q8.out hi.out), fin.out.2.2.2⟩⟩
    · have hf0 : f (kyS y.x) = none := by
        cases hfe : f (kyS y.x) with
        | none => rfl
        | some l =>
          obtain ⟨i, z, hi, hk, _⟩ := q5.out.2 _ _ hfe
          refine absurd ⟨i, z, hi, ?_⟩ hex
          have hkz : keyCs y.x = keyCs z.x := by
            have : (kyS y.x).data.toList = (kyS z.x).data.toList := by rw [hk]
            exact this
          obtain ⟨z', hz', hzx'⟩ := q8.out z (List.mem_of_getElem? hi)
          exact (keyCs_inj hyk (by rw [← hzx']; exact (hy.out (kp z') (hpre.subset (List.mem_map.2 ⟨z', List.mem_append_left _ hz', rfl⟩))).2.1) hkz).symm
      have hv : ((f (kyS y.x)).getD (.int .i64 0)).value = .int .i64 0 := by rw [hf0]; rfl
      have hs1 : (f (kyS y.x)).isSome = false := by rw [hf0]; rfl
      have hoL := q1.kept hx1
      obtain ⟨ao, no, co, hno, rfl, hro⟩ := OwnK.rdn HCo.len q1.own
      have hbl : no ≤ 20000 := by have := q7.out; have h2 := hpl.out; rw [List.length_append] at h2; have := hlen.out; omega
      have hkW : KeepsFrom wA.heap.size W w1 := keepF hx1
      have hxW := q9.trans hx1
      have bO : Hid (Boxed w1 (w.heap.size + 1 + 1) 24 (.slice ao no co)) := Lib.hid (Boxed.more (show Boxed W (w.heap.size + 1 + 1) 24 _ from q2) hx1)
      have bM : Hid (Boxed w1 (w.heap.size + 1) 102 (.map (some w.heap.size))) := Lib.hid (Boxed.more (show Boxed W (w.heap.size + 1) 102 _ from q3) hx1)
      replace hno := Lib.hid hno
      replace hbl := Lib.hid hbl
      replace hf0 := Lib.hid hf0
      replace hv := Lib.hid hv
      replace hs1 := Lib.hid hs1
      replace hcb := Lib.hid hcb
      replace hks := Lib.hid hks
      replace hex := Lib.hid hex
      clear hro
      gi_wp2_with (refine list_bridge (by rintro ⟨_, _, h⟩; exact h) _ _ _ (by kernel_rfl) ?_; at_lookup; refine wp_mapLookOk rfl _ _ 102 rfl 9 3 str_key Try.underlying102 (zeroI _) (plainElem_int Try.underlying3 (by decide)) rfl q41 _ _ rfl hkf _ hv.out _ hs1.out ?_)
      go_wp2_with fail
      gi_wp2_with (refine list_bridge (by rintro ⟨_, _, h⟩; exact h) _ _ _ (by kernel_rfl) ?_; at_mapUpdate; refine wp_mapStore rfl _ _ _ 102 rfl 9 3 str_key Try.underlying102 klStr_inj (fun x => isKeyLit_string _) rfl q41 (by rw [← hno.out]; have := hbl.out; unfold maxLen; omega) _ _ _ rfl rfl hkf (plainElem_int Try.underlying3 (wf_i64 _ (by omega) (by have := hbl.out; omega))) ?_; intro w2 hm2 hg2 _)
      go_wp2_with fail
      have nM : Hid (wA.heap.size = w.heap.size + 3) := hz
      have nB : Hid (w.heap.size + 3 ≤ Bx) := Lib.hid (by have := nM.out; omega)
      have hxW2 : Ext w w2 := hxW.grown hg2 fun k e => by cases e; exact Nat.le_refl _
      have hkW2 : KeepsFrom wA.heap.size W w2 := hkW.trans (KeepsFrom.of_grownBy hg2 (fun j e => by cases e; have := nM.out; omega))
      have oL2 : OwnLC w.heap.size w2 (.slice ao no co) hs := hoL.beside hg2 (fun r e => by cases e; exact q41.obj)
      have bO2 : Hid (Boxed w2 (w.heap.size + 1 + 1) 24 (.slice ao no co)) := Lib.hid (Boxed.kept bO.out hg2 (fun e => by have := Option.some.inj e; omega))
      have bM2 : Hid (Boxed w2 (w.heap.size + 1) 102 (.map (some w.heap.size))) := Lib.hid (Boxed.kept bM.out hg2 (fun e => by have := Option.some.inj e; omega))
      have hbx1 := (Below.block hx1.bel Bx (Array.getElem?_eq_some_iff.1 hbx).1).trans hbx
      have hbx2 := (hg2.block Bx (Array.getElem?_eq_some_iff.1 hbx1).1 (fun e => by have e1 : Bx = w.heap.size := Option.some.inj e; have := nB.out; omega)).trans hbx1
      have d0 : w2.cell? ⟨Bx, 0, none⟩ = some (.slice y.a y.n y.cap) := by simp [World.cell?, hbx2]
      have d1 : w2.cell? ⟨Bx, 1, none⟩ = some (.int .i64 y.cnt) := by simp [World.cell?, hbx2]
      have dO : w2.cell? ⟨w.heap.size + 1 + 1, 0, none⟩ = some (.slice ao no co) := bO2.out.cell
      have hyr2 := (hyr0.ext hx1).beside hg2 (fun r e => by cases e; exact q41.obj)
      clear hg2 q41 c01 c11 cO1 cM1 hoL bO bM hbx hbx1 hkW hxW hx1
      gi_wp2
      refine wpIn_region_float (v := .slice ao no co) (S := fun w' => Ext w2 w') (by kernel_rfl) (by kernel_rfl) (by rintro ⟨_, _, h⟩; exact h) (by kernel_rfl) (by kernel_rfl) (by kernel_rfl) (by kernel_rfl) (fun c a w h => h) (.inl ⟨rfl, fun W' hW' => ?_⟩) ((Ext.refl _).drew) ?_
      · have := hW'.cellv dO
        go_simp
      have hS0 : Ext w2 w2.drew := (Ext.refl _).drew
      have dq : w2.drew.cell? ⟨Bx, 0, none⟩ = some (.slice y.a y.n y.cap) := hS0.cellv d0
      refine listF_step (by kernel_rfl) rfl fun K1 hK1 => ?_
      go_simp
      refine hK1 _ _ hS0 ?_
      refine listF_step (by kernel_rfl) rfl fun K2 hK2 => ?_
      go_simp
      refine hK2 _ _ hS0 ?_
      refine listF_step (by kernel_rfl) rfl fun K3 hK3 => ?_
      go_simp
      refine (cloneC_any y.a y.n y.cap y.x w2.drew (hyr2.ext hS0) (by omega)).mono ?_
      rintro e w3 ⟨v3, rfl, ho3, hx3⟩
      obtain ⟨a3, n3, c3, hn3, rfl, hr3⟩ := OwnK.rdn Cl.len ho3
      replace hn3 := Lib.hid hn3
      have hS3 : Ext w2 w3 := hS0.trans hx3
      refine hK3 _ _ hS3 ?_
      refine listF_step (by kernel_rfl) rfl fun K4 hK4 => ?_
      go_simp
      refine hK4 _ _ hS3 ?_
      refine listF_step (by kernel_rfl) rfl fun K5 hK5 => ?_
      go_simp
      refine hK5 _ _ (hS3.alloc _) ?_
      have hoA := oL2.own.kept hS3
      have hxA := hxW2.trans hS3
      have hsA := Ext.alloc1 w3 (.cells #[.slice a3 n3 c3, .int .i64 0] 49)
      have hb4 := OwnK.blk' (hoA.kept hsA)
      have bO4 := Boxed.more (Boxed.more bO2.out hS3) hsA
      have bM4 := Boxed.more (Boxed.more bM2.out hS3) hsA
      have m4 := (hm2.kept hS3).kept hsA
      have x4 : (w3.alloc (.cells #[.slice a3 n3 c3, .int .i64 0] 49)).heap[Bx]? = some (.cells #[.slice y.a y.n y.cap, .int .i64 y.cnt] 49) := (Below.block (hS3.alloc _).bel Bx (Array.getElem?_eq_some_iff.1 hbx2).1).trans hbx2
      have hL6 : ∀ u : HCo, (hs ++ [u]).length = no + 1 := fun u => by rw [List.length_append, ← hno.out]; rfl
      replace hL6 := Lib.hid hL6
      refine listF_tail (by kernel_rfl) ?_
      go_wp2_with (at_builtin; refine wp_app1 w w3 (⟨a3, n3, c3, 0, y.x⟩ : HCo) rfl _ _ 24 rfl 49 Try.underlying24 info_corr rfl (by decide) _ _ rfl hoA hxA rfl rfl (HCo.one _) (by rw [← hno.out]; have := hbl.out; omega) (by rw [← hno.out]; have := hbl.out; unfold maxLen; omega) ?_; intro v6 w6 ho6 hx6 hg6; have bO6 : Boxed w6 (w.heap.size + 1 + 1) 24 (.slice ao no co) := Boxed.kept bO4 hg6 (fun e => by obtain ⟨cu, fr, hcu⟩ := hb4 _ e.symm; exact Boxed.ne bO4 hcu (by decide) rfl); have cO6 := bO6.cell; have fO6 := bO6.frozen; obtain ⟨g, cp, hv6⟩ := OwnK.hdr ho6 (by simp); rw [hL6.out _] at hv6; subst hv6; replace bO6 := Lib.hid bO6)
      have oL6 : OwnLC w.heap.size w6 (.slice (some ⟨g, 0, none⟩) (no + 1) cp) (hs ++ [⟨a3, n3, c3, 0, y.x⟩]) := ⟨ho6, fun u hu => by
        rcases List.mem_append.1 hu with h | h
        · exact (((oL2.ok u h).kept hS3).kept hsA).other hg6 hb4 (by decide)
        · rw [List.mem_singleton.1 h]; exact ((OwnK.base ho3 (by have := hxW2.le; simpa using this)).kept hsA).other hg6 hb4 (by decide)⟩
      have bM6 : Boxed w6 (w.heap.size + 1) 102 (.map (some w.heap.size)) := Boxed.kept bM4 hg6 (fun e => by obtain ⟨cu, fr, hcu⟩ := hb4 _ e.symm; exact Boxed.ne bM4 hcu (by decide) rfl)
      have m6 := m4.grown hg6 (fun e => by obtain ⟨cu, fr, hcu⟩ := hb4 _ e.symm; exact MapK.ne m4 hcu rfl)
      have x6 := (hg6.block Bx (Array.getElem?_eq_some_iff.1 x4).1 (fun e => hv'2.out e.symm)).trans x4
      have gO := grownBy_setCell' w6 (w.heap.size + 1 + 1) (.slice (some ⟨g, 0, none⟩) (no + 1) cp)
      have bO7 : Hid (Boxed (w6.setCell ⟨w.heap.size + 1 + 1, 0, none⟩ (.slice (some ⟨g, 0, none⟩) (no + 1) cp)) (w.heap.size + 1 + 1) 24 (.slice (some ⟨g, 0, none⟩) (no + 1) cp)) := Lib.hid (Boxed.set _ bO6.out)
      have bM7 : Hid (Boxed (w6.setCell ⟨w.heap.size + 1 + 1, 0, none⟩ (.slice (some ⟨g, 0, none⟩) (no + 1) cp)) (w.heap.size + 1) 102 (.map (some w.heap.size))) := Lib.hid (Boxed.kept bM6 gO (fun e => by have := Option.some.inj e; omega))
      have m7 := m6.grown gO (fun e => by have := Option.some.inj e; omega)
      have x7 := (gO.block Bx (Array.getElem?_eq_some_iff.1 x6).1 (fun e => by have e1 : Bx = w.heap.size + 1 + 1 := Option.some.inj e; have := nB.out; omega)).trans x6
      have bOr : ∀ r, some (w.heap.size + 1 + 1) = some r → ∃ cur fr, w6.heap[r]? = some (.cells cur 24 fr) := fun r e => by cases e; exact ⟨_, _, bO6.out⟩
      have oL7 : OwnLC w.heap.size (w6.setCell ⟨w.heap.size + 1 + 1, 0, none⟩ (.slice (some ⟨g, 0, none⟩) (no + 1) cp)) (.slice (some ⟨g, 0, none⟩) (no + 1) cp) (hs ++ [⟨a3, n3, c3, 0, y.x⟩]) := ⟨oL6.own.other gO bOr (by decide), fun u hu => (oL6.ok u hu).other gO bOr (by decide)⟩
      have xW7 : Ext w (w6.setCell ⟨w.heap.size + 1 + 1, 0, none⟩ (.slice (some ⟨g, 0, none⟩) (no + 1) cp)) := hx6.grown gO fun k e => by cases e; omega
      have kW7 : KeepsFrom wA.heap.size W (w6.setCell ⟨w.heap.size + 1 + 1, 0, none⟩ (.slice (some ⟨g, 0, none⟩) (no + 1) cp)) := ((hkW2.trans (keepF hS3)).trans ((KeepsOthers.alloc _ _).from _)).trans (((KeepsOthers.of_grownBy hg6 (fun j o e ho => by obtain ⟨cu, fr, hcu⟩ := hb4 _ e; have := hcu.symm.trans ho; cases this; rfl)).trans (KeepsOthers.setCell _ _ _)).from _)
      generalize (w6.setCell ⟨w.heap.size + 1 + 1, 0, none⟩ (.slice (some ⟨g, 0, none⟩) (no + 1) cp)) = w7 at *
      have cO7 := bO7.out.cell
      have c17 : w7.cell? ⟨Bx, 1, none⟩ = some (.int .i64 y.cnt) := by simp [World.cell?, x7]
      obtain ⟨z, hz⟩ : ∃ z : HCo, z = ⟨a3, n3, c3, 0, y.x⟩ := ⟨_, rfl⟩
      have hzc : z.cnt = 0 := by rw [hz]
      have hzx : z.x = y.x := by rw [hz]
      obtain ⟨h2, hh2⟩ : ∃ h2, h2 = hs ++ [z] := ⟨_, rfl⟩
      rw [← hz, ← hh2] at oL7
      have hi2 : h2[no]? = some z := by rw [hh2, hno.out]; simp
      have hst : ∀ c : Int, h2.set no { z with cnt := c } = hs ++ [{ z with cnt := c }] := fun c => by
        rw [hh2]; have := set_snoc { z with cnt := c } z hs; rwa [← hno.out] at this
      have ix2 : Hid (Idx h2 (fun u => if u = kyS y.x then some (.int .i64 no) else f u)) := Lib.hid (by rw [hh2]; exact Idx.miss q5.out hzx hf0.out hno.out)
      have sm2 := Lib.hid (sumA_miss (z := { z with cnt := z.cnt + y.cnt }) q6.out hex.out hzx (by show z.cnt + y.cnt = y.cnt; omega))
      have fr2 : Hid (∀ u ∈ hs ++ [{ z with cnt := z.cnt + y.cnt }], ∃ v ∈ pre ++ [y], v.x = u.x) := Lib.hid (fun u hu => by
        rcases List.mem_append.1 hu with h | h
        · obtain ⟨v, r1, r2⟩ := q8.out u h; exact ⟨v, List.mem_append_left _ r1, r2⟩
        · rw [List.mem_singleton.1 h]; exact ⟨y, by simp, hzx.symm⟩)
      rw [← hst] at sm2 fr2
      have hl2 : Hid (h2.length = no + 1) := Lib.hid (by rw [hh2]; exact hL6.out _)
      have hzb : 0 ≤ z.cnt ∧ z.cnt ≤ 2147483647 * 20000 := by omega
      have hkW := kW7
      have hxW := xW7
      replace hz := Lib.hid hz
      replace hzc := Lib.hid hzc
      replace hzx := Lib.hid hzx
      replace hh2 := Lib.hid hh2
      replace hi2 := Lib.hid hi2
      clear hst x7 bOr kW7 xW7 hx6 gO m6 m4 bM6 oL6 x4 hb4 bM4 bO4 hsA hxA hoA hS3 hr3 ho3 hx3 hS0 dq dO d1 d0 hbx2 bM2 bO2 oL2 hkW2 hxW2 hm2 hyr2
      obtain ⟨hz0, hz1⟩ := hzb
      have hgz := OwnK.ge (oL7).own
      have e1 := fun x : ExtOf w7 => x.cell cO7
      have e2 := fun x : ExtOf w7 => x.cell (OwnK.atk HCo.len (oL7).own (hi2).out (j := 1) rfl)
      have e3 := fun x : ExtOf w7 => x.cell c17
      have hwr : IntKind.i64.wrap (z.cnt + y.cnt) = z.cnt + y.cnt := IntWalk.i64_in _ (by omega)
      have hil : no < (h2).length := (List.getElem?_eq_some_iff.1 (hi2).out).1
      gi_wp2
      refine wpIn_region_qxt 10 (by kernel_rfl) (by kernel_rfl) (by kernel_rfl) (by rintro ⟨_, _, h⟩; exact h) ?_
      simp only [List.take_succ_cons, List.take_zero, List.drop_succ_cons, List.drop_zero]
      repeat (go_big_quiet_step (fail))
      refine wpQuiet_nil ?_
      intro wq hw'
      have hxq := ext_of_ex hw'
      clear hw' e1 e2 e3
      have hoQ := (oL7).kept hxq
      have hcq := OwnK.atk HCo.len hoQ.own (hi2).out (j := 1) rfl
      have hfq := OwnK.free hoQ.own (no * 2 + 1)
      obtain ⟨o2, g2⟩ := hoQ.cnt (hi2).out (z.cnt + y.cnt)
      obtain ⟨cur, hcur⟩ := OwnK.blk hoQ.own (g := g) rfl
      have bO2 : Boxed (wq.setCell ⟨g, no * 2 + 1, none⟩ (.int .i64 (z.cnt + y.cnt))) (w.heap.size + 1 + 1) 24 _ := Boxed.kept (Boxed.more (bO7).out hxq) g2 (Boxed.ne (Boxed.more (bO7).out hxq) hcur (by decide))
      have bM2 : Boxed (wq.setCell ⟨g, no * 2 + 1, none⟩ (.int .i64 (z.cnt + y.cnt))) (w.heap.size + 1) 102 _ := Boxed.kept (Boxed.more (bM7).out hxq) g2 (Boxed.ne (Boxed.more (bM7).out hxq) hcur (by decide))
      have m2 := ((m7).kept hxq).grown g2 (((m7).kept hxq).ne hcur)
      have kp2 : KeepsFrom wA.heap.size W (wq.setCell ⟨g, no * 2 + 1, none⟩ (.int .i64 (z.cnt + y.cnt))) := (hkW.trans (keepF hxq)).trans ((KeepsOthers.setCell _ _ _).from _)
      have hxf : Ext w (wq.setCell ⟨g, no * 2 + 1, none⟩ (.int .i64 (z.cnt + y.cnt))) := (hxW.trans hxq).grown g2 fun k e => by cases e; exact hgz.1
      have hix := Lib.hid ((ix2).out.set (hi2).out (z.cnt + y.cnt))
      have fin := Lib.hid (And.intro kp2 (And.intro (And.intro o2 bO2) (And.intro (And.intro bM2 m2) hxf)))
      clear o2 g2 bO2 bM2 m2 kp2 hxf hcur
      go_wp2_with fail
      gi_wp2
      exact ⟨fin.out.1, fun r h => h.elim, ⟨_, _, _, by have := fin.out.2.1.1; exact this, fin.out.2.1.2, fin.out.2.2.1.1, by rw [List.length_set, hl2.out]; have := fin.out.2.2.1.2; rw [← hno.out] at this; exact this, hix, sm2, Lib.hid (by rw [List.length_set, hl2.out, List.length_append]; have := q7.out; have := hno.out; simp; omega), fr2, fin.out.2.2.2⟩⟩
  case done =>
    rintro D ys W hD hfin ⟨v, hs, f, q1, q2, q3, q4, q5, q6, q7, q8, q9⟩ hK
    rw [hfin] at q6
    have hfl : ys.length = xs.length := by rw [← hfin, List.length_map]
    have cO := q2.cell
    obtain ⟨ao, no, co, hno, rfl, hro⟩ := OwnK.rdn HCo.len q1.own
    have hco := containsO_any ao no co hs W ⟨hro, fun u hu => OwnK.rdv Cl.len (q1.ok u hu)⟩
    replace hno := Lib.hid hno
    cases hov : hs.any overB
    · replace hco := cbool hco hov
      gi_wp2
      refine ⟨trivial, ?_⟩
      gi_at_call 71
      refine (callsIn_wide.2 hco).mono ?_
      rintro e w1 ⟨rfl, hx1⟩
      have cO1 := hx1.cellv cO
      have hK1 := (Below.block hx1.bel D (Array.getElem?_eq_some_iff.1 hK).1).trans hK
      have oL1 := q1.kept hx1
      have bO1 : Boxed w1 (w.heap.size + 1 + 1) 24 (.slice ao no co) := Boxed.more (show Boxed W (w.heap.size + 1 + 1) 24 _ from q2) hx1
      have hxw1 := q9.trans hx1
      have hsrt : Calls Try.prog 77 #[.slice ao no co, .func (.func 78) #[] #[]] w1 fun en w' => en = .returned (.tuple #[]) ∧ (Ext w w' ∧ w'.heap[D]? = some (.deferred (some [])) ∧ w'.cell? ⟨w.heap.size + 1 + 1, 0, none⟩ = some (.slice ao no co) ∧
          ∃ ts : List HCo, ts.Perm hs ∧ ts.Pairwise (fun x y => ¬ cmpCs y.x x.x < 0) ∧ OwnLC w.heap.size w' (.slice ao no co) ts) := by
        rcases Nat.eq_zero_or_pos no with h0 | h0
        · subst h0
          have hh : hs = [] := List.eq_nil_of_length_eq_zero hno.out.symm
          subst hh
          refine (sortC_none ao co _ w1).mono ?_
          rintro e w' ⟨rfl, rfl⟩
          exact ⟨rfl, hxw1, hK1, cO1, [], List.Perm.refl _, List.Pairwise.nil, oL1⟩
        · obtain ⟨g, cp, he⟩ := OwnK.hdr q1.own (by rw [← hno.out]; exact h0)
          cases he
          refine (sortC_any hxw1 oL1 (by have := q7.out; have := hlen.out; omega)).mono ?_
          rintro e w' ⟨rfl, hx', hO, ts, r1, r2, r3⟩
          obtain ⟨cur, hcur⟩ := OwnK.blk oL1.own (g := g) rfl
          have hDg : D ≠ g := fun e => by rw [← e, hK1] at hcur; cases hcur
          have hOg : w.heap.size + 1 + 1 ≠ g := fun e => Boxed.ne bO1 hcur (by decide) (by rw [e])
          exact ⟨rfl, hx', (hO.block D (Array.getElem?_eq_some_iff.1 hK1).1 hDg).trans hK1, Boxed.cell ((hO.block _ bO1.lt hOg).trans bO1), ts, r1, r2, r3⟩
      replace bO1 := Lib.hid bO1
      gi_wp2
      refine ⟨trivial, ?_⟩
      gi_at_call 77
      refine (callsIn_wide.2 hsrt).mono ?_
      rintro e w2 ⟨rfl, hx2, hK2, cO2, ts, r1, r2, r3⟩
      gi_wp2
      refine ⟨by simp, .inl ⟨_, _, rfl, run_takeDeferred hK2, ?_⟩⟩
      refine ⟨_, results_tmp2 rfl _ _ _, ?_⟩
      obtain ⟨hL, h7⟩ := sumK_sorted q6.out hov r1 (r2.imp fun h => by omega)
      exact ⟨_, hL, _, ts, by rw [h7]; rfl, r3.beside (grownBy_putObj' _ _ _) (fun r e => by cases e; exact ⟨_, hK2, rfl⟩), by rw [h7]; rfl, hx2.grown (grownBy_putObj' _ _ _) fun k e => by cases e; have := hz.out; omega⟩
    · replace hco := cbool hco hov
      gi_wp2
      refine ⟨trivial, ?_⟩
      gi_at_call 71
      refine (callsIn_wide.2 hco).mono ?_
      rintro e w1 ⟨rfl, hx1⟩
      have cO1 := hx1.cellv cO
      have hK1 := (Below.block hx1.bel D (Array.getElem?_eq_some_iff.1 hK).1).trans hK
      gi_wp2
      refine ⟨by simp, .inl ⟨_, _, rfl, run_takeDeferred hK1, ?_⟩⟩
      refine ⟨_, results_tmp2 rfl _ _ _, ?_⟩
      obtain ⟨L, hL, h7⟩ := sumK_over q6.out hov
      exact ⟨L, hL, _, [], by rw [h7]; rfl, ⟨OwnK.nil _ _ _, fun u hu => by cases hu⟩, by rw [h7]; rfl, (q9.trans hx1).grown (grownBy_putObj' _ _ _) fun k e => by cases e; have := hz.out; omega⟩
  case stop =>
    rintro D c pre W _ h _
    exact h.elim
end Go.Proofs.Ytkdancoffmhjhaa
