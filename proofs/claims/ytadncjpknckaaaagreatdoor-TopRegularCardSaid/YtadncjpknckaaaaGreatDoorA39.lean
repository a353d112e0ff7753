/-
  attest.attested: the attested words with their places.
  A range over an iterator whose assigning part lays a box in each round.
-/
import Derived.Test.YtadncjpknckaaaaGreatDoorA32
import Derived.Test.YtadncjpknckaaaaGreatDoorA26
namespace Go.Proofs.YtadncjpknckaaaaGreatDoor
open Go.RowKit Go.Shelf Go.Maps
attribute [local go_sem] Oper.semAt_some
/-- A place, and what is attested there. -/
structure At where
  i : Nat
  k : Nat
  f : Fm
def attE (i : Nat) (fs : List Fm) (k : Nat) : List At := (List.range k).filterMap fun j => (fs[j]?).bind fun f => if f.on = true then some ⟨i, j, f⟩ else none
def attL (es : List En) (n : Nat) : List At := (List.range n).flatMap fun i => match es[i]? with
  | some e => attE i e.fs e.fs.length
  | none => []
theorem attE_succ {i : Nat} {fs : List Fm} {k : Nat} {f : Fm} (h : fs[k]? = some f) : attE i fs (k + 1) = attE i fs k ++ if f.on = true then [⟨i, k, f⟩] else [] := by
  unfold attE
  rw [List.range_succ, List.filterMap_append]
  congr 1
  rw [List.filterMap_cons, h]
  by_cases ho : f.on = true
  · simp [ho]
  · simp [ho]
theorem attL_succ {es : List En} {n : Nat} {e : En} (h : es[n]? = some e) : attL es (n + 1) = attL es n ++ attE n e.fs e.fs.length := by
  unfold attL
  rw [List.range_succ, List.flatMap_append]
  simp [h]
theorem attE_pre (i : Nat) (fs : List Fm) (k m : Nat) : attE i fs k <+: attE i fs (k + m) := by
  induction m with
  | zero => exact List.prefix_refl _
  | succ m ih =>
    refine ih.trans ?_
    rw [← Nat.add_assoc]
    unfold attE
    rw [List.range_succ (n := k + m), List.filterMap_append]
    exact List.prefix_append _ _
theorem attL_pre (es : List En) (k m : Nat) : attL es k <+: attL es (k + m) := by
  induction m with
  | zero => exact List.prefix_refl _
  | succ m ih =>
    refine ih.trans ?_
    rw [← Nat.add_assoc]
    unfold attL
    rw [List.range_succ (n := k + m), List.flatMap_append]
    exact List.prefix_append _ _
/-- A place comes up where it stands. -/
theorem att_next {es : List En} {n i k : Nat} {e : En} {f : Fm} (hi : i < n) (he : es[i]? = some e) (hf : e.fs[k]? = some f) (ho : f.on = true) : ((attL es i ++ attE i e.fs k) ++ [⟨i, k, f⟩]) <+: attL es n := by
  have h1 := attE_succ (i := i) hf
  rw [if_pos ho] at h1
  rw [List.append_assoc, ← h1]
  have hk := (List.getElem?_eq_some_iff.1 hf).1
  have h2 := attE_pre i e.fs (k + 1) (e.fs.length - (k + 1))
  rw [show k + 1 + (e.fs.length - (k + 1)) = e.fs.length by omega] at h2
  have h3 := attL_pre es (i + 1) (n - (i + 1))
  rw [show i + 1 + (n - (i + 1)) = n by omega, attL_succ he] at h3
  exact (List.prefix_append_right_inj _).2 h2 |>.trans h3
abbrev entsO (a : Option Addr) (n cap : Nat) : Obj := .cells #[.slice a n cap] 28 (0, 0)
def encA (x : At) : Array Value := #[.agg #[.int .i64 (x.i : Int), .int .i64 (x.k : Int)], .slice x.f.a x.f.n x.f.cap]
theorem attested_any (a : Option Addr) (n cap : Nat) (w : World) : Calls Tryz.prog 14 #[.slice a n cap] w fun e w' => e = .returned (.func (.func 28) #[] #[.pointer (some ⟨w.heap.size, 0, none⟩)]) ∧ w' = w.alloc (entsO a n cap) := by
  go_enter Tryz.func14, Tryz.ntmps14
  go_wp2_with fail
  go_ret
  exact ⟨rfl, rfl⟩
set_option maxHeartbeats 4000000 in
set_option maxRecDepth 20000 in
theorem attested1_T (a : Option Addr) (ne cap : Nat) (es : List En) (w0 : World) (hes : RdEs w0 a ne cap es) (T : World → Nat → Prop) (J Jx : List At → World → Prop) (hJT : NewT T J) (hJ0 : ∀ s X, J s X → Ext w0 X) (n l bl : Nat) (hn : 1 ≤ n)
    (hY : ∀ pre x X, J pre X → (pre ++ [x]) <+: attL es ne → YieldAt Fence.wide (n - 1) Tryz.prog l (encA x) X fun e Y => (e = .returned (.bool true) ∧ J (pre ++ [x]) Y ∧ KeepT T X Y) ∨ (e = .returned (.bool false) ∧ Jx (pre ++ [x]) Y))
    (W : World) (h0 : J [] W) (kl : Held T W bl (entsO a ne cap)) :
    CallsIn Fence.wide n Tryz.prog 28 #[.func (.yield l) #[] #[], .pointer (some ⟨bl, 0, none⟩)] W fun e W' => (∃ v, e = .returned v) ∧ (J (attL es ne) W' ∨ ∃ pre, Jx pre W') := by
  have hro : Fence.wide.round = none := rfl
  refine callsIn_of_wp Tryz.func28 rfl trivial ?_ hro
  simp only [Tryz.ntmps28, List.size_toArray, List.length_cons, List.length_nil, Nat.reduceAdd, Nat.reduceSub, Array.replicate_succ, Array.replicate_zero, List.push_toArray, List.append_toArray, List.nil_append, List.cons_append]
  have c1 : W.cell? ⟨bl, 0, none⟩ = some (.slice a ne cap) := by simp [World.cell?, kl.at']
  have hel := hes.rd.len
  have hmax : ne ≤ 9223372036854775807 := by have := hes.rd.le; have := hes.rd.most; unfold maxLen at this; omega
  replace hel := Lib.hid hel
  gi_wp2
  clear c1 kl
  gi_loopw [9] (fun i wr => ∃ k : Nat, k ≤ ne ∧ i = .int .i64 k ∧ J (attL es k) wr) (fun i _ => ne - (intOf i).toNat)
  case atStart => exact ⟨0, Nat.zero_le _, rfl, h0⟩
  case round =>
    obtain ⟨i, hi, rfl, hJi⟩ := hrel
    by_cases hlt : i < ne
    · obtain ⟨b, off, y, rfl, hs, hb, d0, d1, hy, hyn⟩ := (hes.ext (hJ0 _ _ hJi)).en hlt
      have hyl := hy.rd.len
      have hmaxy : y.n ≤ 9223372036854775807 := by have := hy.rd.le; have := hy.rd.most; unfold maxLen at this; omega
      have hsu := attL_succ hs.out
      replace hsu := Lib.hid hsu
      replace hyl : Hid (y.n = y.fs.length) := Lib.hid hyl.symm
      have hJa := (hJT _ _ _ hJi (Ext.alloc1 wr (.cells #[.string y.name, .slice y.a y.n y.cap] 39))).1
      have hyw := hes.words y (List.mem_of_getElem? hs.out)
      gi_wp2
      generalize (wr.alloc (.cells #[.string y.name, .slice y.a y.n y.cap] 39)) = wa at *
      clear d0 d1 hy
      gi_loopw [17] (fun j X => ∃ k : Nat, k ≤ y.n ∧ j = .int .i64 k ∧ J (attL es i ++ attE i y.fs k) X) (fun j _ => y.n - (intOf j).toNat)
      case atStart => exact ⟨0, Nat.zero_le _, rfl, by simpa [attE] using hJa⟩
      case round =>
        obtain ⟨k, hk, rfl, hJk⟩ := hrel
        by_cases hlk : k < y.n
        · obtain ⟨bf, offf, f, hya, hfs, hbf, f0, f1, hfw⟩ := (hyw.ext (hJ0 _ _ hJk)).fm hlk
          have hse := attE_succ (i := i) hfs.out
          have hJb := (hJT _ _ _ hJk (Ext.alloc1 wr (.cells #[.bool f.on, .slice f.a f.n f.cap] 42))).1
          cases hon : f.on
          · rw [hon] at hse hJb f0
            simp only [Bool.false_eq_true, if_false, List.append_nil] at hse
            rw [← hse] at hJb
            replace hse := Lib.hid hse
            replace hon := Lib.hid hon
            gi_wp2
            refine ⟨fun _ h => (by cases h), ?_⟩
            gi_wp2
            rw [← hya]
            refine ⟨?_, (by simp [intOf]; omega)⟩
            repeat apply Exists.intro
            exact ⟨⟨k + 1, by omega, by go_num, hJb⟩, rfl⟩
          · rw [hon] at hse hJb f0
            simp only [if_true] at hse
            have hpre := att_next hlt hs.out hfs.out hon
            obtain ⟨fn, tmps, assign, body, hyl, hR⟩ := hY _ ⟨i, k, f⟩ _ hJb hpre
            have hon' := hon
            replace hse := Lib.hid hse
            replace hon := Lib.hid hon
            simp only [encA] at hyl
            gi_wp2
            refine hR.mono ?_
            rintro e W3 (⟨rfl, hJ3, hk3⟩ | ⟨rfl, hJx3⟩)
            rotate_left
            · gi_wp2
              refine bodyPost_ret (results_none rfl _ _ _) rfl ?_
              exact ⟨⟨_, rfl⟩, .inr ⟨_, hJx3⟩⟩
            rw [List.append_assoc, ← hse.out] at hJ3
            gi_wp2
            rw [← hya]
            refine ⟨?_, (by simp [intOf]; omega)⟩
            repeat apply Exists.intro
            exact ⟨⟨k + 1, by omega, by go_num, hJ3⟩, rfl⟩
        · have hkn : k = y.n := by omega
          subst hkn
          rw [hyl.out, ← hsu.out] at hJk
          gi_wp2
          (first | exact ⟨⟨i + 1, by omega, by go_num, hJk⟩, (by simp [intOf]; omega)⟩ | (go_roundw; case rel => exact ⟨i + 1, by omega, by go_num, hJk⟩; case measure => exact (by simp [intOf]; omega)))
    · have hin : i = ne := by omega
      subst hin
      gi_wp2
      go_end0
      exact ⟨⟨_, rfl⟩, .inl hJi⟩
end Go.Proofs.YtadncjpknckaaaaGreatDoor
namespace Go.Proofs.YtadncjpknckaaaaGreatDoor
open Go.RowKit Go.Shelf
section
variable {F : Fence} {n : Nat} {P : Program} {w : World}
theorem wpIn_range_T5 {α : Type} {g : Operand} {ps : Array Tmp} {assign body : Code} {Q : Exit → Act → World → Prop} {a : Act}
    (hro : F.round = none) (h1 : 1 ≤ n) {gf : Nat} {lb : Array Value} (hg : a.eval g = .func (.func gf) #[] lb) (hFg : F.fn gf) (eg : ∀ args w, (callFunc gf args).run P w = .ok (.enter gf args) w)
    (T : World → Nat → Prop) (Nx : List α → α → Array Value → World → Prop) (I : List α → World → Prop) (Ix : Code → List α → World → Prop) (Full : List α → Prop) (Qr : World → Nat → Prop) (Pn : List PanicEntry → List α → Prop) (I2 : List α → α → Act → World → Prop)
    (hQr : ∀ X r o, X.heap[r]? = some o → o.isCells = false → Qr X r)
    (hTc : ∀ s X r, I s X → T X r → ∃ o : Obj, X.heap[r]? = some o ∧ o.isCells = true)
    (hI : ∀ s X Y row, I s X → X.grownBy Y row → (∀ r, row = some r → ¬ T X r ∧ w.heap.size ≤ r ∧ Qr X r) → I s Y ∧ ∀ r, T Y r ↔ T X r)
    (hIx : ∀ c s X Y row, Ix c s X → X.grownBy Y row → (∀ r, row = some r → ∃ o : Obj, X.heap[r]? = some o ∧ o.isCells = false) → (∀ r, row = some r → w.heap.size ≤ r) → Ix c s Y)
    (hI2 : ∀ pre x aa X Y row, I2 pre x aa X → X.grownBy Y row → (∀ r, row = some r → (∃ o : Obj, X.heap[r]? = some o ∧ o.isCells = false) ∧ w.heap.size ≤ r) → I2 pre x aa Y ∧ ∀ r, T Y r ↔ T X r)
    (h0 : I [] w)
    (hiter : ∀ (l : Nat) (J Jx : List α → World → Prop) (W : World), Below w.heap.size w W → J [] W → (∀ s X, J s X → I s X) →
      (∀ s X Y row, J s X → X.grownBy Y row → (∀ r, row = some r → ¬ T X r ∧ W.heap.size ≤ r ∧ Qr X r) → J s Y ∧ ∀ r, T Y r ↔ T X r) →
      (∀ s X Y row, Jx s X → X.grownBy Y row → (∀ r, row = some r → (∃ o : Obj, X.heap[r]? = some o ∧ o.isCells = false) ∧ W.heap.size ≤ r) → Jx s Y) →
      (∀ pre x v X, J pre X → v.size = ps.size → Nx pre x v X → YieldAt F (n - 1 - 1) P l v X fun e Y => KeepsFrom W.heap.size X Y ∧ ((e = .returned (.bool true) ∧ J (pre ++ [x]) Y ∧ KeepT T X Y) ∨ (e = .returned (.bool false) ∧ Jx (pre ++ [x]) Y))) →
      CallsIn F (n - 1) P gf (#[.func (.yield l) #[] #[]] ++ lb) W fun e W' => ((∃ v, e = .returned v) ∧ ((∃ s, Full s ∧ J s W') ∨ ∃ pre, Jx pre W')) ∨ ∃ ch s, e = .panicked ch ∧ Pn ch s ∧ J s W')
    (hassign : ∀ (l : Nat) (pre : List α) (x : α) (v : Array Value) (W : World) (K : Act → World → Prop), I pre W → v.size = ps.size → Nx pre x v W → (∀ aa W1, KeepsFrom w.heap.size W W1 → KeepT T W W1 → I2 pre x aa W1 → K aa W1) →
      assign.wpIn (F.inRound l) (n - 1 - 1) P (Exit.then K (fun _ _ _ => False)) { tmps := (ps.zip v).foldl (fun t (p, u) => t.setIfInBounds p u) a.tmps, defers := [] } W)
    (hbody : ∀ (l : Nat) (pre : List α) (x : α) (aa : Act) (W : World), I2 pre x aa W → body.wpIn (F.inRound l) (n - 1 - 1) P (roundEndT w.heap.size T I Ix (pre ++ [x]) W) aa W)
    (hdone : ∀ (D : Nat) (s : List α) (W : World), w.heap.size ≤ D → Full s → I s W → W.heap[D]? = some (.deferred (some [])) → Q .normal { a with defers := { target := .collected D, args := #[] } :: a.defers } W)
    (hpanic : ∀ (D : Nat) (s : List α) (ch : List PanicEntry) (W : World), w.heap.size ≤ D → Pn ch s → I s W → W.heap[D]? = some (.deferred (some [])) → Q (.panic ch) { a with defers := { target := .collected D, args := #[] } :: a.defers } W)
    (hstop : ∀ (D : Nat) (c : Code) (pre : List α) (W : World), w.heap.size ≤ D → Ix c pre W → W.heap[D]? = some (.deferred (some [])) → c.wpIn F n P Q { a with defers := { target := .collected D, args := #[] } :: a.defers } W) :
    (Code.rangeFunc g ps assign body).wpIn F n P Q a w := by
  refine wpIn_rangeFunc fun fn hfn => ?_
  rw [hro]
  let rc : LoopState → Option Code → Loop := fun st pe => { state := st, pending := pe, fn := fn, tmps := a.tmps, params := ps, assign := assign, body := body, defers := w.heap.size }
  obtain ⟨W1, hW1⟩ : ∃ W1, (w.alloc (.deferred (some []))).alloc (.loop (rc .ready none)) = W1 := ⟨_, rfl⟩
  have he : (Instr.enterLoop fn a.tmps ps assign body none).run P w = .ok (w.heap.size + 1, [{ target := .collected w.heap.size, args := #[] }]) W1 := by
    rw [← hW1]; exact run_enterLoop_outer (P := P) (w := w) fn a.tmps ps assign body
  have hL : W1.heap[w.heap.size + 1]? = some (.loop (rc .ready none)) := by
    rw [← hW1]; have := World.alloc_heap_new (w.alloc (.deferred (some []))) (.loop (rc .ready none)); rwa [World.size_alloc] at this
  have hD : W1.heap[w.heap.size]? = some (.deferred (some [])) := by
    rw [← hW1]; exact (Below.heap_alloc _ _ _ (by simp)).trans (World.alloc_heap_new w _)
  have hBel : Below w.heap.size w W1 := by rw [← hW1]; exact ((Below.refl _ w).alloc (Nat.le_refl _) _).alloc (by simp) _
  have hI1 : I [] W1 := by
    rw [← hW1]
    exact (hI _ _ _ none (hI _ _ _ none h0 (World.grownBy_alloc _ _ _) (fun r e => by cases e)).1 (World.grownBy_alloc _ _ _) (fun r e => by cases e)).1
  have hz1 : W1.heap.size = w.heap.size + 2 := by rw [← hW1]; simp
  clear hW1
  have noT : ∀ {s : List α} {X : World} {o : Obj} {r : Nat}, I s X → X.heap[r]? = some o → o.isCells = false → ¬ T X r := fun hi ho hc ht => by
    obtain ⟨o', h1, h2⟩ := hTc _ _ _ hi ht
    rw [ho] at h1; cases h1; rw [hc] at h2; cases h2
  have turn : ∀ (s : List α) (X : World) (o o' : Obj), I s X → X.heap[w.heap.size + 1]? = some o → o.isCells = false → I s (X.putObj (w.heap.size + 1) o') ∧ ∀ r, T (X.putObj (w.heap.size + 1) o') r ↔ T X r := fun s X o o' hs ho hc =>
    hI s X _ (some (w.heap.size + 1)) hs (grownBy_putObj' X _ o') (fun r e => by cases e; exact ⟨noT hs ho hc, by omega, hQr _ _ _ ho hc⟩)
  have keep : ∀ (s : List α) (X : World) (o o' : Obj), I s X → X.heap[w.heap.size + 1]? = some o → o.isCells = false → KeepT T X (X.putObj (w.heap.size + 1) o') := fun s X o o' hs ho hc =>
    ⟨(grownBy_putObj' X _ o').size, fun r q h1 h2 _ => by
      rw [World.putObj_heap_other (fun e => by subst e; rw [ho] at h1; cases h1; rw [hc] at h2; cases h2)]; exact h1, fun r h => .inl (((turn s X o o' hs ho hc).2 r).1 h)⟩
  refine ⟨w.heap.size + 1, [{ target := .collected w.heap.size, args := #[] }], W1, { target := .fn (.func gf) lb, args := #[.func (.yield (w.heap.size + 1)) #[] #[]] }, W1, gf,
    #[.func (.yield (w.heap.size + 1)) #[] #[]] ++ lb, W1, he, ?_, ?_, ?_, fun _ => h1, ?_⟩
  · simp only [resolve, hg]
    simp [go_sem]
  · intro f' hf'; simp [Target.leads] at hf'; subst hf'; exact hFg
  · simp [invoke, go_sem, eg]
  · refine (hiter (w.heap.size + 1) (fun s X => I s X ∧ X.heap[w.heap.size + 1]? = some (.loop (rc .ready none)) ∧ X.heap[w.heap.size]? = some (.deferred (some [])))
      (fun s X => ∃ c, Ix c s X ∧ X.heap[w.heap.size + 1]? = some (.loop (rc .done (some c))) ∧ X.heap[w.heap.size]? = some (.deferred (some [])))
      W1 hBel ⟨hI1, hL, hD⟩ (fun s X hs => hs.1) (fun s X Y row hs hg' hr => ?_) (fun s X Y row hs hg' hr => ?_) ?_).mono ?_
    · obtain ⟨h2, h3⟩ := hI s X Y row hs.1 hg' (fun r e => ⟨(hr r e).1, by have := (hr r e).2.1; omega, (hr r e).2.2⟩)
      refine ⟨⟨h2, (hg'.block _ (Array.getElem?_eq_some_iff.1 hs.2.1).1 fun e => ?_).trans hs.2.1, (hg'.block _ (Array.getElem?_eq_some_iff.1 hs.2.2).1 fun e => ?_).trans hs.2.2⟩, h3⟩
      · have := (hr _ e.symm).2.1; omega
      · have := (hr _ e.symm).2.1; omega
    · obtain ⟨c, h2, h3, h4⟩ := hs
      refine ⟨c, hIx _ _ _ _ _ h2 hg' (fun r e => (hr r e).1) (fun r e => by have := (hr r e).2; omega), (hg'.block _ (Array.getElem?_eq_some_iff.1 h3).1 fun e => ?_).trans h3, (hg'.block _ (Array.getElem?_eq_some_iff.1 h4).1 fun e => ?_).trans h4⟩
      · have := (hr _ e.symm).2; omega
      · have := (hr _ e.symm).2; omega
    · rintro pre x v X ⟨hi, hl, hk⟩ hv hlen
      refine ⟨fn, _, assign, body, run_yield (P := P) (args := v) hl hv, roundIn_of_wpIn hfn (hassign _ pre x v X _ hi hv hlen fun aa Xa hka hta hia => ?_)⟩
      have hla := hka.same _ _ (by omega) hl rfl
      have hda := hka.same _ _ (Nat.le_refl _) hk rfl
      refine ⟨_, run_beginRound hla rfl, ?_⟩
      have hlt : w.heap.size + 1 < Xa.heap.size := (Array.getElem?_eq_some_iff.1 hla).1
      have hl2 : (Xa.putObj (w.heap.size + 1) (.loop { rc .ready none with state := .busy })).heap[w.heap.size + 1]? = some (.loop { rc .ready none with state := .busy }) := World.putObj_heap_same hlt
      have hk2 : (Xa.putObj (w.heap.size + 1) (.loop { rc .ready none with state := .busy })).heap[w.heap.size]? = some (.deferred (some [])) := (World.putObj_heap_other (by omega)).trans hda
      obtain ⟨hib, htb⟩ := hI2 _ _ _ _ _ _ hia (grownBy_putObj' Xa (w.heap.size + 1) (.loop { rc .ready none with state := .busy })) (fun r e => by cases e; exact ⟨⟨_, hla, rfl⟩, by omega⟩)
      have kb : KeepT T X (Xa.putObj (w.heap.size + 1) (.loop { rc .ready none with state := .busy })) := hta.trans ⟨(grownBy_putObj' Xa _ _).size, fun r q h1 h2 _ => by
        rw [World.putObj_heap_other (fun e => by subst e; rw [hla] at h1; cases h1; cases h2)]; exact h1, fun r h => .inl ((htb r).1 h)⟩
      have kf : ∀ (X3 : World) (o' : Obj), KeepsFrom w.heap.size (Xa.putObj (w.heap.size + 1) (.loop { rc .ready none with state := .busy })) X3 → KeepsFrom W1.heap.size X (X3.putObj (w.heap.size + 1) o') := fun X3 o' hk => by
        refine ⟨Nat.le_trans hka.size (Nat.le_trans (grownBy_putObj' Xa _ _).size (Nat.le_trans hk.size (grownBy_putObj' X3 _ _).size)), fun k o hB hk' hc => ?_⟩
        rw [World.putObj_heap_other (by omega)]
        refine hk.same k o (by omega) ?_ hc
        rw [World.putObj_heap_other (by omega)]; exact hka.same k o (by omega) hk' hc
      refine wpIn_mono (hbody _ pre x aa _ hib) ?_
      rintro e a3 X3 hp
      cases e with
      | normal =>
        obtain ⟨hk3, hs3, hi3⟩ := hp
        have hl3 := hk3.same _ _ (by omega) hl2 rfl
        have hd3 := hk3.same _ _ (Nat.le_refl _) hk2 rfl
        refine ⟨_, _, run_endRound (P := P) none hl3, kf _ _ hk3, .inl ⟨rfl, ⟨(turn _ _ _ _ hi3 hl3 rfl).1, World.putObj_heap_same (Array.getElem?_eq_some_iff.1 hl3).1, (World.putObj_heap_other (by omega)).trans hd3⟩, ?_⟩⟩
        exact (kb.trans hs3).trans (keep _ X3 _ _ hi3 hl3 rfl)
      | ret =>
        obtain ⟨hk3, hi3⟩ := hp
        have hl3 := hk3.same _ _ (by omega) hl2 rfl
        have hd3 := hk3.same _ _ (Nat.le_refl _) hk2 rfl
        exact ⟨_, _, run_endRound (P := P) (some .ret) hl3, kf _ _ hk3, .inr ⟨rfl, .ret, hIx _ _ _ _ _ hi3 (grownBy_putObj' X3 _ _) (fun r e => by cases e; exact ⟨_, hl3, rfl⟩) (fun r e => by cases e; omega), World.putObj_heap_same (Array.getElem?_eq_some_iff.1 hl3).1, (World.putObj_heap_other (by omega)).trans hd3⟩⟩
      | exit id =>
        obtain ⟨hk3, hi3⟩ := hp
        have hl3 := hk3.same _ _ (by omega) hl2 rfl
        have hd3 := hk3.same _ _ (Nat.le_refl _) hk2 rfl
        exact ⟨_, _, run_endRound (P := P) (some (.exit id)) hl3, kf _ _ hk3, .inr ⟨rfl, .exit id, hIx _ _ _ _ _ hi3 (grownBy_putObj' X3 _ _) (fun r e => by cases e; exact ⟨_, hl3, rfl⟩) (fun r e => by cases e; omega), World.putObj_heap_same (Array.getElem?_eq_some_iff.1 hl3).1, (World.putObj_heap_other (by omega)).trans hd3⟩⟩
      | goto t => exact hp.elim
      | panic ch => exact hp.elim
      | outgrown => exact hp.elim
    · rintro e W2 (⟨⟨v, rfl⟩, (⟨s, hf, hi, hl, hk⟩ | ⟨pre, c, hi, hl, hk⟩)⟩ | ⟨ch, s, rfl, hp, hi, hl, hk⟩)
      · exact ⟨none, _, run_endLoop (P := P) hl (by simp [rc]), hdone _ s _ (Nat.le_refl _) hf (turn _ _ _ _ hi hl rfl).1 ((World.putObj_heap_other (by omega)).trans hk)⟩
      · exact ⟨some c, _, run_endLoop (P := P) hl (by simp [rc]), hstop _ c pre _ (Nat.le_refl _) (hIx _ _ _ _ _ hi (grownBy_putObj' W2 _ _) (fun r e => by cases e; exact ⟨_, hl, rfl⟩) (fun r e => by cases e; omega)) ((World.putObj_heap_other (by omega)).trans hk)⟩
      · exact hpanic _ s ch W2 (Nat.le_refl _) hp hi hk
end
end Go.Proofs.YtadncjpknckaaaaGreatDoor
