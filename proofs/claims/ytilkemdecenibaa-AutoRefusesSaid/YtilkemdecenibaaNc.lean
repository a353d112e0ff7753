/-
  together: plain, and what stands in its loop.
  Lists of sounds, and of words, compared.
-/
import Derived.Test.YtilkemdecenibaaNa
namespace Go.Proofs.Ytilkemdecenibaa
open Go.RowKit Go.Maps
/-! ### Pairs of states -/
def P2.enc (p : Nat × Nat) : List Value := [.int .i64 (p.1 : Int), .int .i64 (p.2 : Int)]
theorem P2.len (p : Nat × Nat) : (P2.enc p).length = 2 := rfl
theorem P2.one (p : Nat × Nat) : ∀ u ∈ P2.enc p, u.oneCell' = true := by intro u hu; simp [P2.enc] at hu; rcases hu with rfl | rfl <;> rfl
theorem info_p2 : (Try.prog.info? 166).map (fun i => (i.zero, i.size, i.bytes)) = some (some (.agg #[.int .i64 0, .int .i64 0]), 2, 16) := by kernel_rfl
def putP (ps : List (Nat × Nat)) (p : Nat × Nat) : Nat × List (Nat × Nat) := if p ∈ ps then (ps.idxOf p, ps) else (ps.length, ps ++ [p])
def rowP : List (Nat × Nat) → List (Nat × Nat) → List Nat × List (Nat × Nat)
  | [], ps => ([], ps)
  | p :: l, ps => let q := putP ps p; let t := rowP l q.2; (q.1 :: t.1, t.2)
theorem rowP_snoc (p : Nat × Nat) : ∀ (l ps : List (Nat × Nat)), rowP (l ++ [p]) ps = ((rowP l ps).1 ++ [(putP (rowP l ps).2 p).1], (putP (rowP l ps).2 p).2)
  | [], ps => by simp [rowP]
  | x :: l, ps => by simp only [List.cons_append, rowP]; rw [rowP_snoc p l]
theorem rowP_len : ∀ (l ps : List (Nat × Nat)), (rowP l ps).1.length = l.length
  | [], ps => rfl
  | x :: l, ps => by simp only [rowP, List.length_cons]; rw [rowP_len l]
theorem putP_pre (ps : List (Nat × Nat)) (p : Nat × Nat) : ps <+: (putP ps p).2 := by
  unfold putP
  split
  · exact List.prefix_refl _
  · exact List.prefix_append _ _
theorem rowP_pre : ∀ (l ps : List (Nat × Nat)), ps <+: (rowP l ps).2
  | [], ps => List.prefix_refl _
  | x :: l, ps => by simp only [rowP]; exact (putP_pre _ _).trans (rowP_pre l _)
theorem rowP_take_pre (l : List (Nat × Nat)) (k : Nat) (ps : List (Nat × Nat)) : (rowP (l.take k) ps).2 <+: (rowP l ps).2 := by
  have h : ∀ (l m ps : List (Nat × Nat)), (rowP l ps).2 <+: (rowP (l ++ m) ps).2 := fun l => by
    induction l with
    | nil => intro m ps; exact rowP_pre m ps
    | cons x l ih => intro m ps; simp only [List.cons_append, rowP]; exact ih m _
  have := h (l.take k) (l.drop k) ps
  rwa [List.take_append_drop] at this
theorem putP_mem {ps : List (Nat × Nat)} {p x : Nat × Nat} (h : x ∈ (putP ps p).2) : x ∈ ps ∨ x = p := by
  unfold putP at h
  split at h
  · exact .inl h
  · simpa using h
theorem rowP_mem : ∀ (l ps : List (Nat × Nat)) {x : Nat × Nat}, x ∈ (rowP l ps).2 → x ∈ ps ∨ x ∈ l
  | [], ps, x, h => .inl h
  | p :: l, ps, x, h => by
    simp only [rowP] at h
    rcases rowP_mem l _ h with h | h
    · rcases putP_mem h with h | h
      · exact .inl h
      · exact .inr (by rw [h]; exact List.mem_cons_self)
    · exact .inr (List.mem_cons_of_mem _ h)
structure TSt where
  ps : List (Nat × Nat)
  next : List (List Nat)
  fin : List Bool
def pairsAt (A B : Au) (p : Nat × Nat) : List (Nat × Nat) := (List.range A.snd.length).map fun k => ((A.next.getD p.1 []).getD k 0, (B.next.getD p.2 []).getD k 0)
def togN (A B : Au) (f : Bool → Bool → Bool) : Nat → TSt
  | 0 => ⟨[(0, 0)], [], []⟩
  | i + 1 => let st := togN A B f i; let p := st.ps.getD i (0, 0); let r := rowP (pairsAt A B p) st.ps
    ⟨r.2, st.next ++ [r.1], st.fin ++ [f (A.fin.getD p.1 false) (B.fin.getD p.2 false)]⟩
def TogAt (A B : Au) (f : Bool → Bool → Bool) (N : Nat) : Prop := (togN A B f N).ps.length = N ∧ ∀ i, i < N → i < (togN A B f i).ps.length
theorem togN_pre (A B : Au) (f : Bool → Bool → Bool) {i j : Nat} (h : i ≤ j) : (togN A B f i).ps <+: (togN A B f j).ps := by
  induction j with
  | zero => rw [show i = 0 by omega]; exact List.prefix_refl _
  | succ j ih =>
    rcases Nat.lt_or_ge i (j + 1) with h1 | h1
    · exact (ih (by omega)).trans (by simp only [togN]; exact rowP_pre _ _)
    · rw [show i = j + 1 by omega]; exact List.prefix_refl _
theorem togN_ne (A B : Au) (f : Bool → Bool → Bool) (i : Nat) : (togN A B f i).ps ≠ [] := by
  have h := togN_pre A B f (Nat.zero_le i)
  intro e
  rw [e] at h
  have := h.length_le
  simp [togN] at this
theorem togN_next (A B : Au) (f : Bool → Bool → Bool) : ∀ i, (togN A B f i).next.length = i ∧ (togN A B f i).fin.length = i
  | 0 => ⟨rfl, rfl⟩
  | i + 1 => by
    obtain ⟨h1, h2⟩ := togN_next A B f i
    simp only [togN, List.length_append, List.length_singleton, h1, h2, and_self]
theorem pairsAt_ok {A B : Au} (hA : A.okB = true) (hB : B.okB = true) (hs : A.snd = B.snd) {p : Nat × Nat} (h1 : p.1 < A.next.length) (h2 : p.2 < B.next.length) : ∀ q ∈ pairsAt A B p, q.1 < A.next.length ∧ q.2 < B.next.length := by
  intro q hq
  obtain ⟨k, hk, rfl⟩ := List.mem_map.1 hq
  have hk : k < A.snd.length := by simpa using hk
  have e1 : A.next[p.1]? = some (A.next.getD p.1 []) := by rw [List.getD_eq_getElem?_getD, List.getElem?_eq_getElem h1]; rfl
  have e2 : B.next[p.2]? = some (B.next.getD p.2 []) := by rw [List.getD_eq_getElem?_getD, List.getElem?_eq_getElem h2]; rfl
  exact ⟨(Au.ok_at hA).2.2 p.1 _ e1 k hk, (Au.ok_at hB).2.2 p.2 _ e2 k (by rw [← hs]; exact hk)⟩
theorem togN_ok {A B : Au} (hA : A.okB = true) (hB : B.okB = true) (hs : A.snd = B.snd) (h1 : 0 < A.next.length) (h2 : 0 < B.next.length) (f : Bool → Bool → Bool) : ∀ i, ∀ p ∈ (togN A B f i).ps, p.1 < A.next.length ∧ p.2 < B.next.length
  | 0 => fun p hp => by
    have : p = (0, 0) := by simpa [togN] using hp
    rw [this]; exact ⟨h1, h2⟩
  | i + 1 => fun p hp => by
    have ih := togN_ok hA hB hs h1 h2 f i
    simp only [togN] at hp
    rcases rowP_mem _ _ hp with h | h
    · exact ih p h
    · refine pairsAt_ok hA hB hs ?_ ?_ p h
      · rw [List.getD_eq_getElem?_getD]
        cases e : (togN A B f i).ps[i]? with
        | none => exact h1
        | some q => exact (ih q (List.mem_of_getElem? e)).1
      · rw [List.getD_eq_getElem?_getD]
        cases e : (togN A B f i).ps[i]? with
        | none => exact h2
        | some q => exact (ih q (List.mem_of_getElem? e)).2
/-! ### Pairs as keys -/
abbrev K2 := {p : Nat × Nat // p.1 ≤ 60000 ∧ p.2 ≤ 60000}
abbrev mkP (p : Nat × Nat) : Value := .agg #[.int .i64 (p.1 : Int), .int .i64 (p.2 : Int)]
theorem keyed_p2 : Keyed Try.prog 166 := Keyed.of_law (deep_law_laid (by kernel_rfl) (m := 2) (by omega) (of_decide_eq_true (by kernel_rfl)) (by kernel_rfl) (by rw [Try.underlying166]))
def klP (x : K2) : Lit := .string (keyBytes [.int .i64 (x.1.1 : Int), .int .i64 (x.1.2 : Int)])
theorem keyP (x : K2) : keyOf Try.prog 166 (mkP x.1) = some (klP x) := by
  have hk : Try.prog.keyType 166 = true := by kernel_rfl
  have hc1 : Try.prog.cellsOf 3 = 1 := by kernel_rfl
  have hc2 : Try.prog.cellsOf 166 = 2 := by kernel_rfl
  obtain ⟨d, hd⟩ : ∃ d, Try.prog.types.size = d + 1 := ⟨Try.prog.types.size - 1, by have : 0 < Try.prog.types.size := of_decide_eq_true (by kernel_rfl); omega⟩
  obtain ⟨⟨a, b⟩, h1, h2⟩ := x
  have w1 := wf_nat a h1
  have w2 := wf_nat b h2
  unfold keyOf klP
  rw [Try.underlying166, hd]
  have hr : List.range 2 = [0, 1] := by decide
  simp [hk, Value.formed, Try.underlying166, hc2, Program.keyLits, Try.underlying3, hc1, w1, w2, Value.cells, hr]
theorem klP_inj (x y : K2) (h : klP x = klP y) : x = y := by
  have hx := keyP x
  rw [h] at hx
  have he := keyed_p2.inj hx (keyP y)
  obtain ⟨⟨a, b⟩, _⟩ := x
  obtain ⟨⟨c, d⟩, _⟩ := y
  simp only [mkP, Value.agg.injEq, Array.mk.injEq, List.cons.injEq, Value.int.injEq, true_and, and_true] at he
  obtain ⟨h0, h1⟩ := he
  have e0 : a = c := Int.ofNat_inj.1 h0
  have e1 : b = d := Int.ofNat_inj.1 h1
  subst e0 e1; rfl
theorem klP_lit (x : K2) : WideAt.IsKeyLit (klP x) := isKeyLit_string _
def fP (ps : List (Nat × Nat)) (x : K2) : Option Lit := if x.1 ∈ ps then some (.int .i64 ((ps.idxOf x.1 : Nat) : Int)) else none
theorem fP_snoc (ps : List (Nat × Nat)) (x : K2) (h : x.1 ∉ ps) : (fun y => if y = x then some (Lit.int .i64 ((ps.length : Nat) : Int)) else fP ps y) = fP (ps ++ [x.1]) := by
  funext y
  unfold fP
  by_cases e : y = x
  · subst e
    rw [if_pos rfl, if_pos (by simp), List.idxOf_append, if_neg h]; simp
  · have e1 : y.1 ≠ x.1 := fun h => e (Subtype.ext h)
    rw [if_neg e]
    by_cases hm : y.1 ∈ ps
    · rw [if_pos hm, if_pos (by simp [hm]), List.idxOf_append, if_pos hm]
    · rw [if_neg hm, if_neg (by simp [hm, e1])]
section
variable {P : Program} {w : World} {ops : Array Oper} {rest : List Oper} {o : Oper} {a : Act} {Q : Exit → Act → World → Prop} {κ : Type} {kl : κ → Lit}
theorem wp_mapInsert [DecidableEq κ] (hg : Region.wanted o (yielded ops a.tmps) = true) (m x v : Operand) (t : TypeId) (hop : o.op = Op.insert t m x v) (k e : TypeId) (K : Keyed P k) (ht : P.underlying t = some (.map k e)) (hinj : ∀ x y, kl x = kl y → x = y) (hlit : ∀ x, WideAt.IsKeyLit (kl x))
    {b n : Nat} {f : κ → Option Lit} (hm : a.eval m = .map (some b)) (hown : MapK P k e kl w b n f) (hn : n < maxLen) (key val : Value) (y : κ) (hx : a.eval x = key) (hv : a.eval v = val) (hkey : keyOf P k key = some (kl y)) {l : Lit} {ps : List MemPlace}
    (hval : plainElem (H := Unit) P e val = some (.lit l, ps))
    (hK : ∀ w', MapK P k e kl w' b (n + 1) (fun z => if z = y then some l else f z) → w.grownBy w' (some b) → w'.drawn = w.drawn → wpList P ops Q rest (a.put o.dst undef) w') : wpList P ops Q (o :: rest) a w := by
  refine BigFrame.wpList_want hg fun K' hK' => ?_
  obtain ⟨w', hrun, r1, r2, r3⟩ := hown.store K ht hn hinj hlit hkey hval
  unfold Oper.wp
  simp [execOp, hop, hm, hx, hv, hrun, Result.andThen]
  exact hK' _ _ (hK w' r1 r2 r3)
end
/-! ### What stands -/
structure TogI (B Ba : Nat) (w : World) (sv nv fv snds : Value) (hs : List (Nat × Nat)) (next : List (List Nat)) (fin : List Bool) : Prop where
  box : w.heap[Ba]? = some (.cells #[snds, nv, fv] 68 (0, 0))
  nxt : OwnK 8 RE.enc B 101 w nv next
  ends : OwnK 1 BE.enc B 4 w fv fin
  own : OwnK 2 P2.enc B 166 w sv hs
section
variable {B Ba : Nat} {w w' : World} {sv nv fv snds : Value} {hs : List (Nat × Nat)} {next : List (List Nat)} {fin : List Bool}
theorem TogI.kept (h : TogI B Ba w sv nv fv snds hs next fin) (hx : Ext w w') : TogI B Ba w' sv nv fv snds hs next fin :=
  ⟨blk_kept h.box hx, h.nxt.kept hx, h.ends.kept hx, h.own.kept hx⟩
theorem TogI.beside (h : TogI B Ba w sv nv fv snds hs next fin) {row : Option Nat} (hg : w.grownBy w' row) (hr : ∀ r, row = some r → ∃ o : Obj, w.heap[r]? = some o ∧ o.isCells = false) : TogI B Ba w' sv nv fv snds hs next fin := by
  refine ⟨(hg.block Ba (Array.getElem?_eq_some_iff.1 h.box).1 fun e => ?_).trans h.box, h.nxt.beside hg hr, h.ends.beside hg hr, h.own.beside hg hr⟩
  obtain ⟨o, ho, hc⟩ := hr Ba e.symm
  rw [h.box] at ho; cases ho; cases hc
/-- A set is put to the list. -/
theorem TogI.push (h : TogI B Ba w sv nv fv snds hs next fin) {XL w5 : World} (hx : Ext w XL) {v5 : Value} {y : Nat × Nat} (o5 : OwnK 2 P2.enc B 166 w5 v5 (hs ++ [y])) (hg : XL.grownBy w5 sv.ownBlock) : TogI B Ba w5 v5 nv fv snds (hs ++ [y]) next fin := by
  have k := h.kept hx
  exact ⟨blk_otherT k.box k.own hg (by decide), own_otherT k.nxt k.own hg (by decide), own_otherT k.ends k.own hg (by decide), o5⟩
/-- The row of the round is written. -/
theorem TogI.setTo (h : TogI B Ba w sv nv fv snds hs next fin) {Bt : Nat} {cs : Array Value} {fr : Nat × Nat} (hb : w.heap[Bt]? = some (.cells cs 101 fr)) (hne : nv.ownBlock ≠ some Bt) (i : Nat) (u : Value) : TogI B Ba (w.setCell ⟨Bt, i, none⟩ u) sv nv fv snds hs next fin := by
  refine ⟨(heap_setCell_other w ⟨Bt, i, none⟩ Ba u fun e => ?_).trans h.box, own_setOff h.nxt hne, own_offT h.ends hb (by decide), own_offT h.own hb (by decide)⟩
  simp only at e; subst e; rw [h.box] at hb; cases hb
theorem TogI.cells (h : TogI B Ba w sv nv fv snds hs next fin) : w.cell? ⟨Ba, 0, none⟩ = some snds ∧ w.cell? ⟨Ba, 1, none⟩ = some nv ∧ w.cell? ⟨Ba, 2, none⟩ = some fv ∧ (∀ i, w.frozen? ⟨Ba, i, none⟩ = false) ∧ Ba < w.heap.size :=
  ⟨by simp [World.cell?, h.box], by simp [World.cell?, h.box], by simp [World.cell?, h.box], fun i => frozen_of_row w Ba i _ _ h.box, (Array.getElem?_eq_some_iff.1 h.box).1⟩
/-- A row is put to the automaton. -/
theorem TogI.putNext (h : TogI B Ba w sv nv fv snds hs next fin) {XL w5 : World} (hx : Ext w XL) {v5 : Value} {r : List Nat} (o5 : OwnK 8 RE.enc B 101 w5 v5 (next ++ [r])) (hg : XL.grownBy w5 nv.ownBlock) :
    TogI B Ba (w5.setCell ⟨Ba, 1, none⟩ v5) sv v5 fv snds hs (next ++ [r]) fin ∧ w5.cell? ⟨Ba, 1, none⟩ = some nv ∧ w5.frozen? ⟨Ba, 1, none⟩ = false := by
  have k := h.kept hx
  have hb5 := blk_otherT k.box k.nxt hg (by decide)
  have hset := heap_setCell_same w5 Ba 1 _ _ v5 hb5
  refine ⟨⟨by rw [hset]; rfl, own_offT o5 hb5 (by decide), own_offT (own_otherT k.ends k.nxt hg (by decide)) hb5 (by decide), own_offT (own_otherT k.own k.nxt hg (by decide)) hb5 (by decide)⟩, by simp [World.cell?, hb5], frozen_of_row w5 Ba 1 _ _ hb5⟩
theorem TogI.putEnd (h : TogI B Ba w sv nv fv snds hs next fin) {XL w5 : World} (hx : Ext w XL) {v5 : Value} {b : Bool} (o5 : OwnK 1 BE.enc B 4 w5 v5 (fin ++ [b])) (hg : XL.grownBy w5 fv.ownBlock) :
    TogI B Ba (w5.setCell ⟨Ba, 2, none⟩ v5) sv nv v5 snds hs next (fin ++ [b]) ∧ w5.cell? ⟨Ba, 2, none⟩ = some fv ∧ w5.frozen? ⟨Ba, 2, none⟩ = false := by
  have k := h.kept hx
  have hb5 := blk_otherT k.box k.ends hg (by decide)
  have hset := heap_setCell_same w5 Ba 2 _ _ v5 hb5
  refine ⟨⟨by rw [hset]; rfl, own_offT (own_otherT k.nxt k.ends hg (by decide)) hb5 (by decide), own_offT o5 hb5 (by decide), own_offT (own_otherT k.own k.ends hg (by decide)) hb5 (by decide)⟩, by simp [World.cell?, hb5], frozen_of_row w5 Ba 2 _ _ hb5⟩
/-- What lies apart from the automaton's rows and ends: maps. -/
theorem TogI.mapNext (h : TogI B Ba w sv nv fv snds hs next fin) {XL w5 : World} (hx : Ext w XL) (hg : XL.grownBy w5 nv.ownBlock) {k e : TypeId} {κ : Type} {kl : κ → Lit} {Bm n : Nat} {f : κ → Option Lit} (hm : MapK Try.prog k e kl w Bm n f) (u : Value) : MapK Try.prog k e kl (w5.setCell ⟨Ba, 1, none⟩ u) Bm n f := by
  have k1 := h.kept hx
  have m1 := hm.kept hx
  obtain ⟨o, ho, hc⟩ := m1.obj
  have m2 := m1.grown hg (fun e => by obtain ⟨cur, hb⟩ := own_type k1.nxt e.symm; rw [ho] at hb; cases hb; cases hc)
  refine m2.agr (heap_setCell_other w5 ⟨Ba, 1, none⟩ Bm u fun e => ?_)
  simp only at e; subst e
  rw [k1.box] at ho; cases ho; cases hc
theorem TogI.mapEnd (h : TogI B Ba w sv nv fv snds hs next fin) {XL w5 : World} (hx : Ext w XL) (hg : XL.grownBy w5 fv.ownBlock) {k e : TypeId} {κ : Type} {kl : κ → Lit} {Bm n : Nat} {f : κ → Option Lit} (hm : MapK Try.prog k e kl w Bm n f) (u : Value) : MapK Try.prog k e kl (w5.setCell ⟨Ba, 2, none⟩ u) Bm n f := by
  have k1 := h.kept hx
  have m1 := hm.kept hx
  obtain ⟨o, ho, hc⟩ := m1.obj
  have m2 := m1.grown hg (fun e => by obtain ⟨cur, hb⟩ := own_type k1.ends e.symm; rw [ho] at hb; cases hb; cases hc)
  refine m2.agr (heap_setCell_other w5 ⟨Ba, 2, none⟩ Bm u fun e => ?_)
  simp only at e; subst e
  rw [k1.box] at ho; cases ho; cases hc
theorem TogI.mapPush (h : TogI B Ba w sv nv fv snds hs next fin) {XL w5 : World} (hx : Ext w XL) (hg : XL.grownBy w5 sv.ownBlock) {k e : TypeId} {κ : Type} {kl : κ → Lit} {Bm n : Nat} {f : κ → Option Lit} (hm : MapK Try.prog k e kl w Bm n f) : MapK Try.prog k e kl w5 Bm n f := by
  have k1 := h.kept hx
  have m1 := hm.kept hx
  obtain ⟨o, ho, hc⟩ := m1.obj
  exact m1.grown hg (fun e => by obtain ⟨cur, hb⟩ := own_type k1.own e.symm; rw [ho] at hb; cases hb; cases hc)
end
/-- The automaton, when it is made. -/
theorem TogI.toAu {B Ba : Nat} {w : World} {sv nv fv : Value} {sa : Option Addr} {n sc : Nat} {hs : List (Nat × Nat)} {next : List (List Nat)} {fin : List Bool} {xs : List Snd} (h : TogI B Ba w sv nv fv (.slice sa n sc) hs next fin) (hs2 : RdS w sa n sc xs) : AuAt w Ba ⟨xs, next, fin⟩ := by
  obtain ⟨na, nn, nc, hnn, rfl, h2⟩ := OwnK.rdn RE.len h.nxt
  obtain ⟨fa, fn, fc, hfn, rfl, h3⟩ := OwnK.rdn BE.len h.ends
  have hl := hs2.len
  subst hnn hfn hl
  exact ⟨sa, sc, na, nc, fa, fc, h.box, hs2, h2, h3⟩
end Go.Proofs.Ytilkemdecenibaa
namespace Go.Proofs.Ytilkemdecenibaa
open Go.RowKit
theorem req_any (a a' : Option Addr) (n cap n' cap' : Nat) (xs ys : List Snd) (w : World) (hr : RdS w a n cap xs) (hr' : RdS w a' n' cap' ys) :
    Calls Try.prog 30 #[.slice a n cap, .slice a' n' cap'] w fun e w' => e = .returned (.bool (decide (xs = ys))) ∧ Ext w w' := by
  have hmax : n ≤ 9223372036854775807 := by have := hr.le; have := hr.most; unfold maxLen at this; omega
  have hmax' : n' ≤ 9223372036854775807 := by have := hr'.le; have := hr'.most; unfold maxLen at this; omega
  by_cases h : n = n'
  · subst h
    have hb0 : ((n : Int) != (n : Int)) = false := by simp
    have hne := neq_snd
    go_enter Try.func30, Try.ntmps30
    go_wp2_with fail
    go_loopw [5] (fun i wr => ∃ k : Nat, k ≤ n ∧ i = .int .i64 k ∧ Ext w wr ∧ Hid (xs.take k = ys.take k)) (fun i _ => n - (intOf i).toNat)
    case atStart => exact ⟨0, Nat.zero_le _, rfl, Ext.refl _, rfl⟩
    case round =>
      obtain ⟨k, hk, rfl, hx, hall⟩ := hrel
      by_cases hlt : k < n
      · obtain ⟨b, off, s, rfl, hs, hb, hc0, hc1⟩ := (hr.ext hx).snd hlt
        obtain ⟨b', off', s', rfl, hs', hb', hc0', hc1'⟩ := (hr'.ext hx).snd hlt
        by_cases hst : s = s'
        · subst hst
          go_wp2_with fail
          go_quiet (fail)
          go_wp2_with fail
          (first | exact ⟨⟨k + 1, by omega, by go_num, (by repeat (first | exact Ext.refl _ | assumption | refine Ext.drew ?_ | refine Ext.drewN ?_ _ | refine Ext.alloc ?_ _ | refine Ext.trans ?_ (by assumption))), eq_succ hall hs hs'⟩, (by simp [intOf]; omega)⟩ | (go_roundw; case rel => exact ⟨k + 1, by omega, by go_num, (by repeat (first | exact Ext.refl _ | assumption | refine Ext.drew ?_ | refine Ext.drewN ?_ _ | refine Ext.alloc ?_ _ | refine Ext.trans ?_ (by assumption))), eq_succ hall hs hs'⟩; case measure => exact (by simp [intOf]; omega)))
        · have hd : decide (s = s') = false := by simpa using hst
          go_wp2_with fail
          go_quiet (fail)
          go_wp2_with fail
          go_ret
          exact ⟨ret_bool (by simpa using ne_at hs hs' hst), (by repeat (first | exact Ext.refl _ | assumption | refine Ext.drew ?_ | refine Ext.drewN ?_ _ | refine Ext.alloc ?_ _ | refine Ext.trans ?_ (by assumption)))⟩
      · go_wp2_with fail
        go_ret
        exact ⟨ret_bool (by simpa using eq_end hr.len hr'.len hlt hall), hx⟩
  · have hb0 : ((n : Int) != (n' : Int)) = true := by simp; omega
    go_enter Try.func30, Try.ntmps30
    go_wp2_with fail
    go_ret
    exact ⟨ret_bool (by simpa using ne_len hr.len hr'.len h), Ext.refl _⟩
theorem seq_any (a a' : Option Addr) (n cap n' cap' : Nat) (xs ys : List Snd) (w : World) (hr : RdS w a n cap xs) (hr' : RdS w a' n' cap' ys) :
    Calls Try.prog 50 #[.slice a n cap, .slice a' n' cap'] w fun e w' => e = .returned (.bool (decide (xs = ys))) ∧ Ext w w' := by
  have hmax : n ≤ 9223372036854775807 := by have := hr.le; have := hr.most; unfold maxLen at this; omega
  have hmax' : n' ≤ 9223372036854775807 := by have := hr'.le; have := hr'.most; unfold maxLen at this; omega
  by_cases h : n = n'
  · subst h
    have hb0 : ((n : Int) != (n : Int)) = false := by simp
    have hne := neq_snd
    go_enter Try.func50, Try.ntmps50
    go_wp2_with fail
    go_loopw [13] (fun i wr => ∃ k : Nat, k ≤ n ∧ i = .int .i64 k ∧ Ext w wr ∧ Hid (xs.take k = ys.take k)) (fun i _ => n - (intOf i).toNat)
    case atStart => exact ⟨0, Nat.zero_le _, rfl, Ext.refl _, rfl⟩
    case round =>
      obtain ⟨k, hk, rfl, hx, hall⟩ := hrel
      by_cases hlt : k < n
      · obtain ⟨b, off, s, rfl, hs, hb, hc0, hc1⟩ := (hr.ext hx).snd hlt
        obtain ⟨b', off', s', rfl, hs', hb', hc0', hc1'⟩ := (hr'.ext hx).snd hlt
        by_cases hst : s = s'
        · subst hst
          go_wp2_with fail
          go_quiet (fail)
          go_wp2_with fail
          (first | exact ⟨⟨k + 1, by omega, by go_num, (by repeat (first | exact Ext.refl _ | assumption | refine Ext.drew ?_ | refine Ext.drewN ?_ _ | refine Ext.alloc ?_ _ | refine Ext.trans ?_ (by assumption))), eq_succ hall hs hs'⟩, (by simp [intOf]; omega)⟩ | (go_roundw; case rel => exact ⟨k + 1, by omega, by go_num, (by repeat (first | exact Ext.refl _ | assumption | refine Ext.drew ?_ | refine Ext.drewN ?_ _ | refine Ext.alloc ?_ _ | refine Ext.trans ?_ (by assumption))), eq_succ hall hs hs'⟩; case measure => exact (by simp [intOf]; omega)))
        · have hd : decide (s = s') = false := by simpa using hst
          go_wp2_with fail
          go_quiet (fail)
          go_wp2_with fail
          go_ret
          exact ⟨ret_bool (by simpa using ne_at hs hs' hst), (by repeat (first | exact Ext.refl _ | assumption | refine Ext.drew ?_ | refine Ext.drewN ?_ _ | refine Ext.alloc ?_ _ | refine Ext.trans ?_ (by assumption)))⟩
      · go_wp2_with fail
        go_ret
        exact ⟨ret_bool (by simpa using eq_end hr.len hr'.len hlt hall), hx⟩
  · have hb0 : ((n : Int) != (n' : Int)) = true := by simp; omega
    go_enter Try.func50, Try.ntmps50
    go_wp2_with fail
    go_ret
    exact ⟨ret_bool (by simpa using ne_len hr.len hr'.len h), Ext.refl _⟩
theorem wsame_any (a a' : Option Addr) (n cap n' cap' : Nat) (xs ys : List (List Snd)) (w : World) (hr : RdWs w a n cap xs) (hr' : RdWs w a' n' cap' ys) :
    Calls Try.prog 27 #[.slice a n cap, .slice a' n' cap'] w fun e w' => e = .returned (.bool (decide (xs = ys))) ∧ Ext w w' := by
  have hmax : n ≤ 9223372036854775807 := by have := hr.le; have := hr.most; unfold maxLen at this; omega
  by_cases h : n = n'
  · subst h
    have hb0 : ((n : Int) != (n : Int)) = false := by simp
    go_enter Try.func27, Try.ntmps27
    go_wp2_with fail
    go_loopw [5] (fun i wr => ∃ k : Nat, k ≤ n ∧ i = .int .i64 k ∧ Ext w wr ∧ Hid (xs.take k = ys.take k)) (fun i _ => n - (intOf i).toNat)
    case atStart => exact ⟨0, Nat.zero_le _, rfl, Ext.refl _, rfl⟩
    case round =>
      obtain ⟨k, hk, rfl, hx, hall⟩ := hrel
      by_cases hlt : k < n
      · obtain ⟨b, off, _, s, rfl, hs, hb, hc0, a1, n1, c1, rfl, hr1⟩ := RdV.at (hr.ext hx) hlt
        obtain ⟨b', off', _, s', rfl, hs', hb', hc0', a1', n1', c1', rfl, hr1'⟩ := RdV.at (hr'.ext hx) hlt
        have hcc0 := fun x : ExtOf _ => x.cell hc0
        have hcc1 := fun x : ExtOf _ => x.cell hc0'
        by_cases hst : s = s'
        · have hd : decide (s = s') = true := by simpa using hst
          have Hst := Lib.hid hst; clear hst
          go_wp2_with fail
          (refine wp_region_qx (by kernel_rfl) (by kernel_rfl) ?_
           repeat (go_big_quiet_step ((go_at_call 30; exact calls_ext (cbool (req_any _ _ _ _ _ _ _ _ _ (hr1.ext (ExtOf.h _)) (hr1'.ext (ExtOf.h _))) hd))))
           refine wpQuiet_nil ?_
           intro wq hw'
           have hxq := ext_of_ex hw'
           clear hw')
          go_wp2_with fail
          (first | exact ⟨⟨k + 1, by omega, by go_num, (by repeat (first | exact Ext.refl _ | assumption | refine Ext.drew ?_ | refine Ext.drewN ?_ _ | refine Ext.alloc ?_ _ | refine Ext.trans ?_ (by assumption))), eq_succ hall.out hs.out (by rw [Hst.out]; exact hs'.out)⟩, (by simp [intOf]; omega)⟩ | (go_roundw; case rel => exact ⟨k + 1, by omega, by go_num, (by repeat (first | exact Ext.refl _ | assumption | refine Ext.drew ?_ | refine Ext.drewN ?_ _ | refine Ext.alloc ?_ _ | refine Ext.trans ?_ (by assumption))), eq_succ hall.out hs.out (by rw [Hst.out]; exact hs'.out)⟩; case measure => exact (by simp [intOf]; omega)))
        · have hd : decide (s = s') = false := by simpa using hst
          have Hst := Lib.hid hst; clear hst
          go_wp2_with fail
          (refine wp_region_qx (by kernel_rfl) (by kernel_rfl) ?_
           repeat (go_big_quiet_step ((go_at_call 30; exact calls_ext (cbool (req_any _ _ _ _ _ _ _ _ _ (hr1.ext (ExtOf.h _)) (hr1'.ext (ExtOf.h _))) hd))))
           refine wpQuiet_nil ?_
           intro wq hw'
           have hxq := ext_of_ex hw'
           clear hw')
          go_wp2_with fail
          go_ret
          exact ⟨ret_bool (by simpa using ne_at hs hs' Hst.out), (by repeat (first | exact Ext.refl _ | assumption | refine Ext.drew ?_ | refine Ext.drewN ?_ _ | refine Ext.alloc ?_ _ | refine Ext.trans ?_ (by assumption)))⟩
      · go_wp2_with fail
        go_ret
        exact ⟨ret_bool (by simpa using eq_end hr.len hr'.len hlt hall), hx⟩
  · have hb0 : ((n : Int) != (n' : Int)) = true := by simp; omega
    go_enter Try.func27, Try.ntmps27
    go_wp2_with fail
    go_ret
    exact ⟨ret_bool (by simpa using ne_len hr.len hr'.len h), Ext.refl _⟩
end Go.Proofs.Ytilkemdecenibaa
