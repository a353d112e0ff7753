/-
  Build: what stands in its loop.
-/
import Derived.Test.YtilkemdecenibaaV6
namespace Go.Proofs.Ytilkemdecenibaa
open Go.RowKit Go.Maps
structure BR where
  a : Option Addr
  n : Nat
  cap : Nat
  x : BS
def BR.enc (h : BR) : List Value := [.slice h.a h.n h.cap]
theorem BR.len (h : BR) : (BR.enc h).length = 1 := rfl
theorem BR.one (h : BR) : ∀ u ∈ BR.enc h, u.oneCell' = true := by intro u hu; simp [BR.enc] at hu; subst hu; rfl
def BR.v (h : BR) : Value := .slice h.a h.n h.cap
/-! ### Sets as keys -/
def bytesB (s : BS) : List UInt8 := s.map fun b => if b then 1 else 0
def klB (s : BS) : Lit := .string (bytesB s)
theorem klB_inj (x y : BS) (h : klB x = klB y) : x = y := by
  simp only [klB, Lit.string.injEq] at h
  have : ∀ x y : BS, bytesB x = bytesB y → x = y := fun x => by
    induction x with
    | nil => intro y h; cases y with
      | nil => rfl
      | cons b y => simp [bytesB] at h
    | cons a x ih => intro y h; cases y with
      | nil => simp [bytesB] at h
      | cons b y =>
        simp only [bytesB, List.map_cons, List.cons.injEq] at h
        have h2 := ih y h.2
        have h1 : a = b := by cases a <;> cases b <;> first | rfl | exact absurd h.1 (by decide)
        rw [h1, h2]
  exact this x y h
theorem klB_lit (x : BS) : WideAt.IsKeyLit (klB x) := isKeyLit_string _
theorem str_key : Keyed Try.prog 9 := string_keyed Try.underlying9
theorem keyB (s : BS) (hs : s.length ≤ 5000) : keyOf Try.prog 9 (.string ⟨(bytesB s).toArray⟩) = some (klB s) := by
  have h := WideMaps.keyOf_string_mk (P := Try.prog) (k := 9) Try.underlying9 (s := ⟨(bytesB s).toArray⟩) (by show (bytesB s).toArray.size ≤ _; simp [bytesB]; unfold maxLen; omega)
  simpa [klB] using h
theorem conv_bytes {w : World} {S cap : Nat} {s : BS} (h : RdK 1 BB.enc w (some ⟨S, 0, none⟩) s.length cap s) : (convert 81 9 (.slice (some ⟨S, 0, none⟩) s.length cap)).run Try.prog w = .ok (.string ⟨(bytesB s).toArray⟩) w := by
  have hl : (bytesB s).length = s.length := by simp [bytesB]
  have h1 := run_convert_bytes_back (P := Try.prog) w 81 9 5 ⟨S, 0, none⟩ cap (bytesB s) Try.underlying81 Try.underlying5 Try.underlying9 (fun j hj => by
    rw [hl] at hj
    obtain ⟨b, off, x, ha, hx, _, hc⟩ := h.get hj
    cases ha
    have hc0 := hc 0 _ rfl
    have hj2 : (bytesB s)[j] = (if x then 1 else 0) := by
      have : (bytesB s)[j]? = some (if x then 1 else 0) := by unfold bytesB; rw [List.getElem?_map, hx.out]; rfl
      exact Option.some.inj ((List.getElem?_eq_getElem (by rw [hl]; exact hj)).symm.trans this)
    rw [hj2]
    have e : (⟨S, 0, none⟩ : Addr).add j = ⟨S, j, none⟩ := by unfold Addr.add; split <;> simp_all
    rw [e]
    simp only [Nat.zero_add, Nat.mul_one, Nat.add_zero] at hc0
    rw [hc0]
    cases x <;> rfl)
  rw [hl] at h1; exact h1
def fNum (sets : List BS) (s : BS) : Option Lit := (numAt sets s).map fun n => .int .i64 (n : Int)
theorem fNum_snoc {sets : List BS} {s : BS} (h0 : sets ≠ []) (h : numAt sets s = none) : (fun y => if y = s then some (Lit.int .i64 ((sets.length : Nat) : Int)) else fNum sets y) = fNum (sets ++ [s]) := by
  funext y
  unfold fNum
  rw [numAt_snoc h0 h]
  split <;> rfl
/-! ### Lengths -/
theorem pushL_len (bg en : Bool) : ∀ (ls : List Lk) (s : List Nat × List Bool), (pushL bg en ls s).2.length = s.2.length
  | [], s => rfl
  | l :: ls, s => by simp only [pushL]; rw [pushL_len bg en ls]; split <;> simp
theorem spreadL_len (g : Net) (bg en : Bool) : ∀ (k : Nat) (s : List Nat × List Bool), (spreadL g bg en k s).length = s.2.length
  | 0, s => rfl
  | k + 1, s => by
    simp only [spreadL]
    split
    · rfl
    · rw [spreadL_len g bg en k, pushL_len]
theorem spreadM_len (g : Net) (bs : BS) (bg en : Bool) : (spreadM g bs bg en).length = bs.length := by unfold spreadM; rw [spreadL_len]
theorem afterM_len (g : Net) (bs : BS) (s : Snd) : (afterM g bs s).length = g.length := by unfold afterM; rw [spreadM_len, afterTo_len]
theorem rowB_sets (g : Net) (cur : BS) : ∀ (l : List Snd) (sets : List BS), (∀ s ∈ sets, s.length = g.length) → ∀ s ∈ (rowB g cur l sets).2, s.length = g.length
  | [], sets, h => h
  | x :: l, sets, h => by
    simp only [rowB]
    refine rowB_sets g cur l _ fun s hs => ?_
    unfold putSet at hs
    split at hs
    · exact h s hs
    · rcases List.mem_append.1 hs with h1 | h1
      · exact h s h1
      · rw [List.mem_singleton.1 h1]; exact afterM_len _ _ _
theorem buildN_sets (g : Net) (xs : List Snd) (goal : Nat) (first : BS) (hf : first.length = g.length) : ∀ i, ∀ s ∈ (buildN g xs goal first i).sets, s.length = g.length
  | 0 => fun s h => by simp [buildN] at h; rw [h]; exact hf
  | i + 1 => by simp only [buildN]; exact rowB_sets _ _ _ _ (buildN_sets g xs goal first hf i)
theorem firstB_len (g : Net) : (firstB g).length = g.length := by unfold firstB; rw [spreadM_len]; simp
/-! ### What stands -/
structure BuildI (B Ba : Nat) (w : World) (sv nv fv snds : Value) (hs : List BR) (next : List (List Nat)) (fin : List Bool) (xs : List Snd) : Prop where
  box : w.heap[Ba]? = some (.cells #[snds, nv, fv] 68 (0, 0))
  snd : OwnK 2 Snd.enc B 24 w snds xs
  nxt : OwnK 8 RE.enc B 101 w nv next
  ends : OwnK 1 BE.enc B 4 w fv fin
  own : OwnK 1 BR.enc B 81 w sv hs
  rows : ∀ h ∈ hs, OwnK 1 BB.enc B 5 w h.v h.x
section
variable {B Ba : Nat} {w w' : World} {sv nv fv snds : Value} {hs : List BR} {next : List (List Nat)} {fin : List Bool} {xs : List Snd}
theorem BuildI.kept (h : BuildI B Ba w sv nv fv snds hs next fin xs) (hx : Ext w w') : BuildI B Ba w' sv nv fv snds hs next fin xs :=
  ⟨blk_kept h.box hx, h.snd.kept hx, h.nxt.kept hx, h.ends.kept hx, h.own.kept hx, fun y hy => (h.rows y hy).kept hx⟩
theorem BuildI.beside (h : BuildI B Ba w sv nv fv snds hs next fin xs) {row : Option Nat} (hg : w.grownBy w' row) (hr : ∀ r, row = some r → ∃ o : Obj, w.heap[r]? = some o ∧ o.isCells = false) : BuildI B Ba w' sv nv fv snds hs next fin xs := by
  refine ⟨(hg.block Ba (Array.getElem?_eq_some_iff.1 h.box).1 fun e => ?_).trans h.box, h.snd.beside hg hr, h.nxt.beside hg hr, h.ends.beside hg hr, h.own.beside hg hr, fun y hy => (h.rows y hy).beside hg hr⟩
  obtain ⟨o, ho, hc⟩ := hr Ba e.symm
  rw [h.box] at ho; cases ho; cases hc
/-- A set is put to the list. -/
theorem BuildI.push (h : BuildI B Ba w sv nv fv snds hs next fin xs) {XL w5 : World} (hx : Ext w XL) {v5 : Value} {y : BR} (o5 : OwnK 1 BR.enc B 81 w5 v5 (hs ++ [y])) (hg : XL.grownBy w5 sv.ownBlock) (hy : OwnK 1 BB.enc B 5 w y.v y.x) : BuildI B Ba w5 v5 nv fv snds (hs ++ [y]) next fin xs := by
  have k := h.kept hx
  refine ⟨blk_otherT k.box k.own hg (by decide), own_otherT k.snd k.own hg (by decide), own_otherT k.nxt k.own hg (by decide), own_otherT k.ends k.own hg (by decide), o5, fun z hz => ?_⟩
  rcases List.mem_append.1 hz with h1 | h1
  · exact own_otherT (k.rows z h1) k.own hg (by decide)
  · rw [List.mem_singleton.1 h1]; exact own_otherT (hy.kept hx) k.own hg (by decide)
/-- The row of the round is written. -/
theorem BuildI.setTo (h : BuildI B Ba w sv nv fv snds hs next fin xs) {Bt : Nat} {cs : Array Value} {fr : Nat × Nat} (hb : w.heap[Bt]? = some (.cells cs 101 fr)) (hne : nv.ownBlock ≠ some Bt) (i : Nat) (u : Value) : BuildI B Ba (w.setCell ⟨Bt, i, none⟩ u) sv nv fv snds hs next fin xs := by
  refine ⟨(heap_setCell_other w ⟨Bt, i, none⟩ Ba u fun e => ?_).trans h.box, own_offT h.snd hb (by decide), own_setOff h.nxt hne, own_offT h.ends hb (by decide), own_offT h.own hb (by decide), fun y hy => own_offT (h.rows y hy) hb (by decide)⟩
  simp only at e; subst e; rw [h.box] at hb; cases hb
theorem BuildI.cells (h : BuildI B Ba w sv nv fv snds hs next fin xs) : w.cell? ⟨Ba, 0, none⟩ = some snds ∧ w.cell? ⟨Ba, 1, none⟩ = some nv ∧ w.cell? ⟨Ba, 2, none⟩ = some fv ∧ (∀ i, w.frozen? ⟨Ba, i, none⟩ = false) ∧ Ba < w.heap.size :=
  ⟨by simp [World.cell?, h.box], by simp [World.cell?, h.box], by simp [World.cell?, h.box], fun i => frozen_of_row w Ba i _ _ h.box, (Array.getElem?_eq_some_iff.1 h.box).1⟩
/-- A row is put to the automaton. -/
theorem BuildI.putNext (h : BuildI B Ba w sv nv fv snds hs next fin xs) {XL w5 : World} (hx : Ext w XL) {v5 : Value} {r : List Nat} (o5 : OwnK 8 RE.enc B 101 w5 v5 (next ++ [r])) (hg : XL.grownBy w5 nv.ownBlock) :
    BuildI B Ba (w5.setCell ⟨Ba, 1, none⟩ v5) sv v5 fv snds hs (next ++ [r]) fin xs ∧ w5.cell? ⟨Ba, 1, none⟩ = some nv ∧ w5.frozen? ⟨Ba, 1, none⟩ = false := by
  have k := h.kept hx
  have hb5 := blk_otherT k.box k.nxt hg (by decide)
  have hset := heap_setCell_same w5 Ba 1 _ _ v5 hb5
  refine ⟨⟨by rw [hset]; rfl, own_offT (own_otherT k.snd k.nxt hg (by decide)) hb5 (by decide), own_offT o5 hb5 (by decide), own_offT (own_otherT k.ends k.nxt hg (by decide)) hb5 (by decide), own_offT (own_otherT k.own k.nxt hg (by decide)) hb5 (by decide), fun y hy => own_offT (own_otherT (k.rows y hy) k.nxt hg (by decide)) hb5 (by decide)⟩, by simp [World.cell?, hb5], frozen_of_row w5 Ba 1 _ _ hb5⟩
theorem BuildI.putEnd (h : BuildI B Ba w sv nv fv snds hs next fin xs) {XL w5 : World} (hx : Ext w XL) {v5 : Value} {b : Bool} (o5 : OwnK 1 BE.enc B 4 w5 v5 (fin ++ [b])) (hg : XL.grownBy w5 fv.ownBlock) :
    BuildI B Ba (w5.setCell ⟨Ba, 2, none⟩ v5) sv nv v5 snds hs next (fin ++ [b]) xs ∧ w5.cell? ⟨Ba, 2, none⟩ = some fv ∧ w5.frozen? ⟨Ba, 2, none⟩ = false := by
  have k := h.kept hx
  have hb5 := blk_otherT k.box k.ends hg (by decide)
  have hset := heap_setCell_same w5 Ba 2 _ _ v5 hb5
  refine ⟨⟨by rw [hset]; rfl, own_offT (own_otherT k.snd k.ends hg (by decide)) hb5 (by decide), own_offT (own_otherT k.nxt k.ends hg (by decide)) hb5 (by decide), own_offT o5 hb5 (by decide), own_offT (own_otherT k.own k.ends hg (by decide)) hb5 (by decide), fun y hy => own_offT (own_otherT (k.rows y hy) k.ends hg (by decide)) hb5 (by decide)⟩, by simp [World.cell?, hb5], frozen_of_row w5 Ba 2 _ _ hb5⟩
/-- What lies apart from the automaton's rows and ends: maps. -/
theorem BuildI.mapNext (h : BuildI B Ba w sv nv fv snds hs next fin xs) {XL w5 : World} (hx : Ext w XL) (hg : XL.grownBy w5 nv.ownBlock) {k e : TypeId} {κ : Type} {kl : κ → Lit} {Bm n : Nat} {f : κ → Option Lit} (hm : MapK Try.prog k e kl w Bm n f) (u : Value) : MapK Try.prog k e kl (w5.setCell ⟨Ba, 1, none⟩ u) Bm n f := by
  have k1 := h.kept hx
  have m1 := hm.kept hx
  obtain ⟨o, ho, hc⟩ := m1.obj
  have m2 := m1.grown hg (fun e => by obtain ⟨cur, hb⟩ := own_type k1.nxt e.symm; rw [ho] at hb; cases hb; cases hc)
  refine m2.agr (heap_setCell_other w5 ⟨Ba, 1, none⟩ Bm u fun e => ?_)
  simp only at e; subst e
  rw [k1.box] at ho; cases ho; cases hc
theorem BuildI.mapEnd (h : BuildI B Ba w sv nv fv snds hs next fin xs) {XL w5 : World} (hx : Ext w XL) (hg : XL.grownBy w5 fv.ownBlock) {k e : TypeId} {κ : Type} {kl : κ → Lit} {Bm n : Nat} {f : κ → Option Lit} (hm : MapK Try.prog k e kl w Bm n f) (u : Value) : MapK Try.prog k e kl (w5.setCell ⟨Ba, 2, none⟩ u) Bm n f := by
  have k1 := h.kept hx
  have m1 := hm.kept hx
  obtain ⟨o, ho, hc⟩ := m1.obj
  have m2 := m1.grown hg (fun e => by obtain ⟨cur, hb⟩ := own_type k1.ends e.symm; rw [ho] at hb; cases hb; cases hc)
  refine m2.agr (heap_setCell_other w5 ⟨Ba, 2, none⟩ Bm u fun e => ?_)
  simp only at e; subst e
  rw [k1.box] at ho; cases ho; cases hc
theorem BuildI.mapPush (h : BuildI B Ba w sv nv fv snds hs next fin xs) {XL w5 : World} (hx : Ext w XL) (hg : XL.grownBy w5 sv.ownBlock) {k e : TypeId} {κ : Type} {kl : κ → Lit} {Bm n : Nat} {f : κ → Option Lit} (hm : MapK Try.prog k e kl w Bm n f) : MapK Try.prog k e kl w5 Bm n f := by
  have k1 := h.kept hx
  have m1 := hm.kept hx
  obtain ⟨o, ho, hc⟩ := m1.obj
  exact m1.grown hg (fun e => by obtain ⟨cur, hb⟩ := own_type k1.own e.symm; rw [ho] at hb; cases hb; cases hc)
end
theorem BuildI.toAu {B Ba : Nat} {w : World} {sv nv fv snds : Value} {hs : List BR} {next : List (List Nat)} {fin : List Bool} {xs : List Snd} (h : BuildI B Ba w sv nv fv snds hs next fin xs) : AuAt w Ba ⟨xs, next, fin⟩ := by
  obtain ⟨sa, sn, sc, hsn, rfl, h1⟩ := OwnK.rdn Snd.len h.snd
  obtain ⟨na, nn, nc, hnn, rfl, h2⟩ := OwnK.rdn RE.len h.nxt
  obtain ⟨fa, fn, fc, hfn, rfl, h3⟩ := OwnK.rdn BE.len h.ends
  subst hsn hnn hfn
  exact ⟨sa, sc, na, nc, fa, fc, h.box, h1, h2, h3⟩
theorem RowB.free {w : World} {B : Nat} {r : List Nat} (h : RowB w B r) (i : Nat) : w.frozen? ⟨B, i, none⟩ = false := frozen_of_row w B i _ _ h
theorem RowB.put {w : World} {B : Nat} {r : List Nat} (h : RowB w B r) {k v : Nat} (hk : r.length = k) (hk8 : k < 8) : RowB (w.setCell ⟨B, k, none⟩ (.int .i64 (v : Int))) B (r ++ [v]) := by
  unfold RowB at h ⊢
  rw [heap_setCell_same w B k _ _ _ h]
  have hg : ∀ i, (r ++ [v])[i]?.getD 0 = if i = k then v else r[i]?.getD 0 := fun i => by
    by_cases e : i = k
    · subst e; rw [if_pos rfl, ← hk, List.getElem?_concat_length]; rfl
    · rw [if_neg e]
      by_cases hl : i < k
      · rw [List.getElem?_append_left (by omega)]
      · rw [List.getElem?_eq_none (by simp; omega), List.getElem?_eq_none (by omega)]
  have : k = 0 ∨ k = 1 ∨ k = 2 ∨ k = 3 ∨ k = 4 ∨ k = 5 ∨ k = 6 ∨ k = 7 := by omega
  simp only [rowCells, hg]
  rcases this with rfl | rfl | rfl | rfl | rfl | rfl | rfl | rfl <;> rfl
theorem MapK.setOff {P : Program} {k e : TypeId} {κ : Type} {kl : κ → Lit} {w : World} {b n : Nat} {f : κ → Option Lit} (h : MapK P k e kl w b n f) {Bt : Nat} {cs : Array Value} {t : TypeId} {fr : Nat × Nat} (hb : w.heap[Bt]? = some (.cells cs t fr)) (i : Nat) (u : Value) : MapK P k e kl (w.setCell ⟨Bt, i, none⟩ u) b n f := by
  obtain ⟨o, ho, hc⟩ := h.obj
  refine h.agr (heap_setCell_other w ⟨Bt, i, none⟩ b u fun e => ?_)
  simp only at e; subst e; rw [ho] at hb; cases hb; cases hc
theorem RowB.beside {w w' : World} {B : Nat} {r : List Nat} (h : RowB w B r) {row : Option Nat} (hg : w.grownBy w' row) (hr : ∀ r, row = some r → ∃ o : Obj, w.heap[r]? = some o ∧ o.isCells = false) : RowB w' B r :=
  (hg.block B (Array.getElem?_eq_some_iff.1 h).1 fun e => by obtain ⟨o, ho, hc⟩ := hr B e.symm; rw [show w.heap[B]? = _ from h] at ho; cases ho; cases hc).trans h
theorem NetAt.rd {B Bg : Nat} {w : World} {a : Option Addr} {n cap : Nat} {hs : List RW} (h : NetAt B Bg w (.slice a n cap) hs) : RdNet w a n cap (hs.map RW.x) :=
  ⟨hs, OwnK.rdc RW.len h.own, fun y hy => OwnK.rdc Lk.len (h.row y hy), rfl⟩
end Go.Proofs.Ytilkemdecenibaa
