/-
  An automaton in memory; keys of classes; maps with counts.
-/
import Derived.Test.YtilkemdecenibaaV3
import Derived.Test.YtilkemdecenibaaJm
import Derived.Deep.LoopGhost
namespace Go.Proofs.Ytilkemdecenibaa
open Go.RowKit Go.Maps
def BE.enc (b : Bool) : List Value := [.bool b]
theorem BE.len (b : Bool) : (BE.enc b).length = 1 := rfl
theorem BE.one (b : Bool) : ∀ u ∈ BE.enc b, u.oneCell' = true := by intro u hu; simp [BE.enc] at hu; subst hu; rfl
theorem info_row : (Try.prog.info? 101).map (fun i => (i.zero, i.size, i.bytes)) = some (some (.agg #[.int .i64 0, .int .i64 0, .int .i64 0, .int .i64 0, .int .i64 0, .int .i64 0, .int .i64 0, .int .i64 0]), 8, 64) := by kernel_rfl
theorem info_bl : (Try.prog.info? 4).map (fun i => (i.zero, i.size, i.bytes)) = some (some (.bool false), 1, 1) := by kernel_rfl
theorem info_by : (Try.prog.info? 81).map (fun i => (i.zero, i.size, i.bytes)) = some (some (.slice none 0 0), 1, 24) := by kernel_rfl
/-- The automaton A lies in block b. -/
def AuAt (w : World) (b : Nat) (A : Au) : Prop := ∃ sa sc na nc fa fc, w.heap[b]? = some (.cells #[.slice sa A.snd.length sc, .slice na A.next.length nc, .slice fa A.fin.length fc] 68 (0, 0)) ∧
  RdS w sa A.snd.length sc A.snd ∧ RdK 8 RE.enc w na A.next.length nc A.next ∧ RdK 1 BE.enc w fa A.fin.length fc A.fin
theorem AuAt.ext {w w' : World} {b : Nat} {A : Au} (h : AuAt w b A) (hx : Ext w w') : AuAt w' b A := by
  obtain ⟨sa, sc, na, nc, fa, fc, h1, h2, h3, h4⟩ := h
  exact ⟨sa, sc, na, nc, fa, fc, blk_kept h1 hx, h2.ext hx, h3.ext hx, h4.ext hx⟩
def RetAu (A : Au) (w : World) (e : Ending) (w' : World) : Prop := ∃ b, e = .returned (.pointer (some ⟨b, 0, none⟩)) ∧ AuAt w' b A ∧ Ext w w'
/-- A row of eight in a box. -/
abbrev rowCells (r : List Nat) : Array Value := #[.int .i64 ((r[0]?.getD 0 : Nat) : Int), .int .i64 ((r[1]?.getD 0 : Nat) : Int), .int .i64 ((r[2]?.getD 0 : Nat) : Int), .int .i64 ((r[3]?.getD 0 : Nat) : Int), .int .i64 ((r[4]?.getD 0 : Nat) : Int), .int .i64 ((r[5]?.getD 0 : Nat) : Int), .int .i64 ((r[6]?.getD 0 : Nat) : Int), .int .i64 ((r[7]?.getD 0 : Nat) : Int)]
def RowB (w : World) (B : Nat) (r : List Nat) : Prop := w.heap[B]? = some (.cells (rowCells r) 101 (0, 0))
theorem RowB.new (w : World) (r : List Nat) : RowB (w.alloc (.cells (rowCells r) 101)) w.heap.size r := World.alloc_heap_new w _
theorem RowB.ext {w w' : World} {B : Nat} {r : List Nat} (h : RowB w B r) (hx : Ext w w') : RowB w' B r := blk_kept h hx
theorem RowB.at {w : World} {B : Nat} {r : List Nat} (h : RowB w B r) {i : Nat} (hi : i < 8) : w.cell? ⟨B, i, none⟩ = some (.int .i64 ((r.getD i 0 : Nat) : Int)) := by
  unfold RowB at h
  simp only [World.cell?, h]
  have : i = 0 ∨ i = 1 ∨ i = 2 ∨ i = 3 ∨ i = 4 ∨ i = 5 ∨ i = 6 ∨ i = 7 := by omega
  rcases this with rfl | rfl | rfl | rfl | rfl | rfl | rfl | rfl <;> rfl
theorem row_at {w : World} {a : Option Addr} {n cap : Nat} {rs : List (List Nat)} (h : RdK 8 RE.enc w a n cap rs) {i : Nat} (hi : i < n) :
    ∃ b off r, a = some ⟨b, off, none⟩ ∧ Hid (rs[i]? = some r) ∧ b < w.heap.size ∧ w.cell? ⟨b, off + i * 8, none⟩ = some (.int .i64 ((r[0]?.getD 0 : Nat) : Int)) ∧ w.cell? ⟨b, off + i * 8 + 1, none⟩ = some (.int .i64 ((r[1]?.getD 0 : Nat) : Int)) ∧ w.cell? ⟨b, off + i * 8 + 2, none⟩ = some (.int .i64 ((r[2]?.getD 0 : Nat) : Int)) ∧ w.cell? ⟨b, off + i * 8 + 3, none⟩ = some (.int .i64 ((r[3]?.getD 0 : Nat) : Int)) ∧
      w.cell? ⟨b, off + i * 8 + 4, none⟩ = some (.int .i64 ((r[4]?.getD 0 : Nat) : Int)) ∧ w.cell? ⟨b, off + i * 8 + 5, none⟩ = some (.int .i64 ((r[5]?.getD 0 : Nat) : Int)) ∧ w.cell? ⟨b, off + i * 8 + 6, none⟩ = some (.int .i64 ((r[6]?.getD 0 : Nat) : Int)) ∧ w.cell? ⟨b, off + i * 8 + 7, none⟩ = some (.int .i64 ((r[7]?.getD 0 : Nat) : Int)) := by
  obtain ⟨b, off, r, ha, hx, hb, hc⟩ := h.get hi
  refine ⟨b, off, r, ha, hx, hb, ?_, hc 1 _ rfl, hc 2 _ rfl, hc 3 _ rfl, hc 4 _ rfl, hc 5 _ rfl, hc 6 _ rfl, hc 7 _ rfl⟩
  have := hc 0 _ (RE.at r (by decide)); simpa using this
/-! ### Keys of classes -/
abbrev K9 := {l : List Nat // l.length = 9 ∧ ∀ x ∈ l, x ≤ 60000}
abbrev mkK (l : List Nat) : Value := .agg #[.int .i64 ((l[0]?.getD 0 : Nat) : Int), .int .i64 ((l[1]?.getD 0 : Nat) : Int), .int .i64 ((l[2]?.getD 0 : Nat) : Int), .int .i64 ((l[3]?.getD 0 : Nat) : Int), .int .i64 ((l[4]?.getD 0 : Nat) : Int), .int .i64 ((l[5]?.getD 0 : Nat) : Int), .int .i64 ((l[6]?.getD 0 : Nat) : Int), .int .i64 ((l[7]?.getD 0 : Nat) : Int), .int .i64 ((l[8]?.getD 0 : Nat) : Int)]
theorem keyed_k9 : Keyed Try.prog 165 := Keyed.of_law (deep_law_laid (by kernel_rfl) (m := 3) (by omega) (of_decide_eq_true (by kernel_rfl)) (by kernel_rfl) (by rw [Try.underlying165]))
def klK (x : K9) : Lit := .string (keyBytes (x.1.map fun (n : Nat) => Lit.int .i64 (n : Int)))
theorem wf_nat (x : Nat) (h : x ≤ 60000) : (Lit.int .i64 (x : Int)).wf = true := by
  have h0 : IntKind.i64.min = -9223372036854775808 := by decide
  have h1 : IntKind.i64.max = 9223372036854775807 := by decide
  show (decide (IntKind.i64.min ≤ (x : Int)) && decide ((x : Int) ≤ IntKind.i64.max)) = true
  rw [h0, h1, Bool.and_eq_true, decide_eq_true_eq, decide_eq_true_eq]; omega
theorem nine_of {α : Type} {l : List α} (h : l.length = 9) : ∃ a b c d e f g i j, l = [a, b, c, d, e, f, g, i, j] := by
  match l, h with
  | [a, b, c, d, e, f, g, i, j], _ => exact ⟨a, b, c, d, e, f, g, i, j, rfl⟩
theorem keyK (x : K9) : keyOf Try.prog 165 (mkK x.1) = some (klK x) := by
  have hk : Try.prog.keyType 165 = true := by kernel_rfl
  have hc1 : Try.prog.cellsOf 3 = 1 := by kernel_rfl
  have hc8 : Try.prog.cellsOf 101 = 8 := by kernel_rfl
  have hc9 : Try.prog.cellsOf 165 = 9 := by kernel_rfl
  obtain ⟨d, hd⟩ : ∃ d, Try.prog.types.size = d + 2 := ⟨Try.prog.types.size - 2, by have : 1 < Try.prog.types.size := of_decide_eq_true (by kernel_rfl); omega⟩
  obtain ⟨l, hl, hb⟩ := x
  obtain ⟨a0, a1, a2, a3, a4, a5, a6, a7, a8, rfl⟩ := nine_of hl
  have hw : ∀ y ∈ [a0, a1, a2, a3, a4, a5, a6, a7, a8], (Lit.int .i64 (y : Int)).wf = true := fun y hy => wf_nat y (hb y hy)
  simp only [List.mem_cons, List.not_mem_nil, or_false, forall_eq_or_imp, forall_eq] at hw
  obtain ⟨h0, h1, h2, h3, h4, h5, h6, h7, h8⟩ := hw
  unfold keyOf klK
  rw [Try.underlying165, hd]
  have hr : List.range 8 = [0, 1, 2, 3, 4, 5, 6, 7] := by decide
  simp [hk, Value.formed, Try.underlying165, Try.underlying101, hc8, hc9, Program.keyLits, Try.underlying3, hc1, h0, h1, h2, h3, h4, h5, h6, h7, h8, Value.cells, hr]
theorem klK_inj (x y : K9) (h : klK x = klK y) : x = y := by
  have hx := keyK x
  rw [h] at hx
  have he := keyed_k9.inj hx (keyK y)
  obtain ⟨l, hl, hb⟩ := x
  obtain ⟨m, hm, hb2⟩ := y
  obtain ⟨a0, a1, a2, a3, a4, a5, a6, a7, a8, rfl⟩ := nine_of hl
  obtain ⟨b0, b1, b2, b3, b4, b5, b6, b7, b8, rfl⟩ := nine_of hm
  simp only [mkK, Value.agg.injEq, Array.mk.injEq, List.cons.injEq, Value.int.injEq, true_and, and_true] at he
  obtain ⟨h0, h1, h2, h3, h4, h5, h6, h7, h8⟩ := he
  have e0 : a0 = b0 := Int.ofNat_inj.1 h0; have e1 : a1 = b1 := Int.ofNat_inj.1 h1; have e2 : a2 = b2 := Int.ofNat_inj.1 h2; have e3 : a3 = b3 := Int.ofNat_inj.1 h3; have e4 : a4 = b4 := Int.ofNat_inj.1 h4; have e5 : a5 = b5 := Int.ofNat_inj.1 h5; have e6 : a6 = b6 := Int.ofNat_inj.1 h6; have e7 : a7 = b7 := Int.ofNat_inj.1 h7; have e8 : a8 = b8 := Int.ofNat_inj.1 h8
  subst e0 e1 e2 e3 e4 e5 e6 e7 e8
  rfl
theorem klK_lit (x : K9) : WideAt.IsKeyLit (klK x) := isKeyLit_string _
/-- The numbers of keys, as the map has them. -/
def fK (ks : List (List Nat)) (x : K9) : Option Lit := if x.1 ∈ ks then some (.int .i64 ((ks.idxOf x.1 : Nat) : Int)) else none
theorem fK_snoc (ks : List (List Nat)) (x : K9) (h : x.1 ∉ ks) : (fun y => if y = x then some (Lit.int .i64 ((ks.length : Nat) : Int)) else fK ks y) = fK (ks ++ [x.1]) := by
  funext y
  unfold fK
  by_cases e : y = x
  · subst e
    rw [if_pos rfl, if_pos (by simp), List.idxOf_append, if_neg h]; simp
  · have e1 : y.1 ≠ x.1 := fun h => e (Subtype.ext h)
    rw [if_neg e]
    by_cases hm : y.1 ∈ ks
    · rw [if_pos hm, if_pos (by simp [hm]), List.idxOf_append, if_pos hm]
    · rw [if_neg hm, if_neg (by simp [hm, e1])]
/-! ### Maps of counts, by a store -/
section
variable {P : Program} {k e t : TypeId} {κ : Type} {kl : κ → Lit} {w : World} {b n c : Nat} {f : κ → Option Lit}
theorem MapC.store2 [DecidableEq κ] (h : MapC P k e kl w b n c f) (K : Keyed P k) (ht : P.underlying t = some (.map k e)) (hn : n < maxLen) (hinj : ∀ x y, kl x = kl y → x = y) (hlit : ∀ x, WideAt.IsKeyLit (kl x))
    {key val : Value} {x : κ} {l : Lit} {ps : List MemPlace} (hkey : keyOf P k key = some (kl x)) (hv : plainElem (H := Unit) P e val = some (.lit l, ps)) :
    ∃ w', (Instr.mapUpdate t (.map (some b)) key val).run P w = .ok () w' ∧ MapC P k e kl w' b (n + 1) (if (f x).isSome then c else c + 1) (fun y => if y = x then some l else f y) ∧ w.grownBy w' (some b) := by
  obtain ⟨D, h1, h2, h3, h4⟩ := h
  have hT := h1.tidy K
  obtain ⟨w', hr, ho, hg⟩ := h1.store K ht hn hkey hv
  refine ⟨w', hr, ⟨_, ho, ?_, fun y => ?_, has_put_keys (x := x) h4⟩, World.mapTurned.grown hg⟩
  · rw [size_put hT, (h3 x).1, h2]
  · by_cases e : y = x
    · subst e
      simp only [↓reduceIte]
      exact ⟨by rw [has_put_same hT.isMap (hlit y)]; rfl, fun z => by rw [atKey_put_same hT.isMap (hlit y)]; rfl⟩
    · simp only [if_neg e]
      have hne : kl y ≠ kl x := fun h => e (hinj _ _ h)
      exact ⟨by rw [has_put_other hne]; exact (h3 y).1, fun z => by rw [atKey_put_other hne]; exact (h3 y).2 z⟩
variable {ops : Array Oper} {rest : List Oper} {o : Oper} {a : Act} {Q : Exit → Act → World → Prop}
theorem wp_mapStoreC [DecidableEq κ] (hg : Region.wanted o (yielded ops a.tmps) = true) (m x v : Operand) (t : TypeId) (hop : o.op = Op.mapUpdate t m x v) (k e : TypeId) (K : Keyed P k) (ht : P.underlying t = some (.map k e)) (hinj : ∀ x y, kl x = kl y → x = y) (hlit : ∀ x, WideAt.IsKeyLit (kl x))
    (hm : a.eval m = .map (some b)) (hown : MapC P k e kl w b n c f) (hn : n < maxLen) (key val : Value) (y : κ) (hx : a.eval x = key) (hv : a.eval v = val) (hkey : keyOf P k key = some (kl y)) {l : Lit} {ps : List MemPlace}
    (hval : plainElem (H := Unit) P e val = some (.lit l, ps))
    (hK : ∀ w', MapC P k e kl w' b (n + 1) (if (f y).isSome then c else c + 1) (fun z => if z = y then some l else f z) → w.grownBy w' (some b) → wpList P ops Q rest (a.put o.dst undef) w') : wpList P ops Q (o :: rest) a w := by
  refine BigFrame.wpList_want hg fun K' hK' => ?_
  obtain ⟨w', hrun, r1, r2⟩ := hown.store2 K ht hn hinj hlit hkey hval
  unfold Oper.wp
  simp [execOp, hop, hm, hx, hv, hrun, Result.andThen]
  exact hK' _ _ (hK w' r1 r2)
theorem MapK.obj (h : MapK P k e kl w b n f) : ∃ o : Obj, w.heap[b]? = some o ∧ o.isCells = false := let ⟨_, ⟨_, _, h1, _⟩, _⟩ := h; ⟨_, h1, rfl⟩
theorem MapC.grown (h : MapC P k e kl w b n c f) {w' : World} {row : Option Nat} (hg : w.grownBy w' row) (hne : row ≠ some b) : MapC P k e kl w' b n c f := h.agr (hg.block b h.lt fun e => hne e.symm)
end
theorem MapC.mono {P : Program} {k e : TypeId} {κ : Type} {kl : κ → Lit} {w : World} {b n c : Nat} {f : κ → Option Lit} (h : MapC P k e kl w b n c f) {n' : Nat} (hn : n ≤ n') : MapC P k e kl w b n' c f := by
  obtain ⟨D, h1, h2⟩ := h
  exact ⟨D, h1.mono hn, h2⟩
/-- A key of classes in a box. -/
abbrev kindCells (l : List Nat) : Array Value := #[.int .i64 ((l[0]?.getD 0 : Nat) : Int), .int .i64 ((l[1]?.getD 0 : Nat) : Int), .int .i64 ((l[2]?.getD 0 : Nat) : Int), .int .i64 ((l[3]?.getD 0 : Nat) : Int), .int .i64 ((l[4]?.getD 0 : Nat) : Int), .int .i64 ((l[5]?.getD 0 : Nat) : Int), .int .i64 ((l[6]?.getD 0 : Nat) : Int), .int .i64 ((l[7]?.getD 0 : Nat) : Int), .int .i64 ((l[8]?.getD 0 : Nat) : Int)]
def KindB (w : World) (B : Nat) (l : List Nat) : Prop := w.heap[B]? = some (.cells (kindCells l) 165 (0, 0))
theorem KindB.new (w : World) (l : List Nat) : KindB (w.alloc (.cells (kindCells l) 165)) w.heap.size l := World.alloc_heap_new w _
theorem KindB.ext {w w' : World} {B : Nat} {l : List Nat} (h : KindB w B l) (hx : Ext w w') : KindB w' B l := blk_kept h hx
theorem KindB.cells {w : World} {B : Nat} {l : List Nat} (h : KindB w B l) : w.cell? ⟨B, 0, none⟩ = some (.int .i64 ((l[0]?.getD 0 : Nat) : Int)) ∧ w.cell? ⟨B, 1, none⟩ = some (.int .i64 ((l[1]?.getD 0 : Nat) : Int)) ∧ w.cell? ⟨B, 2, none⟩ = some (.int .i64 ((l[2]?.getD 0 : Nat) : Int)) ∧ w.cell? ⟨B, 3, none⟩ = some (.int .i64 ((l[3]?.getD 0 : Nat) : Int)) ∧ w.cell? ⟨B, 4, none⟩ = some (.int .i64 ((l[4]?.getD 0 : Nat) : Int)) ∧ w.cell? ⟨B, 5, none⟩ = some (.int .i64 ((l[5]?.getD 0 : Nat) : Int)) ∧ w.cell? ⟨B, 6, none⟩ = some (.int .i64 ((l[6]?.getD 0 : Nat) : Int)) ∧ w.cell? ⟨B, 7, none⟩ = some (.int .i64 ((l[7]?.getD 0 : Nat) : Int)) ∧ w.cell? ⟨B, 8, none⟩ = some (.int .i64 ((l[8]?.getD 0 : Nat) : Int)) := by
  unfold KindB at h
  simp [World.cell?, h]
theorem KindB.free {w : World} {B : Nat} {l : List Nat} (h : KindB w B l) (i : Nat) : w.frozen? ⟨B, i, none⟩ = false := frozen_of_row w B i _ _ h
/-- The key of a state, as far as it is filled. -/
def kdTo (n : Nat) (v : Nat → Nat) (o : Nat) : List Nat := o :: (List.range 8).map fun q => if q < n then v q else 0
theorem kdTo_cell {w : World} {B n o : Nat} {v : Nat → Nat} (h : KindB w B (kdTo n v o)) (hn : n < 8) : w.cell? ⟨B, 1 + n, none⟩ = some (.int .i64 0) := by
  unfold KindB at h
  simp only [World.cell?, h]
  have : n = 0 ∨ n = 1 ∨ n = 2 ∨ n = 3 ∨ n = 4 ∨ n = 5 ∨ n = 6 ∨ n = 7 := by omega
  rcases this with rfl | rfl | rfl | rfl | rfl | rfl | rfl | rfl <;> rfl
theorem kdTo_set {w : World} {B n o : Nat} {v : Nat → Nat} (h : KindB w B (kdTo n v o)) (hn : n < 8) : KindB (w.setCell ⟨B, 1 + n, none⟩ (.int .i64 ((v n : Nat) : Int))) B (kdTo (n + 1) v o) := by
  unfold KindB at h ⊢
  rw [heap_setCell_same w B (1 + n) _ _ _ h]
  have : n = 0 ∨ n = 1 ∨ n = 2 ∨ n = 3 ∨ n = 4 ∨ n = 5 ∨ n = 6 ∨ n = 7 := by omega
  rcases this with rfl | rfl | rfl | rfl | rfl | rfl | rfl | rfl <;> rfl
/-- An automaton that is being made: its box, its rows, its ends. -/
structure OutB (B : Nat) (w : World) (sv : Value) (Rb Fb Bo Cn : Nat) (rs : List (List Nat)) (fs : List Bool) : Prop where
  box : w.heap[Bo]? = some (.cells #[sv, .slice (some ⟨Rb, 0, none⟩) Cn Cn, .slice (some ⟨Fb, 0, none⟩) Cn Cn] 68 (0, 0))
  rows : OwnK 8 RE.enc B 101 w (.slice (some ⟨Rb, 0, none⟩) Cn Cn) rs
  ends : OwnK 1 BE.enc B 4 w (.slice (some ⟨Fb, 0, none⟩) Cn Cn) fs
theorem OutB.kept {B : Nat} {w w' : World} {sv : Value} {Rb Fb Bo Cn : Nat} {rs : List (List Nat)} {fs : List Bool} (h : OutB B w sv Rb Fb Bo Cn rs fs) (hx : Ext w w') : OutB B w' sv Rb Fb Bo Cn rs fs := ⟨blk_kept h.box hx, h.rows.kept hx, h.ends.kept hx⟩
theorem OutB.cells {B : Nat} {w : World} {sv : Value} {Rb Fb Bo Cn : Nat} {rs : List (List Nat)} {fs : List Bool} (h : OutB B w sv Rb Fb Bo Cn rs fs) : w.cell? ⟨Bo, 0, none⟩ = some sv ∧ w.cell? ⟨Bo, 1, none⟩ = some (.slice (some ⟨Rb, 0, none⟩) Cn Cn) ∧ w.cell? ⟨Bo, 2, none⟩ = some (.slice (some ⟨Fb, 0, none⟩) Cn Cn) := by
  simp [World.cell?, h.box]
theorem RE.set {x : List Nat} (hx : x.length = 8) {m v : Nat} (hm : m < 8) : RE.enc (x.set m v) = (RE.enc x).set m (.int .i64 (v : Int)) := by
  apply List.ext_getElem?
  intro i
  by_cases hi : i < 8
  · rw [RE.at _ hi, List.getElem?_set]
    by_cases e : m = i
    · subst e
      rw [if_pos rfl, if_pos (by rw [RE.len]; exact hm), List.getD_eq_getElem?_getD, List.getElem?_set_self (by omega)]; rfl
    · rw [if_neg e, RE.at _ hi, List.getD_eq_getElem?_getD, List.getElem?_set_ne e, ← List.getD_eq_getElem?_getD]
  · rw [List.getElem?_eq_none (by rw [RE.len]; omega), List.getElem?_eq_none (by rw [List.length_set, RE.len]; omega)]
theorem OutB.setRow {B : Nat} {w : World} {sv : Value} {Rb Fb Bo Cn : Nat} {rs : List (List Nat)} {fs : List Bool} (h : OutB B w sv Rb Fb Bo Cn rs fs) {c m v : Nat} {x : List Nat} (hc : rs[c]? = some x) (hx : x.length = 8) (hm : m < 8) :
    OutB B (w.setCell ⟨Rb, c * 8 + m, none⟩ (.int .i64 (v : Int))) sv Rb Fb Bo Cn (rs.set c (x.set m v)) fs := by
  obtain ⟨cur, hR⟩ := own_type h.rows (g := Rb) rfl
  refine ⟨(heap_setCell_other w ⟨Rb, c * 8 + m, none⟩ Bo _ fun e => ?_).trans h.box, own_store RE.len h.rows hc hm (RE.set hx hm), own_offT h.ends hR (by decide)⟩
  simp only at e; subst e; rw [h.box] at hR; cases hR
theorem OutB.setEnd {B : Nat} {w : World} {sv : Value} {Rb Fb Bo Cn : Nat} {rs : List (List Nat)} {fs : List Bool} (h : OutB B w sv Rb Fb Bo Cn rs fs) {c : Nat} (hc : c < Cn) (b : Bool) :
    OutB B (w.setCell ⟨Fb, c, none⟩ (.bool b)) sv Rb Fb Bo Cn rs (fs.set c b) := by
  obtain ⟨cur, hF⟩ := own_type h.ends (g := Fb) rfl
  refine ⟨(heap_setCell_other w ⟨Fb, c, none⟩ Bo _ fun e => ?_).trans h.box, own_offT h.rows hF (by decide), own_set1 BE.len h.ends hc rfl⟩
  simp only at e; subst e; rw [h.box] at hF; cases hF
theorem out_A {B : Nat} {w : World} (hB : B ≤ w.heap.size) (sv : Value) {Cn : Nat} (hC : Cn ≤ 60000) :
    OutB B ((((w.alloc (.cells (madeCells #[.int .i64 0, .int .i64 0, .int .i64 0, .int .i64 0, .int .i64 0, .int .i64 0, .int .i64 0, .int .i64 0] (Cn * 8)) 101)).alloc (.cells (madeCells #[.bool false] Cn) 4)).alloc (.cells #[sv, .slice (some ⟨w.heap.size, 0, none⟩) Cn Cn, .slice (some ⟨w.heap.size + 1, 0, none⟩) Cn Cn] 68)).drew) sv w.heap.size (w.heap.size + 1) (w.heap.size + 1 + 1) Cn (List.replicate Cn (List.replicate 8 0)) (List.replicate Cn false) := by
  have h1 := (made_own RE.len (by decide) w 101 #[.int .i64 0, .int .i64 0, .int .i64 0, .int .i64 0, .int .i64 0, .int .i64 0, .int .i64 0, .int .i64 0] (List.replicate 8 0) rfl Cn hC).base hB
  have h2 := (made_own BE.len (by decide) (w.alloc (.cells (madeCells #[.int .i64 0, .int .i64 0, .int .i64 0, .int .i64 0, .int .i64 0, .int .i64 0, .int .i64 0, .int .i64 0] (Cn * 8)) 101)) 4 #[.bool false] false rfl Cn hC)
  rw [World.size_alloc, Nat.mul_one] at h2
  have h3 := World.alloc_heap_new ((w.alloc (.cells (madeCells #[.int .i64 0, .int .i64 0, .int .i64 0, .int .i64 0, .int .i64 0, .int .i64 0, .int .i64 0, .int .i64 0] (Cn * 8)) 101)).alloc (.cells (madeCells #[.bool false] Cn) 4)) (.cells #[sv, .slice (some ⟨w.heap.size, 0, none⟩) Cn Cn, .slice (some ⟨w.heap.size + 1, 0, none⟩) Cn Cn] 68)
  rw [World.size_alloc, World.size_alloc] at h3
  exact OutB.kept ⟨h3, (h1.kept (Ext.alloc1 _ _)).kept (Ext.alloc1 _ _), (h2.base (by omega)).kept (Ext.alloc1 _ _)⟩ (Ext.refl _).drew
theorem out_B {B : Nat} {w : World} (hB : B ≤ w.heap.size) (sv : Value) {Cn : Nat} (hC : Cn ≤ 60000) :
    OutB B ((((w.alloc (.cells (madeCells #[.bool false] Cn) 4)).alloc (.cells (madeCells #[.int .i64 0, .int .i64 0, .int .i64 0, .int .i64 0, .int .i64 0, .int .i64 0, .int .i64 0, .int .i64 0] (Cn * 8)) 101)).alloc (.cells #[sv, .slice (some ⟨w.heap.size + 1, 0, none⟩) Cn Cn, .slice (some ⟨w.heap.size, 0, none⟩) Cn Cn] 68)).drew) sv (w.heap.size + 1) w.heap.size (w.heap.size + 1 + 1) Cn (List.replicate Cn (List.replicate 8 0)) (List.replicate Cn false) := by
  have h2 := (made_own BE.len (by decide) w 4 #[.bool false] false rfl Cn hC).base hB
  have h1 := (made_own RE.len (by decide) (w.alloc (.cells (madeCells #[.bool false] Cn) 4)) 101 #[.int .i64 0, .int .i64 0, .int .i64 0, .int .i64 0, .int .i64 0, .int .i64 0, .int .i64 0, .int .i64 0] (List.replicate 8 0) rfl Cn hC)
  rw [World.size_alloc] at h1
  rw [Nat.mul_one] at h2
  have h3 := World.alloc_heap_new ((w.alloc (.cells (madeCells #[.bool false] Cn) 4)).alloc (.cells (madeCells #[.int .i64 0, .int .i64 0, .int .i64 0, .int .i64 0, .int .i64 0, .int .i64 0, .int .i64 0, .int .i64 0] (Cn * 8)) 101)) (.cells #[sv, .slice (some ⟨w.heap.size + 1, 0, none⟩) Cn Cn, .slice (some ⟨w.heap.size, 0, none⟩) Cn Cn] 68)
  rw [World.size_alloc, World.size_alloc] at h3
  exact OutB.kept ⟨h3, (h1.base (by omega)).kept (Ext.alloc1 _ _), (h2.kept (Ext.alloc1 _ _)).kept (Ext.alloc1 _ _)⟩ (Ext.refl _).drew
theorem rowSet_len (n : Nat) (v : Nat → Nat) (r : List Nat) : (rowSet n v r).length = r.length := by
  induction n with
  | zero => rfl
  | succ n ih => rw [rowSet_succ, List.length_set, ih]
theorem outTo_row (A : Au) (cls : List Nat) (C : Nat) : ∀ s, ∀ r ∈ (outTo A cls C s).1, r.length = 8
  | 0 => fun r h => by simp only [outTo] at h; rw [(List.mem_replicate.1 h).2]; rfl
  | s + 1 => fun r h => by
    have ih := outTo_row A cls C s
    simp only [outTo] at h
    rcases List.mem_or_eq_of_mem_set h with h1 | h1
    · exact ih r h1
    · rw [h1, rowSet_len]
      have hl := (outTo_len A cls C s).1
      by_cases hc : cls.getD s 0 < (outTo A cls C s).1.length
      · rw [List.getD_eq_getElem?_getD, List.getElem?_eq_getElem hc]; exact ih _ (List.getElem_mem hc)
      · exfalso
        rw [List.set_eq_of_length_le (by omega)] at h
        rw [h1] at h
        have := ih _ h
        rw [rowSet_len, List.getD_eq_getElem?_getD, List.getElem?_eq_none (by omega)] at this
        simp at this
theorem zeroI (w : World) : (zeroValue 3).run Try.prog w = .ok (.int .i64 0) w := by kernel_rfl
end Go.Proofs.Ytilkemdecenibaa
