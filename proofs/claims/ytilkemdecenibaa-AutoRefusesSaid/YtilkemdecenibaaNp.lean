/-
  Words: what stands while words are collected.
  Words: the walk; Shortest; Differ.
  Shortest, Differ: the walks.
-/
import Derived.Test.YtilkemdecenibaaNo
import Derived.Test.YtilkemdecenibaaNe
import Derived.Test.YtilkemdecenibaaNg
namespace Go.Proofs.Ytilkemdecenibaa
open Go.RowKit Go.Maps Go.Shelf
theorem info_ws : (Try.prog.info? 28).map (fun i => (i.zero, i.size, i.bytes)) = some (some (.slice none 0 0), 1, 24) := by kernel_rfl
theorem ownH_inj {B e : Nat} {X : World} {v : Value} {hs hs' : List SH} (h : OwnK 1 SH.enc B e X v hs) (h' : OwnK 1 SH.enc B e X v hs') : hs = hs' := by
  obtain ⟨a, n, cap, hn, rfl, hr⟩ := OwnK.rdn SH.len h
  obtain ⟨a', n', cap', hn', e, hr'⟩ := OwnK.rdn SH.len h'
  cases e
  apply List.ext_getElem?
  intro i
  by_cases hi : i < n
  · obtain ⟨b, off, x, rfl, hx, _, hc⟩ := hr.get hi
    obtain ⟨b', off', x', e, hx', _, hc'⟩ := hr'.get hi
    cases e
    have e1 := hc 0 _ rfl
    have e2 := hc' 0 _ rfl
    rw [e1] at e2
    have e3 := Option.some.inj e2
    rw [hx.out, hx'.out]
    obtain ⟨xa, xn, xc⟩ := x
    obtain ⟨ya, yn, yc⟩ := x'
    injection e3 with f1 f2 f3
    change xa = ya at f1
    change xn = yn at f2
    change xc = yc at f3
    subst f1 f2 f3
    rfl
  · rw [List.getElem?_eq_none (by omega), List.getElem?_eq_none (by omega)]
/-- The words that are kept: out's box, its row, the words' rows. -/
structure OutW (B Bo : Nat) (X : World) (v : Value) (hs : List SH) (s : List (List Snd)) : Prop where
  box : Boxed X Bo 29 v
  own : OwnK 1 SH.enc B 28 X v hs
  len : hs.length = s.length
  rows : ∀ (i : Nat) (h : SH) (x : List Snd), hs[i]? = some h → s[i]? = some x → OwnK 2 Snd.enc B 24 X h.v x
/-- What the body touches. -/
def TW (B Bo : Nat) (X : World) (r : Nat) : Prop := r < X.heap.size ∧ ∃ v hs, Boxed X Bo 29 v ∧ OwnK 1 SH.enc B 28 X v hs ∧ (r = Bo ∨ v.ownBlock = some r ∨ ∃ y ∈ hs, y.v.ownBlock = some r)
section
variable {B Bo : Nat} {X Y : World} {v : Value} {hs : List SH} {s : List (List Snd)}
theorem OutW.row (h : OutW B Bo X v hs s) {y : SH} (hy : y ∈ hs) : ∃ x, OwnK 2 Snd.enc B 24 X y.v x := by
  obtain ⟨i, hi⟩ := List.getElem?_of_mem hy
  obtain ⟨x, hx⟩ : ∃ x, s[i]? = some x := ⟨_, List.getElem?_eq_getElem (by rw [← h.len]; exact (List.getElem?_eq_some_iff.1 hi).1)⟩
  exact ⟨x, h.rows i y x hi hx⟩
theorem TW_iff (h : OutW B Bo X v hs s) (r : Nat) : TW B Bo X r ↔ (r = Bo ∨ v.ownBlock = some r ∨ ∃ y ∈ hs, y.v.ownBlock = some r) := by
  constructor
  · rintro ⟨_, v', hs', hb, ho, hr⟩
    obtain rfl : v' = v := by
      have h1 := h.box
      unfold Boxed at h1 hb
      rw [h1] at hb
      injection hb with hb
      injection hb with hb
      simpa using hb.symm
    obtain rfl := ownH_inj ho h.own
    exact hr
  · intro hr
    refine ⟨?_, v, hs, h.box, h.own, hr⟩
    rcases hr with rfl | hr | ⟨y, hy, hr⟩
    · exact Boxed.lt h.box
    · exact (own_lt h.own hr).2
    · obtain ⟨x, hx⟩ := h.row hy
      exact (own_lt hx hr).2
theorem OutW.cells (h : OutW B Bo X v hs s) {r : Nat} (hr : TW B Bo X r) : ∃ cs e fr, X.heap[r]? = some (.cells cs e fr) := by
  rcases (TW_iff h r).1 hr with rfl | hr | ⟨y, hy, hr⟩
  · exact ⟨_, _, _, h.box⟩
  · obtain ⟨c, hc⟩ := own_type h.own hr; exact ⟨_, _, _, hc⟩
  · obtain ⟨x, hx⟩ := h.row hy
    obtain ⟨c, hc⟩ := own_type hx hr; exact ⟨_, _, _, hc⟩
theorem OutW.beside (h : OutW B Bo X v hs s) {row : Option Nat} (hg : X.grownBy Y row) (hr : ∀ r, row = some r → ¬ TW B Bo X r) : OutW B Bo Y v hs s ∧ ∀ r, TW B Bo Y r ↔ TW B Bo X r := by
  have h2 : OutW B Bo Y v hs s := by
    refine ⟨Boxed.kept h.box hg (fun e => hr Bo e.symm ((TW_iff h Bo).2 (.inl rfl))), own_apart h.own hg (fun g e e1 => hr g e ((TW_iff h g).2 (.inr (.inl e1)))), h.len, fun i y x hi hx => own_apart (h.rows i y x hi hx) hg (fun g e e1 => hr g e ((TW_iff h g).2 (.inr (.inr ⟨y, List.mem_of_getElem? hi, e1⟩))))⟩
  exact ⟨h2, fun r => by rw [TW_iff h2, TW_iff h]⟩
theorem OutW.kept (h : OutW B Bo X v hs s) (hx : Ext X Y) : OutW B Bo Y v hs s := ⟨Boxed.more h.box hx, h.own.kept hx, h.len, fun i y x h1 h2 => (h.rows i y x h1 h2).kept hx⟩
/-- A word more. -/
theorem OutW.push (h : OutW B Bo X v hs s) (hBX : B ≤ X.heap.size) {XL w5 : World} (hX : Ext X XL) {v5 : Value} {y : SH} {x : List Snd} (o5 : OwnK 1 SH.enc B 28 w5 v5 (hs ++ [y])) (g5 : XL.grownBy w5 v.ownBlock) (n5 : v5.ownBlock = v.ownBlock ∨ v5.ownBlock = some XL.heap.size) (hy : OwnK 2 Snd.enc X.heap.size 24 XL y.v x) :
    (w5.cell? ⟨Bo, 0, none⟩ = some v ∧ w5.frozen? ⟨Bo, 0, none⟩ = false) ∧ OutW B Bo (w5.setCell ⟨Bo, 0, none⟩ v5) v5 (hs ++ [y]) (s ++ [x]) ∧ KeepT (TW B Bo) X (w5.setCell ⟨Bo, 0, none⟩ v5) ∧ KeepsFrom B X (w5.setCell ⟨Bo, 0, none⟩ v5) ∧
      (∀ r, r < B → r ≠ Bo → (w5.setCell ⟨Bo, 0, none⟩ v5).heap[r]? = X.heap[r]?) ∧ ∀ w0, Ext w0 X → w0.heap.size ≤ Bo → w0.heap.size ≤ B → Ext w0 (w5.setCell ⟨Bo, 0, none⟩ v5) := by
  have b1 := Boxed.more h.box hX
  have o1 := h.own.kept hX
  have b5 : Boxed w5 Bo 29 v := blk_otherT b1 o1 g5 (by decide)
  have g6 := grownBy_set w5 Bo 0 v5
  have hO : OutW B Bo (w5.setCell ⟨Bo, 0, none⟩ v5) v5 (hs ++ [y]) (s ++ [x]) := by
    refine ⟨Boxed.set _ b5, own_offT o5 b5 (by decide), by simp [h.len], fun i z u hi hu => ?_⟩
    by_cases hlt : i < hs.length
    · rw [List.getElem?_append_left hlt] at hi
      rw [List.getElem?_append_left (by rw [← h.len]; exact hlt)] at hu
      exact own_offT (own_otherT ((h.rows i z u hi hu).kept hX) o1 g5 (by decide)) b5 (by decide)
    · rw [List.getElem?_append_right (by omega)] at hi
      rw [List.getElem?_append_right (by rw [← h.len]; omega)] at hu
      rw [h.len] at hi
      cases hd : i - s.length with
      | zero =>
        rw [hd] at hi hu
        simp at hi hu
        subst hi hu
        exact own_offT (own_otherT (hy.base hBX) o1 g5 (by decide)) b5 (by decide)
      | succ d => rw [hd] at hi; simp at hi
  refine ⟨⟨Boxed.cell b5, Boxed.frozen b5⟩, hO, ⟨Nat.le_trans hX.le (Nat.le_trans g5.size g6.size), fun r o hr hc hnT => ?_, fun r hr => ?_⟩, ?_, fun r hr hne => ?_, fun w0 hw0 h1 h2 => ?_⟩
  · have h1 : r ≠ Bo := fun e => hnT ((TW_iff h r).2 (.inl e))
    have h2 : v.ownBlock ≠ some r := fun e => hnT ((TW_iff h r).2 (.inr (.inl e)))
    have h3 := blk_kept hr hX
    exact (heap_setCell_other w5 ⟨Bo, 0, none⟩ r v5 h1).trans ((g5.block r (Array.getElem?_eq_some_iff.1 h3).1 (fun e => h2 e.symm)).trans h3)
  · rcases (TW_iff hO r).1 hr with e | e | ⟨z, hz, e⟩
    · exact .inl ((TW_iff h r).2 (.inl e))
    · rcases n5 with e5 | e5
      · rw [e5] at e; exact .inl ((TW_iff h r).2 (.inr (.inl e)))
      · rw [e5] at e; cases e; exact .inr hX.le
    · rcases List.mem_append.1 hz with hz | hz
      · exact .inl ((TW_iff h r).2 (.inr (.inr ⟨z, hz, e⟩)))
      · obtain rfl : z = y := by simpa using hz
        exact .inr (own_lt hy e).1
  · refine ((⟨hX.le, fun k _ _ hk _ => (Below.block hX.bel k (Array.getElem?_eq_some_iff.1 hk).1).trans hk⟩ : KeepsFrom B X XL).trans ((KeepsOthers.of_grownBy g5 fun j o e ho => ?_).from _)).trans ((KeepsOthers.setCell _ _ _).from _)
    obtain ⟨c, hc⟩ := own_type o1 e
    rw [hc] at ho; cases ho; rfl
  · have hXr : XL.heap[r]? = X.heap[r]? := Below.block hX.bel r (by omega)
    exact (heap_setCell_other w5 ⟨Bo, 0, none⟩ r v5 hne).trans ((g5.block r (by have := hX.le; omega) (fun e => by have := (own_lt o1 e.symm).1; omega)).trans hXr)
  · exact ext_set ((hw0.trans hX).grown g5 fun j e => by have := (own_lt o1 e).1; omega) h1 0 v5
end
/-- What Words hands back. -/
def RetWs (ws : List (List Snd)) (w : World) (e : Ending) (w' : World) : Prop := ∃ a n cap, e = .returned (.slice a n cap) ∧ RdWs w' a n cap ws ∧ Ext w w'
theorem OutW.rd {B Bo : Nat} {X : World} {v : Value} {hs : List SH} {s : List (List Snd)} (h : OutW B Bo X v hs s) : ∃ a n cap, n = hs.length ∧ v = .slice a n cap ∧ RdWs X a n cap s := by
  obtain ⟨a, n, cap, hn, e, hr⟩ := OwnK.rdn SH.len h.own
  refine ⟨a, n, cap, hn, e, ⟨by rw [← h.len]; exact hr.len, hr.le, hr.most, hr.isnil, fun h0 => ?_⟩⟩
  obtain ⟨b, off, ha, hb, hc⟩ := hr.pos h0
  refine ⟨b, off, ha, hb, fun i x hi => ?_⟩
  obtain ⟨y, hy⟩ : ∃ y, hs[i]? = some y := ⟨_, List.getElem?_eq_getElem (by rw [h.len]; exact (List.getElem?_eq_some_iff.1 hi).1)⟩
  have := hc i y hy 0 _ rfl
  simp only [Nat.mul_one, Nat.add_zero] at this
  exact ⟨_, this, _, _, _, rfl, OwnK.rdc Snd.len (h.rows i y x hy hi)⟩
end Go.Proofs.Ytilkemdecenibaa
namespace Go.Proofs.Ytilkemdecenibaa
open Go.RowKit Go.Maps Go.Shelf
attribute [local go_sem] Oper.semAt_some
theorem wordsf_any (ba : Nat) (w : World) : Calls Try.prog 64 #[.pointer (some ⟨ba, 0, none⟩)] w fun e w' => e = .returned (.func (.func 95) #[] #[.pointer (some ⟨w.heap.size, 0, none⟩)]) ∧ w' = w.alloc (.cells #[.pointer (some ⟨ba, 0, none⟩)] 33) := by
  go_enter Try.func64, Try.ntmps64
  go_wp2_with fail
  go_ret
  exact ⟨rfl, rfl⟩
theorem words_none (w : World) (p : Option Addr) (m : Bool) (hp : AuP w p m) (most : Int) (hm : m = false ∨ most < 1) : Calls Try.prog 28 #[.pointer p, .int .i64 most] w fun e w' => e = .returned (.slice none 0 0) ∧ Ext w w' := by
  have h1 := fun W (hW : Ext w W) => madeP_any (hp.ext hW)
  cases m
  · go_enter Try.func28, Try.ntmps28
    go_wp2_with fail
    refine (h1 _ (Ext.alloc1 _ _)).mono ?_
    rintro e w1 ⟨rfl, hx1⟩
    have hxw := (Ext.alloc1 w (.cells #[.int .i64 most] 3)).trans hx1
    go_wp2_with fail
    go_ret
    exact ⟨rfl, hxw⟩
  · have hlt : most < 1 := by rcases hm with h | h; cases h; exact h
    have d1 : decide (most < 1) = true := decide_eq_true hlt
    have c0 : (w.alloc (.cells #[.int .i64 most] 3)).cell? ⟨w.heap.size, 0, none⟩ = some (.int .i64 most) := by go_simp
    go_enter Try.func28, Try.ntmps28
    go_wp2_with fail
    refine (h1 _ (Ext.alloc1 _ _)).mono ?_
    rintro e w1 ⟨rfl, hx1⟩
    have hxw := (Ext.alloc1 w (.cells #[.int .i64 most] 3)).trans hx1
    have c1 := hx1.cellv c0
    go_wp2_with fail
    go_ret
    exact ⟨rfl, hxw⟩
theorem wordsFrom_len (A : Au) (ord : List Nat) : ∀ (n s : Nat) (u : List Snd), ∀ x ∈ wordsFrom A ord n s u, x.length = u.length + n
  | 0, s, u => fun x hx => by simp [wordsFrom] at hx; subst hx; rfl
  | n + 1, s, u => fun x hx => by
    simp only [wordsFrom] at hx
    obtain ⟨k, _, hk⟩ := List.mem_flatMap.1 hx
    split at hk
    · cases hk
    · have := wordsFrom_len A ord n _ _ x hk
      rw [this]; simp; omega
theorem wordsAll_len (A : Au) (ord : List Nat) : ∀ x ∈ wordsAll A ord, x.length ≤ 32 := fun x hx => by
  obtain ⟨n, hn, hk⟩ := List.mem_flatMap.1 hx
  have hn : n < 33 := by simpa using hn
  split at hk
  · cases hk
  · have := wordsFrom_len A ord n _ _ x hk
    rw [this]; simp; omega
theorem rdS_beside {X Y : World} {row : Option Nat} {a : Option Addr} {n cap : Nat} {u : List Snd} (h : RdS X a n cap u) (hg : X.grownBy Y row) (hr : ∀ r, row = some r → ∃ o : Obj, X.heap[r]? = some o ∧ o.isCells = false) : RdS Y a n cap u :=
  ⟨h.len, h.le, h.most, h.isnil, fun hn => let ⟨b, off, ha, hb, hc⟩ := h.pos hn; ⟨b, off, ha, Nat.lt_of_lt_of_le hb hg.size, fun i x hi j v hv => gb_cell hg (hc i x hi j v hv) fun e => by
    obtain ⟨o, ho, ho2⟩ := hr b e
    have := hc i x hi j v hv
    simp only [World.cell?, ho] at this
    cases o <;> simp [Obj.isCells] at this ho2⟩⟩
theorem size_one {v : Array Value} (h : v.size = 1) : ∃ x, v = #[x] := by
  obtain ⟨l⟩ := v
  match l, h with
  | [x], _ => exact ⟨x, rfl⟩
/-- What stands in the loop of Words. -/
def InW (w w3 : World) (Bo : Nat) (s : List (List Snd)) (X : World) : Prop := (∃ v hs, OutW w3.heap.size Bo X v hs s) ∧ (∀ r, r < w3.heap.size → r ≠ Bo → X.heap[r]? = w3.heap[r]?) ∧ Ext w X ∧ w3.heap.size ≤ X.heap.size
theorem InW.beside {w w3 X Y : World} {Bo : Nat} {s : List (List Snd)} (h : InW w w3 Bo s X) (hw : w.heap.size ≤ w3.heap.size) {row : Option Nat} (hg : X.grownBy Y row) (hr : ∀ r, row = some r → ¬ TW w3.heap.size Bo X r ∧ w3.heap.size ≤ r) : InW w w3 Bo s Y ∧ ∀ r, TW w3.heap.size Bo Y r ↔ TW w3.heap.size Bo X r := by
  obtain ⟨⟨v, hs, ho⟩, h2, h3, h4⟩ := h
  obtain ⟨k1, k2⟩ := ho.beside hg fun r e => (hr r e).1
  refine ⟨⟨⟨v, hs, k1⟩, fun r hr1 hr2 => (hg.block r (by omega) fun e => by have := (hr r e.symm).2; omega).trans (h2 r hr1 hr2), h3.grown hg fun j e => by have := (hr j e).2; omega, Nat.le_trans h4 hg.size⟩, k2⟩
theorem InW.box {w w3 X : World} {Bo : Nat} {s : List (List Snd)} (h : InW w w3 Bo s X) {b : Nat} {t : TypeId} {u : Value} (hb : Boxed w3 b t u) (hne : b ≠ Bo) : Boxed X b t u := (h.2.1 b (Boxed.lt hb) hne).trans hb
set_option maxHeartbeats 1000000 in
set_option maxRecDepth 20000 in
theorem wordsA_any (A : Au) (hAok : A.okB = true) (N : Nat) (hN : A.next.length = N) (hN0 : 0 < N) (hN5 : N ≤ 5000) (nS : Nat) (hnS : A.snd.length = nS) (hnS0 : 0 < nS) (ord : List Nat) (hord : OrdIs A.snd ord) (w : World) (ba : Nat) (hA : AuAt w ba A) (most : Int) (K : Nat) (h1 : 1 ≤ most) (hK : (K : Int) = min most 1000) :
    Calls Try.prog 28 #[.pointer (some ⟨ba, 0, none⟩), .int .i64 most] w (RetWs ((wordsAll A ord).take K) w) := by
  have hm := fun W (hW : Ext w W) => made_any A W ba (hA.ext hW)
  rw [show A.madeB = true by unfold Au.madeB; simp [hN, hN0]] at hm
  have d1 : decide (most < 1) = false := decide_eq_false (by omega)
  have hK1 : 1 ≤ K ∧ K ≤ 1000 := by omega
  have c0 : (w.alloc (.cells #[.int .i64 most] 3)).cell? ⟨w.heap.size, 0, none⟩ = some (.int .i64 most) := by go_simp
  have hro : Fence.wide.round = none := rfl
  have h19 : 1 ≤ 9 := by decide
  have hm1 := hm _ (Ext.alloc1 w (.cells #[.int .i64 most] 3))
  have hA' := Lib.hid hA
  replace hord := Lib.hid hord
  replace hN := Lib.hid hN
  replace hnS := Lib.hid hnS
  replace hAok := Lib.hid hAok
  replace hK := Lib.hid hK
  clear hA hm
  refine callsIn_wide.1 (show CallsIn Fence.wide 9 _ _ _ _ _ from ?_)
  refine callsIn_of_wp_marks Try.func28 rfl trivial ?_ hro
  simp only [Try.ntmps28, List.size_toArray, List.length_cons, List.length_nil, Nat.reduceAdd, Nat.reduceSub, Array.replicate_succ, Array.replicate_zero, List.push_toArray, List.append_toArray, List.nil_append, List.cons_append]
  gi_wp2
  refine ⟨trivial, ?_⟩
  gi_at_call 59
  refine (callsIn_wide.2 hm1).mono ?_
  clear hm1
  rintro e w2 ⟨rfl, hx2⟩
  have c2 := hx2.cellv c0
  have hxw2 := (Ext.alloc1 w (.cells #[.int .i64 most] 3)).trans hx2
  have bM := Boxed.more (Boxed.new w 3 (.int .i64 most)) hx2
  have hBm : Hid (w.heap.size < w2.heap.size) := Lib.hid (Boxed.lt bM)
  replace bM := Lib.hid bM
  gi_wp2
  refine ⟨trivial, ?_⟩
  gi_at_call 64
  refine (callsIn_wide.2 (wordsf_any ba _)).mono ?_
  rintro e w3' ⟨rfl, hw3⟩
  have bO : Boxed w3' w2.heap.size 29 (.slice none 0 0) := by rw [hw3]; exact (Boxed.new w2 _ _).alloc _
  have bP : Boxed w3' (w2.heap.size + 1) 33 (.pointer (some ⟨ba, 0, none⟩)) := by rw [hw3]; have := Boxed.new (w2.alloc (.cells #[.slice none 0 0] 29)) 33 (.pointer (some ⟨ba, 0, none⟩)); rwa [World.size_alloc] at this
  have hx3 : Ext w2 w3' := by rw [hw3]; exact (by repeat (first | exact Ext.refl _ | assumption | refine Ext.drew ?_ | refine Ext.drewN ?_ _ | refine Ext.alloc ?_ _ | refine Ext.trans ?_ (by assumption)))
  have bM3 := Boxed.more bM.out hx3
  have hxw3 := hxw2.trans hx3
  rw [World.size_alloc]
  clear hw3
  rename World => w3
  obtain ⟨Bo, hBo⟩ : ∃ b, b = w2.heap.size := ⟨_, rfl⟩
  obtain ⟨Bp, hBp⟩ : ∃ b, b = w2.heap.size + 1 := ⟨_, rfl⟩
  obtain ⟨Bm, hBme⟩ : ∃ b, b = w.heap.size := ⟨_, rfl⟩
  rw [← hBo] at bO
  rw [← hBp] at bP
  rw [← hBme] at bM3
  rw [← hBp, ← hBo, ← hBme]
  have hneq : Hid (Bp ≠ Bo ∧ Bm ≠ Bo ∧ w.heap.size ≤ Bo ∧ w.heap.size ≤ w3.heap.size) := Lib.hid (by have := hBm.out; have := hxw3.le; exact ⟨by omega, by omega, by omega, by omega⟩)
  replace hBo := Lib.hid hBo
  replace hBp := Lib.hid hBp
  replace hBme := Lib.hid hBme
  replace bO := Lib.hid bO
  replace bP := Lib.hid bP
  replace bM3 := Lib.hid bM3
  clear hx3 hxw2 c2 c0 hx2 bM
  gi_wp2
  obtain ⟨L, hL⟩ : ∃ L, L = wordsAll A ord := ⟨_, rfl⟩
  rw [← hL]
  have hI0 : InW w w3 Bo [] w3 := ⟨⟨_, [], bO.out, OwnK.nil _ _ _, rfl, fun i h x hi => by simp at hi⟩, fun _ _ _ => rfl, hxw3, Nat.le_refl _⟩
  have hLl : ∀ x ∈ L, x.length ≤ 32 := by rw [hL]; exact wordsAll_len A ord
  replace hL := Lib.hid hL
  replace hLl := Lib.hid hLl
  refine wpIn_range_T (α := List Snd) rfl h19 (gf := 95) (lb := #[.pointer (some ⟨Bp, 0, none⟩)]) rfl trivial (enters_of Try.func95 (by kernel_rfl) rfl)
    (TW w3.heap.size Bo) (NxW L) (fun s X => InW w w3 Bo s X ∧ s.length < K ∧ s <+: L) (fun c s X => c = .exit 0 ∧ InW w w3 Bo s X ∧ s.length = K ∧ s <+: L) (fun s => s = L)
    (fun s X r hi ht => by
      obtain ⟨⟨⟨v, hs, ho⟩, _⟩, _⟩ := hi
      obtain ⟨cs, e, fr, h⟩ := ho.cells ht
      exact ⟨_, h, rfl⟩)
    (fun s X Y row hs hg hr => by
      obtain ⟨k1, k2⟩ := hs.1.beside hneq.out.2.2.2 hg hr
      exact ⟨⟨k1, hs.2⟩, k2⟩)
    (fun c s X Y row hs hg hr hr2 => by
      obtain ⟨k0, k1, k2⟩ := hs
      refine ⟨k0, (k1.beside hneq.out.2.2.2 hg fun r e => ⟨fun ht => ?_, hr2 r e⟩).1, k2⟩
      obtain ⟨⟨v, hs, ho⟩, _⟩ := k1
      obtain ⟨cs, e1, fr, h⟩ := ho.cells ht
      obtain ⟨o, h1, h2⟩ := hr r e
      rw [h] at h1; cases h1; cases h2)
    (fun s x v X Y row hs hg hr => by
      obtain ⟨k1, a, n, cap, k2, k3⟩ := hs
      exact ⟨k1, a, n, cap, k2, rdS_beside k3 hg hr⟩)
    ⟨hI0, by simp; omega, List.nil_prefix⟩
    (fun l J Jx W hB hJ0 hJI hJg hY => callsIn_wide.2 ((words1_any (TW w3.heap.size Bo) A hAok.out N hN.out hN0 hN5 nS hnS.out hnS0 ord hord.out J Jx l (9 - 1 - 1) w3.heap.size W hB.size (fun X r h => h.1) Bp ba
      (fun s X hs => by
        obtain ⟨k1, _⟩ := hJI s X hs
        exact ⟨Boxed.cell (k1.box bP.out hneq.out.1), hA'.out.ext k1.2.2.1, k1.2.2.2⟩) hJg hJ0 (by rw [← hL.out]; exact hY)).mono (fun e Y h => ⟨h.1, h.2.elim (fun h => .inl ⟨_, hL.out.symm, h⟩) .inr⟩)))
    (fun v t => (t.setIfInBounds 16 (v.getD 0 undef)).setIfInBounds 6 (v.getD 0 undef)) ?assign ?body ?done ?stop
  case assign =>
    intro l v W K' hv hK'
    obtain ⟨x, rfl⟩ := size_one hv
    gi_wp2
    exact hK'
  case body =>
    rintro l pre x v X ⟨⟨⟨v0, hs, ho⟩, hlow, hxX, hle⟩, hlK, hpre⟩ hv ⟨hpre2, a, n, cap, rfl, hrd⟩
    obtain ⟨va, vn, vc, hvn, rfl, _⟩ := OwnK.rdn SH.len ho.own
    have cO := Boxed.cell ho.box
    have cM := Boxed.cell ((hlow Bm (Boxed.lt bM3.out) hneq.out.2.1).trans bM3.out)
    have hn32 : n ≤ 32 := by
      rw [← hrd.len]
      exact hLl.out x (hpre2.subset (by simp))
    have hl := ho.len
    replace hvn := Lib.hid hvn
    replace hpre2 := Lib.hid hpre2
    replace hlow := Lib.hid hlow
    have hrd' := Lib.hid hrd
    have ho' := Lib.hid ho
    clear hrd ho
    simp only [List.setIfInBounds_toArray, List.set_cons_succ, List.set_cons_zero, Array.getD_eq_getD_getElem?, List.getElem?_toArray, List.getElem?_cons_zero, Option.getD_some]
    gi_wp2
    have hS0 : (fun W' : World => W'.cell? ⟨Bo, 0, none⟩ = some (.slice va vn vc)) X.drew := cO
    refine wpIn_region_F (fun W' : World => W'.cell? ⟨Bo, 0, none⟩ = some (.slice va vn vc)) [0] (by kernel_rfl) (by kernel_rfl) (by rintro ⟨_, _, h⟩; exact h) ?_
    show wpF _ _ _ _ _ _ 6 _ _ _
    refine wpF_take (i := 0) (v := .slice va vn vc) rfl (by kernel_rfl) (by kernel_rfl) (by kernel_rfl) (by kernel_rfl) (fun _ _ _ h => h) (.inl ⟨rfl, fun W' hW' => ?_⟩) hS0 ?_
    · go_simp
    refine wpF_step (k := 1) rfl (by kernel_rfl) rfl fun K1 hK1 => ?_
    go_simp
    refine hK1 _ _ hS0 ?_
    refine wpF_step (k := 2) rfl (by kernel_rfl) rfl fun K2 hK2 => ?_
    go_simp
    refine (clone_any a n cap x X.drew (hrd'.out.ext ((Ext.refl _).drew)) (by omega)).mono ?_
    rintro e w4 ⟨v4, rfl, ho4, hx4⟩
    obtain ⟨a4, n4, c4, hn4, rfl, hr4⟩ := OwnK.rdn Snd.len ho4
    replace hn4 := Lib.hid hn4
    have hS4 : Ext X w4 := ((Ext.refl _).drew).trans hx4
    have hxL : Ext X (w4.alloc (.cells #[.slice a4 n4 c4] 28)) := hS4.alloc _
    have hoL := ho'.out.own.kept hxL
    have hlit := OwnK.rdc SH.len (lit_own SH.len w4 28 [(⟨a4, n4, c4⟩ : SH)] #[.slice a4 n4 c4] rfl (n := 1) rfl (by decide))
    refine hK2 _ _ (hS4.cellv cO) ?_
    refine wpF_step (k := 3) rfl (by kernel_rfl) rfl fun K3 hK3 => ?_
    go_simp
    refine hK3 _ _ (hxL.cellv cO) ?_
    refine wpF_step (k := 4) rfl (by kernel_rfl) rfl fun K4 hK4 => ?_
    refine op_app1 w3.heap.size _ (⟨a4, n4, c4⟩ : SH) rfl _ _ 29 rfl 28 Try.underlying29 info_ws rfl (by decide) SH.len SH.one (.slice va vn vc) hs rfl hoL ⟨w4.heap.size, 0, none⟩ rfl hlit (by omega) (by decide) (Nat.le_trans hle hxL.le) ?_
    intro v6 w6 o6 g6 n6
    obtain ⟨a6, m6, c6, hm6, rfl, _⟩ := OwnK.rdn SH.len o6
    have hm6s : Hid (m6 = pre.length + 1) := Lib.hid (by rw [hm6]; simp [hl])
    replace hm6 := Lib.hid hm6
    obtain ⟨⟨p1, p2⟩, p3, p4, p5, p6, p7⟩ := ho'.out.push hle hxL o6 g6 n6 (y := ⟨a4, n4, c4⟩) (x := x) (ho4.kept (Ext.alloc1 _ _))
    have p8 := p7 w hxX hneq.out.2.2.1 hneq.out.2.2.2
    refine hK4 _ _ p1 ?_
    refine wpF_last (k := 5) rfl (by kernel_rfl) (by kernel_rfl) (by kernel_rfl) rfl fun K9 hK9 => ?_
    clear p7 o6 g6 n6 hlit hoL hxL hS4 ho4 hx4 hr4
    go_simp
    refine hK9 _ _ ?_
    have hIn : InW w w3 Bo (pre ++ [x]) (w6.setCell ⟨Bo, 0, none⟩ (.slice a6 m6 c6)) := ⟨⟨_, _, p3⟩, fun r hr hne => (p6 r hr hne).trans (hlow.out r hr hne), p8, Nat.le_trans hle p4.le⟩
    have cO2 := Boxed.cell p3.box
    have cM2 := Boxed.cell (hIn.box bM3.out hneq.out.2.1)
    replace hIn := Lib.hid hIn
    replace p4 := Lib.hid p4
    replace p5 := Lib.hid p5
    clear p1 p2 p3 p6 p8
    generalize w6.setCell ⟨Bo, 0, none⟩ (.slice a6 m6 c6) = w7 at *
    have hpl : Hid ((pre ++ [x]).length = m6) := Lib.hid (by rw [hm6s.out]; simp)
    by_cases hfull : m6 = K
    · have hmin : ((m6 : Int) == min most 1000) = true := by rw [hfull, ← hK.out]; simp
      replace hfull := Lib.hid hfull
      gi_wp2
      exact ⟨p5.out, rfl, hIn.out, by rw [hpl.out, hfull.out], hpre2.out⟩
    · have hmin : ((m6 : Int) == min most 1000) = false := by rw [← hK.out]; simp; omega
      replace hfull := Lib.hid hfull
      gi_wp2
      exact ⟨p5.out, p4.out, hIn.out, by rw [hpl.out]; have := hfull.out; have := hm6s.out; omega, hpre2.out⟩
  case done =>
    rintro D s W hD rfl ⟨hIn, hlt, _⟩ hK
    obtain ⟨⟨v, hs, ho⟩, hlow, hxW, hle⟩ := id hIn
    have cO := Boxed.cell ho.box
    have hT : Hid (s.take K = s) := Lib.hid (List.take_of_length_le (by omega))
    replace hlow := Lib.hid hlow
    replace ho := Lib.hid ho
    replace hIn := Lib.hid hIn
    gi_wp2
    refine ⟨by simp, .inl ⟨_, _, rfl, run_takeDeferred hK, ?_⟩⟩
    refine ⟨_, results_tmp rfl _ _ _, ?_⟩
    obtain ⟨⟨⟨v', hs', ho'⟩, _, hxW', _⟩, _⟩ := hIn.out.beside hneq.out.2.2.2 (grownBy_putObj' W D (.deferred none)) (fun r e => by
      cases e
      refine ⟨fun ht => ?_, hD⟩
      obtain ⟨cs, e1, fr, h⟩ := ho.out.cells ht
      rw [hK] at h; cases h)
    have hv : v' = v := by
      have h2 : Boxed (World.putObj W D (.deferred none)) Bo _ v := (World.putObj_heap_other (fun e => by subst e; have := ho.out.box; unfold Boxed at this; rw [hK] at this; cases this)).trans ho.out.box
      have h1 := ho'.box
      unfold Boxed at h1 h2
      rw [h2] at h1
      injection h1 with h1
      injection h1 with h1
      simpa using h1.symm
    subst hv
    obtain ⟨a, n, cap, hn, e, hr⟩ := ho'.rd
    rw [e, ← hL.out, hT.out]
    exact ⟨a, n, cap, rfl, hr, hxW'⟩
  case stop =>
    rintro D c pre W hD ⟨rfl, hIn, hlen, hpre⟩ hK
    obtain ⟨⟨v, hs, ho⟩, hlow, hxW, hle⟩ := id hIn
    have cO := Boxed.cell ho.box
    have hT : Hid (L.take K = pre) := Lib.hid (by rw [← hlen]; exact (List.prefix_iff_eq_take.1 hpre).symm)
    replace hlow := Lib.hid hlow
    replace ho := Lib.hid ho
    replace hIn := Lib.hid hIn
    gi_wp2
    refine ⟨by simp, .inl ⟨_, _, rfl, run_takeDeferred hK, ?_⟩⟩
    refine ⟨_, results_tmp rfl _ _ _, ?_⟩
    obtain ⟨⟨⟨v', hs', ho'⟩, _, hxW', _⟩, _⟩ := hIn.out.beside hneq.out.2.2.2 (grownBy_putObj' W D (.deferred none)) (fun r e => by
      cases e
      refine ⟨fun ht => ?_, hD⟩
      obtain ⟨cs, e1, fr, h⟩ := ho.out.cells ht
      rw [hK] at h; cases h)
    have hv : v' = v := by
      have h2 : Boxed (World.putObj W D (.deferred none)) Bo _ v := (World.putObj_heap_other (fun e => by subst e; have := ho.out.box; unfold Boxed at this; rw [hK] at this; cases this)).trans ho.out.box
      have h1 := ho'.box
      unfold Boxed at h1 h2
      rw [h2] at h1
      injection h1 with h1
      injection h1 with h1
      simpa using h1.symm
    subst hv
    obtain ⟨a, n, cap, hn, e, hr⟩ := ho'.rd
    rw [e, ← hL.out, hT.out]
    exact ⟨a, n, cap, rfl, hr, hxW'⟩
end Go.Proofs.Ytilkemdecenibaa
namespace Go.Proofs.Ytilkemdecenibaa
open Go.RowKit Go.Maps Go.Shelf
def RetSh (ws : List (List Snd)) (w : World) (e : Ending) (w' : World) : Prop := match ws with
  | [] => e = .returned (.tuple #[.slice none 0 0, .bool false]) ∧ Ext w w'
  | x :: _ => ∃ a n cap, e = .returned (.tuple #[.slice a n cap, .bool true]) ∧ RdS w' a n cap x ∧ Ext w w'
theorem shortest_of {w : World} {p : Option Addr} {ws : List (List Snd)} (h : Calls Try.prog 28 #[.pointer p, .int .i64 1] w (RetWs (ws.take 1) w)) : Calls Try.prog 25 #[.pointer p] w (RetSh ws w) := by
  cases ws with
  | nil =>
    go_enter Try.func25, Try.ntmps25
    go_wp2_with fail
    refine h.mono ?_
    rintro e w1 ⟨a, n, cap, rfl, hr, hx1⟩
    have hl := hr.len
    simp only [List.take_nil, List.length_nil] at hl
    subst hl
    clear hr h
    go_wp2_with fail
    go_loopw [9] (fun iv wr => iv = .int .i64 0 ∧ Ext w wr) (fun _ _ => 0)
    case atStart => exact ⟨rfl, hx1⟩
    case round =>
      obtain ⟨rfl, hx⟩ := hrel
      go_wp2_with fail
      go_ret2
      exact ⟨rfl, hx⟩
  | cons x l =>
    go_enter Try.func25, Try.ntmps25
    go_wp2_with fail
    refine h.mono ?_
    rintro e w1 ⟨a, n, cap, rfl, hr, hx1⟩
    have hl := hr.len
    simp only [List.take_succ_cons, List.take_zero, List.length_cons, List.length_nil] at hl
    subst hl
    obtain ⟨b, off, v, y, rfl, hy, hb, hc, ⟨a1, n1, c1, rfl, hr1⟩⟩ := hr.at (i := 0) (by decide)
    obtain rfl : y = x := by have := hy.out; simp at this; exact this.symm
    rw [Nat.add_zero] at hc
    have hr1' := Lib.hid hr1
    clear hr h hy hr1
    go_wp2_with fail
    go_loopw [9] (fun iv wr => iv = .int .i64 0 ∧ wr = w1) (fun _ _ => 0)
    case atStart => exact ⟨rfl, rfl⟩
    case round =>
      obtain ⟨rfl, rfl⟩ := hrel
      go_wp2_with fail
      go_ret2
      exact ⟨a1, n1, c1, rfl, hr1'.out, hx1⟩
theorem shortest_any (A : Au) (hAok : A.okB = true) (N : Nat) (hN : A.next.length = N) (hN0 : 0 < N) (hN5 : N ≤ 5000) (nS : Nat) (hnS : A.snd.length = nS) (hnS0 : 0 < nS) (ord : List Nat) (hord : OrdIs A.snd ord) (w : World) (ba : Nat) (hA : AuAt w ba A) :
    Calls Try.prog 25 #[.pointer (some ⟨ba, 0, none⟩)] w (RetSh (wordsAll A ord) w) := shortest_of (wordsA_any A hAok N hN hN0 hN5 nS hnS hnS0 ord hord w ba hA 1 1 (by decide) (by decide))
theorem shortest_none (w : World) (p : Option Addr) (hp : AuP w p false) : Calls Try.prog 25 #[.pointer p] w fun e w' => e = .returned (.tuple #[.slice none 0 0, .bool false]) ∧ Ext w w' :=
  (shortest_of (ws := []) ((words_none w p false hp 1 (.inl rfl)).mono fun _ _ ⟨h1, h2⟩ => ⟨none, 0, 0, h1, ⟨rfl, Nat.le_refl _, Nat.zero_le _, fun _ => rfl, fun h => absurd h (Nat.lt_irrefl 0)⟩, h2⟩))
def RetDi (ws : List (List Snd)) (w : World) (e : Ending) (w' : World) : Prop := match ws with
  | [] => e = .returned (.tuple #[.slice none 0 0, .bool false, .int .i64 0]) ∧ Ext w w'
  | x :: _ => ∃ a n cap, e = .returned (.tuple #[.slice a n cap, .bool true, .int .i64 0]) ∧ RdS w' a n cap x ∧ Ext w w'
theorem differ_ok {w : World} {p q : Option Addr} {C : Au} (hCok : C.okB = true) (N : Nat) (hN : C.next.length = N) (hN0 : 0 < N) (hN5 : N ≤ 5000) (nS : Nat) (hnS : C.snd.length = nS) (hnS0 : 0 < nS) (ord : List Nat) (hord : OrdIs C.snd ord)
    (h : Calls Try.prog 73 #[.pointer p, .pointer q, .func (.func 75) #[] #[]] w (RetBu C w)) : Calls Try.prog 37 #[.pointer p, .pointer q] w (RetDi (wordsAll C ord) w) := by
  have hsh := fun W b (hA : AuAt W b C) => shortest_any C hCok N hN hN0 hN5 nS hnS hnS0 ord hord W b hA
  replace hN := Lib.hid hN
  replace hnS := Lib.hid hnS
  generalize wordsAll C ord = ws at *
  cases ws with
  | nil =>
    go_enter Try.func37, Try.ntmps37
    go_wp2_with fail
    refine h.mono ?_
    rintro e w1 ⟨b, rfl, hA, hx1⟩
    have hsh1 := hsh _ _ hA
    replace hA := Lib.hid hA
    go_wp2_with fail
    refine hsh1.mono ?_
    rintro e w2 ⟨rfl, hx2⟩
    have hxw := hx1.trans hx2
    go_wp2_with fail
    go_ret3
    exact ⟨rfl, hxw⟩
  | cons x l =>
    go_enter Try.func37, Try.ntmps37
    go_wp2_with fail
    refine h.mono ?_
    rintro e w1 ⟨b, rfl, hA, hx1⟩
    have hsh1 := hsh _ _ hA
    replace hA := Lib.hid hA
    go_wp2_with fail
    refine hsh1.mono ?_
    rintro e w2 ⟨a1, n1, c1, rfl, hr1, hx2⟩
    have hxw := hx1.trans hx2
    replace hr1 := Lib.hid hr1
    go_wp2_with fail
    go_ret3
    exact ⟨a1, n1, c1, rfl, hr1.out, hxw⟩
end Go.Proofs.Ytilkemdecenibaa
