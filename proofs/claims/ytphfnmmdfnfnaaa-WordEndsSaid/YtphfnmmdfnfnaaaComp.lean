/-
  Lists of words by their headers: a row of slice headers that the call itself owns; cells of it written; CompactFunc with Equal.
-/
import Derived.Test.YtphfnmmdfnfnaaaWf
import Derived.Test.YtphfnmmdfnfnaaaGrow
import Derived.Lib.SliceRun
import Derived.Deep.Slices
namespace Go.Proofs.Ytphfnmmdfnfnaaa
open Go.RowKit
/-- A word's header, and the word that it leads to. -/
structure WH where
  a : Option Addr
  n : Nat
  cap : Nat
  x : List Snd
def WH.v (h : WH) : Value := .slice h.a h.n h.cap
def WH.enc (h : WH) : List Value := [.slice h.a h.n h.cap]
theorem WH.len (h : WH) : h.enc.length = 1 := rfl
theorem WH.one (h : WH) : ∀ u ∈ h.enc, u.oneCell' = true := by intro u hu; simp [WH.enc] at hu; subst hu; rfl
def WH.ok (w : World) (h : WH) : Prop := RdS w h.a h.n h.cap h.x
theorem flat_enc1 (hs : List WH) : hs.flatMap WH.enc = hs.map WH.v := by induction hs <;> simp [WH.enc, WH.v, *]
/-- The headers of a list of words. -/
theorem RdWs.hdrs {w : World} {a : Option Addr} {n cap : Nat} {ws : List (List Snd)} (h : RdWs w a n cap ws) : ∃ hs : List WH, RdK 1 WH.enc w a n cap hs ∧ (∀ h ∈ hs, h.ok w) ∧ hs.map WH.x = ws := by
  have h0 : ∀ i, i < n → ∃ y : WH, ws[i]? = some y.x ∧ y.ok w ∧ ∀ b off, a = some ⟨b, off, none⟩ → w.cell? ⟨b, off + i, none⟩ = some y.v := by
    intro i hi
    obtain ⟨b, off, v, x, ha, hx, _, hc, a1, n1, c1, hv, hr⟩ := RdV.at h hi
    subst hv
    exact ⟨⟨a1, n1, c1, x⟩, hx, hr, fun b' off' e => by rw [ha] at e; cases e; exact hc⟩
  have : Inhabited WH := ⟨⟨none, 0, 0, []⟩⟩
  obtain ⟨f, hf⟩ := Go.Deep.choose_lt (p := fun i (y : WH) => ws[i]? = some y.x ∧ y.ok w ∧ ∀ b off, a = some ⟨b, off, none⟩ → w.cell? ⟨b, off + i, none⟩ = some y.v) h0
  have hl := RdV.len h
  refine ⟨(List.range n).map f, ⟨by simp, h.le, h.most, h.isnil, fun hn => ?_⟩, ?_, ?_⟩
  · obtain ⟨b, off, ha, hb, _⟩ := RdV.pos h hn
    refine ⟨b, off, ha, hb, fun i y hi j u hu => ?_⟩
    have hlt : i < n := by have := (List.getElem?_eq_some_iff.1 hi).1; simpa using this
    have hy : f i = y := by simpa [hlt] using hi
    have hj : j = 0 := by have := (List.getElem?_eq_some_iff.1 hu).1; simp [WH.enc] at this; exact this
    subst hj; subst hy
    have := (hf i hlt).2.2 b off ha
    simp [WH.enc] at hu; subst hu
    simpa [WH.v] using this
  · intro y hy
    obtain ⟨i, hi, rfl⟩ := List.mem_map.1 hy
    exact (hf i (List.mem_range.1 hi)).2.1
  · apply List.ext_getElem?
    intro i
    by_cases hi : i < n
    · rw [(hf i hi).1]; simp [hi]
    · rw [List.getElem?_eq_none (by simp; omega), List.getElem?_eq_none (by omega)]

/-! ### Cells of an owned row of headers -/
abbrev OwnH := OwnK 1 WH.enc
section
variable {B e g n cap : Nat} {w : World} {hs : List WH}
theorem OwnH.at (h : OwnH B e w (.slice (some ⟨g, 0, none⟩) n cap) hs) {i : Nat} {y : WH} (hi : hs[i]? = some y) : w.cell? ⟨g, i, none⟩ = some (.slice y.a y.n y.cap) := by
  obtain ⟨h1, h2⟩ := h
  rcases h2 with ⟨h3, _⟩ | ⟨g', cap', cur, h3, _, hh, _, _, _, ht⟩
  · cases h3
  · simp only [Value.slice.injEq, Option.some.injEq, Addr.mk.injEq, and_true] at h3
    obtain ⟨rfl, _, _⟩ := h3
    have hf := flatMap_at WH.len hs i y hi 0 _ rfl
    rw [← ht, List.getElem?_take] at hf
    split at hf
    · simp only [World.cell?, hh]; simpa using hf
    · cases hf
theorem OwnH.free (h : OwnH B e w (.slice (some ⟨g, 0, none⟩) n cap) hs) (i : Nat) : w.frozen? ⟨g, i, none⟩ = false := by
  obtain ⟨h1, h2⟩ := h
  rcases h2 with ⟨h3, _⟩ | ⟨g', cap', cur, h3, _, hh, _, _, _, ht⟩
  · cases h3
  · simp only [Value.slice.injEq, Option.some.injEq, Addr.mk.injEq, and_true] at h3
    obtain ⟨rfl, _, _⟩ := h3
    exact frozen_of_row w g i cur e hh
theorem OwnH.ge (h : OwnH B e w (.slice (some ⟨g, 0, none⟩) n cap) hs) : B ≤ g ∧ g < w.heap.size ∧ hs.length = n ∧ n ≤ cap ∧ cap ≤ maxLen := by
  have h0 := World.ownsRow.lt h g rfl
  obtain ⟨h1, h2⟩ := h
  rcases h2 with ⟨h3, _⟩ | ⟨g', cap', cur, h3, _, hh, h4, h5, _, ht⟩
  · cases h3
  · simp only [Value.slice.injEq, Option.some.injEq, Addr.mk.injEq, and_true] at h3
    obtain ⟨_, h6, h7⟩ := h3
    exact ⟨h0.1, h0.2, h6.symm, by omega, by omega⟩
theorem OwnH.set (h : OwnH B e w (.slice (some ⟨g, 0, none⟩) n cap) hs) (i : Nat) (y : WH) : OwnH B e (w.setCell ⟨g, i, none⟩ (.slice y.a y.n y.cap)) (.slice (some ⟨g, 0, none⟩) n cap) (hs.set i y) := by
  have hl := (OwnH.ge h).2.2.1
  subst hl
  have h1 := (World.ownsRow.stored h i (.slice y.a y.n y.cap)).1
  unfold OwnH OwnK
  rw [List.length_set]
  rw [flat_enc1] at h1 ⊢
  rw [List.map_set]; exact h1
/-- The first k of an owned row. -/
theorem OwnH.take (h : OwnH B e w (.slice (some ⟨g, 0, none⟩) n cap) hs) {k : Nat} (hk : k ≤ n) : OwnH B e w (.slice (some ⟨g, 0, none⟩) k cap) (hs.take k) := by
  have hl := (OwnH.ge h).2.2.1
  obtain ⟨h1, h2⟩ := h
  rcases h2 with ⟨h3, _⟩ | ⟨g', cap', cur, h3, hg, hh, h4, h5, h6, ht⟩
  · cases h3
  · simp only [Value.slice.injEq, Option.some.injEq, Addr.mk.injEq, and_true] at h3
    obtain ⟨rfl, h7, rfl⟩ := h3
    have hlt : (hs.take k).length = k := by simp; omega
    refine ⟨length_flatMap_enc WH.len _, .inr ⟨g, cap, cur, by rw [hlt], hg, hh, by omega, h5, h6, ?_⟩⟩
    rw [flatMap_take WH.len, ← ht, List.take_take, hlt]; congr 1; omega
/-- Cells behind the first k written: the first k stay. -/
theorem OwnH.sets : ∀ (vs : List WH) (o : Nat) (w : World) (hs : List WH), OwnH B e w (.slice (some ⟨g, 0, none⟩) n cap) hs → o + vs.length ≤ n →
    ∃ hs', OwnH B e (w.setCells g o (vs.map WH.v)) (.slice (some ⟨g, 0, none⟩) n cap) hs' ∧ hs'.take o = hs.take o
  | [], o, w, hs, h, _ => ⟨hs, h, rfl⟩
  | y :: vs, o, w, hs, h, hl => by
    obtain ⟨hs', h1, h2⟩ := OwnH.sets vs (o + 1) _ _ (OwnH.set h o y) (by simp at hl; omega)
    refine ⟨hs', h1, ?_⟩
    have h3 := congrArg (List.take o) h2
    rw [List.take_take, List.take_take, Nat.min_eq_left (by omega), List.take_set_of_le (by omega)] at h3
    exact h3
end
theorem ext_setCells {w0 : World} {g : Nat} : ∀ (vs : List Value) (o : Nat) (w : World), Ext w0 w → w0.heap.size ≤ g → Ext w0 (w.setCells g o vs)
  | [], _, _, h, _ => h
  | _ :: vs, o, _, h, hg => ext_setCells vs (o + 1) _ (Ext.setCell (p := ⟨g, o, none⟩) h hg _) hg

/-! ### Neighbours that are alike struck -/
def keepH (p : List Snd) : List WH → List WH
  | [] => []
  | h :: t => if h.x = p then keepH h.x t else h :: keepH h.x t
def compactH : List WH → List WH
  | [] => []
  | h :: t => h :: keepH h.x t
end Go.Proofs.Ytphfnmmdfnfnaaa
