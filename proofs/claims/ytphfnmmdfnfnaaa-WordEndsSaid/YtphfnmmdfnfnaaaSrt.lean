/-
  slices.SortFunc and slices.Clone at lists of words, by the headers.
-/
import Derived.Test.YtphfnmmdfnfnaaaOrd
import Derived.Test.YtphfnmmdfnfnaaaSortLay
import Derived.Sort.Grow
namespace Go.Proofs.Ytphfnmmdfnfnaaa
open Go.RowKit Go.Shelf Go.Sort
theorem Ext.to_grow {w w' : World} (h : Ext w w') : ∃ q os, w' = Sort.grow (w.drewN q) os := by
  refine ⟨w'.drawn - w.drawn, w'.heap.extract w.heap.size w'.heap.size, ?_⟩
  have h1 := h.bel.os; have h2 := h.bel.tape; have h3 := h.bel.output; have h4 := h.dr; have h5 := h.bel.size; have h6 := h.bel.block
  obtain ⟨hp, tp, dr, os, out⟩ := w
  obtain ⟨hp', tp', dr', os', out'⟩ := w'
  simp only at *
  subst h1 h2 h3
  simp only [Sort.grow, World.drewN, World.mk.injEq, and_true, true_and]
  refine ⟨?_, by omega⟩
  apply Array.ext_getElem?; intro k
  rw [Array.getElem?_append]
  split
  · exact h6 k ‹_›
  · rw [Array.getElem?_extract]
    by_cases hk : k < hp'.size
    · rw [if_pos (by omega)]; congr 1; omega
    · rw [if_neg (by omega), Array.getElem?_eq_none (by omega)]
/-- A header that can be read in the world w. -/
def Sub (w : World) := {h : WH // h.ok w}
instance (w : World) : Inhabited (Sub w) := ⟨⟨⟨none, 0, 0, []⟩, RdK.nilS w⟩⟩
def Sub.enc {w : World} (y : Sub w) : Value := y.1.v
def Sub.cf {w : World} (x y : Sub w) : Int := cmpW x.1.x y.1.x
theorem Sub.one (w : World) : OneCell (Sub.enc (w := w)) := fun _ => rfl
theorem ext_sortWorld {w w0 : World} (hx : Ext w w0) {blk : Nat} (hb : w.heap.size ≤ blk) {α : Type} [Inhabited α] (enc : α → Value) (off m : Nat) (dk : Array α) (os : Array Obj) : Ext w (sortWorld enc w0 blk off m dk os) := by
  have hs := hx.le
  refine ⟨⟨hx.bel.os, hx.bel.tape, hx.bel.output, by simp [sortWorld, Sort.ahead]; omega, fun k hk => ?_⟩, Nat.le_trans hx.dr (Nat.le_add_right _ _)⟩
  unfold sortWorld
  rw [heap_grow_old _ _ (by simp [Sort.ahead]; omega)]
  have : blk ≠ k := by omega
  simp [putRow, mapBlock, Sort.ahead, Array.getElem?_modify, this]
  exact hx.bel.block k hk
theorem take_putCells {α : Type} [Inhabited α] (enc : α → Value) (cur : Array Value) (ts : Array α) (h : ts.size ≤ cur.size) : (putCells enc 0 ts cur).toList.take ts.size = ts.toList.map enc := by
  apply List.ext_getElem?
  intro j
  by_cases hj : j < ts.size
  · rw [List.getElem?_take_of_lt hj, Array.getElem?_toList]
    simp [putCells, hj, show j < cur.size by omega]
  · rw [List.getElem?_take_eq_none (by omega), List.getElem?_eq_none (by simp; omega)]
theorem ownH_sorted {w w0 : World} {B e g n cap m : Nat} {hs : List WH} {os : Array Obj} (h : OwnH B e w0 (.slice (some ⟨g, 0, none⟩) n cap) hs) (d : Array (Sub w)) (hd : d.size = n) :
    OwnH B e (sortWorld Sub.enc w0 g 0 m d os) (.slice (some ⟨g, 0, none⟩) n cap) (d.toList.map (·.1)) := by
  obtain ⟨h1, h2⟩ := h
  rcases h2 with ⟨h3, _⟩ | ⟨g', cap', cur, h3, hg, hh, h4, h5, h6, ht⟩
  · cases h3
  · simp only [Value.slice.injEq, Option.some.injEq, Addr.mk.injEq, and_true] at h3
    obtain ⟨rfl, h7, rfl⟩ := h3
    have hlt : (d.toList.map (·.1)).length = n := by simp [hd]
    have hgs : g < w0.heap.size := (Array.getElem?_eq_some_iff.1 hh).1
    refine ⟨length_flatMap_enc WH.len _, .inr ⟨g, cap, putCells Sub.enc 0 d cur, by rw [hlt], hg, ?_, by omega, h5, by simp [putCells, h6], ?_⟩⟩
    · unfold sortWorld
      rw [heap_grow_old _ _ (by simpa [Sort.ahead] using hgs)]
      simp [putRow, mapBlock, Sort.ahead, Array.getElem?_modify, hh, onCells]
    · rw [hlt, Nat.mul_one, ← hd, take_putCells _ _ _ (by omega), flat_enc1, List.map_map]; rfl
theorem Sub.lift {w : World} : ∀ hs : List WH, (∀ h ∈ hs, h.ok w) → ∃ l : List (Sub w), l.map (·.1) = hs
  | [], _ => ⟨[], rfl⟩
  | h :: hs, ho => by
    obtain ⟨l, hl⟩ := Sub.lift hs (fun x hx => ho x (List.mem_cons_of_mem _ hx))
    exact ⟨(⟨h, ho h List.mem_cons_self⟩ : Sub w) :: l, congrArg (h :: ·) hl⟩
/-- slices.SortFunc at a list of words that the call owns, its words read from before. -/
theorem sortW_any {w w0 : World} {e g n cap : Nat} {hs : List WH} (hx : Ext w w0) (hown : OwnH w.heap.size e w0 (.slice (some ⟨g, 0, none⟩) n cap) hs) (hok : ∀ h ∈ hs, h.ok w) (hn : n ≤ 60000) :
    Calls Try.prog 53 #[.slice (some ⟨g, 0, none⟩) n cap, .func (.func 22) #[] #[]] w0 fun en w' => en = .returned (.tuple #[]) ∧ Ext w w' ∧
      ∃ ts : List WH, ts.Perm hs ∧ ts.Pairwise (fun x y => cmpW x.x y.x ≤ 0) ∧ OwnH w.heap.size e w' (.slice (some ⟨g, 0, none⟩) n cap) ts := by
  obtain ⟨hB, hgs, hlen, _, _⟩ := OwnH.ge hown
  obtain ⟨dl, hdl⟩ := Sub.lift hs hok
  obtain ⟨d, rfl⟩ : ∃ d : Array (Sub w), d.toList = dl := ⟨dl.toArray, rfl⟩
  have hd := hdl
  have hsz : d.size = n := by have := congrArg List.length hd; simp at this; omega
  have hat : ∀ j, j < d.size → hs[j]? = some (d[j]!).1 := by
    intro j hj
    rw [← hd]; simp [hj]
  have hc := Any.slices_SortFunc Try.sortW (Sub.enc (w := w)) (Sub.one w) Sub.cf (swo_of_cmpW (fun y : Sub w => y.1.x)) 22 #[] g 0 cap d w0
    (enters_of Try.func22 (by kernel_rfl) rfl)
    (fun m os dk _ x y => by
      have hxs := ext_sortWorld hx hB (Sub.enc (w := w)) 0 m dk os
      refine (worder_any x.1.a y.1.a x.1.n x.1.cap y.1.n y.1.cap x.1.x y.1.x _ (x.2.ext hxs) (y.2.ext hxs)).mono ?_
      rintro en w' ⟨rfl, h⟩
      exact ⟨rfl, h.to_grow⟩)
    (fun j hj => ⟨by rw [Nat.zero_add]; exact OwnH.at hown (hat j hj), by rw [Nat.zero_add]; exact OwnH.free hown j⟩) hgs (by omega)
  rw [hsz] at hc
  refine Calls.mono hc ?_
  rintro en w' ⟨rfl, d', m, os, hp, hso, rfl⟩
  refine ⟨rfl, ext_sortWorld hx hB _ _ _ _ _, d'.toList.map (·.1), ?_, ?_, ownH_sorted hown d' (by rw [hp.1, hsz])⟩
  · rw [← hd]
    have := hp.2.2
    rw [← hsz] at this
    rw [← hp.1, Array.extract_size] at this
    rw [hp.1, Array.extract_size] at this
    exact this.map _
  · rw [List.pairwise_map, List.pairwise_iff_getElem]
    intro i j hi hj hij
    have h1 := hso i j (Nat.zero_le _) hij (by simp at hj; have := hp.1; omega)
    have h2 : ¬ cmpW (d'[j]!).1.x (d'[i]!).1.x < 0 := of_decide_eq_false h1
    rw [cmpW_anti (d'[i]!).1.x] at h2
    simp at hi hj
    rw [getElem!_pos d' i hi, getElem!_pos d' j hj] at h2
    simp only [Array.getElem_toList]
    omega
end Go.Proofs.Ytphfnmmdfnfnaaa
