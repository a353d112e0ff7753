/-
  slices.SortFunc at elements that lead to rows of the call's own: all blocks but the sorted row's stay.
-/
import Derived.Test.YtjfhfbobnncpkaaDoorSq
import Derived.Test.YtjfhfbobnncpkaaDoorOh
namespace Go.Proofs.YtjfhfbobnncpkaaDoor
open Go.RowKit Go.Shelf Go.Sort Go.Lib
/-- All that lay stays, but the block 'g'. -/
structure Off (g : Nat) (w w' : World) : Prop where
  le : w.heap.size ≤ w'.heap.size
  block : ∀ b, b < w.heap.size → b ≠ g → w'.heap[b]? = w.heap[b]?
theorem Off.refl (g : Nat) (w : World) : Off g w w := ⟨Nat.le_refl _, fun _ _ _ => rfl⟩
section
variable {α : Type} {k : Nat} {enc : α → List Value}
theorem OwnK.off {B : Nat} {e : TypeId} {g : Nat} {w w' : World} {v : Value} {xs : List α} (h : OwnK k enc B e w v xs) (hx : Off g w w') (hg : v.ownBlock ≠ some g) : OwnK k enc B e w' v xs := by
  obtain ⟨h1, h2⟩ := h
  refine ⟨h1, ?_⟩
  rcases h2 with h2 | ⟨g', cap', cur, hv, hB, hh, r⟩
  · exact .inl h2
  · exact .inr ⟨g', cap', cur, hv, hB, (hx.block g' (Array.getElem?_eq_some_iff.1 hh).1 fun e1 => hg (by rw [hv, ← e1]; rfl)).trans hh, r⟩
variable [Inhabited α]
theorem off_sortWorldK (w0 : World) (blk off m : Nat) (dk : Array α) (os : Array Obj) : Off blk w0 (sortWorldK enc k w0 blk off m dk os) := by
  refine ⟨by simp [sortWorldK, putRowK, Sort.ahead], fun j hj hne => ?_⟩
  unfold sortWorldK putRowK
  rw [heap_grow_old _ _ (by simpa [Sort.ahead] using hj)]
  have : blk ≠ j := fun h => hne h.symm
  simp [putRow, mapBlock, Sort.ahead, Array.getElem?_modify, this]
/-- slices.SortFunc at a list that the call owns; the comparator is told that all other blocks stand. -/
theorem sortKO_any {ρ : Ren} (L : SlLaysF0.n6 Tryd.prog ρ) (hk : ∀ x, (enc x).length = k) (h1 : ∀ x, ∀ v ∈ enc x, v.oneCell' = true) (aE : ∀ w, (isAgg (ρ.t 24)).run Tryd.prog w = .ok true w) (zE : ∀ w, (Go.sizeOf (ρ.t 24)).run Tryd.prog w = .ok k w)
    (cf : α → α → Int) (hO : SWO (ltOf cf)) (gf : Nat) (cb : Array Value) (eg : ∀ args w, (callFunc gf args).run Tryd.prog w = .ok (.enter gf args) w) {w w0 : World} {e g n cap : Nat} {hs : List α}
    (hcmp : ∀ (W : World) (x y : α), Ext w W → Off g w0 W → Calls Tryd.prog gf (#[.agg (enc x).toArray, .agg (enc y).toArray] ++ cb) W fun en w' => en = .returned (.int .i64 (cf x y)) ∧ ExtD W w')
    (hx : Ext w w0) (hown : OwnK k enc w.heap.size e w0 (.slice (some ⟨g, 0, none⟩) n cap) hs) (hn : n ≤ 60000000) :
    Calls Tryd.prog (ρ.f 6) #[.slice (some ⟨g, 0, none⟩) n cap, .func (.func gf) #[] cb] w0 fun en w' => en = .returned (.tuple #[]) ∧ Ext w w' ∧ Off g w0 w' ∧
      ∃ ts : List α, ts.Perm hs ∧ ts.Pairwise (fun x y => ¬ cf y x < 0) ∧ OwnK k enc w.heap.size e w' (.slice (some ⟨g, 0, none⟩) n cap) ts := by
  obtain ⟨hB, hgs, hlen, _, _⟩ := OwnK.ge hown
  obtain ⟨d, rfl⟩ : ∃ d : Array α, d.toList = hs := ⟨hs.toArray, rfl⟩
  have hsz : d.size = n := by simpa using hlen
  have hc := AnyQ.slices_SortFunc L k aE zE enc hk h1 cf hO gf cb g 0 cap d w0 eg
    (fun m os dk _ x y => (hcmp _ x y (extD_sortWorldK hx hB 0 m dk os) (off_sortWorldK w0 g 0 m dk os)).mono fun en w' ⟨he, h⟩ => ⟨he, h.to_grow⟩)
    (OwnK.holds hk hown) hgs (by omega)
  rw [hsz] at hc
  refine Calls.mono hc ?_
  rintro en w' ⟨rfl, d', m, os, hp, hso, rfl⟩
  refine ⟨rfl, extD_sortWorldK hx hB _ _ _ _, off_sortWorldK _ _ _ _ _ _, d'.toList, ?_, ?_, own_sortedK hk hown d' (by rw [hp.1, hsz])⟩
  · have := hp.2.2
    rw [← hsz] at this
    rw [← hp.1, Array.extract_size] at this
    rw [hp.1, Array.extract_size] at this
    exact this
  · rw [List.pairwise_iff_getElem]
    intro i j hi hj hij
    have h1 := hso i j (Nat.zero_le _) hij (by simp at hj; have := hp.1; omega)
    have h2 : ¬ cf d'[j]! d'[i]! < 0 := of_decide_eq_false h1
    simp at hi hj
    rw [getElem!_pos d' i hi, getElem!_pos d' j hj] at h2
    simpa using h2
end
theorem swo_pre {α β : Type} {cf : α → α → Int} (T : Tot cf) (f : β → α) : SWO (ltOf (fun x y => cf (f x) (f y))) where
  irrefl x := by simp [ltOf, T.self]
  trans x y z h1 h2 := (swo_tot T).trans (f x) (f y) (f z) h1 h2
  ntrans x y z h1 h2 := (swo_tot T).ntrans (f x) (f y) (f z) h1 h2
end Go.Proofs.YtjfhfbobnncpkaaDoor
