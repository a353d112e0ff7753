/-
  slices.SortFunc at a list that the call owns, elements of k cells.
  slices.SortFunc at elements that lead to rows of the call's own: all blocks but the sorted row's stay.
-/
import Derived.Test.YtilkemdecenibaaSoz
import Derived.Shelf.SlSortCmp.NoneTotal
import Derived.Sort.Grow
import Derived.Test.YtilkemdecenibaaOh
namespace Go.Proofs.Ytilkemdecenibaa
open Go.RowKit Go.Shelf Go.Sort Go.Lib
theorem ExtD.to_grow {w w' : World} (h : ExtD w w') : ∃ q os, w' = Sort.grow (w.drewN q) os := by
  refine ⟨w'.drawn - w.drawn, w'.heap.extract w.heap.size w'.heap.size, ?_⟩
  have h1 := h.ext.bel.os; have h2 := h.ext.bel.tape; have h3 := h.ext.bel.output; have h4 := h.dr; have h5 := h.ext.bel.size; have h6 := h.ext.bel.block
  obtain ⟨hp, tp, dr, os, out⟩ := w
  obtain ⟨hp', tp', dr', os', out'⟩ := w'
  simp only at *
  subst h1 h2 h3
  simp only [Sort.grow, World.drewN, World.mk.injEq, and_true, true_and]
  refine ⟨?_, by omega⟩
  apply Array.ext_getElem?; intro k
  rw [Array.getElem?_append]
  split
  · exact h6 k ‹_›
  · rw [Array.getElem?_extract]
    by_cases hk : k < hp'.size
    · rw [if_pos (by omega)]; congr 1; omega
    · rw [if_neg (by omega), Array.getElem?_eq_none (by omega)]
/-- A world that has grown since W, and whose tape has not gone back. -/
structure ExtDOf (W : World) where
  w : World
  h : ExtD W w
instance (W : World) : Inhabited (ExtDOf W) := ⟨⟨W, ExtD.refl W⟩⟩
theorem ExtDOf.cell {W : World} (x : ExtDOf W) {b o : Nat} {v : Value} (h : W.cell? ⟨b, o, none⟩ = some v) : x.w.cell? ⟨b, o, none⟩ = some v := x.h.ext.cellv h
theorem calls_extD_same {P : Program} {f : FuncId} {args : Array Value} {W : World} {x : ExtDOf W} {v : Value}
    (h : Calls P f args x.w fun e w' => e = .returned v ∧ w' = x.w) : Calls P f args x.w fun e w'' => e = .returned v ∧ ∃ y : ExtDOf W, w'' = y.w :=
  h.mono fun _ _ ⟨he, hx⟩ => ⟨he, x, hx⟩
theorem extD_of_ex {W w' : World} (h : ∃ x : ExtDOf W, w' = x.w) : ExtD W w' := by obtain ⟨x, rfl⟩ := h; exact x.h
theorem wp_region_qxtD {P : Program} {id : Nat} {Q : Exit → Act → World → Prop} {a : Act} {w : World} {l : List Oper} (n : Nat) (hm : P.follows .mixedOrders = true) (hB : Region.lexTailB .any l.toArray n = true)
    (h : wpQuiet P l.toArray (fun w' => ∃ x : ExtDOf w, w' = x.w) (fun a' => ∀ w', (∃ x : ExtDOf w, w' = x.w) → wpList P l.toArray Q (l.drop n) a' w') (l.take n) a) : (Code.region id l.toArray true).wp P Q a w :=
  wp_region_qt (fun w' => ∃ x : ExtDOf w, w' = x.w) n hm hB ⟨⟨w.drew, (ExtD.refl w).drew⟩, rfl⟩ h
section
variable {α : Type} [Inhabited α] {k : Nat} {enc : α → List Value}
theorem flatK_toList (hk : ∀ x, (enc x).length = k) (d : Array α) : (flatK enc k d).toList = d.toList.flatMap enc := by
  apply List.ext_getElem?
  intro t
  by_cases ht : t < d.size * k
  · have hk0 : 0 < k := Nat.pos_of_ne_zero fun h => by subst h; simp at ht
    have hq : t / k < d.size := Nat.div_lt_of_lt_mul (by rwa [Nat.mul_comm])
    have hx : d.toList[t / k]? = some d[t / k] := by simp [hq]
    have hr : t % k < (enc d[t / k]).length := by rw [hk]; exact Nat.mod_lt _ hk0
    have h1 := flatMap_at hk d.toList (t / k) _ hx (t % k) _ (List.getElem?_eq_getElem hr)
    have hdm : t / k * k + t % k = t := by rw [Nat.mul_comm]; exact Nat.div_add_mod t k
    rw [hdm] at h1
    rw [h1, Array.getElem?_toList, Array.getElem?_eq_getElem (by simpa using ht)]
    have := get_flatK enc k d t ht
    rw [getElem!_pos (flatK enc k d) t (by simpa using ht)] at this
    rw [this, getElem!_pos d _ hq, getElem!_pos (enc d[t / k]) _ hr]
  · rw [List.getElem?_eq_none (by simp; omega), List.getElem?_eq_none (by rw [length_flatMap_enc hk]; simpa using ht)]
theorem take_putCells' (cur ts : Array Value) (h : ts.size ≤ cur.size) : (putCells id 0 ts cur).toList.take ts.size = ts.toList := by
  apply List.ext_getElem?
  intro j
  by_cases hj : j < ts.size
  · rw [List.getElem?_take_of_lt hj, Array.getElem?_toList]
    simp [putCells, hj, show j < cur.size by omega]
  · rw [List.getElem?_take_eq_none (by omega), List.getElem?_eq_none (by simp; omega)]
theorem OwnK.holds (hk : ∀ x, (enc x).length = k) {B e g n cap : Nat} {w : World} {d : Array α} (h : OwnK k enc B e w (.slice (some ⟨g, 0, none⟩) n cap) d.toList) : HoldsK enc k w g 0 d := by
  have hfr := OwnK.free h
  obtain ⟨h1, h2⟩ := h
  rcases h2 with ⟨h3, _⟩ | ⟨g', cap', cur, h3, hg, hh, h4, h5, h6, ht⟩
  · cases h3
  · simp only [Value.slice.injEq, Option.some.injEq, Addr.mk.injEq, and_true] at h3
    obtain ⟨rfl, h7, rfl⟩ := h3
    intro j hj
    rw [Nat.zero_add]
    refine ⟨?_, hfr j⟩
    rw [size_flatK] at hj
    have hf : (d.toList.flatMap enc)[j]? = some (flatK enc k d)[j]! := by
      rw [← flatK_toList hk, Array.getElem?_toList, Array.getElem?_eq_getElem (by simpa using hj), getElem!_pos (flatK enc k d) j (by simpa using hj)]
    rw [← ht, List.getElem?_take] at hf
    split at hf
    · simp only [World.cell?, hh]; simpa using hf
    · cases hf
theorem extD_sortWorldK {w w0 : World} (hx : Ext w w0) {blk : Nat} (hb : w.heap.size ≤ blk) (off m : Nat) (dk : Array α) (os : Array Obj) : Ext w (sortWorldK enc k w0 blk off m dk os) := by
  have hs := hx.le
  refine ⟨⟨hx.bel.os, hx.bel.tape, hx.bel.output, by simp [sortWorldK, putRowK, Sort.ahead]; omega, fun j hj => ?_⟩⟩
  unfold sortWorldK putRowK
  rw [heap_grow_old _ _ (by simp [Sort.ahead]; omega)]
  have : blk ≠ j := by omega
  simp [putRow, mapBlock, Sort.ahead, Array.getElem?_modify, this]
  exact hx.bel.block j hj
theorem own_sortedK (hk : ∀ x, (enc x).length = k) {w0 : World} {B e g n cap m : Nat} {hs : List α} {os : Array Obj} (h : OwnK k enc B e w0 (.slice (some ⟨g, 0, none⟩) n cap) hs) (d : Array α) (hd : d.size = n) :
    OwnK k enc B e (sortWorldK enc k w0 g 0 m d os) (.slice (some ⟨g, 0, none⟩) n cap) d.toList := by
  obtain ⟨h1, h2⟩ := h
  rcases h2 with ⟨h3, _⟩ | ⟨g', cap', cur, h3, hg, hh, h4, h5, h6, ht⟩
  · cases h3
  · simp only [Value.slice.injEq, Option.some.injEq, Addr.mk.injEq, and_true] at h3
    obtain ⟨rfl, h7, rfl⟩ := h3
    have hlt : d.toList.length = n := by simp [hd]
    have hgs : g < w0.heap.size := (Array.getElem?_eq_some_iff.1 hh).1
    have hmul : n * k ≤ cap * k := Nat.mul_le_mul_right k (by omega)
    refine ⟨length_flatMap_enc hk _, .inr ⟨g, cap, putCells id 0 (flatK enc k d) cur, by rw [hlt], hg, ?_, by omega, h5, by simp [putCells, h6], ?_⟩⟩
    · unfold sortWorldK putRowK
      rw [heap_grow_old _ _ (by simpa [Sort.ahead] using hgs)]
      simp [putRow, mapBlock, Sort.ahead, Array.getElem?_modify, hh, onCells]
    · have := take_putCells' cur (flatK enc k d) (by rw [size_flatK, hd, h6]; exact hmul)
      rw [size_flatK, hd] at this
      rw [hlt, this, flatK_toList hk]
/-- slices.SortFunc at a list that the call owns. -/
theorem sortK_any {ρ : Ren} (L : SlLaysF0.n6 Try.prog ρ) (hk : ∀ x, (enc x).length = k) (h1 : ∀ x, ∀ v ∈ enc x, v.oneCell' = true) (aE : ∀ w, (isAgg (ρ.t 24)).run Try.prog w = .ok true w) (zE : ∀ w, (Go.sizeOf (ρ.t 24)).run Try.prog w = .ok k w)
    (cf : α → α → Int) (hO : SWO (ltOf cf)) (gf : Nat) (cb : Array Value) (eg : ∀ args w, (callFunc gf args).run Try.prog w = .ok (.enter gf args) w) {w w0 : World} {e g n cap : Nat} {hs : List α}
    (hcmp : ∀ (W : World) (x y : α), Ext w W → Calls Try.prog gf (#[.agg (enc x).toArray, .agg (enc y).toArray] ++ cb) W fun en w' => en = .returned (.int .i64 (cf x y)) ∧ ExtD W w')
    (hx : Ext w w0) (hown : OwnK k enc w.heap.size e w0 (.slice (some ⟨g, 0, none⟩) n cap) hs) (hn : n ≤ 60000000) :
    Calls Try.prog (ρ.f 6) #[.slice (some ⟨g, 0, none⟩) n cap, .func (.func gf) #[] cb] w0 fun en w' => en = .returned (.tuple #[]) ∧ Ext w w' ∧
      ∃ ts : List α, ts.Perm hs ∧ ts.Pairwise (fun x y => ¬ cf y x < 0) ∧ OwnK k enc w.heap.size e w' (.slice (some ⟨g, 0, none⟩) n cap) ts := by
  obtain ⟨hB, hgs, hlen, _, _⟩ := OwnK.ge hown
  obtain ⟨d, rfl⟩ : ∃ d : Array α, d.toList = hs := ⟨hs.toArray, rfl⟩
  have hsz : d.size = n := by simpa using hlen
  have hc := AnyQ.slices_SortFunc L k aE zE enc hk h1 cf hO gf cb g 0 cap d w0 eg
    (fun m os dk _ x y => (hcmp _ x y (extD_sortWorldK hx hB 0 m dk os)).mono fun en w' ⟨he, h⟩ => ⟨he, h.to_grow⟩)
    (OwnK.holds hk hown) hgs (by omega)
  rw [hsz] at hc
  refine Calls.mono hc ?_
  rintro en w' ⟨rfl, d', m, os, hp, hso, rfl⟩
  refine ⟨rfl, extD_sortWorldK hx hB _ _ _ _, d'.toList, ?_, ?_, own_sortedK hk hown d' (by rw [hp.1, hsz])⟩
  · have := hp.2.2
    rw [← hsz] at this
    rw [← hp.1, Array.extract_size] at this
    rw [hp.1, Array.extract_size] at this
    exact this
  · rw [List.pairwise_iff_getElem]
    intro i j hi hj hij
    have h1 := hso i j (Nat.zero_le _) hij (by simp at hj; have := hp.1; omega)
    have h2 : ¬ cf d'[j]! d'[i]! < 0 := of_decide_eq_false h1
    simp at hi hj
    rw [getElem!_pos d' i hi, getElem!_pos d' j hj] at h2
    simpa using h2
end
theorem order_anyD (s t : Snd) (w : World) :
    Calls Try.prog 98 #[.agg #[.int .u32 s.p.toNat, .int .u32 s.m.toNat], .agg #[.int .u32 t.p.toNat, .int .u32 t.m.toNat]] w fun e w' => e = .returned (.int .i64 (cmpS s t)) ∧ ExtD w w' := by
  go_enter Try.func98, Try.ntmps98
  go_wp2_with fail
  have f0 := fun x : ExtDOf ((w.alloc (.cells #[.int .u32 s.p.toNat, .int .u32 s.m.toNat] 24)).alloc (.cells #[.int .u32 t.p.toNat, .int .u32 t.m.toNat] 24)) => x.cell (b := w.heap.size) (o := 0) (v := .int .u32 s.p.toNat) (by go_simp)
  have f1 := fun x : ExtDOf ((w.alloc (.cells #[.int .u32 s.p.toNat, .int .u32 s.m.toNat] 24)).alloc (.cells #[.int .u32 t.p.toNat, .int .u32 t.m.toNat] 24)) => x.cell (b := w.heap.size) (o := 1) (v := .int .u32 s.m.toNat) (by go_simp)
  have f2 := fun x : ExtDOf ((w.alloc (.cells #[.int .u32 s.p.toNat, .int .u32 s.m.toNat] 24)).alloc (.cells #[.int .u32 t.p.toNat, .int .u32 t.m.toNat] 24)) => x.cell (b := w.heap.size + 1) (o := 0) (v := .int .u32 t.p.toNat) (by go_simp)
  have f3 := fun x : ExtDOf ((w.alloc (.cells #[.int .u32 s.p.toNat, .int .u32 s.m.toNat] 24)).alloc (.cells #[.int .u32 t.p.toNat, .int .u32 t.m.toNat] 24)) => x.cell (b := w.heap.size + 1) (o := 1) (v := .int .u32 t.m.toNat) (by go_simp)
  refine wp_region_qxtD 10 (by kernel_rfl) (by kernel_rfl) ?_
  simp only [List.take_succ_cons, List.take_zero, List.drop_succ_cons, List.drop_zero]
  repeat (go_big_quiet_step ((go_at_call 113; exact calls_extD_same (cmp_any _ _ _))))
  refine wpQuiet_nil ?_
  intro wq hw'
  have hxq := extD_of_ex hw'
  clear hw'
  go_wp2_with (go_at_call 112; refine (or_any (cmpI s.p.toNat t.p.toNat) (cmpI s.m.toNat t.m.toNat) _ _ _ (by go_simp) (by go_simp)).mono ?_; rintro e w' ⟨rfl, rfl⟩)
  go_ret
  exact ⟨rfl, (((ExtD.refl w).alloc _).alloc _ |>.trans hxq).alloc _⟩
theorem swo_tot {α : Type} {cf : α → α → Int} (T : Tot cf) : SWO (ltOf cf) where
  irrefl x := by simp [ltOf, T.self]
  trans x y z h1 h2 := by
    simp only [ltOf, decide_eq_true_eq] at *
    exact T.trans h1 h2
  ntrans x y z h1 h2 := by
    simp only [ltOf, decide_eq_false_iff_not] at *
    have h3 := T.anti x y
    have h4 := T.anti y z
    intro h5
    by_cases h6 : cf y z = 0
    · rw [T.zero h6] at h1; exact h1 h5
    · have h7 : cf z y < 0 := by rcases T.tri y z with h | h | h <;> omega
      have := T.trans h5 h7
      exact h1 this
end Go.Proofs.Ytilkemdecenibaa
namespace Go.Proofs.Ytilkemdecenibaa
open Go.RowKit Go.Shelf Go.Sort Go.Lib
/-- All that lay stays, but the block 'g'. -/
structure Off (g : Nat) (w w' : World) : Prop where
  le : w.heap.size ≤ w'.heap.size
  block : ∀ b, b < w.heap.size → b ≠ g → w'.heap[b]? = w.heap[b]?
theorem Off.refl (g : Nat) (w : World) : Off g w w := ⟨Nat.le_refl _, fun _ _ _ => rfl⟩
section
variable {α : Type} {k : Nat} {enc : α → List Value}
theorem OwnK.off {B : Nat} {e : TypeId} {g : Nat} {w w' : World} {v : Value} {xs : List α} (h : OwnK k enc B e w v xs) (hx : Off g w w') (hg : v.ownBlock ≠ some g) : OwnK k enc B e w' v xs := by
  obtain ⟨h1, h2⟩ := h
  refine ⟨h1, ?_⟩
  rcases h2 with h2 | ⟨g', cap', cur, hv, hB, hh, r⟩
  · exact .inl h2
  · exact .inr ⟨g', cap', cur, hv, hB, (hx.block g' (Array.getElem?_eq_some_iff.1 hh).1 fun e1 => hg (by rw [hv, ← e1]; rfl)).trans hh, r⟩
variable [Inhabited α]
theorem off_sortWorldK (w0 : World) (blk off m : Nat) (dk : Array α) (os : Array Obj) : Off blk w0 (sortWorldK enc k w0 blk off m dk os) := by
  refine ⟨by simp [sortWorldK, putRowK, Sort.ahead], fun j hj hne => ?_⟩
  unfold sortWorldK putRowK
  rw [heap_grow_old _ _ (by simpa [Sort.ahead] using hj)]
  have : blk ≠ j := fun h => hne h.symm
  simp [putRow, mapBlock, Sort.ahead, Array.getElem?_modify, this]
/-- slices.SortFunc at a list that the call owns; the comparator is told that all other blocks stand. -/
theorem sortKO_any {ρ : Ren} (L : SlLaysF0.n6 Try.prog ρ) (hk : ∀ x, (enc x).length = k) (h1 : ∀ x, ∀ v ∈ enc x, v.oneCell' = true) (aE : ∀ w, (isAgg (ρ.t 24)).run Try.prog w = .ok true w) (zE : ∀ w, (Go.sizeOf (ρ.t 24)).run Try.prog w = .ok k w)
    (cf : α → α → Int) (hO : SWO (ltOf cf)) (gf : Nat) (cb : Array Value) (eg : ∀ args w, (callFunc gf args).run Try.prog w = .ok (.enter gf args) w) {w w0 : World} {e g n cap : Nat} {hs : List α}
    (hcmp : ∀ (W : World) (x y : α), Ext w W → Off g w0 W → Calls Try.prog gf (#[.agg (enc x).toArray, .agg (enc y).toArray] ++ cb) W fun en w' => en = .returned (.int .i64 (cf x y)) ∧ ExtD W w')
    (hx : Ext w w0) (hown : OwnK k enc w.heap.size e w0 (.slice (some ⟨g, 0, none⟩) n cap) hs) (hn : n ≤ 60000000) :
    Calls Try.prog (ρ.f 6) #[.slice (some ⟨g, 0, none⟩) n cap, .func (.func gf) #[] cb] w0 fun en w' => en = .returned (.tuple #[]) ∧ Ext w w' ∧ Off g w0 w' ∧
      ∃ ts : List α, ts.Perm hs ∧ ts.Pairwise (fun x y => ¬ cf y x < 0) ∧ OwnK k enc w.heap.size e w' (.slice (some ⟨g, 0, none⟩) n cap) ts := by
  obtain ⟨hB, hgs, hlen, _, _⟩ := OwnK.ge hown
  obtain ⟨d, rfl⟩ : ∃ d : Array α, d.toList = hs := ⟨hs.toArray, rfl⟩
  have hsz : d.size = n := by simpa using hlen
  have hc := AnyQ.slices_SortFunc L k aE zE enc hk h1 cf hO gf cb g 0 cap d w0 eg
    (fun m os dk _ x y => (hcmp _ x y (extD_sortWorldK hx hB 0 m dk os) (off_sortWorldK w0 g 0 m dk os)).mono fun en w' ⟨he, h⟩ => ⟨he, h.to_grow⟩)
    (OwnK.holds hk hown) hgs (by omega)
  rw [hsz] at hc
  refine Calls.mono hc ?_
  rintro en w' ⟨rfl, d', m, os, hp, hso, rfl⟩
  refine ⟨rfl, extD_sortWorldK hx hB _ _ _ _, off_sortWorldK _ _ _ _ _ _, d'.toList, ?_, ?_, own_sortedK hk hown d' (by rw [hp.1, hsz])⟩
  · have := hp.2.2
    rw [← hsz] at this
    rw [← hp.1, Array.extract_size] at this
    rw [hp.1, Array.extract_size] at this
    exact this
  · rw [List.pairwise_iff_getElem]
    intro i j hi hj hij
    have h1 := hso i j (Nat.zero_le _) hij (by simp at hj; have := hp.1; omega)
    have h2 : ¬ cf d'[j]! d'[i]! < 0 := of_decide_eq_false h1
    simp at hi hj
    rw [getElem!_pos d' i hi, getElem!_pos d' j hj] at h2
    simpa using h2
end
theorem swo_pre {α β : Type} {cf : α → α → Int} (T : Tot cf) (f : β → α) : SWO (ltOf (fun x y => cf (f x) (f y))) where
  irrefl x := by simp [ltOf, T.self]
  trans x y z h1 h2 := (swo_tot T).trans (f x) (f y) (f z) h1 h2
  ntrans x y z h1 h2 := (swo_tot T).ntrans (f x) (f y) (f z) h1 h2
end Go.Proofs.Ytilkemdecenibaa
