/-
  Rows of integers that the call itself makes: written cell by cell, and collected in a list of headers.
-/
import Derived.Test.YtdloabjnjnjacaaDoorMt
namespace Go.Proofs.YtdloabjnjnjacaaDoor
open Go.RowKit
section
variable {B e g n cap : Nat} {w : World} {xs : List Int}
theorem OwnI.at (h : OwnI B e w (.slice (some ⟨g, 0, none⟩) n cap) xs) {i : Nat} {y : Int} (hi : xs[i]? = some y) : w.cell? ⟨g, i, none⟩ = some (.int .i64 y) := by
  obtain ⟨h1, h2⟩ := h
  rcases h2 with ⟨h3, _⟩ | ⟨g', cap', cur, h3, _, hh, _, _, _, ht⟩
  · cases h3
  · simp only [Value.slice.injEq, Option.some.injEq, Addr.mk.injEq, and_true] at h3
    obtain ⟨rfl, _, _⟩ := h3
    have hf := flatMap_at I64.len xs i y hi 0 _ rfl
    rw [← ht, List.getElem?_take] at hf
    split at hf
    · simp only [World.cell?, hh]; simpa using hf
    · cases hf
theorem OwnI.free (h : OwnI B e w (.slice (some ⟨g, 0, none⟩) n cap) xs) (i : Nat) : w.frozen? ⟨g, i, none⟩ = false := by
  obtain ⟨h1, h2⟩ := h
  rcases h2 with ⟨h3, _⟩ | ⟨g', cap', cur, h3, _, hh, _, _, _, ht⟩
  · cases h3
  · simp only [Value.slice.injEq, Option.some.injEq, Addr.mk.injEq, and_true] at h3
    obtain ⟨rfl, _, _⟩ := h3
    exact frozen_of_row w g i cur e hh
theorem OwnI.ge (h : OwnI B e w (.slice (some ⟨g, 0, none⟩) n cap) xs) : B ≤ g ∧ g < w.heap.size ∧ xs.length = n ∧ n ≤ cap ∧ cap ≤ maxLen := by
  have h0 := World.ownsRow.lt h g rfl
  obtain ⟨h1, h2⟩ := h
  rcases h2 with ⟨h3, _⟩ | ⟨g', cap', cur, h3, _, hh, h4, h5, _, ht⟩
  · cases h3
  · simp only [Value.slice.injEq, Option.some.injEq, Addr.mk.injEq, and_true] at h3
    obtain ⟨_, h6, h7⟩ := h3
    exact ⟨h0.1, h0.2, h6.symm, by omega, by omega⟩
theorem flat_i64 (hs : List Int) : hs.flatMap I64.enc = hs.map (fun x => Value.int .i64 x) := by induction hs <;> simp [I64.enc, *]
theorem OwnI.set (h : OwnI B e w (.slice (some ⟨g, 0, none⟩) n cap) xs) (i : Nat) (y : Int) : OwnI B e (w.setCell ⟨g, i, none⟩ (.int .i64 y)) (.slice (some ⟨g, 0, none⟩) n cap) (xs.set i y) := by
  have hl := (OwnI.ge h).2.2.1
  subst hl
  have h1 := (World.ownsRow.stored h i (.int .i64 y)).1
  unfold OwnI OwnK
  rw [List.length_set]
  rw [flat_i64] at h1 ⊢
  rw [List.map_set]; exact h1
end
section
variable {α : Type} {k : Nat} {enc : α → List Value}
theorem OwnK.blk {B : Nat} {e : TypeId} {w : World} {v : Value} {xs : List α} (h : OwnK k enc B e w v xs) {g : Nat} (hg : v.ownBlock = some g) : ∃ cur, w.heap[g]? = some (.cells cur e (0, 0)) := by
  obtain ⟨h1, h2⟩ := h
  rcases h2 with ⟨rfl, _⟩ | ⟨g', cap', cur, rfl, _, hh, _, _, _, ht⟩
  · cases hg
  · have : g' = g := by simpa [Value.ownBlock] using hg
    subst this; exact ⟨cur, hh⟩
theorem OwnK.other {B : Nat} {e e' : TypeId} {w w' : World} {v : Value} {xs : List α} {row : Option Nat} (h : OwnK k enc B e w v xs) (hg : w.grownBy w' row) (hr : ∀ g, row = some g → ∃ cur fr, w.heap[g]? = some (.cells cur e' fr)) (hne : e ≠ e') : OwnK k enc B e w' v xs := by
  have hb := fun g (hg' : v.ownBlock = some g) => OwnK.blk h hg'
  obtain ⟨h1, h2⟩ := h
  refine ⟨h1, ?_⟩
  rcases h2 with h2 | ⟨g', cap', cur, hv, hB, hh, r⟩
  · exact .inl h2
  · refine .inr ⟨g', cap', cur, hv, hB, (hg.block g' (Array.getElem?_eq_some_iff.1 hh).1 fun e1 => ?_).trans hh, r⟩
    obtain ⟨cur', fr, hc⟩ := hr g' e1.symm
    rw [hh] at hc
    cases hc
    exact hne rfl
end
/-- A row's header, and the row. -/
structure HD where
  a : Option Addr
  n : Nat
  cap : Nat
  x : List Int
def HD.enc (h : HD) : List Value := [.slice h.a h.n h.cap]
theorem HD.len (h : HD) : h.enc.length = 1 := rfl
theorem HD.one (h : HD) : ∀ u ∈ h.enc, u.oneCell' = true := by intro u hu; simp [HD.enc] at hu; subst hu; rfl
/-- A list of rows, all the call's own (eo: the headers' type, ei: the integers'). -/
def OwnRs (B : Nat) (eo ei : TypeId) (w : World) (v : Value) (L : List (List Int)) : Prop :=
  ∃ hds : List HD, OwnK 1 HD.enc B eo w v hds ∧ (∀ h ∈ hds, OwnI B ei w (.slice h.a h.n h.cap) h.x) ∧ hds.map HD.x = L
theorem OwnRs.nil (B : Nat) (eo ei : TypeId) (w : World) : OwnRs B eo ei w (.slice none 0 0) [] := ⟨[], OwnK.nil _ _ _, fun h hh => (by cases hh), rfl⟩
theorem OwnRs.kept {B : Nat} {eo ei : TypeId} {w w' : World} {v : Value} {L : List (List Int)} (h : OwnRs B eo ei w v L) (hx : Ext w w') : OwnRs B eo ei w' v L :=
  let ⟨hds, h1, h2, h3⟩ := h; ⟨hds, h1.kept hx, fun h hh => (h2 h hh).kept hx, h3⟩
theorem OwnRs.rd {B : Nat} {eo ei : TypeId} {w : World} {v : Value} {L : List (List Int)} (h : OwnRs B eo ei w v L) : ∃ a cap, v = .slice a L.length cap ∧ RdM w a L.length cap L := by
  obtain ⟨hs, h1, h2, rfl⟩ := h
  obtain ⟨a, cap, rfl, hr⟩ := OwnK.rd HD.len h1
  rw [List.length_map]
  refine ⟨a, cap, rfl, by simp, hr.le, hr.most, hr.isnil, fun hn => ?_⟩
  obtain ⟨b, off, ha, hb, hc⟩ := hr.pos hn
  refine ⟨b, off, ha, hb, fun i x hi => ?_⟩
  rw [List.getElem?_map] at hi
  obtain ⟨h, hh, rfl⟩ := Option.map_eq_some_iff.1 hi
  have := hc i h hh 0 _ rfl
  simp only [Nat.mul_one, Nat.add_zero] at this
  exact ⟨_, this, h.a, h.n, h.cap, rfl, OwnK.rdc I64.len (h2 h (List.mem_of_getElem? hh))⟩
/-- append of one more row. -/
theorem wp_appRow {P : Program} {ops : Array Oper} {rest : List Oper} {o : Oper} {a : Act} {Q : Exit → Act → World → Prop} (w00 w0 : World) (ad : Option Addr) (n cap : Nat) (y : List Int) (hgd : o.guard = none) (s x : Operand) (t : TypeId)
    (ho : o.op = .call { callee := .builtin .append, args := #[s, x], argTypes := #[t, t] }) (eo ei : TypeId) (ht : P.underlying t = some (.slice eo))
    (hinf : (P.info? eo).map (fun i => (i.zero, i.size, i.bytes)) = some (some (.slice none 0 0), 1, 24)) (hne : ei ≠ eo)
    (v : Value) (L : List (List Int)) (hs : a.eval s = v) (hown : OwnRs w00.heap.size eo ei w0 v L) (hx0 : Ext w00 w0) (hx : a.eval x = .slice (some ⟨w0.heap.size, 0, none⟩) 1 1)
    (hy : OwnI w00.heap.size ei w0 (.slice ad n cap) y) (hL : L.length ≤ 60000)
    (h : ∀ v' w', OwnRs w00.heap.size eo ei w' v' (L ++ [y]) → Ext w00 w' → wpList P ops Q rest (a.put o.dst v') w') :
    wpList P ops Q (o :: rest) a (w0.alloc (.cells #[.slice ad n cap] eo)) := by
  obtain ⟨hds, h1, h2, rfl⟩ := hown
  have hlen : hds.length ≤ 60000 := by simpa using hL
  refine wp_app1 w00 w0 (⟨ad, n, cap, y⟩ : HD) hgd s x t ho eo ht hinf rfl (by decide) v hds hs h1 hx0 hx rfl (HD.one _) (by omega) (by unfold maxLen; omega) ?_
  intro v' w' ho' hx' hg'
  have hb := fun g (e : v.ownBlock = some g) => OwnK.blk (h1.kept (Ext.alloc1 w0 (.cells (HD.enc ⟨ad, n, cap, y⟩).toArray eo))) e
  refine h v' w' ⟨hds ++ [⟨ad, n, cap, y⟩], ho', fun z hz => ?_, by simp⟩ hx'
  have hz2 : OwnI w00.heap.size ei w0 (.slice z.a z.n z.cap) z.x := by
    rcases List.mem_append.1 hz with hz | hz
    · exact h2 z hz
    · have : z = ⟨ad, n, cap, y⟩ := by simpa using hz
      subst this; exact hy
  exact OwnK.other (hz2.kept (Ext.alloc1 w0 (.cells (HD.enc ⟨ad, n, cap, y⟩).toArray eo))) hg' (fun g e => let ⟨cur, hc⟩ := hb g e; ⟨cur, _, hc⟩) hne
end Go.Proofs.YtdloabjnjnjacaaDoor
