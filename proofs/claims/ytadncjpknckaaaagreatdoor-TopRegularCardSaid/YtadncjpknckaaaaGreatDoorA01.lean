/-
  Words of my own for all walks: 'Ext w w'' (the world has grown, nothing that was there has turned); 'RdK' (a slice reads as a list, each element of k cells); 'OwnK' (a slice that the call itself owns reads as a list); sounds as pairs of 32-bit words.
  A region that draws its order: a head of operations that only read or call (the callees may draw and may make memory, but hand back one value in every world of a class), and behind it a tail in one forced order, which may write and make memory. One walk of the text's order serves every order.
  append of a slice that can be read to one that the call owns: as a run; as one step of a region that draws its order.
  slices.Grow of a nil slice: a law for append of made zero values.
  Slices that are made, or written out: as the call's own.
-/
import Derived.WalkKit
import Derived.WalkSpells
import Derived.WalkLawsBesides
import Derived.Outline
import Derived.BigQuiet
import Derived.Below
import Derived.Lib.Hide
import Derived.Laws.AppendOwnNone
import Derived.StillTail
import Derived.Deep.Quiet
import Derived.Laws.OwnMore
import Derived.Deep.RegionLaw
import Derived.BigFrame
import Derived.Laws.MakeOwn
namespace Go.Proofs.YtadncjpknckaaaaGreatDoor
open Go.RowKit

/-! ### The world has grown -/
/-- What was there is as it was. -/
structure Ext (w w' : World) : Prop where
  bel : Below w.heap.size w w'
theorem Ext.le {w w' : World} (h : Ext w w') : w.heap.size ≤ w'.heap.size := h.bel.size
theorem Ext.refl (w : World) : Ext w w := ⟨Below.refl _ _⟩
theorem Ext.trans {a b c : World} (h : Ext a b) (k : Ext b c) : Ext a c := ⟨Below.trans h.bel (Below.mono k.bel h.le)⟩
theorem Ext.alloc {a w : World} (h : Ext a w) (o : Obj) : Ext a (w.alloc o) := ⟨Below.alloc h.bel h.le o⟩
theorem Ext.drew {a w : World} (h : Ext a w) : Ext a w.drew := ⟨Below.drew h.bel⟩
theorem Ext.drewN {a w : World} (h : Ext a w) (n : Nat) : Ext a (w.drewN n) := ⟨⟨h.bel.os, h.bel.tape, h.bel.output, h.bel.size, h.bel.block⟩⟩
theorem Ext.setCell {a w : World} (h : Ext a w) {p : Addr} (hp : a.heap.size ≤ p.block) (u : Value) : Ext a (w.setCell p u) := ⟨Below.setCell h.bel hp u⟩
theorem Ext.grown {a w w' : World} {row : Option Nat} (h : Ext a w) (hg : w.grownBy w' row) (hr : ∀ k, row = some k → a.heap.size ≤ k) : Ext a w' := ⟨Below.grown h.bel hg h.le hr⟩
/-- .. and the tape has not gone back (what a comparison that is handed to a sort leaves). -/
structure ExtD (w w' : World) : Prop where
  ext : Ext w w'
  dr : w.drawn ≤ w'.drawn
theorem ExtD.refl (w : World) : ExtD w w := ⟨Ext.refl _, Nat.le_refl _⟩
theorem ExtD.trans {a b c : World} (h : ExtD a b) (k : ExtD b c) : ExtD a c := ⟨h.ext.trans k.ext, Nat.le_trans h.dr k.dr⟩
theorem ExtD.alloc {a w : World} (h : ExtD a w) (o : Obj) : ExtD a (w.alloc o) := ⟨h.ext.alloc o, h.dr⟩
theorem ExtD.drew {a w : World} (h : ExtD a w) : ExtD a w.drew := ⟨h.ext.drew, Nat.le_trans h.dr (Nat.le_succ _)⟩
theorem ExtD.drewN {a w : World} (h : ExtD a w) (n : Nat) : ExtD a (w.drewN n) := ⟨h.ext.drewN n, Nat.le_trans h.dr (Nat.le_add_right _ _)⟩
theorem Ext.cell {w w' : World} (h : Ext w w') {b : Nat} (o : Nat) (hb : b < w.heap.size) : w'.cell? ⟨b, o, none⟩ = w.cell? ⟨b, o, none⟩ := Below.cell (p := ⟨b, o, none⟩) h.bel hb
theorem Ext.frozen {w w' : World} (h : Ext w w') {b : Nat} (o : Nat) (hb : b < w.heap.size) : w'.frozen? ⟨b, o, none⟩ = w.frozen? ⟨b, o, none⟩ := Below.frozen (p := ⟨b, o, none⟩) h.bel hb
theorem Ext.alloc1 (w : World) (o : Obj) : Ext w (w.alloc o) := (Ext.refl w).alloc o

/-! ### A slice reads as a list -/
section
variable {α : Type} (k : Nat) (enc : α → List Value)
/-- The slice value '.slice a n cap' reads, in the world w, as the list xs, each element of k cells. -/
structure RdK (w : World) (a : Option Addr) (n cap : Nat) (xs : List α) : Prop where
  len : xs.length = n
  le : n ≤ cap
  most : cap ≤ maxLen
  isnil : a = none → cap = 0
  pos : 0 < n → ∃ b off, a = some ⟨b, off, none⟩ ∧ b < w.heap.size ∧ ∀ i x, xs[i]? = some x → ∀ j u, (enc x)[j]? = some u → w.cell? ⟨b, off + i * k + j, none⟩ = some u
variable {k enc}
theorem RdK.ext {w w' : World} {a : Option Addr} {n cap : Nat} {xs : List α} (h : RdK k enc w a n cap xs) (hx : Ext w w') : RdK k enc w' a n cap xs :=
  ⟨h.len, h.le, h.most, h.isnil, fun hn => let ⟨b, off, ha, hb, hc⟩ := h.pos hn; ⟨b, off, ha, Nat.lt_of_lt_of_le hb hx.le, fun i x hi j u hu => by rw [hx.cell _ hb]; exact hc i x hi j u hu⟩⟩
theorem RdK.nilS (w : World) : RdK k enc w none 0 0 ([] : List α) := ⟨rfl, Nat.le_refl _, Nat.zero_le _, fun _ => rfl, fun h => absurd h (Nat.lt_irrefl _)⟩

theorem length_flatMap_enc (hk : ∀ x, (enc x).length = k) : ∀ xs : List α, (xs.flatMap enc).length = xs.length * k
  | [] => by simp
  | x :: xs => by simp only [List.flatMap_cons, List.length_append, List.length_cons, length_flatMap_enc hk xs, hk, Nat.add_mul]; omega
theorem flatMap_at (hk : ∀ x, (enc x).length = k) : ∀ (xs : List α) (i : Nat) (x : α), xs[i]? = some x → ∀ j u, (enc x)[j]? = some u → (xs.flatMap enc)[i * k + j]? = some u
  | [], i, x, h, _, _, _ => by simp at h
  | y :: xs, 0, x, h, j, u, hu => by
    simp at h; subst h
    have hj : j < (enc y).length := (List.getElem?_eq_some_iff.1 hu).1
    simp only [List.flatMap_cons, Nat.zero_mul, Nat.zero_add]
    rw [List.getElem?_append_left hj]; exact hu
  | y :: xs, i + 1, x, h, j, u, hu => by
    simp at h
    have hh := flatMap_at hk xs i x h j u hu
    have hl := hk y
    simp only [List.flatMap_cons]
    rw [List.getElem?_append_right (by rw [hl, Nat.add_mul]; omega), hl, Nat.add_mul, show i * k + 1 * k + j - k = i * k + j by omega]
    exact hh
theorem flatMap_take (hk : ∀ x, (enc x).length = k) (xs : List α) (n : Nat) : (xs.take n).flatMap enc = (xs.flatMap enc).take (n * k) := by
  induction xs generalizing n with
  | nil => simp
  | cons x xs ih =>
    cases n with
    | zero => simp
    | succ n =>
      simp only [List.take_succ_cons, List.flatMap_cons, ih]
      rw [List.take_append, hk, Nat.add_mul, Nat.one_mul, show n * k + k - k = n * k by omega, List.take_of_length_le (l := enc x) (by rw [hk]; omega)]

/-! ### A slice that the call itself owns -/
variable (k enc)
def OwnK (B : Nat) (e : TypeId) (w : World) (v : Value) (xs : List α) : Prop := w.ownsRow B e k v xs.length (xs.flatMap enc)
variable {k enc}
theorem OwnK.rd (hk : ∀ x, (enc x).length = k) {B : Nat} {e : TypeId} {w : World} {v : Value} {xs : List α} (h : OwnK k enc B e w v xs) : ∃ a cap, v = .slice a xs.length cap ∧ RdK k enc w a xs.length cap xs := by
  obtain ⟨h1, h2⟩ := h
  rcases h2 with ⟨rfl, h0⟩ | ⟨g, cap, cur, rfl, hg, hh, hc, hm, hs, ht⟩
  · have : xs = [] := List.eq_nil_of_length_eq_zero h0
    subst this
    exact ⟨_, _, rfl, RdK.nilS w⟩
  · have hlt : g < w.heap.size := (Array.getElem?_eq_some_iff.1 hh).1
    refine ⟨_, _, rfl, rfl, hc, hm, (fun h => by cases h), fun _ => ⟨g, 0, rfl, hlt, fun i x hi j u hu => ?_⟩⟩
    have hf := flatMap_at hk xs i x hi j u hu
    rw [← ht, List.getElem?_take] at hf
    split at hf
    · simp only [World.cell?, hh, Nat.zero_add]
      simpa using hf
    · cases hf
theorem OwnK.kept {B : Nat} {e : TypeId} {w w' : World} {v : Value} {xs : List α} (h : OwnK k enc B e w v xs) (hx : Ext w w') : OwnK k enc B e w' v xs := by
  obtain ⟨h1, h2⟩ := h
  refine ⟨h1, ?_⟩
  rcases h2 with h2 | ⟨g, cap, cur, hv, hg, hh, r⟩
  · exact .inl h2
  · exact .inr ⟨g, cap, cur, hv, hg, (Below.block hx.bel g (Array.getElem?_eq_some_iff.1 hh).1).trans hh, r⟩
theorem OwnK.base {B B' : Nat} {e : TypeId} {w : World} {v : Value} {xs : List α} (h : OwnK k enc B e w v xs) (hB : B' ≤ B) : OwnK k enc B' e w v xs := by
  obtain ⟨h1, h2⟩ := h
  refine ⟨h1, ?_⟩
  rcases h2 with h2 | ⟨g, cap, cur, hv, hg, r⟩
  · exact .inl h2
  · exact .inr ⟨g, cap, cur, hv, Nat.le_trans hB hg, r⟩
theorem OwnK.nil (B : Nat) (e : TypeId) (w : World) : OwnK k enc B e w (.slice none 0 0) ([] : List α) := World.ownsRow_nil w B e k
end

/-! ### A part of a slice -/
/-- The address of a part of a slice, from element l on. -/
def subA (k : Nat) (a : Option Addr) (cap l : Nat) : Option Addr := if cap = l then a else a.map (·.add (l * k))
theorem run_sub_lh {P : Program} {t : TypeId} (ht : P.underlying t = some (.slice (P.elem t))) {k : Nat} (hs : ∀ w, (sizeOf (P.elem t)).run P w = .ok k w) (a : Option Addr) (len cap : Nat) (l h : Nat) (h1 : l ≤ h) (h2 : h ≤ cap) (w : World) :
    (Instr.slice t (.slice a len cap) (some (.int .i64 l)) (some (.int .i64 h)) none).run P w = .ok (.slice (subA k a cap l) (h - l) (cap - l)) w := by
  rw [run_slice_lh w t a len cap ht .i64 .i64 l h (by omega) (by omega) (by omega), hs]
  simp [Result.andThen, sliced, subA]
theorem run_sub_h {P : Program} {t : TypeId} (ht : P.underlying t = some (.slice (P.elem t))) {k : Nat} (hs : ∀ w, (sizeOf (P.elem t)).run P w = .ok k w) (a : Option Addr) (len cap : Nat) (h : Nat) (h2 : h ≤ cap) (w : World) :
    (Instr.slice t (.slice a len cap) none (some (.int .i64 h)) none).run P w = .ok (.slice (subA k a cap 0) h cap) w := by
  rw [run_slice_h w t a len cap ht .i64 h (by omega) (by omega), hs]
  simp [Result.andThen, sliced, subA]
theorem run_sub_l {P : Program} {t : TypeId} (ht : P.underlying t = some (.slice (P.elem t))) {k : Nat} (hs : ∀ w, (sizeOf (P.elem t)).run P w = .ok k w) (a : Option Addr) (len cap : Nat) (l : Nat) (h2 : l ≤ len) (w : World) :
    (Instr.slice t (.slice a len cap) (some (.int .i64 l)) none none).run P w = .ok (.slice (subA k a cap l) (len - l) (cap - l)) w := by
  rw [run_slice_l w t a len cap ht .i64 l (by omega) (by omega), hs]
  simp [Result.andThen, sliced, subA]
section
variable {α : Type} {k : Nat} {enc : α → List Value}
theorem RdK.sub {w : World} {a : Option Addr} {n cap : Nat} {xs : List α} (h : RdK k enc w a n cap xs) {l m : Nat} (h1 : l ≤ m) (h2 : m ≤ n) : RdK k enc w (subA k a cap l) (m - l) (cap - l) ((xs.take m).drop l) := by
  have hl := h.len; have hc := h.le; have hm := h.most
  refine ⟨by simp; omega, by omega, by omega, fun h0 => ?_, fun hp => ?_⟩
  · unfold subA at h0
    split at h0
    · omega
    · have := h.isnil (by simpa using h0); omega
  · obtain ⟨b, off, rfl, hb, hcell⟩ := h.pos (by omega)
    refine ⟨b, off + l * k, ?_, hb, fun i x hi j u hu => ?_⟩
    · unfold subA; rw [if_neg (by omega)]
      by_cases h0 : l * k = 0
      · simp [Addr.add, h0]
      · simp [Addr.add, h0]
    · rw [List.getElem?_drop] at hi
      rw [List.getElem?_take] at hi
      split at hi
      · have := hcell _ _ hi j u hu
        rw [Nat.add_mul] at this
        rw [show off + l * k + i * k + j = off + (l * k + i * k) + j by omega]; exact this
      · cases hi
/-- All cells of a slice, as append asks them. -/
theorem RdK.cells {w : World} {ad : Addr} {n cap : Nat} {xs : List α} (h : RdK k enc w (some ad) n cap xs) (hk : ∀ x, (enc x).length = k) (hk0 : 0 < k) : ∀ j u, (xs.flatMap enc)[j]? = some u → w.cell? (ad.add j) = some u := by
  intro j u hu
  have hj : j < xs.length * k := by rw [← length_flatMap_enc hk xs]; exact (List.getElem?_eq_some_iff.1 hu).1
  have hq : j / k < xs.length := Nat.div_lt_of_lt_mul (by rwa [Nat.mul_comm])
  obtain ⟨b, off, ha, _, hc⟩ := h.pos (by rw [← h.len]; exact Nat.lt_of_le_of_lt (Nat.zero_le _) hq)
  cases ha
  have hx : xs[j / k]? = some xs[j / k] := List.getElem?_eq_getElem hq
  have hr : j % k < (enc xs[j / k]).length := by rw [hk]; exact Nat.mod_lt _ hk0
  have hv : (enc xs[j / k])[j % k]? = some ((enc xs[j / k])[j % k]) := List.getElem?_eq_getElem hr
  have hdm : j / k * k + j % k = j := by rw [Nat.mul_comm]; exact Nat.div_add_mod j k
  have h1 := flatMap_at hk xs (j / k) _ hx (j % k) _ hv
  rw [hdm, hu] at h1
  have h2 := hc _ _ hx _ _ hv
  rw [Nat.add_assoc, hdm, ← h1] at h2
  unfold Addr.add
  by_cases h0 : j = 0
  · subst h0; simpa using h2
  · simpa [h0] using h2
end

/-! ### append on a slice that the call itself owns -/
theorem cell_new_list (w : World) (cs : List Value) (e : TypeId) (j : Nat) (u : Value) (h : cs[j]? = some u) : (w.alloc (.cells cs.toArray e)).cell? ((⟨w.heap.size, 0, none⟩ : Addr).add j) = some u := by
  have hh : (w.alloc (.cells cs.toArray e)).heap[w.heap.size]? = some (.cells cs.toArray e (0, 0)) := by show (w.heap.push _)[w.heap.size]? = _; simp
  unfold Addr.add
  by_cases hj : j = 0
  · subst hj; simp only [if_pos, World.cell?, hh]; simpa using h
  · simp only [if_neg hj, World.cell?, hh]; simpa using h
/-- append never turns the tape back. -/
theorem append_drawn {P : Program} (w : World) (base : Nat) (t ty e : TypeId) (i : TypeInfo) (z : Value) (size bytes : Nat) (ht : P.underlying t = some (.slice e)) (hi : P.info? e = some i) (hz : i.zero = some z)
    (hsize : i.size = size) (hby : i.bytes = bytes) (v : Value) (n : Nat) (xs : List Value) (hown : w.ownsRow base e size v n xs)
    (a : Addr) (m c : Nat) (news : List Value) (hl : news.length = m * size) (hnews : ∀ j u, news[j]? = some u → w.cell? (a.add j) = some u) (h1 : ∀ u ∈ news, u.oneCell' = true)
    (h63 : n + m ≤ maxLen) (hbytes : (n + m) * bytes ≤ 140737488355328) {v' : Value} {w' : World} (hrun : (Builtin.append_ #[t, t] ty #[v, .slice (some a) m c]).run P w = .ok v' w') : w.drawn ≤ w'.drawn := by
  subst hsize; subst hby
  have hsmall : n + m ≤ 9223372036854775807 := by simp only [maxLen] at h63; omega
  rcases hown.2 with ⟨rfl, rfl⟩ | ⟨g, cap, cur, rfl, _, hg, hnc, _, hcs, _⟩
  · by_cases hm : m = 0
    · subst hm
      simp [Builtin.append_, run_underlying ht, sizeOf, typeInfo, hi, Builtin.lenOf, Builtin.firstCells, loadCells, loadCellsFrom] at hrun
      rw [hrun.2]; exact Nat.le_refl _
    · rw [run_append_nil (P := P) w t ty e i z ht hi hz a m c news hl hnews (by omega) (by omega) (by simp only [Nat.zero_add] at hbytes; omega)] at hrun
      cases hrun; exact Nat.le_succ _
  · by_cases hroom : n + m ≤ cap
    · have hfit : n * i.size + news.length ≤ cur.size := by rw [hl, hcs, ← Nat.add_mul]; exact Nat.mul_le_mul_right _ hroom
      rw [run_append_room (P := P) w t ty e i ht hi g n cap cur hg a m c news hl hnews h1 hroom hfit] at hrun
      cases hrun; exact Nat.le_refl _
    · have holds : ∀ j u, xs[j]? = some u → w.cell? ((⟨g, 0, none⟩ : Addr).add j) = some u := World.ownsRow.cells hown (g := g) rfl
      rw [run_append_grow (P := P) w t ty e i z ht hi hz ⟨g, 0, none⟩ n cap xs hown.1 holds a m c news hl hnews (by omega) (by omega) (growslice_fits (by omega) hbytes)] at hrun
      cases hrun; exact Nat.le_succ _
theorem wpList_append_dr {P : Program} (w : World) {ops : Array Oper} {rest : List Oper} {o : Oper} {a : Act} {Q : Exit → Act → World → Prop} (hgd : o.guard = none) (s x : Operand) (t : TypeId)
    (ho : o.op = .call { callee := .builtin .append, args := #[s, x], argTypes := #[t, t] })
    (base : Nat) (e : TypeId) (i : TypeInfo) (z : Value) (size bytes : Nat) (ht : P.underlying t = some (.slice e)) (hi : P.info? e = some i) (hz : i.zero = some z)
    (hsize : i.size = size) (hby : i.bytes = bytes) (hzs : z.cells.size = size) (hsz : 0 < size)
    (v : Value) (n : Nat) (xs : List Value) (hs : a.eval s = v) (hown : w.ownsRow base e size v n xs)
    (ad : Addr) (m c : Nat) (news : List Value) (hx : a.eval x = .slice (some ad) m c) (hl : news.length = m * size) (hnews : ∀ j u, news[j]? = some u → w.cell? (ad.add j) = some u) (h1 : ∀ u ∈ news, u.oneCell' = true)
    (h63 : n + m ≤ maxLen) (hbytes : (n + m) * bytes ≤ 140737488355328) (hbase : base ≤ w.heap.size)
    (h : ∀ v' w', w'.ownsRow base e size v' (n + m) (xs ++ news) → w.grownBy w' v.ownBlock → w.drawn ≤ w'.drawn → wpList P ops Q rest (a.put o.dst v') w') : wpList P ops Q (o :: rest) a w := by
  refine wpList_plain hgd fun K hK => ?_
  obtain ⟨v', w', hr, h2, h3, _⟩ := run_append_own (P := P) w base t o.type e i z size bytes ht hi hz hsize hby hzs hsz v n xs hown ad m c news hl hnews h1 h63 hbytes hbase
  have hd := append_drawn w base t o.type e i z size bytes ht hi hz hsize hby v n xs hown ad m c news hl hnews h1 h63 hbytes hr
  unfold Oper.wp execOp
  simp only [ho, resolve, invoke, builtin, Sem.run_bind, Sem.run_pure, Result.andThen_ok, List.map_toArray, List.map_cons, List.map_nil, hs, hx, hr]
  exact hK _ _ (h v' w' h2 h3 hd)
section
variable {α : Type} {k : Nat} {enc : α → List Value}
theorem OwnK.of_row {B : Nat} {e : TypeId} {w : World} {v : Value} {xs : List α} {n : Nat} {cs : List Value} (h : w.ownsRow B e k v n cs) (hn : n = xs.length) (hc : cs = xs.flatMap enc) : OwnK k enc B e w v xs := by
  subst hn; subst hc; exact h
theorem wp_app1 {P : Program} {ops : Array Oper} {rest : List Oper} {o : Oper} {a : Act} {Q : Exit → Act → World → Prop} (w00 w0 : World) (y : α) (hgd : o.guard = none) (s x : Operand) (t : TypeId)
    (ho : o.op = .call { callee := .builtin .append, args := #[s, x], argTypes := #[t, t] }) (e : TypeId) {z : Value} {bytes : Nat} (ht : P.underlying t = some (.slice e))
    (hinf : (P.info? e).map (fun i => (i.zero, i.size, i.bytes)) = some (some z, k, bytes)) (hzs : z.cells.size = k) (hk0 : 0 < k)
    (v : Value) (xs : List α) (hs : a.eval s = v) (hown : OwnK k enc w00.heap.size e w0 v xs) (hx0 : Ext w00 w0) (hx : a.eval x = .slice (some ⟨w0.heap.size, 0, none⟩) 1 1)
    (hlen : (enc y).length = k) (h1 : ∀ u ∈ enc y, u.oneCell' = true) (hN : (xs.length + 1) * bytes ≤ 140737488355328) (hmax : xs.length + 1 ≤ maxLen)
    (h : ∀ v' w', OwnK k enc w00.heap.size e w' v' (xs ++ [y]) → Ext w00 w' → (w0.alloc (.cells (enc y).toArray e)).grownBy w' v.ownBlock → wpList P ops Q rest (a.put o.dst v') w') :
    wpList P ops Q (o :: rest) a (w0.alloc (.cells (enc y).toArray e)) := by
  obtain ⟨i, hi, hz0, hz1, hz2⟩ := info_parts hinf
  refine wpList_append_dr _ hgd s x t ho w00.heap.size e i z k bytes ht hi hz0 hz1 hz2 hzs hk0 v xs.length (xs.flatMap enc) hs (World.ownsRow.alloc hown _) ⟨w0.heap.size, 0, none⟩ 1 1 (enc y) hx (by omega) (fun j u hu => cell_new_list _ _ _ _ _ hu) h1 hmax hN (by have := hx0.le; simp; omega) ?_
  intro v' w' h2 h3 _
  refine h v' w' (OwnK.of_row h2 (by simp) (by simp)) (Ext.grown (hx0.alloc _) h3 fun j hj => (World.ownsRow.lt hown j hj).1) h3
/-- append of all elements of a slice that can be read. -/
theorem wp_appN {P : Program} {ops : Array Oper} {rest : List Oper} {o : Oper} {a : Act} {Q : Exit → Act → World → Prop} (w00 w : World) (ys : List α) (hgd : o.guard = none) (s x : Operand) (t : TypeId)
    (ho : o.op = .call { callee := .builtin .append, args := #[s, x], argTypes := #[t, t] }) (e : TypeId) {z : Value} {bytes : Nat} (ht : P.underlying t = some (.slice e))
    (hinf : (P.info? e).map (fun i => (i.zero, i.size, i.bytes)) = some (some z, k, bytes)) (hzs : z.cells.size = k) (hk0 : 0 < k)
    (v : Value) (xs : List α) (hs : a.eval s = v) (hown : OwnK k enc w00.heap.size e w v xs) (hx0 : Ext w00 w) (ad : Option Addr) (n cap : Nat) (hx : a.eval x = .slice ad n cap) (hrd : RdK k enc w ad n cap ys)
    (hlen : ∀ y, (enc y).length = k) (h1 : ∀ y, ∀ u ∈ enc y, u.oneCell' = true) (hN : (xs.length + n) * bytes ≤ 140737488355328) (hmax : xs.length + n ≤ maxLen)
    (h : ∀ v' w', OwnK k enc w00.heap.size e w' v' (xs ++ ys) → Ext w00 w' → w.grownBy w' v.ownBlock → wpList P ops Q rest (a.put o.dst v') w') :
    wpList P ops Q (o :: rest) a w := by
  obtain ⟨i, hi, hz0, hz1, hz2⟩ := info_parts hinf
  cases ad with
  | none =>
    have hc := hrd.isnil rfl
    have hn : n = 0 := by have := hrd.le; omega
    subst hn; subst hc
    have hy : ys = [] := List.eq_nil_of_length_eq_zero hrd.len
    subst hy
    refine wpList_append_own_none hgd s x t ho w00.heap.size e i k ht hi v xs.length _ hs hown hx (h v w (by rw [List.append_nil]; exact hown) hx0 ⟨rfl, rfl, rfl, Nat.le_refl _, fun _ _ _ => rfl⟩)
  | some ad =>
    have hl := hrd.len
    refine wpList_append_dr _ hgd s x t ho w00.heap.size e i z k bytes ht hi hz0 hz1 hz2 hzs hk0 v xs.length (xs.flatMap enc) hs hown ad n cap (ys.flatMap enc) hx (by rw [length_flatMap_enc hlen, hl]) (hrd.cells hlen hk0) (fun u hu => ?_) hmax hN hx0.le ?_
    · obtain ⟨y, _, hy⟩ := List.mem_flatMap.1 hu
      exact h1 y u hy
    · intro v' w' h2 h3 _
      exact h v' w' (OwnK.of_row h2 (by simp [hl]) (by simp)) (Ext.grown hx0 h3 fun j hj => (World.ownsRow.lt hown j hj).1) h3
end

/-! ### Sounds -/
/-- A sound: the features with the value +, and those with the value -. -/
structure Snd where
  p : BitVec 32
  m : BitVec 32
deriving DecidableEq
def Snd.enc (s : Snd) : List Value := [.int .u32 s.p.toNat, .int .u32 s.m.toNat]
theorem Snd.len (s : Snd) : s.enc.length = 2 := rfl
abbrev RdS := RdK 2 Snd.enc
abbrev OwnS := OwnK 2 Snd.enc
theorem RdK.snd {w : World} {a : Option Addr} {n cap : Nat} {xs : List Snd} (h : RdK 2 Snd.enc w a n cap xs) {i : Nat} (hi : i < n) :
    ∃ b off s, a = some ⟨b, off, none⟩ ∧ Hid (xs[i]? = some s) ∧ b < w.heap.size ∧ w.cell? ⟨b, off + i * 2, none⟩ = some (.int .u32 s.p.toNat) ∧ w.cell? ⟨b, off + i * 2 + 1, none⟩ = some (.int .u32 s.m.toNat) := by
  obtain ⟨b, off, ha, hb, hc⟩ := h.pos (by omega)
  have hl := h.len
  have hs : xs[i]? = some xs[i] := List.getElem?_eq_getElem (by omega)
  exact ⟨b, off, xs[i], ha, hs, hb, by simpa using hc i _ hs 0 _ rfl, hc i _ hs 1 _ rfl⟩

/-! ### 32-bit words -/
theorem u32_lt (x : BitVec 32) : (x.toNat : Int) < 4294967296 := by have := x.isLt; omega
theorem ofInt_u32 (x : BitVec 32) : BitVec.ofInt 32 (x.toNat : Int) = x := by
  apply BitVec.eq_of_toNat_eq; rw [BitVec.ofInt_natCast, BitVec.toNat_ofNat]; exact Nat.mod_eq_of_lt x.isLt
theorem wrap_u32 (x : BitVec 32) : IntKind.u32.wrap (x.toNat : Int) = x.toNat := by rw [IntKind.wrap_u32']; have := x.isLt; omega
@[go_sem] theorem bits_and_u32 (x y : BitVec 32) : bits .and .u32 (x.toNat : Int) (y.toNat : Int) = ((x &&& y).toNat : Int) := by
  show IntKind.u32.wrap ((BitVec.ofInt 32 (x.toNat : Int) &&& BitVec.ofInt 32 (y.toNat : Int)).toNat : Int) = _
  rw [ofInt_u32, ofInt_u32, wrap_u32]
@[go_sem] theorem bits_or_u32 (x y : BitVec 32) : bits .or .u32 (x.toNat : Int) (y.toNat : Int) = ((x ||| y).toNat : Int) := by
  show IntKind.u32.wrap ((BitVec.ofInt 32 (x.toNat : Int) ||| BitVec.ofInt 32 (y.toNat : Int)).toNat : Int) = _
  rw [ofInt_u32, ofInt_u32, wrap_u32]
@[go_sem] theorem bits_xor_u32 (x y : BitVec 32) : bits .xor .u32 (x.toNat : Int) (y.toNat : Int) = ((x ^^^ y).toNat : Int) := by
  show IntKind.u32.wrap ((BitVec.ofInt 32 (x.toNat : Int) ^^^ BitVec.ofInt 32 (y.toNat : Int)).toNat : Int) = _
  rw [ofInt_u32, ofInt_u32, wrap_u32]
@[go_sem] theorem bits_andNot_u32 (x y : BitVec 32) : bits .andNot .u32 (x.toNat : Int) (y.toNat : Int) = ((x &&& ~~~y).toNat : Int) := by
  show IntKind.u32.wrap ((BitVec.ofInt 32 (x.toNat : Int) &&& ~~~BitVec.ofInt 32 (y.toNat : Int)).toNat : Int) = _
  rw [ofInt_u32, ofInt_u32, wrap_u32]
theorem u32_eq (x y : BitVec 32) : ((x.toNat : Int) = (y.toNat : Int)) ↔ x = y := ⟨fun h => BitVec.eq_of_toNat_eq (by omega), fun h => by rw [h]⟩
theorem u32_zero (x : BitVec 32) : ((x.toNat : Int) = 0) ↔ x = 0#32 := ⟨fun h => BitVec.eq_of_toNat_eq (by simpa using h), fun h => by rw [h]; rfl⟩
theorem u32_beq0 (x : BitVec 32) : ((x.toNat : Int) == 0) = (x == 0#32) := by
  rw [Bool.eq_iff_iff]; simp only [beq_iff_eq]; exact u32_zero x
theorem u32_shr24 (x : BitVec 32) : (x.toNat : Int) / 16777216 = ((x >>> 24).toNat : Int) := by
  rw [BitVec.toNat_ushiftRight, Nat.shiftRight_eq_div_pow]; norm_cast
end Go.Proofs.YtadncjpknckaaaaGreatDoor
namespace Go.Proofs.YtadncjpknckaaaaGreatDoor
open Go.RowKit
section
variable {P : Program} {ops : Array Oper} {md : Region.Mode} {C : World → Prop}
/-- The head, in every order: n operations that are quiet in the class, then L. -/
def headAny (P : Program) (md : Region.Mode) (ops : Array Oper) (C : World → Prop) (n : Nat) (L : Array Bool → Act → Prop) : Nat → Array Bool → Act → Prop
  | 0, listed, a => L listed a
  | f + 1, listed, a => Region.ready md ops listed ≠ [] ∧ ∀ i ∈ Region.ready md ops listed, i < n ∧ qOp P ops C i (headAny P md ops C n L f (listed.setIfInBounds i true)) a

theorem any_of_headAny {n g : Nat} {L : Array Bool → Act → Prop} {Q' : Exit → Act → World → Prop} (hL : ∀ listed a w, C w → L listed a → wpAny P md ops Q' g listed a w) :
    ∀ (f : Nat) (listed : Array Bool) (a : Act) (w : World), C w → headAny P md ops C n L f listed a → wpAny P md ops Q' (f + g) listed a w := by
  intro f
  induction f with
  | zero => intro listed a w hw h; simpa using hL listed a w hw h
  | succ f ih =>
    intro listed a w hw h
    have e : f + 1 + g = (f + g) + 1 := by omega
    rw [e]
    refine ⟨fun h0 => absurd h0 h.1, fun i hi => ?_⟩
    exact wpOp_of_qOp hw (fun a' w' hw' h' => ih _ a' w' hw' h') (h.2 i hi).2

theorem headAny_first {n i : Nat} {oi : Oper} {v : Value} {L : Array Bool → Act → Prop} (hi : ops[i]? = some oi) (hsel : ∀ (j : Nat) (o : Oper) cs b, ops[j]? = some o → o.op ≠ .select cs b)
    (hs : Region.sinkB md ops n = true) (hc : Region.chainB md ops n = true) (hn : n < ops.size) (hin : i < n) (hdone : ∀ listed a, L listed a → ∀ j ∈ Region.ready md ops listed, n ≤ j) :
    ∀ (f : Nat) (listed : Array Bool) (a : Act), HeadInv md ops n listed →
      (∀ j oj, ops[j]? = some oj → j ≠ i → listed.getD j true = false → (∀ e ∈ oj.after, Region.binds md e = true → e.on ≠ i) → oi.apart ops oj = true) →
      i ∈ Region.ready md ops listed → YieldsIn P ops C oi v a →
      headAny P md ops C n L f (listed.setIfInBounds i true) (a.put oi.dst v) → headAny P md ops C n L (f + 1) listed a := by
  intro f
  induction f with
  | zero =>
    intro listed a inv _ hr hy H
    refine ⟨fun h => (by rw [h] at hr; cases hr), fun j hj => ?_⟩
    have hjn : j < n := Nat.lt_of_not_le fun h => tail_waits hs hc hn inv _ i rfl hin (mem_ready.1 hr).1 j h hj
    by_cases hji : j = i
    · subst hji; exact ⟨hjn, hy.qOp hi H⟩
    · have := hdone _ _ H j (ready_mono hj hji); omega
  | succ f ih =>
    intro listed a inv hfree hr hy H
    have hun := (mem_ready.1 hr).1
    refine ⟨fun h => (by rw [h] at hr; cases hr), fun j hj => ?_⟩
    have hjn : j < n := Nat.lt_of_not_le fun h => tail_waits hs hc hn inv _ i rfl hin hun j h hj
    by_cases hji : j = i
    · subst hji; exact ⟨hjn, hy.qOp hi H⟩
    · refine ⟨hjn, ?_⟩
      obtain ⟨hjun, oj, hoj, hall⟩ := mem_ready.1 hj
      have hnot : ∀ e ∈ oj.after, Region.binds md e = true → e.on ≠ i := fun e he hb heq => by
        have h1 := hall e he hb
        rw [heq, getD_both hun] at h1
        cases h1
      have h2 := qOp_put hoj (hfree j oj hoj hji hjun hnot) (fun cs b => hsel i oi cs b hi) (fun cs b => hsel j oj cs b hoj) hy (H.2 j (ready_mono hj hji)).2
      refine qOp_mono (fun a' h3 => ih (listed.setIfInBounds j true) a' (inv.set hj hjn) (fun k ok hk hki hunk hno => ?_) (ready_mono hr (Ne.symm hji)) h3.1 ?_) h2
      · refine hfree k ok hk hki ?_ hno
        by_cases hjk : j = k
        · subst hjk; exact hjun
        · rwa [getD_set_ne true hjk] at hunk
      · rw [Array.setIfInBounds_comm _ _ hji]
        exact h3.2

theorem headAny_lex {n g : Nat} {Lq : Act → Prop} (hsel : Region.noSelect ops = true) (hs : Region.sinkB md ops n = true) (hc : Region.chainB md ops n = true) (hn : n < ops.size) :
    ∀ (l : List Oper) (k : Nat) (listed : Array Bool) (a : Act), (∀ j, j < l.length → l[j]? = ops[k + j]?) → k + l.length = n → HeadInv md ops n listed →
    Region.lexHead md ops g l.length k listed = true → wpQuiet P ops C Lq l a →
    headAny P md ops C n (fun listed' a' => Region.seqB md ops g n listed' = true ∧ Lq a') l.length listed a := by
  intro l
  induction l with
  | nil =>
    intro k listed a _ hk _ hB h
    have hkn : k = n := by simpa using hk
    subst hkn
    exact ⟨by simpa [Region.lexHead] using hB, h⟩
  | cons o l ih =>
    intro k listed a hl hk inv hB h
    have h0 : ops[k]? = some o := by simpa using (hl 0 (by simp)).symm
    simp only [List.length_cons, Region.lexHead, Bool.and_eq_true] at hB
    obtain ⟨⟨hr, hf⟩, hB'⟩ := hB
    simp only [List.length_cons] at hk
    have hkn : k < n := by omega
    have hr' : k ∈ Region.ready md ops listed := by simpa using hr
    have hst : qOp P ops C k (wpQuiet P ops C Lq l) a := by unfold qOp; simp only [h0]; exact h
    obtain ⟨v, hy, hK⟩ := yieldsIn_of_qOp h0 hst
    refine headAny_first h0 (Region.noSelect_spec hsel) hs hc hn hkn (fun listed' a' hL => seqB_ready hL.1) l.length listed a inv (Region.free_spec h0 hf) hr' hy ?_
    refine ih (k + 1) _ _ (fun j hj => ?_) (by omega) (inv.set hr' hkn) hB' hK
    have := hl (j + 1) (by simp; omega)
    simpa [Nat.add_assoc, Nat.add_comm 1 j] using this

/-- The head is quiet in the class C; behind it the tail is walked in every world of the class. -/
theorem wp_region_qt {id : Nat} {Q : Exit → Act → World → Prop} {a : Act} {w : World} {l : List Oper} (C : World → Prop) (n : Nat) (hm : P.follows .mixedOrders = true) (hB : Region.lexTailB .any l.toArray n = true) (hC : C w.drew)
    (h : wpQuiet P l.toArray C (fun a' => ∀ w', C w' → wpList P l.toArray Q (l.drop n) a' w') (l.take n) a) : (Code.region id l.toArray true).wp P Q a w := by
  simp only [Region.lexTailB, Bool.and_eq_true, decide_eq_true_eq] at hB
  obtain ⟨⟨⟨⟨hsel, hn⟩, hs⟩, hc⟩, hlex⟩ := hB
  have hn' : n < l.length := by simpa using hn
  have htl : (l.take n).length = n := by simp; omega
  have hdl : (l.drop n).length = l.toArray.size - n := by simp
  have inv0 : HeadInv .any l.toArray n (Array.replicate l.toArray.size false) :=
    ⟨by simp, fun j oj _ hl => (by rw [getD_replicate_false] at hl; cases hl), fun t _ ht => getD_in (by simpa using ht) (getD_replicate_false _ _)⟩
  have H := headAny_lex (C := C) (md := .any) (g := l.toArray.size - n) hsel hs hc hn (l.take n) 0 _ a (fun j hj => by
    have hj' : j < n := by rw [htl] at hj; exact hj
    simp [hj']) (by simpa using htl) inv0 (by rw [htl]; exact hlex) h
  refine wp_region_any hm ?_
  have := any_of_headAny (Q' := Q) (g := l.toArray.size - n) (fun listed a' w' hw' hL => by
    have := wpAny_of_seq (md := .any) (Q' := Q) (l.drop n) n listed a' w' (fun j => by simp [List.getElem?_drop]) (by rw [hdl]; exact hL.1) (hL.2 w' hw')
    rwa [hdl] at this) _ _ _ _ hC H
  rw [htl, show n + (l.toArray.size - n) = l.toArray.size by omega] at this
  exact this
end

/-! ### The class 'the world has grown since W' -/
/-- A world that has grown since W. -/
structure ExtOf (W : World) where
  w : World
  h : Ext W w
instance (W : World) : Inhabited (ExtOf W) := ⟨⟨W, Ext.refl W⟩⟩
theorem cell_lt {w : World} {a : Addr} {v : Value} (h : w.cell? a = some v) : a.block < w.heap.size := by
  rcases Nat.lt_or_ge a.block w.heap.size with h' | h'
  · exact h'
  · simp [World.cell?, Array.getElem?_eq_none h'] at h
theorem ExtOf.cell {W : World} (x : ExtOf W) {b o : Nat} {v : Value} (h : W.cell? ⟨b, o, none⟩ = some v) : x.w.cell? ⟨b, o, none⟩ = some v := by
  rw [x.h.cell o (cell_lt h)]; exact h
theorem Ext.cellv {W W' : World} (x : Ext W W') {b o : Nat} {v : Value} (h : W.cell? ⟨b, o, none⟩ = some v) : W'.cell? ⟨b, o, none⟩ = some v := by
  rw [x.cell o (cell_lt h)]; exact h
theorem calls_ext {P : Program} {f : FuncId} {args : Array Value} {W : World} {x : ExtOf W} {v : Value}
    (h : Calls P f args x.w fun e w' => e = .returned v ∧ Ext x.w w') : Calls P f args x.w fun e w'' => e = .returned v ∧ ∃ y : ExtOf W, w'' = y.w :=
  h.mono fun _ w' ⟨he, hx⟩ => ⟨he, ⟨w', x.h.trans hx⟩, rfl⟩
theorem calls_ext_same {P : Program} {f : FuncId} {args : Array Value} {W : World} {x : ExtOf W} {v : Value}
    (h : Calls P f args x.w fun e w' => e = .returned v ∧ w' = x.w) : Calls P f args x.w fun e w'' => e = .returned v ∧ ∃ y : ExtOf W, w'' = y.w :=
  h.mono fun _ _ ⟨he, hx⟩ => ⟨he, x, hx⟩
theorem ext_of_ex {W w' : World} (h : ∃ x : ExtOf W, w' = x.w) : Ext W w' := by obtain ⟨x, rfl⟩ := h; exact x.h
theorem cbool {P : Program} {f : FuncId} {args : Array Value} {w : World} {a b : Bool} {R : World → Prop} (h : Calls P f args w fun e w' => e = .returned (.bool a) ∧ R w') (hab : a = b) : Calls P f args w fun e w' => e = .returned (.bool b) ∧ R w' :=
  h.mono fun _ _ ⟨he, hr⟩ => ⟨by rw [he, hab], hr⟩
theorem cint {P : Program} {f : FuncId} {args : Array Value} {w : World} {k : IntKind} {a b : Int} {R : World → Prop} (h : Calls P f args w fun e w' => e = .returned (.int k a) ∧ R w') (hab : a = b) : Calls P f args w fun e w' => e = .returned (.int k b) ∧ R w' :=
  h.mono fun _ _ ⟨he, hr⟩ => ⟨by rw [he, hab], hr⟩
theorem wp_region_qx {P : Program} {id : Nat} {Q : Exit → Act → World → Prop} {a : Act} {w : World} {l : List Oper} (hm : P.follows .mixedOrders = true) (hB : Region.lexB .any l.toArray = true)
    (h : wpQuiet P l.toArray (fun w' => ∃ x : ExtOf w, w' = x.w) (fun a' => ∀ w', (∃ x : ExtOf w, w' = x.w) → Q .normal a' w') l a) : (Code.region id l.toArray true).wp P Q a w :=
  wp_region_quiet (C := fun w' => ∃ x : ExtOf w, w' = x.w) hm hB ⟨⟨w.drew, (Ext.refl w).drew⟩, rfl⟩ (by simpa using h)
theorem wp_region_qxt {P : Program} {id : Nat} {Q : Exit → Act → World → Prop} {a : Act} {w : World} {l : List Oper} (n : Nat) (hm : P.follows .mixedOrders = true) (hB : Region.lexTailB .any l.toArray n = true)
    (h : wpQuiet P l.toArray (fun w' => ∃ x : ExtOf w, w' = x.w) (fun a' => ∀ w', (∃ x : ExtOf w, w' = x.w) → wpList P l.toArray Q (l.drop n) a' w') (l.take n) a) : (Code.region id l.toArray true).wp P Q a w :=
  wp_region_qt (fun w' => ∃ x : ExtOf w, w' = x.w) n hm hB ⟨⟨w.drew, (Ext.refl w).drew⟩, rfl⟩ h
end Go.Proofs.YtadncjpknckaaaaGreatDoor
namespace Go.Proofs.YtadncjpknckaaaaGreatDoor
open Go.RowKit
section
variable {α : Type} {k : Nat} {enc : α → List Value}
theorem OwnK.rdn (hk : ∀ x, (enc x).length = k) {B : Nat} {e : TypeId} {w : World} {v : Value} {xs : List α} (h : OwnK k enc B e w v xs) : ∃ a n cap, n = xs.length ∧ v = .slice a n cap ∧ RdK k enc w a n cap xs := by
  obtain ⟨a, cap, hv, hr⟩ := OwnK.rd hk h
  exact ⟨a, _, cap, rfl, hv, hr⟩
theorem run_appN {P : Program} (w00 w : World) (ys : List α) (t ty : TypeId) (e : TypeId) {z : Value} {bytes : Nat} (ht : P.underlying t = some (.slice e))
    (hinf : (P.info? e).map (fun i => (i.zero, i.size, i.bytes)) = some (some z, k, bytes)) (hzs : z.cells.size = k) (hk0 : 0 < k)
    (v : Value) (xs : List α) (hown : OwnK k enc w00.heap.size e w v xs) (hx0 : Ext w00 w) (ad : Option Addr) (n cap : Nat) (hrd : RdK k enc w ad n cap ys)
    (hlen : ∀ y, (enc y).length = k) (h1 : ∀ y, ∀ u ∈ enc y, u.oneCell' = true) (hN : (xs.length + n) * bytes ≤ 140737488355328) (hmax : xs.length + n ≤ maxLen) :
    ∃ v' w', (Builtin.append_ #[t, t] ty #[v, .slice ad n cap]).run P w = .ok v' w' ∧ OwnK k enc w00.heap.size e w' v' (xs ++ ys) ∧ Ext w00 w' ∧ w.grownBy w' v.ownBlock := by
  obtain ⟨i, hi, hz0, hz1, hz2⟩ := info_parts hinf
  cases ad with
  | none =>
    have hc := hrd.isnil rfl
    have hn : n = 0 := by have := hrd.le; omega
    subst hn; subst hc
    have hy : ys = [] := List.eq_nil_of_length_eq_zero hrd.len
    subst hy
    exact ⟨v, w, run_append_owned_none (P := P) (w := w) w00.heap.size t ty e i k ht hi v xs.length _ hown, by rw [List.append_nil]; exact hown, hx0, rfl, rfl, rfl, Nat.le_refl _, fun _ _ _ => rfl⟩
  | some ad =>
    have hl := hrd.len
    have h1' : ∀ u ∈ ys.flatMap enc, u.oneCell' = true := fun u hu => by
      obtain ⟨y, _, hy⟩ := List.mem_flatMap.1 hu
      exact h1 y u hy
    have hll : (ys.flatMap enc).length = n * k := by rw [length_flatMap_enc hlen, hl]
    obtain ⟨v', w', hr, h2, h3, _⟩ := run_append_own (P := P) w w00.heap.size t ty e i z k bytes ht hi hz0 hz1 hz2 hzs hk0 v xs.length (xs.flatMap enc) hown ad n cap (ys.flatMap enc) hll (hrd.cells hlen hk0) h1' hmax hN hx0.le
    exact ⟨v', w', hr, OwnK.of_row h2 (by simp [hl]) (by simp), Ext.grown hx0 h3 fun j hj => (World.ownsRow.lt hown j hj).1, h3⟩
/-- append of one element that is written out. -/
theorem wp_appC {P : Program} {ops : Array Oper} {rest : List Oper} {o : Oper} {a : Act} {Q : Exit → Act → World → Prop} (w00 w0 : World) (y : α) (cs : Array Value) (hcs : (enc y).toArray = cs) (hgd : o.guard = none) (s x : Operand) (t : TypeId)
    (ho : o.op = .call { callee := .builtin .append, args := #[s, x], argTypes := #[t, t] }) (e : TypeId) {z : Value} {bytes : Nat} (ht : P.underlying t = some (.slice e))
    (hinf : (P.info? e).map (fun i => (i.zero, i.size, i.bytes)) = some (some z, k, bytes)) (hzs : z.cells.size = k) (hk0 : 0 < k)
    (v : Value) (xs : List α) (hs : a.eval s = v) (hown : OwnK k enc w00.heap.size e w0 v xs) (hx0 : Ext w00 w0) (hx : a.eval x = .slice (some ⟨w0.heap.size, 0, none⟩) 1 1)
    (hlen : (enc y).length = k) (h1 : ∀ u ∈ enc y, u.oneCell' = true) (hN : (xs.length + 1) * bytes ≤ 140737488355328) (hmax : xs.length + 1 ≤ maxLen)
    (h : ∀ v' w', OwnK k enc w00.heap.size e w' v' (xs ++ [y]) → Ext w00 w' → wpList P ops Q rest (a.put o.dst v') w') :
    wpList P ops Q (o :: rest) a (w0.alloc (.cells cs e)) := by
  subst hcs
  exact wp_app1 w00 w0 y hgd s x t ho e ht hinf hzs hk0 v xs hs hown hx0 hx hlen h1 hN hmax fun v' w' h1 h2 _ => h v' w' h1 h2
theorem step_appN {P : Program} {ops : Array Oper} {o : Oper} {a : Act} {Q : Exit → Act → World → Prop} {E : Prop} {K : Act → World → Prop} (w00 w : World) (ys : List α) (hgd : o.guard = none) (s x : Operand) (t : TypeId)
    (ho : o.op = .call { callee := .builtin .append, args := #[s, x], argTypes := #[t, t] }) (e : TypeId) {z : Value} {bytes : Nat} (ht : P.underlying t = some (.slice e))
    (hinf : (P.info? e).map (fun i => (i.zero, i.size, i.bytes)) = some (some z, k, bytes)) (hzs : z.cells.size = k) (hk0 : 0 < k)
    (v : Value) (xs : List α) (hs : a.eval s = v) (hown : OwnK k enc w00.heap.size e w v xs) (hx0 : Ext w00 w) (ad : Option Addr) (n cap : Nat) (hx : a.eval x = .slice ad n cap) (hrd : RdK k enc w ad n cap ys)
    (hlen : ∀ y, (enc y).length = k) (h1 : ∀ y, ∀ u ∈ enc y, u.oneCell' = true) (hN : (xs.length + n) * bytes ≤ 140737488355328) (hmax : xs.length + n ≤ maxLen)
    (h : ∀ v' w', OwnK k enc w00.heap.size e w' v' (xs ++ ys) → Ext w00 w' → w.grownBy w' v.ownBlock → K (a.put o.dst v') w') :
    if Region.wanted o (yielded ops a.tmps) = true then Oper.wp P o a w K Q else E := by
  have hw : Region.wanted o (yielded ops a.tmps) = true := by simp [Region.wanted, hgd]
  rw [if_pos hw]
  obtain ⟨v', w', hr, h2, h3, h4⟩ := run_appN (P := P) w00 w ys t o.type e ht hinf hzs hk0 v xs hown hx0 ad n cap hrd hlen h1 hN hmax
  unfold Oper.wp execOp
  simp only [ho, resolve, invoke, builtin, Sem.run_bind, Sem.run_pure, Result.andThen_ok, List.map_toArray, List.map_cons, List.map_nil, hs, hx, hr]
  exact h v' w' h2 h3 h4
end
end Go.Proofs.YtadncjpknckaaaaGreatDoor
namespace Go.Proofs.YtadncjpknckaaaaGreatDoor
open Go.RowKit
theorem run_append_zeros {P : Program} (w : World) (t tx ty e : TypeId) (i : TypeInfo) (z : Value) (size bytes : Nat) (ht : P.underlying t = some (.slice e)) (htx : P.underlying tx = some (.int .i64)) (hi : P.info? e = some i) (hz : i.zero = some z)
    (hsize : i.size = size) (hby : i.bytes = bytes) (hzs : z.cells.size = size) (hsz : 0 < size) (n : Nat) (hn : 0 < n) (hn2 : n ≤ 60000) (hb2 : bytes ≤ 1000) :
    (Builtin.append_ #[t, tx] ty #[.slice none 0 0, .int .i64 n]).run P w =
      .ok (.slice (some ⟨w.heap.size, 0, none⟩) n (grownCap w n 0 e)) (w.drew.alloc (.cells (Builtin.zeroCells z.cells n ++ Builtin.zeroCells z.cells (grownCap w n 0 e - n)) e)) := by
  subst hsize; subst hby
  have hw : IntKind.i64.wrap (n : Int) = n := by rw [IntKind.wrap_i64]; omega
  have hlt : ¬ ((n : Int) < 0) := by omega
  have hprod : n * i.bytes ≤ 60000 * 1000 := Nat.mul_le_mul hn2 hb2
  have hbig : ¬ (281474976710656 < (n : Int) * i.bytes) := by
    have : ((n * i.bytes : Nat) : Int) ≤ 60000000 := by omega
    rw [Int.natCast_mul] at this; omega
  have hnc : Builtin.nextslicecap n 0 = n := by simp [Builtin.nextslicecap, hn]
  have h63 : ¬ (9223372036854775807 < (n : Int)) := by omega
  have hmax : max (n : Int) 0 = n := by omega
  have hne : n ≠ 0 := by omega
  have hcap : ¬ (281474976710656 < n * i.bytes) := by omega
  simp [Builtin.append_, run_underlying ht, run_underlying htx, sizeOf, typeInfo, hi, hw, hlt, hbig, hnc, h63, hcap, hz, zeroValue, Builtin.firstCells, asInt, asIntOf, hmax, hne, Question.forced, newRow, grownCap]
  intro h0; rcases Nat.mul_eq_zero.1 h0 with h | h <;> omega
theorem wpList_grow {P : Program} {w : World} {ops : Array Oper} {rest : List Oper} {o : Oper} {a : Act} {Q : Exit → Act → World → Prop} (hgd : o.guard = none) (s x : Operand) (t tx e : TypeId)
    (ho : o.op = .call { callee := .builtin .append, args := #[s, x], argTypes := #[t, tx] }) (i : TypeInfo) (z : Value) (size bytes : Nat) (ht : P.underlying t = some (.slice e)) (htx : P.underlying tx = some (.int .i64)) (hi : P.info? e = some i) (hz : i.zero = some z)
    (hsize : i.size = size) (hby : i.bytes = bytes) (hzs : z.cells.size = size) (hsz : 0 < size) (n : Nat) (hn : 0 < n) (hn2 : n ≤ 60000) (hb2 : bytes ≤ 1000) (hs : a.eval s = .slice none 0 0) (hx : a.eval x = .int .i64 n)
    (h : wpList P ops Q rest (a.put o.dst (.slice (some ⟨w.heap.size, 0, none⟩) n (grownCap w n 0 e))) (w.drew.alloc (.cells (Builtin.zeroCells z.cells n ++ Builtin.zeroCells z.cells (grownCap w n 0 e - n)) e))) : wpList P ops Q (o :: rest) a w := by
  refine wpList_plain hgd fun K hK => ?_
  have hr := run_append_zeros (P := P) w t tx o.type e i z size bytes ht htx hi hz hsize hby hzs hsz n hn hn2 hb2
  unfold Oper.wp execOp
  simp only [ho, resolve, invoke, builtin, Sem.run_bind, Sem.run_pure, Result.andThen_ok, List.map_toArray, List.map_cons, List.map_nil, hs, hx, hr]
  exact hK _ _ h
theorem subA_zero (k : Nat) (a : Option Addr) (cap : Nat) : subA k a cap 0 = a := by
  unfold subA; split
  · rfl
  · cases a <;> simp [Addr.add]
theorem run_sub_0 {P : Program} {t : TypeId} (ht : P.underlying t = some (.slice (P.elem t))) {k : Nat} (hs : ∀ w, (sizeOf (P.elem t)).run P w = .ok k w) (a : Option Addr) (len cap : Nat) (w : World) :
    (Instr.slice t (.slice a len cap) none (some (.int .i64 0)) none).run P w = .ok (.slice a 0 cap) w := by
  have := run_sub_h ht hs a len cap 0 (Nat.zero_le _) w
  rwa [subA_zero] at this
theorem grown_own {α : Type} {k : Nat} {enc : α → List Value} (w : World) (e : TypeId) (z : Value) (hz : z.cells.size = k) (n : Nat) (hn : n ≤ 60000) :
    OwnK k enc w.heap.size e (w.drew.alloc (.cells (Builtin.zeroCells z.cells n ++ Builtin.zeroCells z.cells (grownCap w n 0 e - n)) e)) (.slice (some ⟨w.heap.size, 0, none⟩) 0 (grownCap w n 0 e)) ([] : List α) := by
  have hge := grownCap_ge w n 0 e
  refine ⟨by simp, .inr ⟨w.heap.size, _, _, rfl, Nat.le_refl _, heap_alloc_new w.drew _, Nat.zero_le _, grownCap_le_maxLen w n 0 e (by unfold maxLen; omega), ?_, by simp⟩⟩
  rw [Array.size_append, size_zeroCells, size_zeroCells, hz, ← Nat.add_mul]; congr 1; omega
/-! ### A slice whose elements are one cell each, that lead on into memory -/
section
variable {β : Type} (R : World → Value → β → Prop)
structure RdV (w : World) (a : Option Addr) (n cap : Nat) (ws : List β) : Prop where
  len : ws.length = n
  le : n ≤ cap
  most : cap ≤ maxLen
  isnil : a = none → cap = 0
  pos : 0 < n → ∃ b off, a = some ⟨b, off, none⟩ ∧ b < w.heap.size ∧ ∀ i x, ws[i]? = some x → ∃ v, w.cell? ⟨b, off + i, none⟩ = some v ∧ R w v x
variable {R}
theorem RdV.ext (hR : ∀ (w w' : World) (v : Value) (x : β), R w v x → Ext w w' → R w' v x) {w w' : World} {a : Option Addr} {n cap : Nat} {ws : List β} (h : RdV R w a n cap ws) (hx : Ext w w') : RdV R w' a n cap ws :=
  ⟨h.len, h.le, h.most, h.isnil, fun hn => let ⟨b, off, ha, hb, hc⟩ := h.pos hn; ⟨b, off, ha, Nat.lt_of_lt_of_le hb hx.le, fun i x hi => let ⟨v, h1, h2⟩ := hc i x hi; ⟨v, by rw [hx.cell _ hb]; exact h1, hR _ _ _ _ h2 hx⟩⟩⟩
theorem RdV.at {w : World} {a : Option Addr} {n cap : Nat} {ws : List β} (h : RdV R w a n cap ws) {i : Nat} (hi : i < n) :
    ∃ b off v x, a = some ⟨b, off, none⟩ ∧ Hid (ws[i]? = some x) ∧ b < w.heap.size ∧ w.cell? ⟨b, off + i, none⟩ = some v ∧ R w v x := by
  obtain ⟨b, off, ha, hb, hc⟩ := h.pos (by omega)
  have hl := h.len
  have hs : ws[i]? = some ws[i] := List.getElem?_eq_getElem (by omega)
  obtain ⟨v, h1, h2⟩ := hc i _ hs
  exact ⟨b, off, v, ws[i], ha, hs, hb, h1, h2⟩
/-- The elements written out in a block that has just been made. -/
theorem RdV.lit {W : World} {vs : List Value} {ws : List β} {b : Nat} (hb : b < W.heap.size) (hc : ∀ j u, vs[j]? = some u → W.cell? ⟨b, j, none⟩ = some u) (hl : vs.length = ws.length) (hm : vs.length ≤ maxLen)
    (hr : ∀ (i : Nat) (v : Value) (x : β), vs[i]? = some v → ws[i]? = some x → R W v x) {n : Nat} (hn : n = ws.length) : RdV R W (some ⟨b, 0, none⟩) n n ws := by
  subst hn
  refine ⟨rfl, Nat.le_refl _, by omega, (fun h => by cases h), fun _ => ⟨b, 0, rfl, hb, fun i x hi => ?_⟩⟩
  have hlt := (List.getElem?_eq_some_iff.1 hi).1
  have hv : vs[i]? = some vs[i] := List.getElem?_eq_getElem (by omega)
  exact ⟨vs[i], by rw [Nat.zero_add]; exact hc i _ hv, hr i _ _ hv hi⟩
end
/-- A word in a cell. -/
def WS (w : World) (v : Value) (x : List Snd) : Prop := ∃ a n cap, v = .slice a n cap ∧ RdS w a n cap x
theorem WS.ext {w w' : World} {v : Value} {x : List Snd} (h : WS w v x) (hx : Ext w w') : WS w' v x :=
  let ⟨a, n, cap, hv, hr⟩ := h; ⟨a, n, cap, hv, hr.ext hx⟩
abbrev RdWs := RdV WS
theorem RdWs.ext {w w' : World} {a : Option Addr} {n cap : Nat} {ws : List (List Snd)} (h : RdWs w a n cap ws) (hx : Ext w w') : RdWs w' a n cap ws := RdV.ext (R := WS) (fun _ _ _ _ h hx => WS.ext h hx) h hx
end Go.Proofs.YtadncjpknckaaaaGreatDoor
namespace Go.Proofs.YtadncjpknckaaaaGreatDoor
open Go.RowKit
section
variable {α : Type} {k : Nat} {enc : α → List Value}
theorem made_list (hk : ∀ x, (enc x).length = k) (hk0 : 0 < k) (z : Array Value) (y : α) (hz : z.toList = enc y) (n : Nat) : (madeCells z (n * k)).toList = (List.replicate n y).flatMap enc := by
  have hzs : z.size = k := by rw [← hk y, ← hz]; simp
  apply List.ext_getElem?
  intro j
  by_cases hj : j < n * k
  · have hq : j / k < n := Nat.div_lt_of_lt_mul (by rwa [Nat.mul_comm])
    have hr : j % k < k := Nat.mod_lt _ hk0
    have hu : (enc y)[j % k]? = some ((enc y)[j % k]'(by rw [hk]; exact hr)) := List.getElem?_eq_getElem _
    have hdm : j / k * k + j % k = j := by rw [Nat.mul_comm]; exact Nat.div_add_mod j k
    have := flatMap_at hk (List.replicate n y) (j / k) y (by simp [hq]) (j % k) _ hu
    rw [hdm] at this
    rw [this, ← hu, ← hz]
    simp [madeCells, hj, hzs, getElem!_def, hr]
  · rw [List.getElem?_eq_none (by simp [madeCells]; omega), List.getElem?_eq_none (by rw [length_flatMap_enc hk]; simp; omega)]
theorem made_own (hk : ∀ x, (enc x).length = k) (hk0 : 0 < k) (w : World) (e : TypeId) (z : Array Value) (y : α) (hz : z.toList = enc y) (n : Nat) (hn : n ≤ 60000) :
    OwnK k enc w.heap.size e (w.alloc (.cells (madeCells z (n * k)) e)) (.slice (some ⟨w.heap.size, 0, none⟩) n n) (List.replicate n y) := by
  have h := World.ownsRow_lit w (madeCells z (n * k)) (e := e) (size := k) n (Nat.le_refl _) (by unfold maxLen; omega) (size_madeCells _ _)
  refine OwnK.of_row h (by simp) ?_
  rw [made_list hk hk0 z y hz]
theorem lit_own (hk : ∀ x, (enc x).length = k) (w : World) (e : TypeId) (xs : List α) (cs : Array Value) (hcs : cs.toList = xs.flatMap enc) {n : Nat} (hn : xs.length = n) (hm : n ≤ 60000) :
    OwnK k enc w.heap.size e (w.alloc (.cells cs e)) (.slice (some ⟨w.heap.size, 0, none⟩) n n) xs := by
  subst hn
  have hs : cs.size = xs.length * k := by rw [← length_flatMap_enc hk xs, ← hcs]; simp
  have h := World.ownsRow_lit w cs (e := e) (size := k) xs.length (Nat.le_refl _) (by unfold maxLen; omega) hs
  exact OwnK.of_row h rfl hcs
theorem run_mk {P : Program} {e : TypeId} {z : Value} {bytes : Nat} (t : TypeId) (ht : P.underlying t = some (.slice e)) (hinf : (P.info? e).map (fun i => (i.zero, i.size, i.bytes)) = some (some z, k, bytes)) (n : Nat) (hn : n ≤ 60000) (hb : bytes ≤ 1000) (w : World) :
    (Instr.makeSlice t (.int .i64 (n : Int)) (.int .i64 (n : Int))).run P w = .ok (.slice (some ⟨w.heap.size, 0, none⟩) n n) (w.alloc (.cells (madeCells z.cells (n * k)) e)) := by
  obtain ⟨i, hi, hz0, hz1, hz2⟩ := info_parts hinf
  subst hz1; subst hz2
  have hprod : i.bytes * n ≤ 1000 * 60000 := Nat.mul_le_mul hb hn
  have hb' : (i.bytes : Int) * (n : Int) ≤ 281474976710656 := by
    have h : ((i.bytes * n : Nat) : Int) ≤ 281474976710656 := by omega
    rwa [Int.natCast_mul] at h
  have hr := run_make (P := P) w t e i z ht hi hz0 .i64 .i64 n n (by omega) (Int.le_refl _) hb' (by omega)
  simpa only [Int.toNat_natCast] using hr
theorem OwnK.rdc (hk : ∀ x, (enc x).length = k) {B : Nat} {e : TypeId} {w : World} {a : Option Addr} {n cap : Nat} {xs : List α} (h : OwnK k enc B e w (.slice a n cap) xs) : RdK k enc w a n cap xs := by
  obtain ⟨a', c', hv, hr⟩ := OwnK.rd hk h
  simp only [Value.slice.injEq] at hv
  obtain ⟨rfl, rfl, rfl⟩ := hv
  exact hr
/-- append to a slice without room: a new row; nothing that lay has turned. -/
theorem wp_appF {P : Program} {ops : Array Oper} {rest : List Oper} {o : Oper} {a : Act} {Q : Exit → Act → World → Prop} (w : World) (hgd : Region.wanted o (yielded ops a.tmps) = true) (s x : Operand) (t : TypeId)
    (ho : o.op = .call { callee := .builtin .append, args := #[s, x], argTypes := #[t, t] }) (e : TypeId) {z : Value} {bytes : Nat} (ht : P.underlying t = some (.slice e))
    (hinf : (P.info? e).map (fun i => (i.zero, i.size, i.bytes)) = some (some z, k, bytes)) (hzs : z.cells.size = k) (hk0 : 0 < k) (hk : ∀ x, (enc x).length = k)
    (b : Addr) (n : Nat) (xs : List α) (hs : a.eval s = .slice (some b) n n) (hrx : RdK k enc w (some b) n n xs) (d : Addr) (m c : Nat) (ys : List α) (hx : a.eval x = .slice (some d) m c) (hry : RdK k enc w (some d) m c ys)
    (hm : 0 < m) (hn : n + m ≤ 60000) (hb : bytes ≤ 1000)
    (h : ∀ v' w', OwnK k enc w.heap.size e w' v' (xs ++ ys) → Ext w w' → wpList P ops Q rest (a.put o.dst v') w') : wpList P ops Q (o :: rest) a w := by
  obtain ⟨i, hi, hz0, hz1, hz2⟩ := info_parts hinf
  subst hz1; subst hz2
  refine BigFrame.wpList_want hgd fun K hK => ?_
  have hlx : (xs.flatMap enc).length = n * i.size := by rw [length_flatMap_enc hk, hrx.len]
  have hly : (ys.flatMap enc).length = m * i.size := by rw [length_flatMap_enc hk, hry.len]
  have hprod : (n + m) * i.bytes ≤ 60000 * 1000 := Nat.mul_le_mul hn hb
  have hrun := run_append_grow (P := P) w t o.type e i z ht hi hz0 b n n (xs.flatMap enc) hlx (hrx.cells hk hk0) d m c (ys.flatMap enc) hly (hry.cells hk hk0) (by omega) (by omega) (growslice_fits (by omega) (by omega))
  have hge := grownCap_ge w (n + m) n e
  have hle := grownCap_le_maxLen w (n + m) n e (by unfold maxLen; omega)
  unfold Oper.wp execOp
  simp only [ho, resolve, invoke, builtin, Sem.run_bind, Sem.run_pure, Result.andThen_ok, List.map_toArray, List.map_cons, List.map_nil, hs, hx, hrun]
  refine hK _ _ (h _ _ ⟨length_flatMap_enc hk _, .inr ⟨w.heap.size, _, _, by rw [List.length_append, hrx.len, hry.len], Nat.le_refl _, heap_alloc_new w.drew _, by rw [List.length_append, hrx.len, hry.len]; exact hge, hle, ?_, ?_⟩⟩ ((Ext.refl w).drew.alloc _))
  · simp only [Array.size_append, List.size_toArray, size_zeroCells, hzs, hlx, hly]
    rw [← Nat.add_mul, ← Nat.add_mul]; congr 1; omega
  · rw [List.flatMap_append, List.length_append, hrx.len, hry.len]
    simp only [Array.toList_append]
    rw [List.take_append_of_le_length (by simp [hlx, hly, Nat.add_mul]), List.take_of_length_le (by simp [hlx, hly, Nat.add_mul])]
end
end Go.Proofs.YtadncjpknckaaaaGreatDoor
