/-
  Words of my own for all walks: 'Ext w w'' (the world has grown, nothing that was there has turned); 'RdK' (a slice reads as a list, each element of k cells); 'OwnK' (a slice that the call itself owns reads as a list); sounds as pairs of 32-bit words.
-/
import Derived.WalkKit
import Derived.WalkSpells
import Derived.WalkLawsBesides
import Derived.Outline
import Derived.BigQuiet
import Derived.Below
import Derived.Lib.Hide
import Derived.Laws.AppendOwnNone
namespace Go.Proofs.Ytilkemdecenibaa
open Go.RowKit

/-! ### The world has grown -/
/-- What was there is as it was. -/
structure Ext (w w' : World) : Prop where
  bel : Below w.heap.size w w'
theorem Ext.le {w w' : World} (h : Ext w w') : w.heap.size ≤ w'.heap.size := h.bel.size
theorem Ext.refl (w : World) : Ext w w := ⟨Below.refl _ _⟩
theorem Ext.trans {a b c : World} (h : Ext a b) (k : Ext b c) : Ext a c := ⟨Below.trans h.bel (Below.mono k.bel h.le)⟩
theorem Ext.alloc {a w : World} (h : Ext a w) (o : Obj) : Ext a (w.alloc o) := ⟨Below.alloc h.bel h.le o⟩
theorem Ext.drew {a w : World} (h : Ext a w) : Ext a w.drew := ⟨Below.drew h.bel⟩
theorem Ext.drewN {a w : World} (h : Ext a w) (n : Nat) : Ext a (w.drewN n) := ⟨⟨h.bel.os, h.bel.tape, h.bel.output, h.bel.size, h.bel.block⟩⟩
theorem Ext.setCell {a w : World} (h : Ext a w) {p : Addr} (hp : a.heap.size ≤ p.block) (u : Value) : Ext a (w.setCell p u) := ⟨Below.setCell h.bel hp u⟩
theorem Ext.grown {a w w' : World} {row : Option Nat} (h : Ext a w) (hg : w.grownBy w' row) (hr : ∀ k, row = some k → a.heap.size ≤ k) : Ext a w' := ⟨Below.grown h.bel hg h.le hr⟩
/-- .. and the tape has not gone back (what a comparison that is handed to a sort leaves). -/
structure ExtD (w w' : World) : Prop where
  ext : Ext w w'
  dr : w.drawn ≤ w'.drawn
theorem ExtD.refl (w : World) : ExtD w w := ⟨Ext.refl _, Nat.le_refl _⟩
theorem ExtD.trans {a b c : World} (h : ExtD a b) (k : ExtD b c) : ExtD a c := ⟨h.ext.trans k.ext, Nat.le_trans h.dr k.dr⟩
theorem ExtD.alloc {a w : World} (h : ExtD a w) (o : Obj) : ExtD a (w.alloc o) := ⟨h.ext.alloc o, h.dr⟩
theorem ExtD.drew {a w : World} (h : ExtD a w) : ExtD a w.drew := ⟨h.ext.drew, Nat.le_trans h.dr (Nat.le_succ _)⟩
theorem ExtD.drewN {a w : World} (h : ExtD a w) (n : Nat) : ExtD a (w.drewN n) := ⟨h.ext.drewN n, Nat.le_trans h.dr (Nat.le_add_right _ _)⟩
theorem Ext.cell {w w' : World} (h : Ext w w') {b : Nat} (o : Nat) (hb : b < w.heap.size) : w'.cell? ⟨b, o, none⟩ = w.cell? ⟨b, o, none⟩ := Below.cell (p := ⟨b, o, none⟩) h.bel hb
theorem Ext.frozen {w w' : World} (h : Ext w w') {b : Nat} (o : Nat) (hb : b < w.heap.size) : w'.frozen? ⟨b, o, none⟩ = w.frozen? ⟨b, o, none⟩ := Below.frozen (p := ⟨b, o, none⟩) h.bel hb
theorem Ext.alloc1 (w : World) (o : Obj) : Ext w (w.alloc o) := (Ext.refl w).alloc o

/-! ### A slice reads as a list -/
section
variable {α : Type} (k : Nat) (enc : α → List Value)
/-- The slice value '.slice a n cap' reads, in the world w, as the list xs, each element of k cells. -/
structure RdK (w : World) (a : Option Addr) (n cap : Nat) (xs : List α) : Prop where
  len : xs.length = n
  le : n ≤ cap
  most : cap ≤ maxLen
  isnil : a = none → cap = 0
  pos : 0 < n → ∃ b off, a = some ⟨b, off, none⟩ ∧ b < w.heap.size ∧ ∀ i x, xs[i]? = some x → ∀ j u, (enc x)[j]? = some u → w.cell? ⟨b, off + i * k + j, none⟩ = some u
variable {k enc}
theorem RdK.ext {w w' : World} {a : Option Addr} {n cap : Nat} {xs : List α} (h : RdK k enc w a n cap xs) (hx : Ext w w') : RdK k enc w' a n cap xs :=
  ⟨h.len, h.le, h.most, h.isnil, fun hn => let ⟨b, off, ha, hb, hc⟩ := h.pos hn; ⟨b, off, ha, Nat.lt_of_lt_of_le hb hx.le, fun i x hi j u hu => by rw [hx.cell _ hb]; exact hc i x hi j u hu⟩⟩
theorem RdK.nilS (w : World) : RdK k enc w none 0 0 ([] : List α) := ⟨rfl, Nat.le_refl _, Nat.zero_le _, fun _ => rfl, fun h => absurd h (Nat.lt_irrefl _)⟩

theorem length_flatMap_enc (hk : ∀ x, (enc x).length = k) : ∀ xs : List α, (xs.flatMap enc).length = xs.length * k
  | [] => by simp
  | x :: xs => by simp only [List.flatMap_cons, List.length_append, List.length_cons, length_flatMap_enc hk xs, hk, Nat.add_mul]; omega
theorem flatMap_at (hk : ∀ x, (enc x).length = k) : ∀ (xs : List α) (i : Nat) (x : α), xs[i]? = some x → ∀ j u, (enc x)[j]? = some u → (xs.flatMap enc)[i * k + j]? = some u
  | [], i, x, h, _, _, _ => by simp at h
  | y :: xs, 0, x, h, j, u, hu => by
    simp at h; subst h
    have hj : j < (enc y).length := (List.getElem?_eq_some_iff.1 hu).1
    simp only [List.flatMap_cons, Nat.zero_mul, Nat.zero_add]
    rw [List.getElem?_append_left hj]; exact hu
  | y :: xs, i + 1, x, h, j, u, hu => by
    simp at h
    have hh := flatMap_at hk xs i x h j u hu
    have hl := hk y
    simp only [List.flatMap_cons]
    rw [List.getElem?_append_right (by rw [hl, Nat.add_mul]; omega), hl, Nat.add_mul, show i * k + 1 * k + j - k = i * k + j by omega]
    exact hh
theorem flatMap_take (hk : ∀ x, (enc x).length = k) (xs : List α) (n : Nat) : (xs.take n).flatMap enc = (xs.flatMap enc).take (n * k) := by
  induction xs generalizing n with
  | nil => simp
  | cons x xs ih =>
    cases n with
    | zero => simp
    | succ n =>
      simp only [List.take_succ_cons, List.flatMap_cons, ih]
      rw [List.take_append, hk, Nat.add_mul, Nat.one_mul, show n * k + k - k = n * k by omega, List.take_of_length_le (l := enc x) (by rw [hk]; omega)]

/-! ### A slice that the call itself owns -/
variable (k enc)
def OwnK (B : Nat) (e : TypeId) (w : World) (v : Value) (xs : List α) : Prop := w.ownsRow B e k v xs.length (xs.flatMap enc)
variable {k enc}
theorem OwnK.rd (hk : ∀ x, (enc x).length = k) {B : Nat} {e : TypeId} {w : World} {v : Value} {xs : List α} (h : OwnK k enc B e w v xs) : ∃ a cap, v = .slice a xs.length cap ∧ RdK k enc w a xs.length cap xs := by
  obtain ⟨h1, h2⟩ := h
  rcases h2 with ⟨rfl, h0⟩ | ⟨g, cap, cur, rfl, hg, hh, hc, hm, hs, ht⟩
  · have : xs = [] := List.eq_nil_of_length_eq_zero h0
    subst this
    exact ⟨_, _, rfl, RdK.nilS w⟩
  · have hlt : g < w.heap.size := (Array.getElem?_eq_some_iff.1 hh).1
    refine ⟨_, _, rfl, rfl, hc, hm, (fun h => by cases h), fun _ => ⟨g, 0, rfl, hlt, fun i x hi j u hu => ?_⟩⟩
    have hf := flatMap_at hk xs i x hi j u hu
    rw [← ht, List.getElem?_take] at hf
    split at hf
    · simp only [World.cell?, hh, Nat.zero_add]
      simpa using hf
    · cases hf
theorem OwnK.kept {B : Nat} {e : TypeId} {w w' : World} {v : Value} {xs : List α} (h : OwnK k enc B e w v xs) (hx : Ext w w') : OwnK k enc B e w' v xs := by
  obtain ⟨h1, h2⟩ := h
  refine ⟨h1, ?_⟩
  rcases h2 with h2 | ⟨g, cap, cur, hv, hg, hh, r⟩
  · exact .inl h2
  · exact .inr ⟨g, cap, cur, hv, hg, (Below.block hx.bel g (Array.getElem?_eq_some_iff.1 hh).1).trans hh, r⟩
theorem OwnK.base {B B' : Nat} {e : TypeId} {w : World} {v : Value} {xs : List α} (h : OwnK k enc B e w v xs) (hB : B' ≤ B) : OwnK k enc B' e w v xs := by
  obtain ⟨h1, h2⟩ := h
  refine ⟨h1, ?_⟩
  rcases h2 with h2 | ⟨g, cap, cur, hv, hg, r⟩
  · exact .inl h2
  · exact .inr ⟨g, cap, cur, hv, Nat.le_trans hB hg, r⟩
theorem OwnK.nil (B : Nat) (e : TypeId) (w : World) : OwnK k enc B e w (.slice none 0 0) ([] : List α) := World.ownsRow_nil w B e k
end

/-! ### A part of a slice -/
/-- The address of a part of a slice, from element l on. -/
def subA (k : Nat) (a : Option Addr) (cap l : Nat) : Option Addr := if cap = l then a else a.map (·.add (l * k))
theorem run_sub_lh {P : Program} {t : TypeId} (ht : P.underlying t = some (.slice (P.elem t))) {k : Nat} (hs : ∀ w, (sizeOf (P.elem t)).run P w = .ok k w) (a : Option Addr) (len cap : Nat) (l h : Nat) (h1 : l ≤ h) (h2 : h ≤ cap) (w : World) :
    (Instr.slice t (.slice a len cap) (some (.int .i64 l)) (some (.int .i64 h)) none).run P w = .ok (.slice (subA k a cap l) (h - l) (cap - l)) w := by
  rw [run_slice_lh w t a len cap ht .i64 .i64 l h (by omega) (by omega) (by omega), hs]
  simp [Result.andThen, sliced, subA]
theorem run_sub_h {P : Program} {t : TypeId} (ht : P.underlying t = some (.slice (P.elem t))) {k : Nat} (hs : ∀ w, (sizeOf (P.elem t)).run P w = .ok k w) (a : Option Addr) (len cap : Nat) (h : Nat) (h2 : h ≤ cap) (w : World) :
    (Instr.slice t (.slice a len cap) none (some (.int .i64 h)) none).run P w = .ok (.slice (subA k a cap 0) h cap) w := by
  rw [run_slice_h w t a len cap ht .i64 h (by omega) (by omega), hs]
  simp [Result.andThen, sliced, subA]
theorem run_sub_l {P : Program} {t : TypeId} (ht : P.underlying t = some (.slice (P.elem t))) {k : Nat} (hs : ∀ w, (sizeOf (P.elem t)).run P w = .ok k w) (a : Option Addr) (len cap : Nat) (l : Nat) (h2 : l ≤ len) (w : World) :
    (Instr.slice t (.slice a len cap) (some (.int .i64 l)) none none).run P w = .ok (.slice (subA k a cap l) (len - l) (cap - l)) w := by
  rw [run_slice_l w t a len cap ht .i64 l (by omega) (by omega), hs]
  simp [Result.andThen, sliced, subA]
section
variable {α : Type} {k : Nat} {enc : α → List Value}
theorem RdK.sub {w : World} {a : Option Addr} {n cap : Nat} {xs : List α} (h : RdK k enc w a n cap xs) {l m : Nat} (h1 : l ≤ m) (h2 : m ≤ n) : RdK k enc w (subA k a cap l) (m - l) (cap - l) ((xs.take m).drop l) := by
  have hl := h.len; have hc := h.le; have hm := h.most
  refine ⟨by simp; omega, by omega, by omega, fun h0 => ?_, fun hp => ?_⟩
  · unfold subA at h0
    split at h0
    · omega
    · have := h.isnil (by simpa using h0); omega
  · obtain ⟨b, off, rfl, hb, hcell⟩ := h.pos (by omega)
    refine ⟨b, off + l * k, ?_, hb, fun i x hi j u hu => ?_⟩
    · unfold subA; rw [if_neg (by omega)]
      by_cases h0 : l * k = 0
      · simp [Addr.add, h0]
      · simp [Addr.add, h0]
    · rw [List.getElem?_drop] at hi
      rw [List.getElem?_take] at hi
      split at hi
      · have := hcell _ _ hi j u hu
        rw [Nat.add_mul] at this
        rw [show off + l * k + i * k + j = off + (l * k + i * k) + j by omega]; exact this
      · cases hi
/-- All cells of a slice, as append asks them. -/
theorem RdK.cells {w : World} {ad : Addr} {n cap : Nat} {xs : List α} (h : RdK k enc w (some ad) n cap xs) (hk : ∀ x, (enc x).length = k) (hk0 : 0 < k) : ∀ j u, (xs.flatMap enc)[j]? = some u → w.cell? (ad.add j) = some u := by
  intro j u hu
  have hj : j < xs.length * k := by rw [← length_flatMap_enc hk xs]; exact (List.getElem?_eq_some_iff.1 hu).1
  have hq : j / k < xs.length := Nat.div_lt_of_lt_mul (by rwa [Nat.mul_comm])
  obtain ⟨b, off, ha, _, hc⟩ := h.pos (by rw [← h.len]; exact Nat.lt_of_le_of_lt (Nat.zero_le _) hq)
  cases ha
  have hx : xs[j / k]? = some xs[j / k] := List.getElem?_eq_getElem hq
  have hr : j % k < (enc xs[j / k]).length := by rw [hk]; exact Nat.mod_lt _ hk0
  have hv : (enc xs[j / k])[j % k]? = some ((enc xs[j / k])[j % k]) := List.getElem?_eq_getElem hr
  have hdm : j / k * k + j % k = j := by rw [Nat.mul_comm]; exact Nat.div_add_mod j k
  have h1 := flatMap_at hk xs (j / k) _ hx (j % k) _ hv
  rw [hdm, hu] at h1
  have h2 := hc _ _ hx _ _ hv
  rw [Nat.add_assoc, hdm, ← h1] at h2
  unfold Addr.add
  by_cases h0 : j = 0
  · subst h0; simpa using h2
  · simpa [h0] using h2
end

/-! ### append on a slice that the call itself owns -/
theorem cell_new_list (w : World) (cs : List Value) (e : TypeId) (j : Nat) (u : Value) (h : cs[j]? = some u) : (w.alloc (.cells cs.toArray e)).cell? ((⟨w.heap.size, 0, none⟩ : Addr).add j) = some u := by
  have hh : (w.alloc (.cells cs.toArray e)).heap[w.heap.size]? = some (.cells cs.toArray e (0, 0)) := by show (w.heap.push _)[w.heap.size]? = _; simp
  unfold Addr.add
  by_cases hj : j = 0
  · subst hj; simp only [if_pos, World.cell?, hh]; simpa using h
  · simp only [if_neg hj, World.cell?, hh]; simpa using h
/-- append never turns the tape back. -/
theorem append_drawn {P : Program} (w : World) (base : Nat) (t ty e : TypeId) (i : TypeInfo) (z : Value) (size bytes : Nat) (ht : P.underlying t = some (.slice e)) (hi : P.info? e = some i) (hz : i.zero = some z)
    (hsize : i.size = size) (hby : i.bytes = bytes) (v : Value) (n : Nat) (xs : List Value) (hown : w.ownsRow base e size v n xs)
    (a : Addr) (m c : Nat) (news : List Value) (hl : news.length = m * size) (hnews : ∀ j u, news[j]? = some u → w.cell? (a.add j) = some u) (h1 : ∀ u ∈ news, u.oneCell' = true)
    (h63 : n + m ≤ maxLen) (hbytes : (n + m) * bytes ≤ 140737488355328) {v' : Value} {w' : World} (hrun : (Builtin.append_ #[t, t] ty #[v, .slice (some a) m c]).run P w = .ok v' w') : w.drawn ≤ w'.drawn := by
  subst hsize; subst hby
  have hsmall : n + m ≤ 9223372036854775807 := by simp only [maxLen] at h63; omega
  rcases hown.2 with ⟨rfl, rfl⟩ | ⟨g, cap, cur, rfl, _, hg, hnc, _, hcs, _⟩
  · by_cases hm : m = 0
    · subst hm
      simp [Builtin.append_, run_underlying ht, sizeOf, typeInfo, hi, Builtin.lenOf, Builtin.firstCells, loadCells, loadCellsFrom] at hrun
      rw [hrun.2]; exact Nat.le_refl _
    · rw [run_append_nil (P := P) w t ty e i z ht hi hz a m c news hl hnews (by omega) (by omega) (by simp only [Nat.zero_add] at hbytes; omega)] at hrun
      cases hrun; exact Nat.le_succ _
  · by_cases hroom : n + m ≤ cap
    · have hfit : n * i.size + news.length ≤ cur.size := by rw [hl, hcs, ← Nat.add_mul]; exact Nat.mul_le_mul_right _ hroom
      rw [run_append_room (P := P) w t ty e i ht hi g n cap cur hg a m c news hl hnews h1 hroom hfit] at hrun
      cases hrun; exact Nat.le_refl _
    · have holds : ∀ j u, xs[j]? = some u → w.cell? ((⟨g, 0, none⟩ : Addr).add j) = some u := World.ownsRow.cells hown (g := g) rfl
      rw [run_append_grow (P := P) w t ty e i z ht hi hz ⟨g, 0, none⟩ n cap xs hown.1 holds a m c news hl hnews (by omega) (by omega) (growslice_fits (by omega) hbytes)] at hrun
      cases hrun; exact Nat.le_succ _
theorem wpList_append_dr {P : Program} (w : World) {ops : Array Oper} {rest : List Oper} {o : Oper} {a : Act} {Q : Exit → Act → World → Prop} (hgd : o.guard = none) (s x : Operand) (t : TypeId)
    (ho : o.op = .call { callee := .builtin .append, args := #[s, x], argTypes := #[t, t] })
    (base : Nat) (e : TypeId) (i : TypeInfo) (z : Value) (size bytes : Nat) (ht : P.underlying t = some (.slice e)) (hi : P.info? e = some i) (hz : i.zero = some z)
    (hsize : i.size = size) (hby : i.bytes = bytes) (hzs : z.cells.size = size) (hsz : 0 < size)
    (v : Value) (n : Nat) (xs : List Value) (hs : a.eval s = v) (hown : w.ownsRow base e size v n xs)
    (ad : Addr) (m c : Nat) (news : List Value) (hx : a.eval x = .slice (some ad) m c) (hl : news.length = m * size) (hnews : ∀ j u, news[j]? = some u → w.cell? (ad.add j) = some u) (h1 : ∀ u ∈ news, u.oneCell' = true)
    (h63 : n + m ≤ maxLen) (hbytes : (n + m) * bytes ≤ 140737488355328) (hbase : base ≤ w.heap.size)
    (h : ∀ v' w', w'.ownsRow base e size v' (n + m) (xs ++ news) → w.grownBy w' v.ownBlock → w.drawn ≤ w'.drawn → wpList P ops Q rest (a.put o.dst v') w') : wpList P ops Q (o :: rest) a w := by
  refine wpList_plain hgd fun K hK => ?_
  obtain ⟨v', w', hr, h2, h3, _⟩ := run_append_own (P := P) w base t o.type e i z size bytes ht hi hz hsize hby hzs hsz v n xs hown ad m c news hl hnews h1 h63 hbytes hbase
  have hd := append_drawn w base t o.type e i z size bytes ht hi hz hsize hby v n xs hown ad m c news hl hnews h1 h63 hbytes hr
  unfold Oper.wp execOp
  simp only [ho, resolve, invoke, builtin, Sem.run_bind, Sem.run_pure, Result.andThen_ok, List.map_toArray, List.map_cons, List.map_nil, hs, hx, hr]
  exact hK _ _ (h v' w' h2 h3 hd)
section
variable {α : Type} {k : Nat} {enc : α → List Value}
theorem OwnK.of_row {B : Nat} {e : TypeId} {w : World} {v : Value} {xs : List α} {n : Nat} {cs : List Value} (h : w.ownsRow B e k v n cs) (hn : n = xs.length) (hc : cs = xs.flatMap enc) : OwnK k enc B e w v xs := by
  subst hn; subst hc; exact h
theorem wp_app1 {P : Program} {ops : Array Oper} {rest : List Oper} {o : Oper} {a : Act} {Q : Exit → Act → World → Prop} (w00 w0 : World) (y : α) (hgd : o.guard = none) (s x : Operand) (t : TypeId)
    (ho : o.op = .call { callee := .builtin .append, args := #[s, x], argTypes := #[t, t] }) (e : TypeId) {z : Value} {bytes : Nat} (ht : P.underlying t = some (.slice e))
    (hinf : (P.info? e).map (fun i => (i.zero, i.size, i.bytes)) = some (some z, k, bytes)) (hzs : z.cells.size = k) (hk0 : 0 < k)
    (v : Value) (xs : List α) (hs : a.eval s = v) (hown : OwnK k enc w00.heap.size e w0 v xs) (hx0 : Ext w00 w0) (hx : a.eval x = .slice (some ⟨w0.heap.size, 0, none⟩) 1 1)
    (hlen : (enc y).length = k) (h1 : ∀ u ∈ enc y, u.oneCell' = true) (hN : (xs.length + 1) * bytes ≤ 140737488355328) (hmax : xs.length + 1 ≤ maxLen)
    (h : ∀ v' w', OwnK k enc w00.heap.size e w' v' (xs ++ [y]) → Ext w00 w' → (w0.alloc (.cells (enc y).toArray e)).grownBy w' v.ownBlock → wpList P ops Q rest (a.put o.dst v') w') :
    wpList P ops Q (o :: rest) a (w0.alloc (.cells (enc y).toArray e)) := by
  obtain ⟨i, hi, hz0, hz1, hz2⟩ := info_parts hinf
  refine wpList_append_dr _ hgd s x t ho w00.heap.size e i z k bytes ht hi hz0 hz1 hz2 hzs hk0 v xs.length (xs.flatMap enc) hs (World.ownsRow.alloc hown _) ⟨w0.heap.size, 0, none⟩ 1 1 (enc y) hx (by omega) (fun j u hu => cell_new_list _ _ _ _ _ hu) h1 hmax hN (by have := hx0.le; simp; omega) ?_
  intro v' w' h2 h3 _
  refine h v' w' (OwnK.of_row h2 (by simp) (by simp)) (Ext.grown (hx0.alloc _) h3 fun j hj => (World.ownsRow.lt hown j hj).1) h3
/-- append of all elements of a slice that can be read. -/
theorem wp_appN {P : Program} {ops : Array Oper} {rest : List Oper} {o : Oper} {a : Act} {Q : Exit → Act → World → Prop} (w00 w : World) (ys : List α) (hgd : o.guard = none) (s x : Operand) (t : TypeId)
    (ho : o.op = .call { callee := .builtin .append, args := #[s, x], argTypes := #[t, t] }) (e : TypeId) {z : Value} {bytes : Nat} (ht : P.underlying t = some (.slice e))
    (hinf : (P.info? e).map (fun i => (i.zero, i.size, i.bytes)) = some (some z, k, bytes)) (hzs : z.cells.size = k) (hk0 : 0 < k)
    (v : Value) (xs : List α) (hs : a.eval s = v) (hown : OwnK k enc w00.heap.size e w v xs) (hx0 : Ext w00 w) (ad : Option Addr) (n cap : Nat) (hx : a.eval x = .slice ad n cap) (hrd : RdK k enc w ad n cap ys)
    (hlen : ∀ y, (enc y).length = k) (h1 : ∀ y, ∀ u ∈ enc y, u.oneCell' = true) (hN : (xs.length + n) * bytes ≤ 140737488355328) (hmax : xs.length + n ≤ maxLen)
    (h : ∀ v' w', OwnK k enc w00.heap.size e w' v' (xs ++ ys) → Ext w00 w' → w.grownBy w' v.ownBlock → wpList P ops Q rest (a.put o.dst v') w') :
    wpList P ops Q (o :: rest) a w := by
  obtain ⟨i, hi, hz0, hz1, hz2⟩ := info_parts hinf
  cases ad with
  | none =>
    have hc := hrd.isnil rfl
    have hn : n = 0 := by have := hrd.le; omega
    subst hn; subst hc
    have hy : ys = [] := List.eq_nil_of_length_eq_zero hrd.len
    subst hy
    refine wpList_append_own_none hgd s x t ho w00.heap.size e i k ht hi v xs.length _ hs hown hx (h v w (by rw [List.append_nil]; exact hown) hx0 ⟨rfl, rfl, rfl, Nat.le_refl _, fun _ _ _ => rfl⟩)
  | some ad =>
    have hl := hrd.len
    refine wpList_append_dr _ hgd s x t ho w00.heap.size e i z k bytes ht hi hz0 hz1 hz2 hzs hk0 v xs.length (xs.flatMap enc) hs hown ad n cap (ys.flatMap enc) hx (by rw [length_flatMap_enc hlen, hl]) (hrd.cells hlen hk0) (fun u hu => ?_) hmax hN hx0.le ?_
    · obtain ⟨y, _, hy⟩ := List.mem_flatMap.1 hu
      exact h1 y u hy
    · intro v' w' h2 h3 _
      exact h v' w' (OwnK.of_row h2 (by simp [hl]) (by simp)) (Ext.grown hx0 h3 fun j hj => (World.ownsRow.lt hown j hj).1) h3
end

/-! ### Sounds -/
/-- A sound: the features with the value +, and those with the value -. -/
structure Snd where
  p : BitVec 32
  m : BitVec 32
deriving DecidableEq
def Snd.enc (s : Snd) : List Value := [.int .u32 s.p.toNat, .int .u32 s.m.toNat]
theorem Snd.len (s : Snd) : s.enc.length = 2 := rfl
abbrev RdS := RdK 2 Snd.enc
abbrev OwnS := OwnK 2 Snd.enc
theorem RdK.snd {w : World} {a : Option Addr} {n cap : Nat} {xs : List Snd} (h : RdK 2 Snd.enc w a n cap xs) {i : Nat} (hi : i < n) :
    ∃ b off s, a = some ⟨b, off, none⟩ ∧ Hid (xs[i]? = some s) ∧ b < w.heap.size ∧ w.cell? ⟨b, off + i * 2, none⟩ = some (.int .u32 s.p.toNat) ∧ w.cell? ⟨b, off + i * 2 + 1, none⟩ = some (.int .u32 s.m.toNat) := by
  obtain ⟨b, off, ha, hb, hc⟩ := h.pos (by omega)
  have hl := h.len
  have hs : xs[i]? = some xs[i] := List.getElem?_eq_getElem (by omega)
  exact ⟨b, off, xs[i], ha, hs, hb, by simpa using hc i _ hs 0 _ rfl, hc i _ hs 1 _ rfl⟩

/-! ### 32-bit words -/
theorem u32_lt (x : BitVec 32) : (x.toNat : Int) < 4294967296 := by have := x.isLt; omega
theorem ofInt_u32 (x : BitVec 32) : BitVec.ofInt 32 (x.toNat : Int) = x := by
  apply BitVec.eq_of_toNat_eq; rw [BitVec.ofInt_natCast, BitVec.toNat_ofNat]; exact Nat.mod_eq_of_lt x.isLt
theorem wrap_u32 (x : BitVec 32) : IntKind.u32.wrap (x.toNat : Int) = x.toNat := by rw [IntKind.wrap_u32']; have := x.isLt; omega
@[go_sem] theorem bits_and_u32 (x y : BitVec 32) : bits .and .u32 (x.toNat : Int) (y.toNat : Int) = ((x &&& y).toNat : Int) := by
  show IntKind.u32.wrap ((BitVec.ofInt 32 (x.toNat : Int) &&& BitVec.ofInt 32 (y.toNat : Int)).toNat : Int) = _
  rw [ofInt_u32, ofInt_u32, wrap_u32]
@[go_sem] theorem bits_or_u32 (x y : BitVec 32) : bits .or .u32 (x.toNat : Int) (y.toNat : Int) = ((x ||| y).toNat : Int) := by
  show IntKind.u32.wrap ((BitVec.ofInt 32 (x.toNat : Int) ||| BitVec.ofInt 32 (y.toNat : Int)).toNat : Int) = _
  rw [ofInt_u32, ofInt_u32, wrap_u32]
@[go_sem] theorem bits_xor_u32 (x y : BitVec 32) : bits .xor .u32 (x.toNat : Int) (y.toNat : Int) = ((x ^^^ y).toNat : Int) := by
  show IntKind.u32.wrap ((BitVec.ofInt 32 (x.toNat : Int) ^^^ BitVec.ofInt 32 (y.toNat : Int)).toNat : Int) = _
  rw [ofInt_u32, ofInt_u32, wrap_u32]
@[go_sem] theorem bits_andNot_u32 (x y : BitVec 32) : bits .andNot .u32 (x.toNat : Int) (y.toNat : Int) = ((x &&& ~~~y).toNat : Int) := by
  show IntKind.u32.wrap ((BitVec.ofInt 32 (x.toNat : Int) &&& ~~~BitVec.ofInt 32 (y.toNat : Int)).toNat : Int) = _
  rw [ofInt_u32, ofInt_u32, wrap_u32]
theorem u32_eq (x y : BitVec 32) : ((x.toNat : Int) = (y.toNat : Int)) ↔ x = y := ⟨fun h => BitVec.eq_of_toNat_eq (by omega), fun h => by rw [h]⟩
theorem u32_zero (x : BitVec 32) : ((x.toNat : Int) = 0) ↔ x = 0#32 := ⟨fun h => BitVec.eq_of_toNat_eq (by simpa using h), fun h => by rw [h]; rfl⟩
theorem u32_beq0 (x : BitVec 32) : ((x.toNat : Int) == 0) = (x == 0#32) := by
  rw [Bool.eq_iff_iff]; simp only [beq_iff_eq]; exact u32_zero x
theorem u32_shr24 (x : BitVec 32) : (x.toNat : Int) / 16777216 = ((x >>> 24).toNat : Int) := by
  rw [BitVec.toNat_ushiftRight, Nat.shiftRight_eq_div_pow]; norm_cast
end Go.Proofs.Ytilkemdecenibaa
