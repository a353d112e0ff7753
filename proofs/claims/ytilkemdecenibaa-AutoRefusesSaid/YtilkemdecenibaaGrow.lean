/-
  slices.Grow of a nil slice: a law for append of made zero values.
-/
import Derived.Test.YtilkemdecenibaaBase
namespace Go.Proofs.Ytilkemdecenibaa
open Go.RowKit
theorem run_append_zeros {P : Program} (w : World) (t tx ty e : TypeId) (i : TypeInfo) (z : Value) (size bytes : Nat) (ht : P.underlying t = some (.slice e)) (htx : P.underlying tx = some (.int .i64)) (hi : P.info? e = some i) (hz : i.zero = some z)
    (hsize : i.size = size) (hby : i.bytes = bytes) (hzs : z.cells.size = size) (hsz : 0 < size) (n : Nat) (hn : 0 < n) (hn2 : n ≤ 60000) (hb2 : bytes ≤ 1000) :
    (Builtin.append_ #[t, tx] ty #[.slice none 0 0, .int .i64 n]).run P w =
      .ok (.slice (some ⟨w.heap.size, 0, none⟩) n (grownCap w n 0 e)) (w.drew.alloc (.cells (Builtin.zeroCells z.cells n ++ Builtin.zeroCells z.cells (grownCap w n 0 e - n)) e)) := by
  subst hsize; subst hby
  have hw : IntKind.i64.wrap (n : Int) = n := by rw [IntKind.wrap_i64]; omega
  have hlt : ¬ ((n : Int) < 0) := by omega
  have hprod : n * i.bytes ≤ 60000 * 1000 := Nat.mul_le_mul hn2 hb2
  have hbig : ¬ (281474976710656 < (n : Int) * i.bytes) := by
    have : ((n * i.bytes : Nat) : Int) ≤ 60000000 := by omega
    rw [Int.natCast_mul] at this; omega
  have hnc : Builtin.nextslicecap n 0 = n := by simp [Builtin.nextslicecap, hn]
  have h63 : ¬ (9223372036854775807 < (n : Int)) := by omega
  have hmax : max (n : Int) 0 = n := by omega
  have hne : n ≠ 0 := by omega
  have hcap : ¬ (281474976710656 < n * i.bytes) := by omega
  simp [Builtin.append_, run_underlying ht, run_underlying htx, sizeOf, typeInfo, hi, hw, hlt, hbig, hnc, h63, hcap, hz, zeroValue, Builtin.firstCells, asInt, asIntOf, hmax, hne, Question.forced, newRow, grownCap]
  intro h0; rcases Nat.mul_eq_zero.1 h0 with h | h <;> omega
theorem wpList_grow {P : Program} {w : World} {ops : Array Oper} {rest : List Oper} {o : Oper} {a : Act} {Q : Exit → Act → World → Prop} (hgd : o.guard = none) (s x : Operand) (t tx e : TypeId)
    (ho : o.op = .call { callee := .builtin .append, args := #[s, x], argTypes := #[t, tx] }) (i : TypeInfo) (z : Value) (size bytes : Nat) (ht : P.underlying t = some (.slice e)) (htx : P.underlying tx = some (.int .i64)) (hi : P.info? e = some i) (hz : i.zero = some z)
    (hsize : i.size = size) (hby : i.bytes = bytes) (hzs : z.cells.size = size) (hsz : 0 < size) (n : Nat) (hn : 0 < n) (hn2 : n ≤ 60000) (hb2 : bytes ≤ 1000) (hs : a.eval s = .slice none 0 0) (hx : a.eval x = .int .i64 n)
    (h : wpList P ops Q rest (a.put o.dst (.slice (some ⟨w.heap.size, 0, none⟩) n (grownCap w n 0 e))) (w.drew.alloc (.cells (Builtin.zeroCells z.cells n ++ Builtin.zeroCells z.cells (grownCap w n 0 e - n)) e))) : wpList P ops Q (o :: rest) a w := by
  refine wpList_plain hgd fun K hK => ?_
  have hr := run_append_zeros (P := P) w t tx o.type e i z size bytes ht htx hi hz hsize hby hzs hsz n hn hn2 hb2
  unfold Oper.wp execOp
  simp only [ho, resolve, invoke, builtin, Sem.run_bind, Sem.run_pure, Result.andThen_ok, List.map_toArray, List.map_cons, List.map_nil, hs, hx, hr]
  exact hK _ _ h
theorem subA_zero (k : Nat) (a : Option Addr) (cap : Nat) : subA k a cap 0 = a := by
  unfold subA; split
  · rfl
  · cases a <;> simp [Addr.add]
theorem run_sub_0 {P : Program} {t : TypeId} (ht : P.underlying t = some (.slice (P.elem t))) {k : Nat} (hs : ∀ w, (sizeOf (P.elem t)).run P w = .ok k w) (a : Option Addr) (len cap : Nat) (w : World) :
    (Instr.slice t (.slice a len cap) none (some (.int .i64 0)) none).run P w = .ok (.slice a 0 cap) w := by
  have := run_sub_h ht hs a len cap 0 (Nat.zero_le _) w
  rwa [subA_zero] at this
theorem grown_own {α : Type} {k : Nat} {enc : α → List Value} (w : World) (e : TypeId) (z : Value) (hz : z.cells.size = k) (n : Nat) (hn : n ≤ 60000) :
    OwnK k enc w.heap.size e (w.drew.alloc (.cells (Builtin.zeroCells z.cells n ++ Builtin.zeroCells z.cells (grownCap w n 0 e - n)) e)) (.slice (some ⟨w.heap.size, 0, none⟩) 0 (grownCap w n 0 e)) ([] : List α) := by
  have hge := grownCap_ge w n 0 e
  refine ⟨by simp, .inr ⟨w.heap.size, _, _, rfl, Nat.le_refl _, heap_alloc_new w.drew _, Nat.zero_le _, grownCap_le_maxLen w n 0 e (by unfold maxLen; omega), ?_, by simp⟩⟩
  rw [Array.size_append, size_zeroCells, size_zeroCells, hz, ← Nat.add_mul]; congr 1; omega
/-! ### A slice whose elements are one cell each, that lead on into memory -/
section
variable {β : Type} (R : World → Value → β → Prop)
structure RdV (w : World) (a : Option Addr) (n cap : Nat) (ws : List β) : Prop where
  len : ws.length = n
  le : n ≤ cap
  most : cap ≤ maxLen
  isnil : a = none → cap = 0
  pos : 0 < n → ∃ b off, a = some ⟨b, off, none⟩ ∧ b < w.heap.size ∧ ∀ i x, ws[i]? = some x → ∃ v, w.cell? ⟨b, off + i, none⟩ = some v ∧ R w v x
variable {R}
theorem RdV.ext (hR : ∀ (w w' : World) (v : Value) (x : β), R w v x → Ext w w' → R w' v x) {w w' : World} {a : Option Addr} {n cap : Nat} {ws : List β} (h : RdV R w a n cap ws) (hx : Ext w w') : RdV R w' a n cap ws :=
  ⟨h.len, h.le, h.most, h.isnil, fun hn => let ⟨b, off, ha, hb, hc⟩ := h.pos hn; ⟨b, off, ha, Nat.lt_of_lt_of_le hb hx.le, fun i x hi => let ⟨v, h1, h2⟩ := hc i x hi; ⟨v, by rw [hx.cell _ hb]; exact h1, hR _ _ _ _ h2 hx⟩⟩⟩
theorem RdV.at {w : World} {a : Option Addr} {n cap : Nat} {ws : List β} (h : RdV R w a n cap ws) {i : Nat} (hi : i < n) :
    ∃ b off v x, a = some ⟨b, off, none⟩ ∧ Hid (ws[i]? = some x) ∧ b < w.heap.size ∧ w.cell? ⟨b, off + i, none⟩ = some v ∧ R w v x := by
  obtain ⟨b, off, ha, hb, hc⟩ := h.pos (by omega)
  have hl := h.len
  have hs : ws[i]? = some ws[i] := List.getElem?_eq_getElem (by omega)
  obtain ⟨v, h1, h2⟩ := hc i _ hs
  exact ⟨b, off, v, ws[i], ha, hs, hb, h1, h2⟩
/-- The elements written out in a block that has just been made. -/
theorem RdV.lit {W : World} {vs : List Value} {ws : List β} {b : Nat} (hb : b < W.heap.size) (hc : ∀ j u, vs[j]? = some u → W.cell? ⟨b, j, none⟩ = some u) (hl : vs.length = ws.length) (hm : vs.length ≤ maxLen)
    (hr : ∀ (i : Nat) (v : Value) (x : β), vs[i]? = some v → ws[i]? = some x → R W v x) {n : Nat} (hn : n = ws.length) : RdV R W (some ⟨b, 0, none⟩) n n ws := by
  subst hn
  refine ⟨rfl, Nat.le_refl _, by omega, (fun h => by cases h), fun _ => ⟨b, 0, rfl, hb, fun i x hi => ?_⟩⟩
  have hlt := (List.getElem?_eq_some_iff.1 hi).1
  have hv : vs[i]? = some vs[i] := List.getElem?_eq_getElem (by omega)
  exact ⟨vs[i], by rw [Nat.zero_add]; exact hc i _ hv, hr i _ _ hv hi⟩
end
/-- A word in a cell. -/
def WS (w : World) (v : Value) (x : List Snd) : Prop := ∃ a n cap, v = .slice a n cap ∧ RdS w a n cap x
theorem WS.ext {w w' : World} {v : Value} {x : List Snd} (h : WS w v x) (hx : Ext w w') : WS w' v x :=
  let ⟨a, n, cap, hv, hr⟩ := h; ⟨a, n, cap, hv, hr.ext hx⟩
abbrev RdWs := RdV WS
theorem RdWs.ext {w w' : World} {a : Option Addr} {n cap : Nat} {ws : List (List Snd)} (h : RdWs w a n cap ws) (hx : Ext w w') : RdWs w' a n cap ws := RdV.ext (R := WS) (fun _ _ _ _ h hx => WS.ext h hx) h hx
end Go.Proofs.Ytilkemdecenibaa
