/-
  append of a slice that can be read to one that the call owns: as a run; as one step of a region that draws its order.
-/
import Derived.Test.YtilkemdecenibaaBase
import Derived.Laws.OwnMore
import Derived.Deep.RegionLaw
namespace Go.Proofs.Ytilkemdecenibaa
open Go.RowKit
section
variable {α : Type} {k : Nat} {enc : α → List Value}
theorem OwnK.rdn (hk : ∀ x, (enc x).length = k) {B : Nat} {e : TypeId} {w : World} {v : Value} {xs : List α} (h : OwnK k enc B e w v xs) : ∃ a n cap, n = xs.length ∧ v = .slice a n cap ∧ RdK k enc w a n cap xs := by
  obtain ⟨a, cap, hv, hr⟩ := OwnK.rd hk h
  exact ⟨a, _, cap, rfl, hv, hr⟩
theorem run_appN {P : Program} (w00 w : World) (ys : List α) (t ty : TypeId) (e : TypeId) {z : Value} {bytes : Nat} (ht : P.underlying t = some (.slice e))
    (hinf : (P.info? e).map (fun i => (i.zero, i.size, i.bytes)) = some (some z, k, bytes)) (hzs : z.cells.size = k) (hk0 : 0 < k)
    (v : Value) (xs : List α) (hown : OwnK k enc w00.heap.size e w v xs) (hx0 : Ext w00 w) (ad : Option Addr) (n cap : Nat) (hrd : RdK k enc w ad n cap ys)
    (hlen : ∀ y, (enc y).length = k) (h1 : ∀ y, ∀ u ∈ enc y, u.oneCell' = true) (hN : (xs.length + n) * bytes ≤ 140737488355328) (hmax : xs.length + n ≤ maxLen) :
    ∃ v' w', (Builtin.append_ #[t, t] ty #[v, .slice ad n cap]).run P w = .ok v' w' ∧ OwnK k enc w00.heap.size e w' v' (xs ++ ys) ∧ Ext w00 w' ∧ w.grownBy w' v.ownBlock := by
  obtain ⟨i, hi, hz0, hz1, hz2⟩ := info_parts hinf
  cases ad with
  | none =>
    have hc := hrd.isnil rfl
    have hn : n = 0 := by have := hrd.le; omega
    subst hn; subst hc
    have hy : ys = [] := List.eq_nil_of_length_eq_zero hrd.len
    subst hy
    exact ⟨v, w, run_append_owned_none (P := P) (w := w) w00.heap.size t ty e i k ht hi v xs.length _ hown, by rw [List.append_nil]; exact hown, hx0, rfl, rfl, rfl, Nat.le_refl _, fun _ _ _ => rfl⟩
  | some ad =>
    have hl := hrd.len
    have h1' : ∀ u ∈ ys.flatMap enc, u.oneCell' = true := fun u hu => by
      obtain ⟨y, _, hy⟩ := List.mem_flatMap.1 hu
      exact h1 y u hy
    have hll : (ys.flatMap enc).length = n * k := by rw [length_flatMap_enc hlen, hl]
    obtain ⟨v', w', hr, h2, h3, _⟩ := run_append_own (P := P) w w00.heap.size t ty e i z k bytes ht hi hz0 hz1 hz2 hzs hk0 v xs.length (xs.flatMap enc) hown ad n cap (ys.flatMap enc) hll (hrd.cells hlen hk0) h1' hmax hN hx0.le
    exact ⟨v', w', hr, OwnK.of_row h2 (by simp [hl]) (by simp), Ext.grown hx0 h3 fun j hj => (World.ownsRow.lt hown j hj).1, h3⟩
/-- append of one element that is written out. -/
theorem wp_appC {P : Program} {ops : Array Oper} {rest : List Oper} {o : Oper} {a : Act} {Q : Exit → Act → World → Prop} (w00 w0 : World) (y : α) (cs : Array Value) (hcs : (enc y).toArray = cs) (hgd : o.guard = none) (s x : Operand) (t : TypeId)
    (ho : o.op = .call { callee := .builtin .append, args := #[s, x], argTypes := #[t, t] }) (e : TypeId) {z : Value} {bytes : Nat} (ht : P.underlying t = some (.slice e))
    (hinf : (P.info? e).map (fun i => (i.zero, i.size, i.bytes)) = some (some z, k, bytes)) (hzs : z.cells.size = k) (hk0 : 0 < k)
    (v : Value) (xs : List α) (hs : a.eval s = v) (hown : OwnK k enc w00.heap.size e w0 v xs) (hx0 : Ext w00 w0) (hx : a.eval x = .slice (some ⟨w0.heap.size, 0, none⟩) 1 1)
    (hlen : (enc y).length = k) (h1 : ∀ u ∈ enc y, u.oneCell' = true) (hN : (xs.length + 1) * bytes ≤ 140737488355328) (hmax : xs.length + 1 ≤ maxLen)
    (h : ∀ v' w', OwnK k enc w00.heap.size e w' v' (xs ++ [y]) → Ext w00 w' → wpList P ops Q rest (a.put o.dst v') w') :
    wpList P ops Q (o :: rest) a (w0.alloc (.cells cs e)) := by
  subst hcs
  exact wp_app1 w00 w0 y hgd s x t ho e ht hinf hzs hk0 v xs hs hown hx0 hx hlen h1 hN hmax fun v' w' h1 h2 _ => h v' w' h1 h2
theorem step_appN {P : Program} {ops : Array Oper} {o : Oper} {a : Act} {Q : Exit → Act → World → Prop} {E : Prop} {K : Act → World → Prop} (w00 w : World) (ys : List α) (hgd : o.guard = none) (s x : Operand) (t : TypeId)
    (ho : o.op = .call { callee := .builtin .append, args := #[s, x], argTypes := #[t, t] }) (e : TypeId) {z : Value} {bytes : Nat} (ht : P.underlying t = some (.slice e))
    (hinf : (P.info? e).map (fun i => (i.zero, i.size, i.bytes)) = some (some z, k, bytes)) (hzs : z.cells.size = k) (hk0 : 0 < k)
    (v : Value) (xs : List α) (hs : a.eval s = v) (hown : OwnK k enc w00.heap.size e w v xs) (hx0 : Ext w00 w) (ad : Option Addr) (n cap : Nat) (hx : a.eval x = .slice ad n cap) (hrd : RdK k enc w ad n cap ys)
    (hlen : ∀ y, (enc y).length = k) (h1 : ∀ y, ∀ u ∈ enc y, u.oneCell' = true) (hN : (xs.length + n) * bytes ≤ 140737488355328) (hmax : xs.length + n ≤ maxLen)
    (h : ∀ v' w', OwnK k enc w00.heap.size e w' v' (xs ++ ys) → Ext w00 w' → w.grownBy w' v.ownBlock → K (a.put o.dst v') w') :
    if Region.wanted o (yielded ops a.tmps) = true then Oper.wp P o a w K Q else E := by
  have hw : Region.wanted o (yielded ops a.tmps) = true := by simp [Region.wanted, hgd]
  rw [if_pos hw]
  obtain ⟨v', w', hr, h2, h3, h4⟩ := run_appN (P := P) w00 w ys t o.type e ht hinf hzs hk0 v xs hown hx0 ad n cap hrd hlen h1 hN hmax
  unfold Oper.wp execOp
  simp only [ho, resolve, invoke, builtin, Sem.run_bind, Sem.run_pure, Result.andThen_ok, List.map_toArray, List.map_cons, List.map_nil, hs, hx, hr]
  exact h v' w' h2 h3 h4
end
end Go.Proofs.Ytilkemdecenibaa
