/-
  Slices that are made, or written out: as the call's own.
-/
import Derived.Test.YtilkemdecenibaaApp
import Derived.Test.YtilkemdecenibaaGrow
import Derived.BigFrame
import Derived.Laws.MakeOwn
namespace Go.Proofs.Ytilkemdecenibaa
open Go.RowKit
section
variable {α : Type} {k : Nat} {enc : α → List Value}
theorem made_list (hk : ∀ x, (enc x).length = k) (hk0 : 0 < k) (z : Array Value) (y : α) (hz : z.toList = enc y) (n : Nat) : (madeCells z (n * k)).toList = (List.replicate n y).flatMap enc := by
  have hzs : z.size = k := by rw [← hk y, ← hz]; simp
  apply List.ext_getElem?
  intro j
  by_cases hj : j < n * k
  · have hq : j / k < n := Nat.div_lt_of_lt_mul (by rwa [Nat.mul_comm])
    have hr : j % k < k := Nat.mod_lt _ hk0
    have hu : (enc y)[j % k]? = some ((enc y)[j % k]'(by rw [hk]; exact hr)) := List.getElem?_eq_getElem _
    have hdm : j / k * k + j % k = j := by rw [Nat.mul_comm]; exact Nat.div_add_mod j k
    have := flatMap_at hk (List.replicate n y) (j / k) y (by simp [hq]) (j % k) _ hu
    rw [hdm] at this
    rw [this, ← hu, ← hz]
    simp [madeCells, hj, hzs, getElem!_def, hr]
  · rw [List.getElem?_eq_none (by simp [madeCells]; omega), List.getElem?_eq_none (by rw [length_flatMap_enc hk]; simp; omega)]
theorem made_own (hk : ∀ x, (enc x).length = k) (hk0 : 0 < k) (w : World) (e : TypeId) (z : Array Value) (y : α) (hz : z.toList = enc y) (n : Nat) (hn : n ≤ 60000) :
    OwnK k enc w.heap.size e (w.alloc (.cells (madeCells z (n * k)) e)) (.slice (some ⟨w.heap.size, 0, none⟩) n n) (List.replicate n y) := by
  have h := World.ownsRow_lit w (madeCells z (n * k)) (e := e) (size := k) n (Nat.le_refl _) (by unfold maxLen; omega) (size_madeCells _ _)
  refine OwnK.of_row h (by simp) ?_
  rw [made_list hk hk0 z y hz]
theorem lit_own (hk : ∀ x, (enc x).length = k) (w : World) (e : TypeId) (xs : List α) (cs : Array Value) (hcs : cs.toList = xs.flatMap enc) {n : Nat} (hn : xs.length = n) (hm : n ≤ 60000) :
    OwnK k enc w.heap.size e (w.alloc (.cells cs e)) (.slice (some ⟨w.heap.size, 0, none⟩) n n) xs := by
  subst hn
  have hs : cs.size = xs.length * k := by rw [← length_flatMap_enc hk xs, ← hcs]; simp
  have h := World.ownsRow_lit w cs (e := e) (size := k) xs.length (Nat.le_refl _) (by unfold maxLen; omega) hs
  exact OwnK.of_row h rfl hcs
theorem run_mk {P : Program} {e : TypeId} {z : Value} {bytes : Nat} (t : TypeId) (ht : P.underlying t = some (.slice e)) (hinf : (P.info? e).map (fun i => (i.zero, i.size, i.bytes)) = some (some z, k, bytes)) (n : Nat) (hn : n ≤ 60000) (hb : bytes ≤ 1000) (w : World) :
    (Instr.makeSlice t (.int .i64 (n : Int)) (.int .i64 (n : Int))).run P w = .ok (.slice (some ⟨w.heap.size, 0, none⟩) n n) (w.alloc (.cells (madeCells z.cells (n * k)) e)) := by
  obtain ⟨i, hi, hz0, hz1, hz2⟩ := info_parts hinf
  subst hz1; subst hz2
  have hprod : i.bytes * n ≤ 1000 * 60000 := Nat.mul_le_mul hb hn
  have hb' : (i.bytes : Int) * (n : Int) ≤ 281474976710656 := by
    have h : ((i.bytes * n : Nat) : Int) ≤ 281474976710656 := by omega
    rwa [Int.natCast_mul] at h
  have hr := run_make (P := P) w t e i z ht hi hz0 .i64 .i64 n n (by omega) (Int.le_refl _) hb' (by omega)
  simpa only [Int.toNat_natCast] using hr
theorem OwnK.rdc (hk : ∀ x, (enc x).length = k) {B : Nat} {e : TypeId} {w : World} {a : Option Addr} {n cap : Nat} {xs : List α} (h : OwnK k enc B e w (.slice a n cap) xs) : RdK k enc w a n cap xs := by
  obtain ⟨a', c', hv, hr⟩ := OwnK.rd hk h
  simp only [Value.slice.injEq] at hv
  obtain ⟨rfl, rfl, rfl⟩ := hv
  exact hr
/-- append to a slice without room: a new row; nothing that lay has turned. -/
theorem wp_appF {P : Program} {ops : Array Oper} {rest : List Oper} {o : Oper} {a : Act} {Q : Exit → Act → World → Prop} (w : World) (hgd : Region.wanted o (yielded ops a.tmps) = true) (s x : Operand) (t : TypeId)
    (ho : o.op = .call { callee := .builtin .append, args := #[s, x], argTypes := #[t, t] }) (e : TypeId) {z : Value} {bytes : Nat} (ht : P.underlying t = some (.slice e))
    (hinf : (P.info? e).map (fun i => (i.zero, i.size, i.bytes)) = some (some z, k, bytes)) (hzs : z.cells.size = k) (hk0 : 0 < k) (hk : ∀ x, (enc x).length = k)
    (b : Addr) (n : Nat) (xs : List α) (hs : a.eval s = .slice (some b) n n) (hrx : RdK k enc w (some b) n n xs) (d : Addr) (m c : Nat) (ys : List α) (hx : a.eval x = .slice (some d) m c) (hry : RdK k enc w (some d) m c ys)
    (hm : 0 < m) (hn : n + m ≤ 60000) (hb : bytes ≤ 1000)
    (h : ∀ v' w', OwnK k enc w.heap.size e w' v' (xs ++ ys) → Ext w w' → wpList P ops Q rest (a.put o.dst v') w') : wpList P ops Q (o :: rest) a w := by
  obtain ⟨i, hi, hz0, hz1, hz2⟩ := info_parts hinf
  subst hz1; subst hz2
  refine BigFrame.wpList_want hgd fun K hK => ?_
  have hlx : (xs.flatMap enc).length = n * i.size := by rw [length_flatMap_enc hk, hrx.len]
  have hly : (ys.flatMap enc).length = m * i.size := by rw [length_flatMap_enc hk, hry.len]
  have hprod : (n + m) * i.bytes ≤ 60000 * 1000 := Nat.mul_le_mul hn hb
  have hrun := run_append_grow (P := P) w t o.type e i z ht hi hz0 b n n (xs.flatMap enc) hlx (hrx.cells hk hk0) d m c (ys.flatMap enc) hly (hry.cells hk hk0) (by omega) (by omega) (growslice_fits (by omega) (by omega))
  have hge := grownCap_ge w (n + m) n e
  have hle := grownCap_le_maxLen w (n + m) n e (by unfold maxLen; omega)
  unfold Oper.wp execOp
  simp only [ho, resolve, invoke, builtin, Sem.run_bind, Sem.run_pure, Result.andThen_ok, List.map_toArray, List.map_cons, List.map_nil, hs, hx, hrun]
  refine hK _ _ (h _ _ ⟨length_flatMap_enc hk _, .inr ⟨w.heap.size, _, _, by rw [List.length_append, hrx.len, hry.len], Nat.le_refl _, heap_alloc_new w.drew _, by rw [List.length_append, hrx.len, hry.len]; exact hge, hle, ?_, ?_⟩⟩ ((Ext.refl w).drew.alloc _))
  · simp only [Array.size_append, List.size_toArray, size_zeroCells, hzs, hlx, hly]
    rw [← Nat.add_mul, ← Nat.add_mul]; congr 1; omega
  · rw [List.flatMap_append, List.length_append, hrx.len, hry.len]
    simp only [Array.toList_append]
    rw [List.take_append_of_le_length (by simp [hlx, hly, Nat.add_mul]), List.take_of_length_le (by simp [hlx, hly, Nat.add_mul])]
end
end Go.Proofs.Ytilkemdecenibaa
