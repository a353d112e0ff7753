/-
  sankoff.solved.
  The costs in memory; the nodes from the last to the first.
-/
import Derived.Test.YtdloabjnjnjacaaDoorSe
import Derived.Test.YtdloabjnjnjacaaDoorRg
import Derived.BigRegionIn
namespace Go.Proofs.YtdloabjnjnjacaaDoor
open Go.RowKit Go.Shelf
theorem heap_set {w : World} {B i : Nat} {cur : Array Value} {e : TypeId} {fr : Nat × Nat} (h : w.heap[B]? = some (.cells cur e fr)) (v : Value) : (w.setCell ⟨B, i, none⟩ v).heap[B]? = some (.cells (cur.setIfInBounds i v) e fr) := by
  show (w.heap.modify B _)[B]? = _
  rw [Array.getElem?_modify, if_pos rfl, h]; rfl
theorem frz3 {w : World} {B : Nat} {cur : Array Value} {e : TypeId} (h : w.heap[B]? = some (.cells cur e (0, 0))) :
    (∀ i, w.frozen? ⟨B, i, none⟩ = false) ∧ (∀ i (j : Nat) v, (w.setCell ⟨B, j, none⟩ v).frozen? ⟨B, i, none⟩ = false) ∧ (∀ i (j j' : Nat) v v', ((w.setCell ⟨B, j, none⟩ v).setCell ⟨B, j', none⟩ v').frozen? ⟨B, i, none⟩ = false) :=
  ⟨fun i => frozen_of_row w B i cur e h, fun i _ v => frozen_of_row _ B i _ e (heap_set h v), fun i _ _ v v' => frozen_of_row _ B i _ e (heap_set (heap_set h v) v')⟩
theorem res_cell {P : Program} {fn : Func} {p u : Tmp} {ty : TypeId} (h : fn.results = #[.cell p ty, .tmp u]) (tmps : Array Value) (w : World) (g : Nat) (t : TypeId) (cs : Array Value) (fr : Nat × Nat) (d : TypeDesc)
    (hp : tmps.getD p undef = .pointer (some ⟨g, 0, none⟩)) (hg : w.heap[g]? = some (.cells cs t fr))
    (hu : P.underlying ty = some d) (hd : (match d with | .struct _ | .array _ _ => true | _ => false) = true) (hi : (P.info? ty).map (·.size) = some cs.size) :
    (results fn tmps).run P w = .ok (.tuple #[.agg cs, tmps.getD u undef]) w := by
  rw [results_cell_tmp h, hp]
  simp [asAddr, Result.andThen, run_loadVar_row w g t ty cs fr d hg hu hd hi]
abbrev prZ : Value := .agg #[.slice none 0 0, .slice none 0 0, .slice none 0 0]
set_option maxHeartbeats 1000000 in
set_option maxRecDepth 100000 in
theorem solved_err (a : Option Addr) (n cap : Nat) (ts : List Nd) (am : Option Addr) (m capm : Nat) (ms : List (List Int)) (ast : Option Addr) (l caps : Nat) (st : List Int) (w : World)
    (hr : RdN w a n cap ts) (hm : RdM w am m capm ms) (hs : RdI w ast l caps st) (h0 : chkS ts ms st ≠ 0) :
    Calls Tryd.prog 107 #[.slice a n cap, .slice am m capm, .slice ast l caps] w fun e w' => e = .returned (.tuple #[prZ, .int .i64 (chkS ts ms st)]) ∧ Ext w w' := by
  have hcc := fun W (hx : Ext w W) => scheck_any a n cap ts am m capm ms ast l caps st W (hr.ext hx) (hm.ext hx) (hs.ext hx)
  have hd : (chkS ts ms st != 0) = true := by simpa using h0
  generalize chkS ts ms st = er at *
  replace h0 := Lib.hid h0
  go_enter Tryd.func107, Tryd.ntmps107
  go_wp2_with fail
  refine (hcc _ (by repeat (first | exact Ext.refl _ | assumption | refine Ext.drew ?_ | refine Ext.drewN ?_ _ | refine Ext.alloc ?_ _ | refine Ext.trans ?_ (by assumption)))).mono ?_
  rintro e w1 ⟨rfl, hx1⟩
  have hcl1 := fun b o (h : b < _) => Ext.cell hx1 (b := b) o h
  have hblk : w1.heap[w.heap.size + 1 + 1]? = some (.cells #[.slice none 0 0, .slice none 0 0, .slice none 0 0] 114 (0, 0)) := (Below.block hx1.bel _ (by simp)).trans (by
    have := World.alloc_heap_new ((w.alloc (.cells #[.slice a n cap] 32)).alloc (.cells #[.slice am m capm] 27)) (.cells #[.slice none 0 0, .slice none 0 0, .slice none 0 0] 114)
    rwa [World.size_alloc, World.size_alloc] at this)
  obtain ⟨hf0, hf1, hf2⟩ := frz3 hblk
  go_wp2_with fail
  exact bodyPost_ret (res_cell rfl _ _ (w.heap.size + 1 + 1) _ _ (0, 0) _ rfl (heap_set (heap_set (heap_set hblk _) _) _) Tryd.underlying114 rfl (by kernel_rfl)) rfl ⟨rfl, by
    have h3 : Ext w w1 := (by repeat (first | exact Ext.refl _ | assumption | refine Ext.drew ?_ | refine Ext.drewN ?_ _ | refine Ext.alloc ?_ _ | refine Ext.trans ?_ (by assumption)))
    exact ((h3.setCell (p := ⟨w.heap.size + 1 + 1, 0, none⟩) (by simp; omega) _).setCell (p := ⟨w.heap.size + 1 + 1, 1, none⟩) (by simp; omega) _).setCell (p := ⟨w.heap.size + 1 + 1, 2, none⟩) (by simp; omega) _⟩
end Go.Proofs.YtdloabjnjnjacaaDoor
namespace Go.Proofs.YtdloabjnjnjacaaDoor
open Go.RowKit Go.Shelf
/-- The costs' block. -/
def Tab (w : World) (g n k : Nat) (f : Nat → Nat → Int) : Prop := ∃ cur, w.heap[g]? = some (.cells cur 120 (0, 0)) ∧ ∀ v s, v < n → s < k → cur[v * 12 + s]? = some (.int .i64 (f v s))
theorem Tab.lt {w : World} {g n k : Nat} {f : Nat → Nat → Int} (h : Tab w g n k f) : g < w.heap.size := let ⟨_, hb, _⟩ := h; (Array.getElem?_eq_some_iff.1 hb).1
theorem Tab.rd {w : World} {g n k : Nat} {f : Nat → Nat → Int} (h : Tab w g n k f) : RdT w g n k f :=
  ⟨h.lt, fun v s hv hs => by obtain ⟨cur, hb, hc⟩ := h; simp only [World.cell?, hb]; exact hc v s hv hs⟩
theorem Tab.free {w : World} {g n k : Nat} {f : Nat → Nat → Int} (h : Tab w g n k f) (i : Nat) : w.frozen? ⟨g, i, none⟩ = false := let ⟨cur, hb, _⟩ := h; frozen_of_row w g i cur _ hb
theorem Tab.same {w w' : World} {g n k : Nat} {f : Nat → Nat → Int} (h : Tab w g n k f) (hx : w'.heap[g]? = w.heap[g]?) : Tab w' g n k f := let ⟨cur, hb, hc⟩ := h; ⟨cur, hx.trans hb, hc⟩
theorem Tab.congr {w : World} {g n k : Nat} {f f' : Nat → Nat → Int} (h : Tab w g n k f) (he : ∀ v s, v < n → s < k → f v s = f' v s) : Tab w g n k f' :=
  let ⟨cur, hb, hc⟩ := h; ⟨cur, hb, fun v s hv hs => by rw [← he v s hv hs]; exact hc v s hv hs⟩
theorem Tab.set {w : World} {g n k : Nat} {f : Nat → Nat → Int} (h : Tab w g n k f) {v0 s0 : Nat} (hv0 : v0 < n) (hs0 : s0 < k) (hk : k ≤ 12) (x : Int) :
    Tab (w.setCell ⟨g, v0 * 12 + s0, none⟩ (.int .i64 x)) g n k (fun v s => if v = v0 ∧ s = s0 then x else f v s) := by
  obtain ⟨cur, hb, hc⟩ := h
  refine ⟨_, heap_set hb _, fun v s hv hs => ?_⟩
  have hin := (Array.getElem?_eq_some_iff.1 (hc v0 s0 hv0 hs0)).1
  rw [Array.getElem?_setIfInBounds]
  by_cases e : v = v0 ∧ s = s0
  · obtain ⟨rfl, rfl⟩ := e
    rw [if_pos rfl, if_pos hin]; simp
  · have hne : ¬ v0 * 12 + s0 = v * 12 + s := by
      intro he; apply e
      omega
    rw [if_neg hne]
    show _ = some (Value.int .i64 (if v = v0 ∧ s = s0 then x else f v s))
    rw [if_neg e]; exact hc v s hv hs
/-- What stands while the costs are reckoned. -/
structure SV (w1 : World) (B G : Nat) (a : Option Addr) (n cap : Nat) (am : Option Addr) (k capm : Nat) (f : Nat → Nat → Int) (W : World) : Prop where
  ext : Ext w1 W
  box : BoxP W B a n cap am k capm G
  tab : Tab W G n k f
theorem SV.grown {w1 : World} {B G : Nat} {a : Option Addr} {n cap : Nat} {am : Option Addr} {k capm : Nat} {f : Nat → Nat → Int} {X Y : World} (h : SV w1 B G a n cap am k capm f X) {row : Option Nat} (hg : X.grownBy Y row) (hr : ∀ r, row = some r → w1.heap.size ≤ r ∧ r ≠ B ∧ r ≠ G) : SV w1 B G a n cap am k capm f Y :=
  ⟨h.ext.grown hg fun r e => (hr r e).1, (hg.block B (h.box.at).2.2.2 (fun e => (hr B e.symm).2.1 rfl)).trans h.box, h.tab.same (hg.block G h.tab.lt (fun e => (hr G e.symm).2.2 rfl))⟩
theorem SV.more {w1 : World} {B G : Nat} {a : Option Addr} {n cap : Nat} {am : Option Addr} {k capm : Nat} {f : Nat → Nat → Int} {X Y : World} (h : SV w1 B G a n cap am k capm f X) (hx : Ext X Y) : SV w1 B G a n cap am k capm f Y :=
  ⟨h.ext.trans hx, h.box.ext hx, h.tab.same (Below.block hx.bel G h.tab.lt)⟩
theorem SV.set {w1 : World} {B G : Nat} {a : Option Addr} {n cap : Nat} {am : Option Addr} {k capm : Nat} {f : Nat → Nat → Int} {W : World} (h : SV w1 B G a n cap am k capm f W) (hG : w1.heap.size ≤ G) (hne : G ≠ B) {v0 s0 : Nat} (hv0 : v0 < n) (hs0 : s0 < k) (hk : k ≤ 12) (x : Int) :
    SV w1 B G a n cap am k capm (fun v s => if v = v0 ∧ s = s0 then x else f v s) (W.setCell ⟨G, v0 * 12 + s0, none⟩ (.int .i64 x)) :=
  ⟨h.ext.setCell (p := ⟨G, v0 * 12 + s0, none⟩) hG _, by
    have : (W.setCell ⟨G, v0 * 12 + s0, none⟩ (.int .i64 x)).heap[B]? = W.heap[B]? := by
      show (W.heap.modify G _)[B]? = _
      rw [Array.getElem?_modify, if_neg hne]
    exact this.trans h.box, h.tab.set hv0 hs0 hk x⟩
theorem SV.congr {w1 : World} {B G : Nat} {a : Option Addr} {n cap : Nat} {am : Option Addr} {k capm : Nat} {f f' : Nat → Nat → Int} {W : World} (h : SV w1 B G a n cap am k capm f W) (he : ∀ v s, v < n → s < k → f v s = f' v s) : SV w1 B G a n cap am k capm f' W := ⟨h.ext, h.box, h.tab.congr he⟩
/-- The nodes from the last to the first. -/
def backL (n : Nat) : List Nat := (List.range n).map fun i => n - 1 - i
theorem backL_len (n : Nat) : (backL n).length = n := by simp [backL]
theorem backL_at {n i : Nat} (h : i < n) : (backL n)[i]? = some (n - 1 - i) := by unfold backL; rw [List.getElem?_map, List.getElem?_range h]; rfl
theorem backL_pre {n : Nat} {pre : List Nat} {v : Nat} (h : (pre ++ [v]) <+: backL n) : pre.length < n ∧ v = n - 1 - pre.length := by
  have h1 := h.length_le
  rw [backL_len] at h1
  simp only [List.length_append, List.length_singleton] at h1
  obtain ⟨r, hr⟩ := h
  have h2 : (backL n)[pre.length]? = some v := by rw [← hr]; simp
  rw [backL_at (by omega)] at h2
  exact ⟨by omega, (Option.some.inj h2).symm⟩
abbrev encV (v : Nat) : Array Value := #[.int .i64 v]
attribute [local go_sem] Oper.semAt_some
theorem backwards_in (n : Nat) (a : Option Addr) (m cap : Nat) (w : World) :
    CallsIn Fence.wide n Tryd.prog 132 #[.slice a m cap] w fun e w' => e = .returned (.func (.func 141) #[] #[.pointer (some ⟨w.heap.size, 0, none⟩)]) ∧ w' = w.alloc (.cells #[.slice a m cap] 32) := by
  refine callsIn_of_wp Tryd.func132 rfl trivial ?_ rfl
  simp only [Tryd.ntmps132, List.size_toArray, List.length_cons, List.length_nil, Nat.reduceAdd, Nat.reduceSub, Array.replicate_succ, Array.replicate_zero, List.push_toArray, List.append_toArray, List.nil_append, List.cons_append]
  gi_wp2
  go_ret
  exact ⟨rfl, rfl⟩
set_option maxHeartbeats 1000000 in
theorem back1_in (n l Bx : Nat) (hn : 1 ≤ n) (a : Option Addr) (m cap : Nat) (hm : m ≤ 63) (J Jx : List Nat → World → Prop)
    (hrd : ∀ s X, J s X → X.cell? ⟨Bx, 0, none⟩ = some (.slice a m cap))
    (hY : ∀ pre y X, J pre X → (pre ++ [y]) <+: backL m → YieldAt Fence.wide (n - 1) Tryd.prog l (encV y) X fun e Y => (e = .returned (.bool true) ∧ J (pre ++ [y]) Y) ∨ (e = .returned (.bool false) ∧ Jx (pre ++ [y]) Y))
    (W : World) (h0 : J [] W) :
    CallsIn Fence.wide n Tryd.prog 141 #[.func (.yield l) #[] #[], .pointer (some ⟨Bx, 0, none⟩)] W fun e W' => (∃ v, e = .returned v) ∧ (J (backL m) W' ∨ ∃ pre, Jx pre W') := by
  have hro : Fence.wide.round = none := rfl
  have hbox := hrd _ _ h0
  refine callsIn_of_wp Tryd.func141 rfl trivial ?_ hro
  simp only [Tryd.ntmps141, List.size_toArray, List.length_cons, List.length_nil, Nat.reduceAdd, Nat.reduceSub, Array.replicate_succ, Array.replicate_zero, List.push_toArray, List.append_toArray, List.nil_append, List.cons_append]
  gi_wp2
  gi_loopw [6] (fun i wr => ∃ j : Nat, j ≤ m ∧ i = .int .i64 j ∧ J ((backL m).take j) wr) (fun i _ => m - (intOf i).toNat)
  case atStart => exact ⟨0, Nat.zero_le _, rfl, h0⟩
  case round =>
    obtain ⟨j, hj, rfl, hJ1⟩ := hrel
    have hb1 := hrd _ _ hJ1
    by_cases hlt : j < m
    · have hsu := take_succ_at (backL_at hlt)
      have hpre : ((backL m).take j) ++ [m - 1 - j] <+: backL m := by rw [← hsu]; exact List.take_prefix _ _
      obtain ⟨fn, tmps, assign, body, hyl, hR⟩ := hY _ (m - 1 - j) wr hJ1 hpre
      have hi : IntKind.i64.wrap (IntKind.i64.wrap ((m : Int) - 1) - (j : Int)) = ((m - 1 - j : Nat) : Int) := by
        rw [IntWalk.i64_in _ (show -9223372036854775808 ≤ (m : Int) - 1 ∧ (m : Int) - 1 ≤ 9223372036854775807 by omega)]
        rw [IntWalk.i64_in _ (by omega)]; omega
      have hi2 : (m : Int) - 1 - (j : Int) = ((m - 1 - j : Nat) : Int) := by omega
      replace hsu := Lib.hid hsu
      generalize m - 1 - j = v at *
      gi_wp2
      refine hR.mono ?_
      rintro e W3 (⟨rfl, hJ4⟩ | ⟨rfl, hJx4⟩)
      · rw [← hsu.out] at hJ4
        gi_wp2
        (first | exact ⟨⟨j + 1, by omega, by go_num, hJ4⟩, (by simp [intOf]; omega)⟩ | (go_roundw; case rel => exact ⟨j + 1, by omega, by go_num, hJ4⟩; case measure => exact (by simp [intOf]; omega)))
      · gi_wp2
        refine bodyPost_ret (results_none rfl _ _ _) rfl ?_
        exact ⟨⟨_, rfl⟩, .inr ⟨_, hJx4⟩⟩
    · have hjm : j = m := by omega
      rw [hjm, List.take_of_length_le (by rw [backL_len]; omega)] at hJ1
      gi_wp2
      go_end0
      exact ⟨⟨_, rfl⟩, .inl hJ1⟩
end Go.Proofs.YtdloabjnjnjacaaDoor
