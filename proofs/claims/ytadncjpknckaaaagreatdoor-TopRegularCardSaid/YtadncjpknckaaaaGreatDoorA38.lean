/-
  attest.deriver$1: what a word becomes at a leaf, kept by its key.
-/
import Derived.Test.YtadncjpknckaaaaGreatDoorA37
namespace Go.Proofs.YtadncjpknckaaaaGreatDoor
open Go.RowKit Go.Shelf Go.Maps
attribute [local go_sem] Oper.semAt_some
section
variable {w0 X Y : World} {lines : Nat → List HL} {nl b8 b7 K G N : Nat} {ms : List Value} {hd : Nat → Value}
theorem GoodE.grown {B : Nat} {Ls : List HL} {key : List UInt8} {val : Value} (h : GoodE B Ls X key val) {row : Option Nat} (hg : X.grownBy Y row) (hr : ∀ r, row = some r → ∀ cur, X.heap[r]? ≠ some (.cells cur 52 (0, 0))) : GoodE B Ls Y key val := by
  obtain ⟨has, a, n, c, h1, h2⟩ := h
  exact ⟨has, a, n, c, h1, fun ws h3 h4 => ⟨(h2 ws h3 h4).1, fun out ho => own_typed ((h2 ws h3 h4).2 out ho) hg hr⟩⟩
theorem DerI.grown (h : DerI w0 lines nl b8 b7 K G ms hd N X) {row : Option Nat} (hg : X.grownBy Y row) (hr : ∀ r, row = some r → w0.heap.size ≤ r ∧ (∀ v : Nat, ms[v]? ≠ some (Value.map (some r))) ∧ ∀ cur e, X.heap[r]? = some (.cells cur e (0, 0)) → e ≠ 84 ∧ e ≠ 83 ∧ e ≠ 85 ∧ e ≠ 23 ∧ e ≠ 58 ∧ e ≠ 52) : DerI w0 lines nl b8 b7 K G ms hd N Y := by
  refine ⟨h.ext.grown hg fun r e => (hr r e).1, boxed_typed h.k8 hg fun r e cur h1 => ((hr r e).2.2 _ _ h1).1 rfl, boxed_typed h.k7 hg fun r e cur h1 => ((hr r e).2.2 _ _ h1).2.1 rfl, h.fam.other hg fun r e cur e0 h1 => ?_, own_typed h.own hg fun r e cur h1 => ((hr r e).2.2 _ _ h1).2.2.1 rfl, fun v hv => ?_, h.inj⟩
  · have := (hr r e).2.2 _ _ h1
    exact ⟨this.2.2.2.1, this.2.2.2.2.1⟩
  · obtain ⟨b, n, f, h1, h2, h3, h4, h5⟩ := h.maps v hv
    refine ⟨b, n, f, h1, h2, h3, h4.agr (hg.block b h4.lt fun e => (hr b e.symm).2.1 v h1), fun key val hf => (h5 key val hf).grown hg fun r e cur h6 => ?_⟩
    exact ((hr r e).2.2 _ _ h6).2.2.2.2.2 rfl
theorem DerI.ext' (h : DerI w0 lines nl b8 b7 K G ms hd N X) (hx : Ext X Y) : DerI w0 lines nl b8 b7 K G ms hd N Y := h.grown (gb_ext hx none) fun r e => by cases e
theorem DerI.up (h : DerI w0 lines nl b8 b7 K G ms hd N X) {M : Nat} (hM : N ≤ M) : DerI w0 lines nl b8 b7 K G ms hd M X :=
  ⟨h.ext, h.k8, h.k7, h.fam, h.own, fun v hv => let ⟨b, n, f, h1, h2, h3, h4⟩ := h.maps v hv; ⟨b, n, f, h1, h2, Nat.le_trans h3 hM, h4⟩, h.inj⟩
theorem DerI.store (h : DerI w0 lines nl b8 b7 K G ms hd N X) {v b n : Nat} {f : List UInt8 → Option Value} (hb : ms[v]? = some (.map (some b))) (hb0 : w0.heap.size ≤ b) (hc : ∃ o, X.heap[b]? = some o ∧ o.isCells = false) (hg : X.grownBy Y (some b)) (hn : n ≤ N) (hm : MapV Tryz.prog 9 klB Y b (n + 1) f) (hgood : ∀ key val, f key = some val → GoodE w0.heap.size (lines v) X key val) : DerI w0 lines nl b8 b7 K G ms hd (N + 1) Y := by
  obtain ⟨o, hc1, hc2⟩ := hc
  have hno : ∀ r, some b = some r → ∀ (cur : Array Value) (e : TypeId), X.heap[r]? ≠ some (.cells cur e (0, 0)) := fun r e cur e0 h1 => by
    cases e; rw [hc1] at h1; cases h1; cases hc2
  refine ⟨h.ext.grown hg fun r e => by cases e; exact hb0, boxed_typed h.k8 hg fun r e cur => hno r e cur _, boxed_typed h.k7 hg fun r e cur => hno r e cur _, h.fam.other hg fun r e cur e0 h1 => absurd h1 (hno r e cur e0), own_typed h.own hg fun r e cur => hno r e cur _, fun u hu => ?_, h.inj⟩
  by_cases e : u = v
  · subst e
    exact ⟨b, n + 1, f, hb, hb0, by omega, hm, fun key val hf => (hgood key val hf).grown hg fun r e cur => hno r e cur _⟩
  · obtain ⟨b', n', f', h1, h2, h3, h4, h5⟩ := h.maps u hu
    refine ⟨b', n', f', h1, h2, by omega, h4.agr (hg.block b' h4.lt fun e2 => e ?_), fun key val hf => (h5 key val hf).grown hg fun r e cur => hno r e cur _⟩
    cases e2
    exact h.inj u v _ h1 hb
end
theorem set_heap {w : World} {b i : Nat} {v : Value} {cs : Array Value} {e : TypeId} {fr : Nat × Nat} (h : w.heap[b]? = some (.cells cs e fr)) : (w.setCell ⟨b, i, none⟩ v).heap[b]? = some (.cells (cs.setIfInBounds i v) e fr) := by
  show (w.heap.modify b _)[b]? = _
  rw [Array.getElem?_modify, if_pos rfl, h]; rfl
section
variable {w0 X Y : World} {lines : Nat → List HL} {nl b8 b7 K G N : Nat} {ms : List Value} {hd : Nat → Value}
theorem DerI.noMap (h : DerI w0 lines nl b8 b7 K G ms hd N X) {r : Nat} (hc : ∃ o, X.heap[r]? = some o ∧ o.isCells = true) (v : Nat) : ms[v]? ≠ some (Value.map (some r)) := fun e => by
  have hl := (own_ge h.own).2.2.1
  obtain ⟨b, n, f, h1, _, _, h4, _⟩ := h.maps v (by have := (List.getElem?_eq_some_iff.1 e).1; omega)
  rw [e] at h1; cases h1
  obtain ⟨o, h5, h6⟩ := hc
  obtain ⟨o', h7, h8⟩ := h4.notCells
  rw [h5] at h7; cases h7; rw [h6] at h8; cases h8
theorem DerI.setF (h : DerI w0 lines nl b8 b7 K G ms hd N X) {b i : Nat} {u : Value} {cs : Array Value} {e : TypeId} {fr : Nat × Nat} (hb : X.heap[b]? = some (.cells cs e fr)) (hb0 : w0.heap.size ≤ b) (he : e ≠ 84 ∧ e ≠ 83 ∧ e ≠ 85 ∧ e ≠ 23 ∧ e ≠ 58 ∧ e ≠ 52) : DerI w0 lines nl b8 b7 K G ms hd N (X.setCell ⟨b, i, none⟩ u) :=
  h.grown (grownBy_set X b i u) fun r e1 => by
    cases e1
    refine ⟨hb0, h.noMap ⟨_, hb, rfl⟩, fun cur e2 h1 => ?_⟩
    rw [hb] at h1; cases h1; exact he
end
theorem oper_store {o : Oper} {a : Act} {w : World} {K : Act → World → Prop} {Q : Exit → Act → World → Prop} {b n : Nat} {f : List UInt8 → Option Value} (m x v : Operand) (hop : o.op = Op.mapUpdate 85 m x v) (hm : a.eval m = .map (some b)) (key : ByteArray) (val : Value) (hx : a.eval x = .string key) (hv : a.eval v = val) (hkey : keyOf Tryz.prog 9 (.string key) = some (klB key.data.toList)) (hown : MapV Tryz.prog 9 klB w b n f) (hn : n < maxLen)
    (h : ∀ w', MapV Tryz.prog 9 klB w' b (n + 1) (fun z => if z = key.data.toList then some val else f z) → w.grownBy w' (some b) → K (a.put o.dst undef) w') : o.wp Tryz.prog a w K Q := by
  obtain ⟨w', hrun, r1, r2, _⟩ := hown.store seen_key Tryz.underlying85 hn klB_inj klB_lit hkey val
  unfold Oper.wp
  simp [execOp, hop, hm, hx, hv, hrun, Result.andThen]
  exact h w' r1 r2
/-- All but the maps stands. -/
def SameM (ms : List Value) (X Y : World) : Prop := X.heap.size ≤ Y.heap.size ∧ ∀ r, r < X.heap.size → (∀ v : Nat, ms[v]? ≠ some (Value.map (some r))) → Y.heap[r]? = X.heap[r]?
theorem SameM.ext {ms : List Value} {X Y Z : World} (h : Ext X Y) (k : SameM ms Y Z) : SameM ms X Z :=
  ⟨Nat.le_trans h.le k.1, fun r hr hn => (k.2 r (Nat.lt_of_lt_of_le hr h.le) hn).trans (Below.block h.bel r hr)⟩
theorem SameM.of_ext {ms : List Value} {X Y : World} (h : Ext X Y) : SameM ms X Y := ⟨h.le, fun r hr _ => Below.block h.bel r hr⟩
theorem yields_look {ops : Array Oper} {S : World → Prop} {op : Oper} {a : Act} {b n : Nat} {f : List UInt8 → Option Value} (m x : Operand) (hop : op.op = Op.lookup 85 m x true) (hm : a.eval m = .map (some b)) (key : ByteArray) (hx : a.eval x = .string key) (hkey : keyOf Tryz.prog 9 (.string key) = some (klB key.data.toList)) (hS : ∀ w, S w → MapV Tryz.prog 9 klB w b n f) (z : Value) (hz : ∀ w, (zeroValue 42).run Tryz.prog w = .ok z w) (v : Value) (hv : (f key.data.toList).getD z = v) (c : Bool) (hc : (f key.data.toList).isSome = c) (hw : Region.wanted op (yielded ops a.tmps) = true) :
    YieldsIf Tryz.prog ops S op (.tuple #[v, .bool c]) a :=
  .inl ⟨hw, fun w hw' => by
    have hrun := (hS w hw').lookOk seen_key Tryz.underlying85 (hz w) hkey
    rw [hv, hc] at hrun
    unfold execOp
    simp only [hop, hm, hx, hrun, Result.andThen, Sem.run_bind, Sem.run_pure]⟩
theorem zeroForm (w : World) : (zeroValue 42).run Tryz.prog w = .ok (.agg #[.bool false, .slice none 0 0]) w := by kernel_rfl
theorem wordOk_all {ws : List Snd} (h : wordOk ws = true) : ∀ s ∈ ws, s.ok = true := by
  unfold wordOk at h
  rw [Bool.and_eq_true] at h
  exact List.all_eq_true.1 h.2
/-- What deriver$1 returns. -/
def RetD1 (w0 : World) (lines : Nat → List HL) (nl b8 b7 K G : Nat) (ms : List Value) (hd : Nat → Value) (N : Nat) (f : Fm) (leaf : Nat) (X : World) (e : Ending) (X' : World) : Prop :=
  ∃ (has : Bool) (a : Option Addr) (n c : Nat), e = .returned (.tuple #[.slice a n c, .bool has]) ∧ DerI w0 lines nl b8 b7 K G ms hd N X' ∧ SameM ms X X' ∧ Hid (has = (f.on && (deriveM (lines leaf) f.ws).isSome)) ∧ Hid (f.on = true → ∀ out, deriveM (lines leaf) f.ws = some out → OwnS w0.heap.size 52 X' (.slice a n c) out)
set_option maxHeartbeats 4000000 in
set_option maxRecDepth 20000 in
theorem deriver1_any (w0 : World) (lines : Nat → List HL) (nl b8 b7 K G : Nat) (ms : List Value) (hd : Nat → Value) (N : Nat) (f : Fm) (leaf : Nat) (X : World) (hD : DerI w0 lines nl b8 b7 K G ms hd N X) (hleaf : leaf < nl) (hrL : ∀ L ∈ lines leaf, RdLw w0 L) (hf : RdS w0 f.a f.n f.cap f.ws) (hok : wordOk f.ws = true) (hT : Tab64 w0) (hN : N < 100000) :
    Calls Tryz.prog 25 #[f.v, .int .i64 (leaf : Int), .pointer (some ⟨b8, 0, none⟩), .pointer (some ⟨b7, 0, none⟩)] X (RetD1 w0 lines nl b8 b7 K G ms hd (N + 1) f leaf X) := by
  obtain ⟨on, fa, fn, fc, ws⟩ := f
  simp only at hf hok
  cases on
  · go_enter Tryz.func25, Tryz.ntmps25
    go_wp2_with fail
    go_ret2
    exact ⟨false, none, 0, 0, rfl, (hD.ext' (Ext.alloc1 _ _)).up (by omega), SameM.of_ext (Ext.alloc1 _ _), Lib.hid rfl, Lib.hid fun h => by cases h⟩
  · have hfl := hf.len
    have hw32 : ws.length ≤ 32 := by
      unfold wordOk at hok
      rw [Bool.and_eq_true, decide_eq_true_eq] at hok
      exact hok.1
    have hD1 := hD.ext' (Ext.alloc1 X (.cells #[.bool true, .slice fa fn fc] 42))
    have hB1 : (X.alloc (.cells #[.bool true, .slice fa fn fc] 42)).heap[X.heap.size]? = some (.cells #[.bool true, .slice fa fn fc] 42 (0, 0)) := World.alloc_heap_new X _
    have hx1 := Ext.alloc1 X (.cells #[.bool true, .slice fa fn fc] 42)
    go_enter Tryz.func25, Tryz.ntmps25
    go_wp2_with fail
    generalize hX1 : X.alloc (.cells #[.bool true, .slice fa fn fc] 42) = X1 at *
    replace hX1 := Lib.hid hX1
    generalize hxs : X.heap.size = bf at *
    replace hxs := Lib.hid hxs
    obtain ⟨bm, nm, g, hms, hbm0, hnm, hmap, hgood⟩ := hD1.maps leaf hleaf
    have hK1 := own_ge hD1.own
    have e8 := hD1.k8.cell
    have eK : X1.cell? ⟨K, leaf, none⟩ = some (.map (some bm)) := by
      have := own_at anyE_len hD1.own hms (j := 0) (u := .map (some bm)) rfl
      simpa using this
    have ef1 : X1.cell? ⟨bf, 1, none⟩ = some (.slice fa fn fc) := by simp [World.cell?, hB1]
    have hkeyo : keyOf Tryz.prog 9 (.string (keyStr ws)) = some (klB (keyStr ws).data.toList) := WideMaps.keyOf_string_mk Tryz.underlying9 (by
      have : (keyStr ws).size = (keyX ws).length := strOfNums_size _
      rw [this, keyX_len]; unfold maxLen; omega)
    obtain ⟨has0, a0, n0, c0, hv0, hfd⟩ : ∃ has0 a0 n0 c0, (g (keyStr ws).data.toList).getD (.agg #[.bool false, .slice none 0 0]) = .agg #[.bool has0, .slice a0 n0 c0] ∧ ((g (keyStr ws).data.toList).isSome = true → has0 = (deriveM (lines leaf) ws).isSome ∧ ∀ out, deriveM (lines leaf) ws = some out → OwnS w0.heap.size 52 X1 (.slice a0 n0 c0) out) := by
      cases hg : g (keyStr ws).data.toList with
      | none => exact ⟨false, none, 0, 0, rfl, fun h => by cases h⟩
      | some val =>
        obtain ⟨has, a, n, c, h1, h2⟩ := hgood _ val hg
        exact ⟨has, a, n, c, h1, fun _ => h2 ws hok rfl⟩
    obtain ⟨found, hfound⟩ : ∃ found, (g (keyStr ws).data.toList).isSome = found := ⟨_, rfl⟩
    rw [hfound] at hfd
    replace hkeyo := Lib.hid hkeyo
    replace hv0 := Lib.hid hv0
    replace hfd := Lib.hid hfd
    replace hfound := Lib.hid hfound
    have hfX := fun W (hx : Ext X1 W) => hf.ext (hD1.ext.trans hx)
    have hlk : leaf < nl ∧ ws.length ≤ 32 ∧ fn ≤ 4000 := ⟨hleaf, hw32, by omega⟩
    clear hms hgood
    have hmx : Tryz.prog.follows .mixedOrders = true := by kernel_rfl
    refine wp_region_H (fun W' : World => Ext X1 W') [0, 1, 2, 3, 4, 5, 7, 8, 9, 10] hmx ?_
    show wpH _ _ _ _ _ _ 14 _ _ _
    have hS0 : (fun W' : World => Ext X1 W') X1.drew := (Ext.refl _).drew
    refine wpH_take (i := 0) (v := (.slice (some ⟨K, 0, none⟩) nl nl)) rfl (by kernel_rfl) (by kernel_rfl) (by kernel_rfl) (by kernel_rfl) (by kernel_rfl) (fun _ _ _ h => h) (.inl ⟨rfl, fun W' hW' => ?_⟩) hS0 ?_
    · have u := Ext.cellv hW' e8
      go_simp
    refine wpH_take (i := 1) (v := (.int .i64 (leaf : Int))) rfl (by kernel_rfl) (by kernel_rfl) (by kernel_rfl) (by kernel_rfl) (by kernel_rfl) (fun _ _ _ h => h) (.inl ⟨rfl, fun W' hW' => ?_⟩) hS0 ?_
    · go_simp
    refine wpH_take (i := 2) (v := (.pointer (some ⟨K, leaf, none⟩))) rfl (by kernel_rfl) (by kernel_rfl) (by kernel_rfl) (by kernel_rfl) (by kernel_rfl) (fun _ _ _ h => h) (.inl ⟨rfl, fun W' hW' => ?_⟩) hS0 ?_
    · go_simp
    refine wpH_take (i := 3) (v := (.map (some bm))) rfl (by kernel_rfl) (by kernel_rfl) (by kernel_rfl) (by kernel_rfl) (by kernel_rfl) (fun _ _ _ h => h) (.inl ⟨rfl, fun W' hW' => ?_⟩) hS0 ?_
    · have u := Ext.cellv hW' eK
      go_simp
    refine wpH_take (i := 4) (v := (.pointer (some ⟨bf, 1, none⟩))) rfl (by kernel_rfl) (by kernel_rfl) (by kernel_rfl) (by kernel_rfl) (by kernel_rfl) (fun _ _ _ h => h) (.inl ⟨rfl, fun W' hW' => ?_⟩) hS0 ?_
    · go_simp
    refine wpH_take (i := 5) (v := (.slice fa fn fc)) rfl (by kernel_rfl) (by kernel_rfl) (by kernel_rfl) (by kernel_rfl) (by kernel_rfl) (fun _ _ _ h => h) (.inl ⟨rfl, fun W' hW' => ?_⟩) hS0 ?_
    · have u := Ext.cellv hW' ef1
      go_simp
    refine wpH_two (j := 6) (k := 11) rfl rfl (by kernel_rfl) rfl rfl (fun K hK => ?_) (fun K hK => ?_)
    · go_simp
      refine (key_any fa fn fc ws _ (hfX _ hS0) hlk.2.2).mono ?_
      rintro e X2 ⟨rfl, hx2⟩
      refine hK _ _ (fun _ => hS0.trans hx2) ?_
      replace hS0 : (fun W' : World => Ext X1 W') X2 := hS0.trans hx2
      clear hK K hx2
      refine wpH_take (i := 7) (v := (.tuple #[.agg #[.bool has0, .slice a0 n0 c0], .bool found])) rfl (by kernel_rfl) (by kernel_rfl) (by kernel_rfl) (by kernel_rfl) (by kernel_rfl) (fun _ _ _ h => h) (yields_look (b := bm) (n := nm) (f := g) _ _ rfl (by go_simp) (keyStr ws) (by go_simp) hkeyo.out (fun W' hW' => hmap.kept hW') _ zeroForm _ hv0.out _ hfound.out rfl) hS0 ?_
      refine wpH_take (i := 8) (v := (.tuple #[.agg #[.bool has0, .slice a0 n0 c0], .bool found])) rfl (by kernel_rfl) (by kernel_rfl) (by kernel_rfl) (by kernel_rfl) (by kernel_rfl) (fun _ _ _ h => h) (.inl ⟨rfl, fun W' hW' => ?_⟩) hS0 ?_
      · go_simp
      refine wpH_take (i := 9) (v := (.agg #[.bool has0, .slice a0 n0 c0])) rfl (by kernel_rfl) (by kernel_rfl) (by kernel_rfl) (by kernel_rfl) (by kernel_rfl) (fun _ _ _ h => h) (.inl ⟨rfl, fun W' hW' => ?_⟩) hS0 ?_
      · go_simp
      refine wpH_take (i := 10) (v := (.bool found)) rfl (by kernel_rfl) (by kernel_rfl) (by kernel_rfl) (by kernel_rfl) (by kernel_rfl) (fun _ _ _ h => h) (.inl ⟨rfl, fun W' hW' => ?_⟩) hS0 ?_
      · go_simp
      refine wpH_step (k := 11) rfl (by kernel_rfl) rfl fun K hK => ?_
      go_simp
      refine hK _ _ (fun _ => hS0.trans (Ext.alloc1 _ _)) ?_
      clear hK K
      refine wpH_step (k := 12) rfl (by kernel_rfl) rfl fun K hK => ?_
      go_simp
      have hbY : (X2.alloc (.cells #[.bool has0, .slice a0 n0 c0] 42)).heap[X2.heap.size]? = some (.cells #[.bool has0, .slice a0 n0 c0] 42 (0, 0)) := World.alloc_heap_new _ _
      have hxY : Ext X1 (X2.alloc (.cells #[.bool has0, .slice a0 n0 c0] 42)) := hS0.trans (Ext.alloc1 _ _)
      have hbge : X1.heap.size ≤ X2.heap.size := hS0.le
      refine hK _ _ (fun _ => hxY) ?_
      clear hK K
      generalize (X2.alloc (.cells #[.bool has0, .slice a0 n0 c0] 42)) = Y at *
      generalize X2.heap.size = bb at *
      clear hS0
      refine wpH_step (k := 13) rfl (by kernel_rfl) rfl fun K hK => ?_
      go_simp
      refine hK _ _ (needA_no (by kernel_rfl)) ?_
      clear hK K
      refine wpH_last (by kernel_rfl) ?_
      have g0 : Y.cell? ⟨bb, 0, none⟩ = some (.bool has0) := by simp [World.cell?, hbY]
      have g1 : Y.cell? ⟨bb, 1, none⟩ = some (.slice a0 n0 c0) := by simp [World.cell?, hbY]
      have r0 := frozen_of_row Y bb 0 _ _ hbY
      have r1 := frozen_of_row Y bb 1 _ _ hbY
      have hDY := hD1.ext' hxY
      cases found
      · obtain ⟨aL, nL, cL, hnL, hvL, hrdL⟩ := OwnK.rdn HL.len (hDY.fam.own leaf hleaf)
        have e7 := hDY.k7.cell
        have eG := hDY.fam.head leaf hleaf
        rw [hvL] at eG
        replace hvL := Lib.hid hvL
        have efY := hxY.cellv ef1
        have hx0Y := hDY.ext
        have hdv : ∀ W, Ext Y W → Calls Tryz.prog 27 #[.slice aL nL cL, .slice fa fn fc] W (RetAp (deriveM (lines leaf) ws) W) := fun W hW => derive_any (lines leaf) aL nL cL fa fn fc ws W ⟨hrdL.ext hW, fun L hL => (hrL L hL).ext (hx0Y.trans hW)⟩ (hf.ext (hx0Y.trans hW)) (hT.ext (hx0Y.trans hW))
        clear hnL hrdL
        go_wp2_with fail
        refine wp_region_H (fun W' : World => Ext Y W') [0, 1, 2, 3, 4, 5, 7, 8, 9] hmx ?_
        show wpH _ _ _ _ _ _ 12 _ _ _
        have hS0 : (fun W' : World => Ext Y W') Y.drew := (Ext.refl _).drew
        refine wpH_take (i := 0) (v := (.slice (some ⟨G, 0, none⟩) nl nl)) rfl (by kernel_rfl) (by kernel_rfl) (by kernel_rfl) (by kernel_rfl) (by kernel_rfl) (fun _ _ _ h => h) (.inl ⟨rfl, fun W' hW' => ?_⟩) hS0 ?_
        · have u := Ext.cellv hW' e7
          go_simp
        refine wpH_take (i := 1) (v := (.int .i64 (leaf : Int))) rfl (by kernel_rfl) (by kernel_rfl) (by kernel_rfl) (by kernel_rfl) (by kernel_rfl) (fun _ _ _ h => h) (.inl ⟨rfl, fun W' hW' => ?_⟩) hS0 ?_
        · go_simp
        refine wpH_take (i := 2) (v := (.pointer (some ⟨G, leaf, none⟩))) rfl (by kernel_rfl) (by kernel_rfl) (by kernel_rfl) (by kernel_rfl) (by kernel_rfl) (fun _ _ _ h => h) (.inl ⟨rfl, fun W' hW' => ?_⟩) hS0 ?_
        · go_simp
        refine wpH_take (i := 3) (v := (.slice aL nL cL)) rfl (by kernel_rfl) (by kernel_rfl) (by kernel_rfl) (by kernel_rfl) (by kernel_rfl) (fun _ _ _ h => h) (.inl ⟨rfl, fun W' hW' => ?_⟩) hS0 ?_
        · have u := Ext.cellv hW' eG
          go_simp
        refine wpH_take (i := 4) (v := (.pointer (some ⟨bf, 1, none⟩))) rfl (by kernel_rfl) (by kernel_rfl) (by kernel_rfl) (by kernel_rfl) (by kernel_rfl) (fun _ _ _ h => h) (.inl ⟨rfl, fun W' hW' => ?_⟩) hS0 ?_
        · go_simp
        refine wpH_take (i := 5) (v := (.slice fa fn fc)) rfl (by kernel_rfl) (by kernel_rfl) (by kernel_rfl) (by kernel_rfl) (by kernel_rfl) (fun _ _ _ h => h) (.inl ⟨rfl, fun W' hW' => ?_⟩) hS0 ?_
        · have u := Ext.cellv hW' efY
          go_simp
        refine wpH_step (k := 6) rfl (by kernel_rfl) rfl fun K hK => ?_
        go_simp
        refine (hdv _ hS0).mono ?_
        rintro e Y2 ⟨a2, n2, c2, err, rfl, hxd, herr, hout⟩
        refine hK _ _ (fun _ => Ext.trans hS0 hxd) ?_
        have hxY2 : Ext Y Y2 := Ext.trans hS0 hxd
        replace hS0 : (fun W' : World => Ext Y W') Y2 := hxY2
        clear hK K hxd hdv e7 eG
        refine wpH_take (i := 7) (v := (.tuple #[.slice a2 n2 c2, .int .i64 err])) rfl (by kernel_rfl) (by kernel_rfl) (by kernel_rfl) (by kernel_rfl) (by kernel_rfl) (fun _ _ _ h => h) (.inl ⟨rfl, fun W' hW' => ?_⟩) hS0 ?_
        · go_simp
        refine wpH_take (i := 8) (v := (.slice a2 n2 c2)) rfl (by kernel_rfl) (by kernel_rfl) (by kernel_rfl) (by kernel_rfl) (by kernel_rfl) (fun _ _ _ h => h) (.inl ⟨rfl, fun W' hW' => ?_⟩) hS0 ?_
        · go_simp
        refine wpH_take (i := 9) (v := (.int .i64 err)) rfl (by kernel_rfl) (by kernel_rfl) (by kernel_rfl) (by kernel_rfl) (by kernel_rfl) (fun _ _ _ h => h) (.inl ⟨rfl, fun W' hW' => ?_⟩) hS0 ?_
        · go_simp
        refine wpH_step (k := 10) rfl (by kernel_rfl) rfl fun K hK => ?_
        go_simp
        refine hK _ _ (fun _ => hxY2) ?_
        clear hK K
        refine wpH_step (k := 11) rfl (by kernel_rfl) rfl fun K hK => ?_
        go_simp
        refine hK _ _ (needA_no (by kernel_rfl)) ?_
        clear hK K
        refine wpH_last (by kernel_rfl) ?_
        have hbY2 := blk_kept hbY hxY2
        have v0 := hxY2.cellv g0
        have v1 := hxY2.cellv g1
        have s0 := frozen_of_row Y2 bb 0 _ _ hbY2
        have s1 := frozen_of_row Y2 bb 1 _ _ hbY2
        obtain ⟨okb, hokb⟩ : ∃ okb, (err == 0) = okb := ⟨_, rfl⟩
        have hoks : Hid (okb = (deriveM (lines leaf) ws).isSome) := Lib.hid (by
          rw [← hokb, Bool.eq_iff_iff, beq_iff_eq]; exact herr.out)
        clear g0 g1 r0 r1 hS0 herr
        go_wp2_with fail
        have hbZ := set_heap (i := 1) (v := .slice a2 n2 c2) (set_heap (i := 0) (v := .bool okb) hbY2)
        have hb0 : w0.heap.size ≤ bb := Nat.le_trans hD1.ext.le hbge
        have hDZ := ((hDY.ext' hxY2).setF (i := 0) (u := .bool okb) hbY2 hb0 (by decide)).setF (i := 1) (u := .slice a2 n2 c2) (set_heap hbY2) hb0 (by decide)
        have hxXZ : Ext X1 ((Y2.setCell ⟨bb, 0, none⟩ (.bool okb)).setCell ⟨bb, 1, none⟩ (.slice a2 n2 c2)) := (Ext.setCell (hxY.trans hxY2) (p := ⟨bb, 0, none⟩) hbge _).setCell (p := ⟨bb, 1, none⟩) hbge _
        have houtZ : Hid (∀ out, deriveM (lines leaf) ws = some out → OwnS w0.heap.size 52 ((Y2.setCell ⟨bb, 0, none⟩ (.bool okb)).setCell ⟨bb, 1, none⟩ (.slice a2 n2 c2)) (.slice a2 n2 c2) out) := Lib.hid fun out ho => own_offT (own_offT (OwnK.base (hout.out out ho) hx0Y.le) hbY2 (by decide)) (set_heap (i := 0) (v := .bool okb) hbY2) (by decide)
        generalize hZ : (Y2.setCell ⟨bb, 0, none⟩ (.bool okb)).setCell ⟨bb, 1, none⟩ (.slice a2 n2 c2) = Z at *
        replace hbZ : Z.heap[bb]? = some (.cells #[.bool okb, .slice a2 n2 c2] 42 (0, 0)) := hbZ
        clear hZ hout v0 v1 s0 s1 hbY2 hDY hx0Y efY
        obtain ⟨bm', nm', g', hms', hbm0', hnm', hmap', hgood'⟩ := hDZ.maps leaf hleaf
        have e8Z := hDZ.k8.cell
        have eKZ : Z.cell? ⟨K, leaf, none⟩ = some (.map (some bm')) := by
          have := own_at anyE_len hDZ.own hms' (j := 0) (u := .map (some bm')) rfl
          simpa using this
        have efZ := hxXZ.cellv ef1
        have u0 : Z.cell? ⟨bb, 0, none⟩ = some (.bool okb) := by simp [World.cell?, hbZ]
        have u1 : Z.cell? ⟨bb, 1, none⟩ = some (.slice a2 n2 c2) := by simp [World.cell?, hbZ]
        refine wp_region_H (fun W' : World => Ext Z W') [0, 1, 2, 3, 4, 5, 7] hmx ?_
        show wpH _ _ _ _ _ _ 9 _ _ _
        have hS0 : (fun W' : World => Ext Z W') Z.drew := (Ext.refl _).drew
        refine wpH_take (i := 0) (v := (.slice (some ⟨K, 0, none⟩) nl nl)) rfl (by kernel_rfl) (by kernel_rfl) (by kernel_rfl) (by kernel_rfl) (by kernel_rfl) (fun _ _ _ h => h) (.inl ⟨rfl, fun W' hW' => ?_⟩) hS0 ?_
        · have u := Ext.cellv hW' e8Z
          go_simp
        refine wpH_take (i := 1) (v := (.int .i64 (leaf : Int))) rfl (by kernel_rfl) (by kernel_rfl) (by kernel_rfl) (by kernel_rfl) (by kernel_rfl) (fun _ _ _ h => h) (.inl ⟨rfl, fun W' hW' => ?_⟩) hS0 ?_
        · go_simp
        refine wpH_take (i := 2) (v := (.pointer (some ⟨K, leaf, none⟩))) rfl (by kernel_rfl) (by kernel_rfl) (by kernel_rfl) (by kernel_rfl) (by kernel_rfl) (fun _ _ _ h => h) (.inl ⟨rfl, fun W' hW' => ?_⟩) hS0 ?_
        · go_simp
        refine wpH_take (i := 3) (v := (.map (some bm'))) rfl (by kernel_rfl) (by kernel_rfl) (by kernel_rfl) (by kernel_rfl) (by kernel_rfl) (fun _ _ _ h => h) (.inl ⟨rfl, fun W' hW' => ?_⟩) hS0 ?_
        · have u := Ext.cellv hW' eKZ
          go_simp
        refine wpH_take (i := 4) (v := (.pointer (some ⟨bf, 1, none⟩))) rfl (by kernel_rfl) (by kernel_rfl) (by kernel_rfl) (by kernel_rfl) (by kernel_rfl) (fun _ _ _ h => h) (.inl ⟨rfl, fun W' hW' => ?_⟩) hS0 ?_
        · go_simp
        refine wpH_take (i := 5) (v := (.slice fa fn fc)) rfl (by kernel_rfl) (by kernel_rfl) (by kernel_rfl) (by kernel_rfl) (by kernel_rfl) (fun _ _ _ h => h) (.inl ⟨rfl, fun W' hW' => ?_⟩) hS0 ?_
        · have u := Ext.cellv hW' efZ
          go_simp
        refine wpH_take (i := 7) (v := (.agg #[.bool okb, .slice a2 n2 c2])) rfl (by kernel_rfl) (by kernel_rfl) (by kernel_rfl) (by kernel_rfl) (by kernel_rfl) (fun _ _ _ h => h) (.inl ⟨rfl, fun W' hW' => ?_⟩) hS0 ?_
        · (have u := Ext.cellv hW' u0; have v := Ext.cellv hW' u1)
          go_simp
        refine wpH_step (k := 6) rfl (by kernel_rfl) rfl fun K hK => ?_
        go_simp
        refine (key_any fa fn fc ws _ (hfX _ (hxXZ.trans hS0)) hlk.2.2).mono ?_
        rintro e Z2 ⟨rfl, hx2⟩
        have hxZ2 : Ext Z Z2 := Ext.trans hS0 hx2
        refine hK _ _ (fun _ => hxZ2) ?_
        clear hK K hx2 hS0
        have hDZ2 := hDZ.ext' hxZ2
        refine wpH_step (k := 8) rfl (by kernel_rfl) rfl fun KK hK => ?_
        refine oper_store (b := bm') (n := nm') (f := g') _ _ _ rfl (by go_simp) (keyStr ws) (.agg #[.bool okb, .slice a2 n2 c2]) (by go_simp) (by go_simp) hkeyo.out (hmap'.kept hxZ2) (by unfold maxLen; omega) ?_
        intro W3 hm3 hg3
        have hbW : W3.heap[bb]? = some (.cells #[.bool okb, .slice a2 n2 c2] 42 (0, 0)) := (hg3.block bb (Nat.lt_of_lt_of_le (Array.getElem?_eq_some_iff.1 hbZ).1 hxZ2.le) fun e => by
          cases e
          exact hDZ.noMap ⟨_, hbZ, rfl⟩ leaf hms').trans (blk_kept hbZ hxZ2)
        have hD3 : DerI w0 lines nl b8 b7 K G ms hd (N + 1) W3 := hDZ2.store hms' hbm0' (hmap'.kept hxZ2).notCells hg3 hnm' hm3 fun key val hf => by
          by_cases ek : key = (keyStr ws).data.toList
          · rw [if_pos ek] at hf
            cases hf
            refine ⟨okb, a2, n2, c2, rfl, fun ws' h1 h2 => ?_⟩
            have h3 : ws' = ws := by
              have e1 := wordOk_all h1
              have e2 := wordOk_all hok
              exact keyB_inj e1 e2 (h2.trans ek)
            rw [h3]
            exact ⟨hoks.out, fun out ho => OwnK.kept (houtZ.out out ho) hxZ2⟩
          · rw [if_neg ek] at hf
            exact (hgood' key val hf).grown (gb_ext hxZ2 none) fun r e => by cases e
        have hout3 : Hid (∀ out, deriveM (lines leaf) ws = some out → OwnS w0.heap.size 52 W3 (.slice a2 n2 c2) out) := Lib.hid fun out ho => own_typed (OwnK.kept (houtZ.out out ho) hxZ2) hg3 fun r e cur h1 => by
          cases e
          obtain ⟨o, h2, h3⟩ := (hmap'.kept hxZ2).notCells
          rw [h2] at h1; cases h1; cases h3
        have hsame : SameM ms X W3 := SameM.ext (hx1.trans (hxXZ.trans hxZ2)) ⟨hg3.size, fun r hr hn => hg3.block r hr fun e => by cases e; exact hn leaf hms'⟩
        have q0 : W3.cell? ⟨bb, 0, none⟩ = some (.bool okb) := by simp [World.cell?, hbW]
        have q1 : W3.cell? ⟨bb, 1, none⟩ = some (.slice a2 n2 c2) := by simp [World.cell?, hbW]
        refine hK _ _ (needA_no (by kernel_rfl)) ?_
        clear hK KK hm3 hg3 e8Z eKZ efZ u0 u1 hbW hmap' hgood'
        refine wpH_last (by kernel_rfl) ?_
        go_wp2_with fail
        go_quiet (fail)
        go_wp2_with fail
        go_ret2
        exact ⟨okb, a2, n2, c2, rfl, hD3.ext' ((Ext.refl _).drewN _), ⟨hsame.1, hsame.2⟩, Lib.hid (by rw [hoks.out]; rfl), Lib.hid fun _ out ho => OwnK.kept (hout3.out out ho) ((Ext.refl _).drewN _)⟩
      · have hfo := hfd.out rfl
        go_wp2_with fail
        go_quiet (fail)
        go_wp2_with fail
        go_ret2
        exact ⟨_, a0, n0, c0, rfl, (hDY.ext' ((Ext.refl _).drewN _)).up (Nat.le_succ _), SameM.of_ext (hx1.trans (hxY.drewN _)), Lib.hid (by simp), Lib.hid fun _ out ho => OwnK.kept (hfo.2 out ho) (hxY.drewN _)⟩
    · go_simp
      refine hK _ _ (fun _ => hS0.trans (Ext.alloc1 _ _)) ?_
      clear hK K
      refine wpH_step (k := 6) rfl (by kernel_rfl) rfl fun K hK => ?_
      go_simp
      refine (key_any fa fn fc ws _ (hfX _ (hS0.trans (Ext.alloc1 _ _))) hlk.2.2).mono ?_
      rintro e X2 ⟨rfl, hx2⟩
      refine hK _ _ (fun _ => hS0.trans ((Ext.alloc1 _ _).trans hx2)) ?_
      clear hK K
      have hbz : X2.heap[X1.heap.size]? = some (.cells #[.bool false, .slice none 0 0] 42 (0, 0)) := blk_kept (World.alloc_heap_new X1.drew _) hx2
      replace hS0 : (fun W' : World => Ext X1 W') X2 := hS0.trans ((Ext.alloc1 _ _).trans hx2)
      refine wpH_take (i := 7) (v := (.tuple #[.agg #[.bool has0, .slice a0 n0 c0], .bool found])) rfl (by kernel_rfl) (by kernel_rfl) (by kernel_rfl) (by kernel_rfl) (by kernel_rfl) (fun _ _ _ h => h) (yields_look (b := bm) (n := nm) (f := g) _ _ rfl (by go_simp) (keyStr ws) (by go_simp) hkeyo.out (fun W' hW' => hmap.kept hW') _ zeroForm _ hv0.out _ hfound.out rfl) hS0 ?_
      refine wpH_take (i := 8) (v := (.tuple #[.agg #[.bool has0, .slice a0 n0 c0], .bool found])) rfl (by kernel_rfl) (by kernel_rfl) (by kernel_rfl) (by kernel_rfl) (by kernel_rfl) (fun _ _ _ h => h) (.inl ⟨rfl, fun W' hW' => ?_⟩) hS0 ?_
      · go_simp
      refine wpH_take (i := 9) (v := (.agg #[.bool has0, .slice a0 n0 c0])) rfl (by kernel_rfl) (by kernel_rfl) (by kernel_rfl) (by kernel_rfl) (by kernel_rfl) (fun _ _ _ h => h) (.inl ⟨rfl, fun W' hW' => ?_⟩) hS0 ?_
      · go_simp
      refine wpH_take (i := 10) (v := (.bool found)) rfl (by kernel_rfl) (by kernel_rfl) (by kernel_rfl) (by kernel_rfl) (by kernel_rfl) (fun _ _ _ h => h) (.inl ⟨rfl, fun W' hW' => ?_⟩) hS0 ?_
      · go_simp
      have z0 : X2.cell? ⟨X1.heap.size, 0, none⟩ = some (.bool false) := by simp [World.cell?, hbz]
      have z1 : X2.cell? ⟨X1.heap.size, 1, none⟩ = some (.slice none 0 0) := by simp [World.cell?, hbz]
      have y0 := frozen_of_row X2 X1.heap.size 0 _ _ hbz
      have y1 := frozen_of_row X2 X1.heap.size 1 _ _ hbz
      refine wpH_step (k := 12) rfl (by kernel_rfl) rfl fun K hK => ?_
      go_simp
      have hbY := set_heap (i := 1) (v := .slice a0 n0 c0) (set_heap (i := 0) (v := .bool has0) hbz)
      have hxY : Ext X1 ((X2.setCell ⟨X1.heap.size, 0, none⟩ (.bool has0)).setCell ⟨X1.heap.size, 1, none⟩ (.slice a0 n0 c0)) := (Ext.setCell hS0 (p := ⟨X1.heap.size, 0, none⟩) (Nat.le_refl _) _).setCell (p := ⟨X1.heap.size, 1, none⟩) (Nat.le_refl _) _
      refine hK _ _ (fun _ => hxY) ?_
      clear hK K
      obtain ⟨bb, hbb⟩ : ∃ bb, X1.heap.size = bb := ⟨_, rfl⟩
      have hbge : X1.heap.size ≤ bb := Nat.le_of_eq hbb
      rw [hbb] at hxY hbY ⊢
      generalize ((X2.setCell ⟨bb, 0, none⟩ (.bool has0)).setCell ⟨bb, 1, none⟩ (.slice a0 n0 c0)) = Y at *
      replace hbY : Y.heap[bb]? = some (.cells #[.bool has0, .slice a0 n0 c0] 42 (0, 0)) := hbY
      clear hS0 z0 z1 y0 y1 hbz hbb
      refine wpH_step (k := 13) rfl (by kernel_rfl) rfl fun K hK => ?_
      go_simp
      refine hK _ _ (needA_no (by kernel_rfl)) ?_
      clear hK K
      refine wpH_last (by kernel_rfl) ?_
      have g0 : Y.cell? ⟨bb, 0, none⟩ = some (.bool has0) := by simp [World.cell?, hbY]
      have g1 : Y.cell? ⟨bb, 1, none⟩ = some (.slice a0 n0 c0) := by simp [World.cell?, hbY]
      have r0 := frozen_of_row Y bb 0 _ _ hbY
      have r1 := frozen_of_row Y bb 1 _ _ hbY
      have hDY := hD1.ext' hxY
      cases found
      · obtain ⟨aL, nL, cL, hnL, hvL, hrdL⟩ := OwnK.rdn HL.len (hDY.fam.own leaf hleaf)
        have e7 := hDY.k7.cell
        have eG := hDY.fam.head leaf hleaf
        rw [hvL] at eG
        replace hvL := Lib.hid hvL
        have efY := hxY.cellv ef1
        have hx0Y := hDY.ext
        have hdv : ∀ W, Ext Y W → Calls Tryz.prog 27 #[.slice aL nL cL, .slice fa fn fc] W (RetAp (deriveM (lines leaf) ws) W) := fun W hW => derive_any (lines leaf) aL nL cL fa fn fc ws W ⟨hrdL.ext hW, fun L hL => (hrL L hL).ext (hx0Y.trans hW)⟩ (hf.ext (hx0Y.trans hW)) (hT.ext (hx0Y.trans hW))
        clear hnL hrdL
        go_wp2_with fail
        refine wp_region_H (fun W' : World => Ext Y W') [0, 1, 2, 3, 4, 5, 7, 8, 9] hmx ?_
        show wpH _ _ _ _ _ _ 12 _ _ _
        have hS0 : (fun W' : World => Ext Y W') Y.drew := (Ext.refl _).drew
        refine wpH_take (i := 0) (v := (.slice (some ⟨G, 0, none⟩) nl nl)) rfl (by kernel_rfl) (by kernel_rfl) (by kernel_rfl) (by kernel_rfl) (by kernel_rfl) (fun _ _ _ h => h) (.inl ⟨rfl, fun W' hW' => ?_⟩) hS0 ?_
        · have u := Ext.cellv hW' e7
          go_simp
        refine wpH_take (i := 1) (v := (.int .i64 (leaf : Int))) rfl (by kernel_rfl) (by kernel_rfl) (by kernel_rfl) (by kernel_rfl) (by kernel_rfl) (fun _ _ _ h => h) (.inl ⟨rfl, fun W' hW' => ?_⟩) hS0 ?_
        · go_simp
        refine wpH_take (i := 2) (v := (.pointer (some ⟨G, leaf, none⟩))) rfl (by kernel_rfl) (by kernel_rfl) (by kernel_rfl) (by kernel_rfl) (by kernel_rfl) (fun _ _ _ h => h) (.inl ⟨rfl, fun W' hW' => ?_⟩) hS0 ?_
        · go_simp
        refine wpH_take (i := 3) (v := (.slice aL nL cL)) rfl (by kernel_rfl) (by kernel_rfl) (by kernel_rfl) (by kernel_rfl) (by kernel_rfl) (fun _ _ _ h => h) (.inl ⟨rfl, fun W' hW' => ?_⟩) hS0 ?_
        · have u := Ext.cellv hW' eG
          go_simp
        refine wpH_take (i := 4) (v := (.pointer (some ⟨bf, 1, none⟩))) rfl (by kernel_rfl) (by kernel_rfl) (by kernel_rfl) (by kernel_rfl) (by kernel_rfl) (fun _ _ _ h => h) (.inl ⟨rfl, fun W' hW' => ?_⟩) hS0 ?_
        · go_simp
        refine wpH_take (i := 5) (v := (.slice fa fn fc)) rfl (by kernel_rfl) (by kernel_rfl) (by kernel_rfl) (by kernel_rfl) (by kernel_rfl) (fun _ _ _ h => h) (.inl ⟨rfl, fun W' hW' => ?_⟩) hS0 ?_
        · have u := Ext.cellv hW' efY
          go_simp
        refine wpH_step (k := 6) rfl (by kernel_rfl) rfl fun K hK => ?_
        go_simp
        refine (hdv _ hS0).mono ?_
        rintro e Y2 ⟨a2, n2, c2, err, rfl, hxd, herr, hout⟩
        refine hK _ _ (fun _ => Ext.trans hS0 hxd) ?_
        have hxY2 : Ext Y Y2 := Ext.trans hS0 hxd
        replace hS0 : (fun W' : World => Ext Y W') Y2 := hxY2
        clear hK K hxd hdv e7 eG
        refine wpH_take (i := 7) (v := (.tuple #[.slice a2 n2 c2, .int .i64 err])) rfl (by kernel_rfl) (by kernel_rfl) (by kernel_rfl) (by kernel_rfl) (by kernel_rfl) (fun _ _ _ h => h) (.inl ⟨rfl, fun W' hW' => ?_⟩) hS0 ?_
        · go_simp
        refine wpH_take (i := 8) (v := (.slice a2 n2 c2)) rfl (by kernel_rfl) (by kernel_rfl) (by kernel_rfl) (by kernel_rfl) (by kernel_rfl) (fun _ _ _ h => h) (.inl ⟨rfl, fun W' hW' => ?_⟩) hS0 ?_
        · go_simp
        refine wpH_take (i := 9) (v := (.int .i64 err)) rfl (by kernel_rfl) (by kernel_rfl) (by kernel_rfl) (by kernel_rfl) (by kernel_rfl) (fun _ _ _ h => h) (.inl ⟨rfl, fun W' hW' => ?_⟩) hS0 ?_
        · go_simp
        refine wpH_step (k := 10) rfl (by kernel_rfl) rfl fun K hK => ?_
        go_simp
        refine hK _ _ (fun _ => hxY2) ?_
        clear hK K
        refine wpH_step (k := 11) rfl (by kernel_rfl) rfl fun K hK => ?_
        go_simp
        refine hK _ _ (needA_no (by kernel_rfl)) ?_
        clear hK K
        refine wpH_last (by kernel_rfl) ?_
        have hbY2 := blk_kept hbY hxY2
        have v0 := hxY2.cellv g0
        have v1 := hxY2.cellv g1
        have s0 := frozen_of_row Y2 bb 0 _ _ hbY2
        have s1 := frozen_of_row Y2 bb 1 _ _ hbY2
        obtain ⟨okb, hokb⟩ : ∃ okb, (err == 0) = okb := ⟨_, rfl⟩
        have hoks : Hid (okb = (deriveM (lines leaf) ws).isSome) := Lib.hid (by
          rw [← hokb, Bool.eq_iff_iff, beq_iff_eq]; exact herr.out)
        clear g0 g1 r0 r1 hS0 herr
        go_wp2_with fail
        have hbZ := set_heap (i := 1) (v := .slice a2 n2 c2) (set_heap (i := 0) (v := .bool okb) hbY2)
        have hb0 : w0.heap.size ≤ bb := Nat.le_trans hD1.ext.le hbge
        have hDZ := ((hDY.ext' hxY2).setF (i := 0) (u := .bool okb) hbY2 hb0 (by decide)).setF (i := 1) (u := .slice a2 n2 c2) (set_heap hbY2) hb0 (by decide)
        have hxXZ : Ext X1 ((Y2.setCell ⟨bb, 0, none⟩ (.bool okb)).setCell ⟨bb, 1, none⟩ (.slice a2 n2 c2)) := (Ext.setCell (hxY.trans hxY2) (p := ⟨bb, 0, none⟩) hbge _).setCell (p := ⟨bb, 1, none⟩) hbge _
        have houtZ : Hid (∀ out, deriveM (lines leaf) ws = some out → OwnS w0.heap.size 52 ((Y2.setCell ⟨bb, 0, none⟩ (.bool okb)).setCell ⟨bb, 1, none⟩ (.slice a2 n2 c2)) (.slice a2 n2 c2) out) := Lib.hid fun out ho => own_offT (own_offT (OwnK.base (hout.out out ho) hx0Y.le) hbY2 (by decide)) (set_heap (i := 0) (v := .bool okb) hbY2) (by decide)
        generalize hZ : (Y2.setCell ⟨bb, 0, none⟩ (.bool okb)).setCell ⟨bb, 1, none⟩ (.slice a2 n2 c2) = Z at *
        replace hbZ : Z.heap[bb]? = some (.cells #[.bool okb, .slice a2 n2 c2] 42 (0, 0)) := hbZ
        clear hZ hout v0 v1 s0 s1 hbY2 hDY hx0Y efY
        obtain ⟨bm', nm', g', hms', hbm0', hnm', hmap', hgood'⟩ := hDZ.maps leaf hleaf
        have e8Z := hDZ.k8.cell
        have eKZ : Z.cell? ⟨K, leaf, none⟩ = some (.map (some bm')) := by
          have := own_at anyE_len hDZ.own hms' (j := 0) (u := .map (some bm')) rfl
          simpa using this
        have efZ := hxXZ.cellv ef1
        have u0 : Z.cell? ⟨bb, 0, none⟩ = some (.bool okb) := by simp [World.cell?, hbZ]
        have u1 : Z.cell? ⟨bb, 1, none⟩ = some (.slice a2 n2 c2) := by simp [World.cell?, hbZ]
        refine wp_region_H (fun W' : World => Ext Z W') [0, 1, 2, 3, 4, 5, 7] hmx ?_
        show wpH _ _ _ _ _ _ 9 _ _ _
        have hS0 : (fun W' : World => Ext Z W') Z.drew := (Ext.refl _).drew
        refine wpH_take (i := 0) (v := (.slice (some ⟨K, 0, none⟩) nl nl)) rfl (by kernel_rfl) (by kernel_rfl) (by kernel_rfl) (by kernel_rfl) (by kernel_rfl) (fun _ _ _ h => h) (.inl ⟨rfl, fun W' hW' => ?_⟩) hS0 ?_
        · have u := Ext.cellv hW' e8Z
          go_simp
        refine wpH_take (i := 1) (v := (.int .i64 (leaf : Int))) rfl (by kernel_rfl) (by kernel_rfl) (by kernel_rfl) (by kernel_rfl) (by kernel_rfl) (fun _ _ _ h => h) (.inl ⟨rfl, fun W' hW' => ?_⟩) hS0 ?_
        · go_simp
        refine wpH_take (i := 2) (v := (.pointer (some ⟨K, leaf, none⟩))) rfl (by kernel_rfl) (by kernel_rfl) (by kernel_rfl) (by kernel_rfl) (by kernel_rfl) (fun _ _ _ h => h) (.inl ⟨rfl, fun W' hW' => ?_⟩) hS0 ?_
        · go_simp
        refine wpH_take (i := 3) (v := (.map (some bm'))) rfl (by kernel_rfl) (by kernel_rfl) (by kernel_rfl) (by kernel_rfl) (by kernel_rfl) (fun _ _ _ h => h) (.inl ⟨rfl, fun W' hW' => ?_⟩) hS0 ?_
        · have u := Ext.cellv hW' eKZ
          go_simp
        refine wpH_take (i := 4) (v := (.pointer (some ⟨bf, 1, none⟩))) rfl (by kernel_rfl) (by kernel_rfl) (by kernel_rfl) (by kernel_rfl) (by kernel_rfl) (fun _ _ _ h => h) (.inl ⟨rfl, fun W' hW' => ?_⟩) hS0 ?_
        · go_simp
        refine wpH_take (i := 5) (v := (.slice fa fn fc)) rfl (by kernel_rfl) (by kernel_rfl) (by kernel_rfl) (by kernel_rfl) (by kernel_rfl) (fun _ _ _ h => h) (.inl ⟨rfl, fun W' hW' => ?_⟩) hS0 ?_
        · have u := Ext.cellv hW' efZ
          go_simp
        refine wpH_take (i := 7) (v := (.agg #[.bool okb, .slice a2 n2 c2])) rfl (by kernel_rfl) (by kernel_rfl) (by kernel_rfl) (by kernel_rfl) (by kernel_rfl) (fun _ _ _ h => h) (.inl ⟨rfl, fun W' hW' => ?_⟩) hS0 ?_
        · (have u := Ext.cellv hW' u0; have v := Ext.cellv hW' u1)
          go_simp
        refine wpH_step (k := 6) rfl (by kernel_rfl) rfl fun K hK => ?_
        go_simp
        refine (key_any fa fn fc ws _ (hfX _ (hxXZ.trans hS0)) hlk.2.2).mono ?_
        rintro e Z2 ⟨rfl, hx2⟩
        have hxZ2 : Ext Z Z2 := Ext.trans hS0 hx2
        refine hK _ _ (fun _ => hxZ2) ?_
        clear hK K hx2 hS0
        have hDZ2 := hDZ.ext' hxZ2
        refine wpH_step (k := 8) rfl (by kernel_rfl) rfl fun KK hK => ?_
        refine oper_store (b := bm') (n := nm') (f := g') _ _ _ rfl (by go_simp) (keyStr ws) (.agg #[.bool okb, .slice a2 n2 c2]) (by go_simp) (by go_simp) hkeyo.out (hmap'.kept hxZ2) (by unfold maxLen; omega) ?_
        intro W3 hm3 hg3
        have hbW : W3.heap[bb]? = some (.cells #[.bool okb, .slice a2 n2 c2] 42 (0, 0)) := (hg3.block bb (Nat.lt_of_lt_of_le (Array.getElem?_eq_some_iff.1 hbZ).1 hxZ2.le) fun e => by
          cases e
          exact hDZ.noMap ⟨_, hbZ, rfl⟩ leaf hms').trans (blk_kept hbZ hxZ2)
        have hD3 : DerI w0 lines nl b8 b7 K G ms hd (N + 1) W3 := hDZ2.store hms' hbm0' (hmap'.kept hxZ2).notCells hg3 hnm' hm3 fun key val hf => by
          by_cases ek : key = (keyStr ws).data.toList
          · rw [if_pos ek] at hf
            cases hf
            refine ⟨okb, a2, n2, c2, rfl, fun ws' h1 h2 => ?_⟩
            have h3 : ws' = ws := by
              have e1 := wordOk_all h1
              have e2 := wordOk_all hok
              exact keyB_inj e1 e2 (h2.trans ek)
            rw [h3]
            exact ⟨hoks.out, fun out ho => OwnK.kept (houtZ.out out ho) hxZ2⟩
          · rw [if_neg ek] at hf
            exact (hgood' key val hf).grown (gb_ext hxZ2 none) fun r e => by cases e
        have hout3 : Hid (∀ out, deriveM (lines leaf) ws = some out → OwnS w0.heap.size 52 W3 (.slice a2 n2 c2) out) := Lib.hid fun out ho => own_typed (OwnK.kept (houtZ.out out ho) hxZ2) hg3 fun r e cur h1 => by
          cases e
          obtain ⟨o, h2, h3⟩ := (hmap'.kept hxZ2).notCells
          rw [h2] at h1; cases h1; cases h3
        have hsame : SameM ms X W3 := SameM.ext (hx1.trans (hxXZ.trans hxZ2)) ⟨hg3.size, fun r hr hn => hg3.block r hr fun e => by cases e; exact hn leaf hms'⟩
        have q0 : W3.cell? ⟨bb, 0, none⟩ = some (.bool okb) := by simp [World.cell?, hbW]
        have q1 : W3.cell? ⟨bb, 1, none⟩ = some (.slice a2 n2 c2) := by simp [World.cell?, hbW]
        refine hK _ _ (needA_no (by kernel_rfl)) ?_
        clear hK KK hm3 hg3 e8Z eKZ efZ u0 u1 hbW hmap' hgood'
        refine wpH_last (by kernel_rfl) ?_
        go_wp2_with fail
        go_quiet (fail)
        go_wp2_with fail
        go_ret2
        exact ⟨okb, a2, n2, c2, rfl, hD3.ext' ((Ext.refl _).drewN _), ⟨hsame.1, hsame.2⟩, Lib.hid (by rw [hoks.out]; rfl), Lib.hid fun _ out ho => OwnK.kept (hout3.out out ho) ((Ext.refl _).drewN _)⟩
      · have hfo := hfd.out rfl
        go_wp2_with fail
        go_quiet (fail)
        go_wp2_with fail
        go_ret2
        exact ⟨_, a0, n0, c0, rfl, (hDY.ext' ((Ext.refl _).drewN _)).up (Nat.le_succ _), SameM.of_ext (hx1.trans (hxY.drewN _)), Lib.hid (by simp), Lib.hid fun _ out ho => OwnK.kept (hfo.2 out ho) (hxY.drewN _)⟩
end Go.Proofs.YtadncjpknckaaaaGreatDoor
