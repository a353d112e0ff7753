/-
  attest.Rate where one word is attested and derived; works26.
  works26.
-/
import Derived.Test.YtadncjpknckaaaaGreatDoorA40
namespace Go.Proofs.YtadncjpknckaaaaGreatDoor
open Go.RowKit Go.Shelf Go.Maps
attribute [local go_sem] Oper.semAt_some
theorem wrap1 : IntKind.i64.wrap 1 = 1 := by decide
theorem region_norm {F : Fence} {n : Nat} {P : Program} {c : Code} {Q : Exit → Act → World → Prop} {a : Act} {w : World} (h : c.wpIn F n P (Exit.then (fun a w => Q .normal a w) fun _ _ _ => False) a w) : c.wpIn F n P Q a w :=
  wpIn_mono h fun e a w h => by cases e <;> first | exact h | exact h.elim
theorem results_frac {fn : Func} {p q : Tmp} (h : fn.results = #[.cell p 62, .tmp q]) (tmps : Array Value) (w : World) (g : Nat) (v1 v2 : Value) (hp : tmps.getD p undef = .pointer (some ⟨g, 0, none⟩)) (hc : w.rangeAt g 0 [v1, v2]) : (results fn tmps).run Tryz.prog w = .ok (.tuple #[.agg #[v1, v2], tmps.getD q undef]) w := by
  have hl := run_loadVar_mid (P := Tryz.prog) w g 0 62 [v1, v2] _ hc Tryz.underlying62 rfl (by kernel_rfl)
  have hp' : tmps[p]?.getD undef = .pointer (some ⟨g, 0, none⟩) := by simpa using hp
  simp [results, h, hp', asAddr, hl]
set_option maxHeartbeats 4000000 in
set_option maxRecDepth 20000 in
theorem rate_one (h : HH) (ap : Option Addr) (np cp : Nat) (ps : List Fm) (ae : Option Addr) (ne ce : Nat) (es : List En) (w : World) (hr : RdH w h) (hsm : ∀ p ∈ h.ps, p.n ≤ 4) (hps : RdFs w ap np cp ps) (hes : RdEs w ae ne ce es) (hT : Tab64 w)
    (hls : h.ls = []) (hat : attB h ps es = true) (hbad : badL h ps es 0 = []) (hone : (attL es ne).length = 1) :
    Calls Tryz.prog 11 #[h.v, .slice ap np cp, .slice ae ne ce] w fun e w' => e = .returned (.tuple #[.agg #[.int .i64 1, .int .i64 1], .int .i64 0]) ∧ Ext w w' := by
  refine (callsIn_wide (n := 9)).1 ?_
  refine callsIn_of_wp_marks Tryz.func11 rfl trivial ?_ rfl
  simp only [Tryz.ntmps11, List.size_toArray, List.length_cons, List.length_nil, Nat.reduceAdd, Nat.reduceSub, Array.replicate_succ, Array.replicate_zero, List.push_toArray, List.append_toArray, List.nil_append, List.cons_append]
  have hbd := fun W (hx : Ext w W) => bad_any h ap np cp ps ae ne ce es 0 W (hr.ext hx) hsm (hps.ext hx) (hes.ext hx) (hT.ext hx) (by decide) (by decide)
  obtain ⟨ta, tn, tc, ts, la, ln, lc, ls, pa, pn, pc, pss⟩ := h
  simp only at hbd hls
  subst hls
  have hX3 : Ext w ((w.alloc (.cells #[.slice ta tn tc, .slice la ln lc, .slice pa pn pc] 26)).alloc (.cells #[.int .i64 0, .int .i64 0] 62)) := (by repeat (first | exact Ext.refl _ | refine Ext.drew ?_ | refine Ext.drewN ?_ _ | refine Ext.alloc ?_ _))
  have k4 : ((w.alloc (.cells #[.slice ta tn tc, .slice la ln lc, .slice pa pn pc] 26)).alloc (.cells #[.int .i64 0, .int .i64 0] 62)).heap[w.heap.size + 1]? = some (.cells #[.int .i64 0, .int .i64 0] 62 (0, 0)) := by
    have := World.alloc_heap_new (w.alloc (.cells #[.slice ta tn tc, .slice la ln lc, .slice pa pn pc] 26)) (.cells #[.int .i64 0, .int .i64 0] 62)
    rwa [World.size_alloc] at this
  have hc3 := hbd _ hX3
  gi_wp2
  generalize ((w.alloc (.cells #[.slice ta tn tc, .slice la ln lc, .slice pa pn pc] 26)).alloc (.cells #[.int .i64 0, .int .i64 0] 62)) = w3 at *
  generalize hB6 : w.heap.size + 1 = B6 at *
  replace hB6 := Lib.hid hB6
  refine ⟨trivial, ?_⟩
  gi_at_call 6
  refine (callsIn_wide.2 hc3).mono ?_
  rintro e w4 ⟨a8, n8, c8, err, rfl, hx4, h1, h2, h3⟩
  have he0 : err = 0 := h3.out rfl hat
  subst he0
  have h8 := (h2.out rfl).2
  rw [hbad] at h8
  have hn8 : n8 = 0 := h8.len.symm
  subst hn8
  have hX4 := hX3.trans hx4
  have m4 := blk_kept k4 hx4
  have hle4 := hX3.le
  clear hc3 h1 h2 h3 h8 k4 hx4 hX3 hbd
  gi_wp2
  have k10 := Boxed.new w4 2 (.int .i64 0)
  have hx5 : Ext w4 (w4.alloc (.cells #[.int .i64 0] 2)) := Ext.alloc1 _ _
  have hz5 : (w4.alloc (.cells #[.int .i64 0] 2)).heap.size = w4.heap.size + 1 := by simp
  have hle5 := hX4.le
  generalize w4.alloc (.cells #[.int .i64 0] 2) = w5 at *
  generalize hb10 : w4.heap.size = b10 at *
  refine ⟨trivial, ?_⟩
  gi_at_call 14
  refine (callsIn_wide.2 (attested_any ae ne ce w5)).mono ?_
  rintro e w8 ⟨rfl, hw8⟩
  have hx78 : Ext w5 w8 := by rw [hw8]; exact Ext.alloc1 _ _
  have kl8 : w8.heap[w5.heap.size]? = some (entsO ae ne ce) := by rw [hw8]; exact World.alloc_heap_new _ _
  have hz8 : w8.heap.size = w5.heap.size + 1 := by rw [hw8]; simp
  have q10 := boxed_more k10 hx78
  have hX8 := hX4.trans (hx5.trans hx78)
  have m8 := blk_kept (blk_kept m4 hx5) hx78
  clear hw8 k10 hx78 hx5 m4
  generalize hbl : w5.heap.size = bl at *
  have hns : Hid (w.heap.size ≤ b10 ∧ b10 < w8.heap.size ∧ w.heap.size ≤ w8.heap.size) := Lib.hid ⟨hle5, by omega, hX8.le⟩
  replace hbl := Lib.hid hbl
  replace hz8 := Lib.hid hz8
  replace hz5 := Lib.hid hz5
  replace hb10 := Lib.hid hb10
  gi_wp2
  refine wpIn_range_T2 (α := At) rfl (by decide : 1 ≤ 9) (gf := 28) (lb := #[.pointer (some ⟨bl, 0, none⟩)]) rfl trivial (enters_of Tryz.func28 (by kernel_rfl) rfl)
    (fun _ r => r = b10) (fun s x v _ => v = encA x ∧ (s ++ [x]) <+: attL es ne) (fun s X => s.length ≤ 1 ∧ Ext w X ∧ Boxed X b10 2 (.int .i64 (s.length : Int)) ∧ X.heap[B6]? = some (.cells #[.int .i64 0, .int .i64 0] 62 (0, 0))) (fun _ _ _ => False) (fun s => s = attL es ne) (fun X r => ∃ o : Obj, X.heap[r]? = some o ∧ o.isCells = false)
    (fun X r o h1 h2 => ⟨o, h1, h2⟩)
    (fun s X r hi ht => by subst ht; exact ⟨_, hi.2.2.1, rfl⟩)
    (fun s X Y row hs hg hr => by
      refine ⟨⟨hs.1, hs.2.1.grown hg fun r e => by have := (hr r e).2.1; have := hns.out; omega, hs.2.2.1.kept hg fun e => (hr _ e.symm).1 rfl, (hg.block B6 (Array.getElem?_eq_some_iff.1 hs.2.2.2).1 fun e => ?_).trans hs.2.2.2⟩, fun r => Iff.rfl⟩
      obtain ⟨o, h1, h2⟩ := (hr _ e.symm).2.2
      rw [hs.2.2.2] at h1; cases h1; cases h2)
    (fun _ _ _ _ _ h _ _ _ => h.elim)
    (fun s x v X Y row hs hg hr => hs)
    ⟨by simp, hX8, q10, m8⟩
    (fun l J Jx W hB hJ0 hJI hJg hJx hY => ?iter)
    (fun v t => (t.setIfInBounds 27 (v.getD 0 undef)).setIfInBounds 28 (v.getD 1 undef)) ?assign ?body ?done ?stop
  case iter =>
    have hxW : Ext w8 W := ⟨hB⟩
    refine (attested1_T ae ne ce es w hes (fun _ r => r = b10) J Jx (fun s X Y hs hx => hJg s X Y none hs (gb_ext hx none) (fun r e => by cases e)) (fun s X hs => (hJI s X hs).2.1) 8 l bl (by decide)
      (fun pre x X hs hp => (hY pre x (encA x) X hs rfl ⟨rfl, hp⟩).mono fun e Y h => h.2) W hJ0 ⟨blk_kept kl8 hxW, rfl, fun ht => by have := hz5.out; omega⟩).mono ?_
    exact fun e Y h => ⟨h.1, h.2.elim (fun h => .inl ⟨_, rfl, h⟩) .inr⟩
  case assign =>
    intro l v W K' hv hK'
    obtain ⟨x, y, rfl⟩ := size_two2 hv
    gi_wp2
    exact hK'
  case body =>
    rintro l pre x v W ⟨h1, hx, k5, k6⟩ hv ⟨rfl, hp⟩
    have c5 := k5.cell
    have f5 := k5.frozen
    have hl1 := hp.length_le
    rw [hone, List.length_append, List.length_singleton] at hl1
    have hp0 : pre.length = 0 := by omega
    have hne : b10 ≠ B6 := fun e => by
      rw [e] at k5
      rw [show W.heap[B6]? = _ from k5] at k6; simp at k6
    have hg5 := grownBy_set W b10 0 (.int .i64 1)
    have fin : KeepsFrom w8.heap.size W (W.setCell ⟨b10, 0, none⟩ (.int .i64 1)) ∧ KeepT (fun _ r => r = b10) W (W.setCell ⟨b10, 0, none⟩ (.int .i64 1)) ∧ ((pre ++ [x]).length ≤ 1 ∧ Ext w (W.setCell ⟨b10, 0, none⟩ (.int .i64 1)) ∧ Boxed (W.setCell ⟨b10, 0, none⟩ (.int .i64 1)) b10 2 (.int .i64 ((pre ++ [x]).length : Int)) ∧ (W.setCell ⟨b10, 0, none⟩ (.int .i64 1)).heap[B6]? = some (.cells #[.int .i64 0, .int .i64 0] 62 (0, 0))) := by
      refine ⟨keepsFrom_set k5 _, keepT_grown hg5 (fun r e => by cases e; rfl) fun r h => .inl h, by rw [List.length_append, List.length_singleton]; omega, hx.setCell (p := ⟨b10, 0, none⟩) hns.out.1 _, ?_, (hg5.block B6 (Array.getElem?_eq_some_iff.1 k6).1 fun e => hne (by cases e; rfl)).trans k6⟩
      rw [List.length_append, List.length_singleton, hp0]
      exact k5.set _
    rw [hp0] at c5
    replace fin := Lib.hid fin
    clear hg5 k5 k6
    gi_wp2
    exact fin.out
  case done =>
    rintro D s W hD rfl ⟨h1, hx, k5, k6⟩ hDX
    have c5 := k5.cell
    rw [hone] at c5 k5
    have c6 : W.cell? ⟨B6, 0, none⟩ = some (.int .i64 0) := by simp [World.cell?, k6]
    have c7 : W.cell? ⟨B6, 1, none⟩ = some (.int .i64 0) := by simp [World.cell?, k6]
    have f6 := frozen_of_row W B6 0 _ _ k6
    have f7 := frozen_of_row W B6 1 _ _ k6
    gi_wp2
    have hmx : Tryz.prog.follows .mixedOrders = true := by kernel_rfl
    gi_loopw [12, 13] (fun a b wr => ∃ k : Nat, k ≤ 1 ∧ a = .int .i64 1 ∧ b = .int .i64 (k : Int) ∧ Ext W wr) (fun _ b _ => (intOf b).toNat)
    case atStart => exact ⟨1, Nat.le_refl _, rfl, rfl, Ext.refl _⟩
    case round =>
      obtain ⟨k, hk, rfl, rfl, hxr⟩ := hrel
      by_cases hk1 : k = 1
      · subst hk1
        gi_wp2
        refine region_norm ?_
        refine wpIn_region_HW (fun _ : World => True) [0, 1, 2, 3] hmx (by kernel_rfl) (by rintro ⟨_, _, h⟩; exact h) ?_
        show wpH _ _ _ _ _ _ 6 _ _ _
        have hS0 : (fun _ : World => True) wr.drew := trivial
        refine wpH_take (i := 0) (v := (.int .i64 ((1 : Nat) : Int))) rfl (by kernel_rfl) (by kernel_rfl) (by kernel_rfl) (by kernel_rfl) (by kernel_rfl) (fun _ _ _ h => h) (.inl ⟨rfl, fun W' hW' => ?_⟩) hS0 ?_
        · go_simp
        refine wpH_take (i := 1) (v := (.int .i64 1)) rfl (by kernel_rfl) (by kernel_rfl) (by kernel_rfl) (by kernel_rfl) (by kernel_rfl) (fun _ _ _ h => h) (.inl ⟨rfl, fun W' hW' => ?_⟩) hS0 ?_
        · go_simp
        refine wpH_take (i := 2) (v := (.int .i64 ((1 : Nat) : Int))) rfl (by kernel_rfl) (by kernel_rfl) (by kernel_rfl) (by kernel_rfl) (by kernel_rfl) (fun _ _ _ h => h) (.inl ⟨rfl, fun W' hW' => ?_⟩) hS0 ?_
        · go_simp
        refine wpH_take (i := 3) (v := (.int .i64 0)) rfl (by kernel_rfl) (by kernel_rfl) (by kernel_rfl) (by kernel_rfl) (by kernel_rfl) (fun _ _ _ h => h) (.inl ⟨rfl, fun W' hW' => ?_⟩) hS0 ?_
        · go_simp
        refine wpH_step (k := 4) rfl (by kernel_rfl) rfl fun K hK => ?_
        go_simp
        refine hK _ _ (fun _ => trivial) ?_
        clear hK K
        refine wpH_step (k := 5) rfl (by kernel_rfl) rfl fun K hK => ?_
        go_simp
        refine hK _ _ (needA_no (by kernel_rfl)) ?_
        clear hK K
        refine wpH_last (by kernel_rfl) ?_
        gi_wp2
        exact ⟨⟨0, by omega, rfl, rfl, hxr.drew⟩, by decide⟩
      · have hk0 : k = 0 := by omega
        subst hk0
        have d5 := hxr.cellv c5
        have d6 := hxr.cellv c6
        have d7 := hxr.cellv c7
        have kr := blk_kept k6 hxr
        gi_wp2
        refine region_norm ?_
        refine wpIn_region_HW (fun W' : World => W'.cell? ⟨b10, 0, none⟩ = some (.int .i64 ((1 : Nat) : Int))) [0, 1, 2, 3, 4, 5, 6] hmx (by kernel_rfl) (by rintro ⟨_, _, h⟩; exact h) ?_
        show wpH _ _ _ _ _ _ 9 _ _ _
        have hS0 : (fun W' : World => W'.cell? ⟨b10, 0, none⟩ = some (.int .i64 ((1 : Nat) : Int))) wr.drew := d5
        have g6 := frozen_of_row wr B6 0 _ _ kr
        have g7 := frozen_of_row wr B6 1 _ _ kr
        refine wpH_take (i := 0) (v := (.int .i64 1)) rfl (by kernel_rfl) (by kernel_rfl) (by kernel_rfl) (by kernel_rfl) (by kernel_rfl) (fun _ _ _ h => h) (.inl ⟨rfl, fun W' hW' => ?_⟩) hS0 ?_
        · go_simp
        refine wpH_take (i := 1) (v := (.int .i64 1)) rfl (by kernel_rfl) (by kernel_rfl) (by kernel_rfl) (by kernel_rfl) (by kernel_rfl) (fun _ _ _ h => h) (.inl ⟨rfl, fun W' hW' => ?_⟩) hS0 ?_
        · go_simp
        refine wpH_take (i := 2) (v := (.int .i64 1)) rfl (by kernel_rfl) (by kernel_rfl) (by kernel_rfl) (by kernel_rfl) (by kernel_rfl) (fun _ _ _ h => h) (.inl ⟨rfl, fun W' hW' => ?_⟩) hS0 ?_
        · have u := wrap1
          go_simp
        refine wpH_take (i := 3) (v := (.int .i64 ((1 : Nat) : Int))) rfl (by kernel_rfl) (by kernel_rfl) (by kernel_rfl) (by kernel_rfl) (by kernel_rfl) (fun _ _ _ h => h) (.inl ⟨rfl, fun W' hW' => ?_⟩) hS0 ?_
        · have u := hW'
          go_simp
        refine wpH_take (i := 4) (v := (.int .i64 1)) rfl (by kernel_rfl) (by kernel_rfl) (by kernel_rfl) (by kernel_rfl) (by kernel_rfl) (fun _ _ _ h => h) (.inl ⟨rfl, fun W' hW' => ?_⟩) hS0 ?_
        · go_simp
        refine wpH_take (i := 5) (v := (.int .i64 1)) rfl (by kernel_rfl) (by kernel_rfl) (by kernel_rfl) (by kernel_rfl) (by kernel_rfl) (fun _ _ _ h => h) (.inl ⟨rfl, fun W' hW' => ?_⟩) hS0 ?_
        · have u := wrap1
          go_simp
        refine wpH_take (i := 6) (v := (.agg #[.int .i64 1, .int .i64 1])) rfl (by kernel_rfl) (by kernel_rfl) (by kernel_rfl) (by kernel_rfl) (by kernel_rfl) (fun _ _ _ h => h) (.inl ⟨rfl, fun W' hW' => ?_⟩) hS0 ?_
        · go_simp
        refine wpH_step (k := 7) rfl (by kernel_rfl) rfl fun K hK => ?_
        go_simp
        refine hK _ _ (needA_no (by kernel_rfl)) ?_
        clear hK K
        refine wpH_step (k := 8) rfl (by kernel_rfl) rfl fun K hK => ?_
        go_simp
        refine hK _ _ (needA_no (by kernel_rfl)) ?_
        clear hK K
        refine wpH_last (by kernel_rfl) ?_
        have hbF : (((wr.setCell ⟨B6, 0, none⟩ (.int .i64 1)).setCell ⟨B6, 1, none⟩ (.int .i64 1)).drew).heap[B6]? = some (.cells #[.int .i64 1, .int .i64 1] 62 (0, 0)) := set_heap (i := 1) (v := .int .i64 1) (set_heap (i := 0) (v := .int .i64 1) kr)
        have hxF : Ext w (((wr.setCell ⟨B6, 0, none⟩ (.int .i64 1)).setCell ⟨B6, 1, none⟩ (.int .i64 1)).drew) := (((hx.trans hxr).setCell (p := ⟨B6, 0, none⟩) (by have := hB6.out; simp only; omega) _).setCell (p := ⟨B6, 1, none⟩) (by have := hB6.out; simp only; omega) _).drew
        have hDF : (((wr.setCell ⟨B6, 0, none⟩ (.int .i64 1)).setCell ⟨B6, 1, none⟩ (.int .i64 1)).drew).heap[D]? = some (.deferred (some [])) := by
          have hne : B6 ≠ D := fun e => by rw [e] at k6; rw [hDX] at k6; cases k6
          have h1 := blk_kept hDX hxr
          have hlt := (Array.getElem?_eq_some_iff.1 h1).1
          have e1 := (grownBy_set wr B6 0 (.int .i64 1)).block D hlt fun e => hne (by cases e; rfl)
          have e2 := (grownBy_set (wr.setCell ⟨B6, 0, none⟩ (.int .i64 1)) B6 1 (.int .i64 1)).block D (Nat.lt_of_lt_of_le hlt (grownBy_set wr B6 0 (.int .i64 1)).size) fun e => hne (by cases e; rfl)
          exact (e2.trans e1).trans h1
        have hDw : w.heap.size ≤ D := by have := hns.out; omega
        clear d5 d6 d7 kr g6 g7 hS0
        gi_wp2
        refine leaves_marksS (fun W => Ext w W ∧ W.heap[B6]? = some (.cells #[.int .i64 1, .int .i64 1] 62 (0, 0))) [D] _ (by simp) (fun E hE => ?_) ⟨hxF, hbF⟩ (fun W E o hs hE hd => ?_) fun w' hs => ?_
        · rw [List.mem_singleton.1 hE]; exact hDF
        · rw [List.mem_singleton.1 hE] at hd ⊢
          refine ⟨hs.1.grown (grownBy_putObj' W D o) fun r e => by cases e; exact hDw, ((grownBy_putObj' W D o).block B6 (Array.getElem?_eq_some_iff.1 hs.2).1 fun e => ?_).trans hs.2⟩
          cases e; rw [hd] at hs; cases hs.2
        · refine ⟨_, results_frac rfl _ _ B6 (.int .i64 1) (.int .i64 1) rfl (fun j v hj => ?_), ?_⟩
          · match j, hj with
            | 0, hj => simp at hj; subst hj; simp [World.cell?, hs.2]
            | 1, hj => simp at hj; subst hj; simp [World.cell?, hs.2]
            | j + 2, hj => simp at hj
          · exact ⟨rfl, hs.1⟩
  case stop =>
    exact fun D c pre W hD hp => hp.elim
end Go.Proofs.YtadncjpknckaaaaGreatDoor
namespace Go.Proofs.YtadncjpknckaaaaGreatDoor
open Go.RowKit Go.Shelf Go.Maps
attribute [local go_sem] Oper.semAt_some
abbrev rName : ByteArray := ⟨#[114]⟩
abbrev gName : ByteArray := ⟨#[103]⟩
abbrev sndO : Snd := ⟨1#32, 0#32⟩
abbrev hist0 (ta pa : Option Addr) : HH := ⟨ta, 1, 1, [⟨-1, rName⟩], none, 0, 0, [], pa, 1, 1, [⟨none, 0, 0, []⟩]⟩
abbrev form0 (a : Option Addr) : Fm := ⟨true, a, 1, 1, [sndO]⟩
abbrev entr0 (a a' : Option Addr) : En := ⟨gName, a', 1, 1, [form0 a]⟩
theorem att0 (ta pa a a' : Option Addr) : attB (hist0 ta pa) [form0 a] [entr0 a a'] = true := by
  rfl
theorem attL0 (a a' : Option Addr) : attL [entr0 a a'] 1 = [⟨0, 0, form0 a⟩] := by
  rfl
theorem bad0 (ta pa a a' : Option Addr) : badL (hist0 ta pa) [form0 a] [entr0 a a'] 0 = [] := by
  unfold badL
  rw [show [entr0 a a'].length = 1 from rfl, attL0]
  have hd : deriveM (linesH (hist0 ta pa) 0) [sndO] = some [sndO] := by
    have hl : linesH (hist0 ta pa) 0 = [] := rfl
    rw [hl]
    unfold deriveM
    rw [if_pos ⟨rfl, rfl⟩]
    rfl
  simp [badX, hd]
theorem lit_rd {α : Type} {k : Nat} {enc : α → List Value} (hk : ∀ x, (enc x).length = k) (w : World) (e : TypeId) (x : α) (cs : Array Value) (hcs : cs.toList = enc x) {m : Nat} (hm : w.heap.size = m) : RdK k enc (w.alloc (.cells cs e)) (some ⟨m, 0, none⟩) 1 1 [x] := by
  subst hm
  exact OwnK.rdc hk (lit_own hk w e [x] cs (by simpa using hcs) rfl (by omega))
set_option maxHeartbeats 4000000 in
set_option maxRecDepth 20000 in
theorem works26_any (w : World) (hT : Tab64 w) : Calls Tryz.prog 5 #[] w fun e w' => e = .returned (.bool true) ∧ Ext w w' := by
  have heq : ∀ W, (binOp .eql 62 (.agg #[.int .i64 1, .int .i64 1]) (.agg #[.int .i64 1, .int .i64 1])).run Tryz.prog W = .ok (.bool true) W := fun W => by kernel_rfl
  go_enter Tryz.func5, Tryz.ntmps5
  go_wp2_with fail
  have r1 := lit_rd Nd.len w 60 ⟨-1, rName⟩ #[.int .i64 (-1), .string rName] rfl rfl
  have z1 : (w.alloc (.cells #[.int .i64 (-1), .string rName] 60)).heap.size = w.heap.size + 1 := by simp
  have e1 : Ext w (w.alloc (.cells #[.int .i64 (-1), .string rName] 60)) := Ext.alloc1 _ _
  generalize w.alloc (.cells #[.int .i64 (-1), .string rName] 60) = x1 at *
  have r2 := lit_rd (k := 1) (enc := Pl.enc) (fun _ => rfl) x1 35 ⟨none, 0, 0, []⟩ #[.slice none 0 0] rfl z1
  have z2 : (x1.alloc (.cells #[.slice none 0 0] 35)).heap.size = w.heap.size + 1 + 1 := by simp [z1]
  have e2 : Ext x1 (x1.alloc (.cells #[.slice none 0 0] 35)) := Ext.alloc1 _ _
  generalize x1.alloc (.cells #[.slice none 0 0] 35) = x2 at *
  have z3 : (x2.alloc (.cells #[.slice (some ⟨w.heap.size, 0, none⟩) 1 1, .slice none 0 0, .slice (some ⟨w.heap.size + 1, 0, none⟩) 1 1] 26)).heap.size = w.heap.size + 1 + 1 + 1 := by simp [z2]
  have e3 : Ext x2 (x2.alloc (.cells #[.slice (some ⟨w.heap.size, 0, none⟩) 1 1, .slice none 0 0, .slice (some ⟨w.heap.size + 1, 0, none⟩) 1 1] 26)) := Ext.alloc1 _ _
  generalize x2.alloc (.cells #[.slice (some ⟨w.heap.size, 0, none⟩) 1 1, .slice none 0 0, .slice (some ⟨w.heap.size + 1, 0, none⟩) 1 1] 26) = x3 at *
  have r4 := lit_rd Snd.len x3 52 sndO #[.int .u32 1, .int .u32 0] rfl z3
  have z4 : (x3.alloc (.cells #[.int .u32 1, .int .u32 0] 52)).heap.size = w.heap.size + 1 + 1 + 1 + 1 := by simp [z3]
  have e4 : Ext x3 (x3.alloc (.cells #[.int .u32 1, .int .u32 0] 52)) := Ext.alloc1 _ _
  generalize x3.alloc (.cells #[.int .u32 1, .int .u32 0] 52) = x4 at *
  have z5 : (x4.alloc (.cells #[.bool true, .slice (some ⟨w.heap.size + 1 + 1 + 1, 0, none⟩) 1 1] 42)).heap.size = w.heap.size + 1 + 1 + 1 + 1 + 1 := by simp [z4]
  have e5 : Ext x4 (x4.alloc (.cells #[.bool true, .slice (some ⟨w.heap.size + 1 + 1 + 1, 0, none⟩) 1 1] 42)) := Ext.alloc1 _ _
  generalize x4.alloc (.cells #[.bool true, .slice (some ⟨w.heap.size + 1 + 1 + 1, 0, none⟩) 1 1] 42) = x5 at *
  have r6 := lit_rd Fm.len x5 42 (form0 (some ⟨w.heap.size + 1 + 1 + 1, 0, none⟩)) #[.bool true, .slice (some ⟨w.heap.size + 1 + 1 + 1, 0, none⟩) 1 1] rfl z5
  have z6 : (x5.alloc (.cells #[.bool true, .slice (some ⟨w.heap.size + 1 + 1 + 1, 0, none⟩) 1 1] 42)).heap.size = w.heap.size + 1 + 1 + 1 + 1 + 1 + 1 := by simp [z5]
  have e6 : Ext x5 (x5.alloc (.cells #[.bool true, .slice (some ⟨w.heap.size + 1 + 1 + 1, 0, none⟩) 1 1] 42)) := Ext.alloc1 _ _
  generalize x5.alloc (.cells #[.bool true, .slice (some ⟨w.heap.size + 1 + 1 + 1, 0, none⟩) 1 1] 42) = x6 at *
  have r7 := lit_rd Fm.len x6 42 (form0 (some ⟨w.heap.size + 1 + 1 + 1, 0, none⟩)) #[.bool true, .slice (some ⟨w.heap.size + 1 + 1 + 1, 0, none⟩) 1 1] rfl z6
  have z7 : (x6.alloc (.cells #[.bool true, .slice (some ⟨w.heap.size + 1 + 1 + 1, 0, none⟩) 1 1] 42)).heap.size = w.heap.size + 1 + 1 + 1 + 1 + 1 + 1 + 1 := by simp [z6]
  have e7 : Ext x6 (x6.alloc (.cells #[.bool true, .slice (some ⟨w.heap.size + 1 + 1 + 1, 0, none⟩) 1 1] 42)) := Ext.alloc1 _ _
  generalize x6.alloc (.cells #[.bool true, .slice (some ⟨w.heap.size + 1 + 1 + 1, 0, none⟩) 1 1] 42) = x7 at *
  have r8 := lit_rd (k := 2) (enc := En.enc) (fun _ => rfl) x7 39 (entr0 (some ⟨w.heap.size + 1 + 1 + 1, 0, none⟩) (some ⟨w.heap.size + 1 + 1 + 1 + 1 + 1 + 1, 0, none⟩)) #[.string gName, .slice (some ⟨w.heap.size + 1 + 1 + 1 + 1 + 1 + 1, 0, none⟩) 1 1] rfl z7
  have e8 : Ext x7 (x7.alloc (.cells #[.string gName, .slice (some ⟨w.heap.size + 1 + 1 + 1 + 1 + 1 + 1, 0, none⟩) 1 1] 39)) := Ext.alloc1 _ _
  generalize x7.alloc (.cells #[.string gName, .slice (some ⟨w.heap.size + 1 + 1 + 1 + 1 + 1 + 1, 0, none⟩) 1 1] 39) = x8 at *
  have f7 := e8
  have f6 := e7.trans f7
  have f5 := e6.trans f6
  have f4 := e5.trans f5
  have f3 := e4.trans f4
  have f2 := e3.trans f3
  have f1 := e2.trans f2
  have f0 := e1.trans f1
  have hsz : ∀ s : ByteArray, s.size = 1 → s.size ≤ maxLen := fun s h => by rw [h]; unfold maxLen; omega
  have hH : RdH x8 (hist0 (some ⟨w.heap.size, 0, none⟩) (some ⟨w.heap.size + 1, 0, none⟩)) := ⟨⟨r1.ext f1, fun x hx => by rw [List.mem_singleton.1 hx]; exact hsz _ rfl⟩, ⟨RdK.nilS _, fun L hL => by cases hL⟩, ⟨r2.ext f2, fun p hp => by rw [List.mem_singleton.1 hp]; exact RdK.nilS _⟩⟩
  have hF : RdFs x8 (some ⟨w.heap.size + 1 + 1 + 1 + 1 + 1, 0, none⟩) 1 1 [form0 (some ⟨w.heap.size + 1 + 1 + 1, 0, none⟩)] := ⟨r6.ext f6, fun f hf => by rw [List.mem_singleton.1 hf]; exact r4.ext f4⟩
  have hG : RdFs x8 (some ⟨w.heap.size + 1 + 1 + 1 + 1 + 1 + 1, 0, none⟩) 1 1 [form0 (some ⟨w.heap.size + 1 + 1 + 1, 0, none⟩)] := ⟨r7.ext f7, fun f hf => by rw [List.mem_singleton.1 hf]; exact r4.ext f4⟩
  have hE : RdEs x8 (some ⟨w.heap.size + 1 + 1 + 1 + 1 + 1 + 1 + 1, 0, none⟩) 1 1 [entr0 (some ⟨w.heap.size + 1 + 1 + 1, 0, none⟩) (some ⟨w.heap.size + 1 + 1 + 1 + 1 + 1 + 1, 0, none⟩)] := ⟨r8, fun x hx => by rw [List.mem_singleton.1 hx]; exact hG, fun x hx => by rw [List.mem_singleton.1 hx]; exact hsz _ rfl⟩
  refine (rate_one (hist0 (some ⟨w.heap.size, 0, none⟩) (some ⟨w.heap.size + 1, 0, none⟩)) _ 1 1 _ _ 1 1 _ x8 hH (fun p hp => by rw [List.mem_singleton.1 hp]; exact Nat.zero_le _) hF hE (hT.ext f0) rfl (att0 _ _ _ _) (bad0 _ _ _ _) (by rw [attL0]; rfl)).mono ?_
  rintro e w9 ⟨rfl, hx9⟩
  have hxx := f0.trans hx9
  clear r1 r2 r4 r6 r7 r8 hH hF hG hE
  go_wp2_with fail
  go_ret
  exact ⟨rfl, hxx.alloc _⟩
end Go.Proofs.YtadncjpknckaaaaGreatDoor
