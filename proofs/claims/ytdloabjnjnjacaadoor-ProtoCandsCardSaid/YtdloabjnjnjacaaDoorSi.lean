/-
  sankoff: possible, Min, Roots.
-/
import Derived.Test.YtdloabjnjnjacaaDoorSh
namespace Go.Proofs.YtdloabjnjnjacaaDoor
open Go.RowKit Go.Shelf
theorem cells3 {w : World} {B : Nat} {x y z : Value} {e : TypeId} {fr : Nat × Nat} (h : w.heap[B]? = some (.cells #[x, y, z] e fr)) : w.cell? ⟨B, 0, none⟩ = some x ∧ w.cell? ⟨B, 1, none⟩ = some y ∧ w.cell? ⟨B, 2, none⟩ = some z := by
  refine ⟨?_, ?_, ?_⟩ <;> simp only [World.cell?] <;> rw [h] <;> rfl
theorem RdT.other {w : World} {g n k : Nat} {f : Nat → Nat → Int} (h : RdT w g n k f) {B : Nat} (hne : B ≠ g) (i : Nat) (z : Value) : RdT (w.setCell ⟨B, i, none⟩ z) g n k f :=
  ⟨by simpa using h.lt, fun v s hv hs => by rw [cell_other (.inl hne)]; exact h.cell v s hv hs⟩
theorem acc_ok {ts : List Nd} {ms : List (List Int)} {st : List Int} (h : chkS ts ms st = 0) : CostOk ts.length ms.length (accS ts ms st (ts.length - 1)) := fun v s hv hs => by
  obtain ⟨ht, hm, _, _⟩ := chkS_zero h
  have := accS_bd (st := st) ht hm (j := ts.length - 1) (u := v) (s := s) (by omega) hv hs
  omega
theorem rootS_any (a : Option Addr) (n cap : Nat) (ts : List Nd) (am : Option Addr) (k capm : Nat) (ms : List (List Int)) (st : List Int) (g : Nat) (w : World) (hn : ts.length = n) (hk : ms.length = k) (hm : RdM w am k capm ms) (h0 : chkS ts ms st = 0) (hT : RdT w g n k (accS ts ms st (n - 1))) :
    Calls Tryd.prog 84 #[prV a n cap am k capm g] w fun e w' => e = .returned (.tuple #[.int .i64 (rootB ts ms st).1, .int .i64 (rootB ts ms st).2]) ∧ Ext w w' := by
  subst hn; subst hk
  obtain ⟨ht, hmb, _, _⟩ := chkS_zero h0
  exact root_any a _ cap am _ capm g ms _ w hm hmb hT (acc_ok h0) (tree_len ht).1
set_option maxHeartbeats 1000000 in
set_option maxRecDepth 20000 in
theorem possible_any (a : Option Addr) (n cap : Nat) (ts : List Nd) (am : Option Addr) (k capm : Nat) (ms : List (List Int)) (ast : Option Addr) (l caps : Nat) (st : List Int) (w : World)
    (hr : RdN w a n cap ts) (hm : RdM w am k capm ms) (hs : RdI w ast l caps st) :
    Calls Tryd.prog 83 #[.slice a n cap, .slice am k capm, .slice ast l caps] w fun e w' =>
      ((possE ts ms st ≠ 0 ∧ e = .returned (.tuple #[prZ, .int .i64 (possE ts ms st)])) ∨ (possE ts ms st = 0 ∧ ∃ g, e = .returned (.tuple #[prV a n cap am k capm g, .int .i64 0]) ∧ w.heap.size ≤ g ∧ RdT w' g n k (accS ts ms st (n - 1)))) ∧ Ext w w' := by
  by_cases h0 : chkS ts ms st = 0
  · have hso := fun W (hx : Ext w W) => solved_ok a n cap ts am k capm ms ast l caps st W (hr.ext hx) (hm.ext hx) (hs.ext hx) h0
    have hnl := hr.rd.len
    have hkl := RdV.len hm
    have hroot := fun g W (hx : Ext w W) (hT : RdT W g n k (accS ts ms st (n - 1))) => rootS_any a n cap ts am k capm ms st g W hnl hkl (hm.ext hx) h0 hT
    replace hnl := Lib.hid hnl
    replace hkl := Lib.hid hkl
    by_cases h5 : (rootB ts ms st).1 = -1
    · have hE : possE ts ms st = 5 := by simp [possE, h0, h5]
      have hd : ((rootB ts ms st).1 == -1) = true := by simpa using h5
      rw [hE]
      generalize (rootB ts ms st).1 = q1 at *
      generalize (rootB ts ms st).2 = q2 at *
      replace h5 := Lib.hid h5
      replace h0 := Lib.hid h0
      go_enter Tryd.func83, Tryd.ntmps83
      go_wp2_with fail
      refine (hso _ (by repeat (first | exact Ext.refl _ | assumption | refine Ext.drew ?_ | refine Ext.drewN ?_ _ | refine Ext.alloc ?_ _ | refine Ext.trans ?_ (by assumption)))).mono ?_
      rintro e w1 ⟨⟨g, rfl, hg, hT⟩, hx1⟩
      go_wp2_with fail
      refine (hroot g _ (by repeat (first | exact Ext.refl _ | assumption | refine Ext.drew ?_ | refine Ext.drewN ?_ _ | refine Ext.alloc ?_ _ | refine Ext.trans ?_ (by assumption))) (hT.ext (by repeat (first | exact Ext.refl _ | assumption | refine Ext.drew ?_ | refine Ext.drewN ?_ _ | refine Ext.alloc ?_ _ | refine Ext.trans ?_ (by assumption))))).mono ?_
      rintro e w2 ⟨rfl, hx2⟩
      have hblk : w2.heap[w.heap.size]? = some (.cells #[.slice none 0 0, .slice none 0 0, .slice none 0 0] 114 (0, 0)) := (Below.block (Ext.trans hx1 (Ext.trans (Ext.alloc1 _ _) hx2)).bel _ (by simp)).trans (World.alloc_heap_new w _)
      obtain ⟨hf0, hf1, hf2⟩ := frz3 hblk
      obtain ⟨hg0, hg1, hg2⟩ := cells3 hblk
      go_wp2_with fail
      exact bodyPost_ret (res_cell rfl _ _ w.heap.size _ _ (0, 0) _ rfl (heap_set (heap_set (heap_set hblk _) _) _) Tryd.underlying114 rfl (by kernel_rfl)) rfl ⟨.inl ⟨by decide, rfl⟩, by
        have h3 : Ext w w2 := (by repeat (first | exact Ext.refl _ | assumption | refine Ext.drew ?_ | refine Ext.drewN ?_ _ | refine Ext.alloc ?_ _ | refine Ext.trans ?_ (by assumption)))
        exact ((h3.setCell (p := ⟨w.heap.size, 0, none⟩) (by simp) _).setCell (p := ⟨w.heap.size, 1, none⟩) (by simp) _).setCell (p := ⟨w.heap.size, 2, none⟩) (by simp) _⟩
    · have hE : possE ts ms st = 0 := by simp [possE, h0, h5]
      have hd : ((rootB ts ms st).1 == -1) = false := by simpa using h5
      rw [hE]
      generalize (rootB ts ms st).1 = q1 at *
      generalize (rootB ts ms st).2 = q2 at *
      replace h5 := Lib.hid h5
      replace h0 := Lib.hid h0
      go_enter Tryd.func83, Tryd.ntmps83
      go_wp2_with fail
      refine (hso _ (by repeat (first | exact Ext.refl _ | assumption | refine Ext.drew ?_ | refine Ext.drewN ?_ _ | refine Ext.alloc ?_ _ | refine Ext.trans ?_ (by assumption)))).mono ?_
      rintro e w1 ⟨⟨g, rfl, hg, hT⟩, hx1⟩
      go_wp2_with fail
      refine (hroot g _ (by repeat (first | exact Ext.refl _ | assumption | refine Ext.drew ?_ | refine Ext.drewN ?_ _ | refine Ext.alloc ?_ _ | refine Ext.trans ?_ (by assumption))) (hT.ext (by repeat (first | exact Ext.refl _ | assumption | refine Ext.drew ?_ | refine Ext.drewN ?_ _ | refine Ext.alloc ?_ _ | refine Ext.trans ?_ (by assumption))))).mono ?_
      rintro e w2 ⟨rfl, hx2⟩
      have hblk : w2.heap[w.heap.size]? = some (.cells #[.slice none 0 0, .slice none 0 0, .slice none 0 0] 114 (0, 0)) := (Below.block (Ext.trans hx1 (Ext.trans (Ext.alloc1 _ _) hx2)).bel _ (by simp)).trans (World.alloc_heap_new w _)
      obtain ⟨hf0, hf1, hf2⟩ := frz3 hblk
      obtain ⟨hg0, hg1, hg2⟩ := cells3 hblk
      have hxx : Ext w1 w2 := (Ext.alloc1 _ _).trans hx2
      have hbP : BoxP w2 w1.heap.size a n cap am k capm g := (Below.block hx2.bel _ (by simp)).trans (World.alloc_heap_new w1 _)
      obtain ⟨hp0, hp1, hp2, hp3⟩ := hbP.at
      have hww : w.heap.size < w1.heap.size := by have := hx1.le; simp at this; omega
      have hT2 := hT.ext hxx
      go_wp2_with fail
      have hne : w.heap.size ≠ g := by simp at hg; omega
      exact bodyPost_ret (res_cell rfl _ _ w.heap.size _ _ (0, 0) _ rfl (heap_set (heap_set (heap_set hblk _) _) _) Tryd.underlying114 rfl (by kernel_rfl)) rfl ⟨.inr ⟨trivial, g, rfl, by simp at hg; omega, ((hT2.other hne _ _).other hne _ _).other hne _ _⟩, by
        have h3 : Ext w w2 := (by repeat (first | exact Ext.refl _ | assumption | refine Ext.drew ?_ | refine Ext.drewN ?_ _ | refine Ext.alloc ?_ _ | refine Ext.trans ?_ (by assumption)))
        exact ((h3.setCell (p := ⟨w.heap.size, 0, none⟩) (by simp) _).setCell (p := ⟨w.heap.size, 1, none⟩) (by simp) _).setCell (p := ⟨w.heap.size, 2, none⟩) (by simp) _⟩
  · have hse := fun W (hx : Ext w W) => solved_err a n cap ts am k capm ms ast l caps st W (hr.ext hx) (hm.ext hx) (hs.ext hx) h0
    have hE : possE ts ms st = chkS ts ms st := by simp [possE, h0]
    have hd : (chkS ts ms st != 0) = true := by simpa using h0
    rw [hE]
    generalize chkS ts ms st = er at *
    go_enter Tryd.func83, Tryd.ntmps83
    go_wp2_with fail
    refine (hse _ (by repeat (first | exact Ext.refl _ | assumption | refine Ext.drew ?_ | refine Ext.drewN ?_ _ | refine Ext.alloc ?_ _ | refine Ext.trans ?_ (by assumption)))).mono ?_
    rintro e w1 ⟨rfl, hx1⟩
    have hblk : (w1.alloc (.cells #[.slice none 0 0, .slice none 0 0, .slice none 0 0] 114)).heap[w.heap.size]? = some (.cells #[.slice none 0 0, .slice none 0 0, .slice none 0 0] 114 (0, 0)) := (Below.block (Ext.trans hx1 (Ext.alloc1 _ _)).bel _ (by simp)).trans (World.alloc_heap_new w _)
    obtain ⟨hf0, hf1, hf2⟩ := frz3 hblk
    obtain ⟨hg0, hg1, hg2⟩ := cells3 hblk
    go_wp2_with fail
    exact bodyPost_ret (res_cell rfl _ _ w.heap.size _ _ (0, 0) _ rfl (heap_set (heap_set (heap_set hblk _) _) _) Tryd.underlying114 rfl (by kernel_rfl)) rfl ⟨.inl ⟨h0, rfl⟩, by
      have h3 : Ext w (w1.alloc (.cells #[.slice none 0 0, .slice none 0 0, .slice none 0 0] 114)) := (by repeat (first | exact Ext.refl _ | assumption | refine Ext.drew ?_ | refine Ext.drewN ?_ _ | refine Ext.alloc ?_ _ | refine Ext.trans ?_ (by assumption)))
      exact ((h3.setCell (p := ⟨w.heap.size, 0, none⟩) (by simp) _).setCell (p := ⟨w.heap.size, 1, none⟩) (by simp) _).setCell (p := ⟨w.heap.size, 2, none⟩) (by simp) _⟩
set_option maxHeartbeats 1000000 in
theorem smin_any (a : Option Addr) (n cap : Nat) (ts : List Nd) (am : Option Addr) (k capm : Nat) (ms : List (List Int)) (ast : Option Addr) (l caps : Nat) (st : List Int) (w : World)
    (hr : RdN w a n cap ts) (hm : RdM w am k capm ms) (hs : RdI w ast l caps st) :
    Calls Tryd.prog 78 #[.slice a n cap, .slice am k capm, .slice ast l caps] w fun e w' =>
      e = .returned (.tuple #[.int .i64 (if possE ts ms st = 0 then (rootB ts ms st).1 else 0), .int .i64 (possE ts ms st)]) ∧ Ext w w' := by
  have hp := possible_any a n cap ts am k capm ms ast l caps st w hr hm hs
  have hnl := hr.rd.len
  have hkl := RdV.len hm
  have hroot := fun g W (hx : Ext w W) (h0 : chkS ts ms st = 0) (hT : RdT W g n k (accS ts ms st (n - 1))) => rootS_any a n cap ts am k capm ms st g W hnl hkl (hm.ext hx) h0 hT
  have hch : possE ts ms st = 0 → chkS ts ms st = 0 := fun h => by
    unfold possE at h
    split at h
    · rename_i h1; exact absurd h h1
    · rename_i h1; exact Decidable.of_not_not h1
  replace hnl := Lib.hid hnl
  replace hkl := Lib.hid hkl
  generalize (rootB ts ms st).1 = q1 at *
  generalize (rootB ts ms st).2 = q2 at *
  generalize possE ts ms st = pe at *
  go_enter Tryd.func78, Tryd.ntmps78
  go_wp2_with fail
  refine hp.mono ?_
  rintro e w1 ⟨⟨hne, rfl⟩ | ⟨rfl, g, rfl, hg, hT⟩, hx1⟩
  · have hd : (pe != 0) = true := by simpa using hne
    go_wp2_with fail
    go_ret2
    exact ⟨rfl, (by repeat (first | exact Ext.refl _ | assumption | refine Ext.drew ?_ | refine Ext.drewN ?_ _ | refine Ext.alloc ?_ _ | refine Ext.trans ?_ (by assumption)))⟩
  · have h0 := hch rfl
    go_wp2_with fail
    refine (hroot g _ (by repeat (first | exact Ext.refl _ | assumption | refine Ext.drew ?_ | refine Ext.drewN ?_ _ | refine Ext.alloc ?_ _ | refine Ext.trans ?_ (by assumption))) h0 (hT.ext (by repeat (first | exact Ext.refl _ | assumption | refine Ext.drew ?_ | refine Ext.drewN ?_ _ | refine Ext.alloc ?_ _ | refine Ext.trans ?_ (by assumption))))).mono ?_
    rintro e w2 ⟨rfl, hx2⟩
    go_wp2_with fail
    go_ret2
    exact ⟨rfl, (by repeat (first | exact Ext.refl _ | assumption | refine Ext.drew ?_ | refine Ext.drewN ?_ _ | refine Ext.alloc ?_ _ | refine Ext.trans ?_ (by assumption)))⟩
set_option maxHeartbeats 1000000 in
theorem sroots_any (a : Option Addr) (n cap : Nat) (ts : List Nd) (am : Option Addr) (k capm : Nat) (ms : List (List Int)) (ast : Option Addr) (l caps : Nat) (st : List Int) (w : World)
    (hr : RdN w a n cap ts) (hm : RdM w am k capm ms) (hs : RdI w ast l caps st) :
    Calls Tryd.prog 50 #[.slice a n cap, .slice am k capm, .slice ast l caps] w (RetIE (rootsL ts ms st) (possE ts ms st) w) := by
  have hp := possible_any a n cap ts am k capm ms ast l caps st w hr hm hs
  have hnl := hr.rd.len
  have hkl := RdV.len hm
  have hroot := fun g W (hx : Ext w W) (h0 : chkS ts ms st = 0) (hT : RdT W g n k (accS ts ms st (n - 1))) => rootS_any a n cap ts am k capm ms st g W hnl hkl (hm.ext hx) h0 hT
  have hch : possE ts ms st = 0 → chkS ts ms st = 0 := fun h => by
    unfold possE at h
    split at h
    · rename_i h1; exact absurd h h1
    · rename_i h1; exact Decidable.of_not_not h1
  by_cases h0 : possE ts ms st = 0
  · have hL : rootsL ts ms st = rootsTo ts ms st k := by rw [rootsL, if_pos h0, hkl]
    have hc := hch h0
    obtain ⟨ht, hmb, _, _⟩ := chkS_zero hc
    have hk12 : k ≤ 12 := by rw [← hkl]; exact (smB_of hmb).2.1
    have hn0 : 0 < n := by rw [← hnl]; exact (tree_len ht).1
    have hrs := fun j => rootsTo_succ ts ms st j
    have hrl := fun j => rootsTo_len ts ms st j
    rw [hL]
    have hr0 : rootsTo ts ms st 0 = [] := rfl
    rw [hnl] at hrs
    generalize rootsTo ts ms st = R at *
    rw [h0] at hp ⊢
    generalize (rootB ts ms st).1 = q1 at *
    generalize (rootB ts ms st).2 = q2 at *
    replace hnl := Lib.hid hnl
    replace hkl := Lib.hid hkl
    replace h0 := Lib.hid h0
    replace hr0 := Lib.hid hr0
    clear hL hch
    go_enter Tryd.func50, Tryd.ntmps50
    go_wp2_with fail
    refine hp.mono ?_
    rintro e w1 ⟨⟨hne, rfl⟩ | ⟨_, g, rfl, hg, hT⟩, hx1⟩
    · exact absurd rfl hne
    go_wp2_with fail
    refine (hroot g _ (by repeat (first | exact Ext.refl _ | assumption | refine Ext.drew ?_ | refine Ext.drewN ?_ _ | refine Ext.alloc ?_ _ | refine Ext.trans ?_ (by assumption))) hc (hT.ext (by repeat (first | exact Ext.refl _ | assumption | refine Ext.drew ?_ | refine Ext.drewN ?_ _ | refine Ext.alloc ?_ _ | refine Ext.trans ?_ (by assumption))))).mono ?_
    rintro e w2 ⟨rfl, hx2⟩
    have hbP : BoxP w2 w1.heap.size a n cap am k capm g := (Below.block hx2.bel _ (by simp)).trans (World.alloc_heap_new w1 _)
    have hT2 : RdT w2 g n k (accS ts ms st (n - 1)) := hT.ext ((Ext.alloc1 _ _).trans hx2)
    have hxw2 : Ext w w2 := hx1.trans ((Ext.alloc1 _ _).trans hx2)
    go_wp2_with fail
    go_loopw [12, 31] (fun ov i wr => ∃ j : Nat, j ≤ k ∧ i = .int .i64 j ∧ Ext w2 wr ∧ OwnI w2.heap.size 3 wr ov (R j)) (fun _ i _ => k - (intOf i).toNat)
    case atStart => exact ⟨0, Nat.zero_le _, rfl, Ext.refl _, by rw [hr0.out]; exact OwnK.nil _ _ _⟩
    case round =>
      obtain ⟨j, hj, rfl, hx, hown⟩ := hrel
      by_cases hlt : j < k
      · obtain ⟨hb0, hb1, hb2, hb3⟩ := (hbP.ext hx).at
        have hcG := (hT2.ext hx).cell 0 j hn0 hlt
        have hgl := (hT2.ext hx).lt
        rw [Nat.zero_mul, Nat.zero_add] at hcG
        have hj12 : j < 12 := by omega
        have hlen := hrl j
        have hsu := hrs j
        generalize accS ts ms st (n - 1) 0 j = y at *
        by_cases hy : y = q1
        · have hd : (y == q1) = true := by simpa using hy
          rw [if_pos hy] at hsu
          replace hsu := Lib.hid hsu
          replace hy := Lib.hid hy
          go_wp2_with (at_builtin; refine wp_app1 w2 wr (j : Int) rfl _ _ 52 rfl 3 Tryd.underlying52 info_int rfl (by decide) _ _ rfl hown hx rfl (I64.len _) (I64.one _) (by omega) (by unfold maxLen; omega) ?_; intro v3 w3 o3 x3 _)
          (first | exact ⟨⟨j + 1, by omega, by go_num, x3, by rw [hsu.out]; exact o3⟩, (by simp [intOf]; omega)⟩ | (go_roundw; case rel => exact ⟨j + 1, by omega, by go_num, x3, by rw [hsu.out]; exact o3⟩; case measure => exact (by simp [intOf]; omega)))
        · have hd : (y == q1) = false := by simpa using hy
          rw [if_neg hy, List.append_nil] at hsu
          rw [← hsu] at hown
          replace hsu := Lib.hid hsu
          go_wp2_with fail
          (first | exact ⟨⟨j + 1, by omega, by go_num, hx, hown⟩, (by simp [intOf]; omega)⟩ | (go_roundw; case rel => exact ⟨j + 1, by omega, by go_num, hx, hown⟩; case measure => exact (by simp [intOf]; omega)))
      · have hjk : j = k := by omega
        subst hjk
        go_wp2_with fail
        go_ret2
        exact ⟨_, rfl, OwnK.base hown (Ext.le hxw2), hxw2.trans hx⟩
  · have hL : rootsL ts ms st = [] := by rw [rootsL, if_neg h0]
    rw [hL]
    have hd : (possE ts ms st != 0) = true := by simpa using h0
    generalize possE ts ms st = pe at *
    go_enter Tryd.func50, Tryd.ntmps50
    go_wp2_with fail
    refine hp.mono ?_
    rintro e w1 ⟨⟨hne, rfl⟩ | ⟨h, _⟩, hx1⟩
    · go_wp2_with fail
      go_ret2
      exact ⟨_, rfl, OwnK.nil _ _ _, (by repeat (first | exact Ext.refl _ | assumption | refine Ext.drew ?_ | refine Ext.drewN ?_ _ | refine Ext.alloc ?_ _ | refine Ext.trans ?_ (by assumption)))⟩
    · exact absurd h h0
end Go.Proofs.YtdloabjnjnjacaaDoor
