/-
  Relations: then.
  Relations: power.
-/
import Derived.Test.YtadncjpknckaaaaGreatDoorA03
import Derived.Test.YtadncjpknckaaaaGreatDoorA04
import Derived.Deep.WholeRow
import Derived.Laws.BitsLemmas
namespace Go.Proofs.YtadncjpknckaaaaGreatDoor
open Go.RowKit Go.Maps
attribute [local go_sem] Oper.semAt_some
def thenTo (x y : Rel) (k : Nat) : Rel := (List.range 33).map fun a => if a < k then orAt y (x.getD a 0) else 0
theorem thenTo_len (x y : Rel) (k : Nat) : (thenTo x y k).length = 33 := by simp [thenTo]
theorem thenTo_at (x y : Rel) (k : Nat) {i : Nat} (hi : i < 33) : (thenTo x y k)[i]? = some (if i < k then orAt y (x.getD i 0) else 0) := by
  unfold thenTo; rw [List.getElem?_map, List.getElem?_range hi]; rfl
theorem thenTo_zero (x y : Rel) : thenTo x y 0 = zeroM := rel_ext (thenTo_len _ _ _) zeroM_ok.1 fun i hi => by
  rw [thenTo_at _ _ _ hi, if_neg (by omega)]; unfold zeroM; rw [List.getElem?_replicate, if_pos hi]
theorem thenTo_succ {x y : Rel} {k : Nat} (_hk : k < 33) : thenTo x y (k + 1) = (thenTo x y k).set k (orAt y (x.getD k 0)) := rel_ext (thenTo_len _ _ _) (by rw [List.length_set, thenTo_len]) fun i hi => by
  rw [thenTo_at _ _ _ hi, List.getElem?_set, thenTo_len]
  by_cases hik : k = i
  · subst hik; simp [hi]
  · rw [if_neg hik, thenTo_at _ _ _ hi]
    by_cases h : i < k
    · rw [if_pos h, if_pos (by omega)]
    · rw [if_neg h, if_neg (by omega)]
theorem thenTo_all {x y : Rel} (hx : x.length = 33) : thenTo x y 33 = thenM x y := rel_ext (thenTo_len _ _ _) (by unfold thenM; rw [List.length_map, hx]) fun i hi => by
  rw [thenTo_at _ _ _ hi, if_pos hi]
  unfold thenM
  rw [List.getElem?_map, rel_at hx hi]; rfl
/-- What has been gathered from some places. -/
def accM (y : Rel) (pre : List Nat) : Nat := pre.foldl (fun acc b => acc ||| y.getD b 0) 0
theorem accM_snoc (y : Rel) (pre : List Nat) (b : Nat) : accM y (pre ++ [b]) = accM y pre ||| y.getD b 0 := by simp [accM]
theorem accM_lt {y : Rel} (h : RelOk y) (pre : List Nat) : accM y pre < 2 ^ 33 := by
  unfold accM
  suffices H : ∀ (l : List Nat) (acc : Nat), acc < 2 ^ 33 → l.foldl (fun acc b => acc ||| y.getD b 0) acc < 2 ^ 33 from H _ 0 (by decide)
  intro l
  induction l with
  | nil => intro acc h; exact h
  | cons b l ih => intro acc ha; exact ih _ (or_lt ha (h.getD b))
theorem accM_all (y : Rel) (s : Nat) : accM y (bitsOf s) = orAt y s := rfl
/-- What stands while the places behind one place are gathered. -/
def ThS (w5 : World) (x y : Rel) (b5 i B6 : Nat) (Ds : List Nat) (pre : List Nat) (X : World) : Prop :=
  RelB X b5 ((thenTo x y i).set i (accM y pre)) ∧ Boxed X B6 3 (.int .i64 (i : Int)) ∧ Ext w5 X ∧ ∀ D ∈ Ds, w5.heap.size ≤ D ∧ X.heap[D]? = some (.deferred (some []))
theorem boxed_more {w w' : World} {B : Nat} {t : TypeId} {v : Value} (h : Boxed w B t v) (hx : Ext w w') : Boxed w' B t v := (Below.block hx.bel B h.lt).trans h
theorem RelB.grown {w w' : World} {b : Nat} {x : Rel} (h : RelB w b x) {row : Option Nat} (hg : w.grownBy w' row) (hr : ∀ r, row = some r → r ≠ b) : RelB w' b x :=
  (hg.block b h.lt (fun e => hr b e.symm rfl)).trans h
theorem ThS.beside {w5 : World} {x y : Rel} {b5 i B6 : Nat} {Ds : List Nat} {pre : List Nat} {X Y : World} {row : Option Nat} (h : ThS w5 x y b5 i B6 Ds pre X) (hg : X.grownBy Y row) (hr : ∀ r, row = some r → w5.heap.size ≤ r ∧ r ≠ b5 ∧ r ≠ B6 ∧ ∀ D ∈ Ds, r ≠ D) : ThS w5 x y b5 i B6 Ds pre Y := by
  obtain ⟨h1, h2, h3, h4⟩ := h
  refine ⟨h1.grown hg fun r e => (hr r e).2.1, h2.kept hg fun e => (hr _ e.symm).2.2.1 rfl, h3.grown hg fun r e => (hr r e).1, fun D hD => ⟨(h4 D hD).1, (hg.block D (Array.getElem?_eq_some_iff.1 (h4 D hD).2).1 (fun e => (hr _ e.symm).2.2.2 D hD rfl)).trans (h4 D hD).2⟩⟩
/-- What stands between two places. -/
structure ThI (w5 : World) (x y : Rel) (b5 i : Nat) (Ds : List Nat) (W : World) : Prop where
  out : RelB W b5 (thenTo x y i)
  ext : Ext w5 W
  nod : Ds.Nodup
  marks : ∀ D ∈ Ds, w5.heap.size ≤ D ∧ W.heap[D]? = some (.deferred (some []))
def ThF (a0 a1 a3 a4 a5 : Value) (i : Nat) (Ds : List Nat) (a : Act) : Prop := ∃ u6 u7 u8 u11 u12 u13 u14 u15 u16 u17 u18 u19 u20 u21 u22 u23 u24 u25 u26 u27 u28 u29 u30 : Value, a = { tmps := #[a0, a1, undef, a3, a4, a5, u6, u7, u8, a0, .int .i64 (i : Int), u11, u12, u13, u14, u15, u16, u17, u18, u19, u20, u21, u22, u23, u24, u25, u26, u27, u28, u29, u30], defers := Ds.map markD }
def ThJ (w5 : World) (x y : Rel) (b5 : Nat) (a0 a1 a3 a4 a5 : Value) (a : Act) (W : World) : Prop := ∃ i Ds, i ≤ 33 ∧ ThF a0 a1 a3 a4 a5 i Ds a ∧ ThI w5 x y b5 i Ds W
set_option maxHeartbeats 4000000 in
set_option maxRecDepth 20000 in
theorem then_any (x y : Rel) (hx : RelOk x) (hy : RelOk y) (bx by_ : Nat) (w : World) (hbx : RelB w bx x) (hby : RelB w by_ y) (hT : Tab64 w) :
    Calls Tryz.prog 143 #[.pointer (some ⟨bx, 0, none⟩), .pointer (some ⟨by_, 0, none⟩)] w (RetR (thenM x y) w) := by
  refine (callsIn_wide (n := 9)).1 ?_
  refine callsIn_of_wp_marks Tryz.func143 rfl trivial ?_ rfl
  simp only [Tryz.ntmps143, List.size_toArray, List.length_cons, List.length_nil, Nat.reduceAdd, Nat.reduceSub, Array.replicate_succ, Array.replicate_zero, List.push_toArray, List.append_toArray, List.nil_append, List.cons_append]
  gi_wp2
  have hc3 : (w.alloc (.cells #[.pointer (some ⟨by_, 0, none⟩)] 220)).cell? ⟨w.heap.size, 0, none⟩ = some (.pointer (some ⟨by_, 0, none⟩)) := by go_simp
  obtain ⟨w3, hw3⟩ : ∃ w3, w3 = w.alloc (.cells #[.pointer (some ⟨by_, 0, none⟩)] 220) := ⟨_, rfl⟩
  obtain ⟨w5, hw5⟩ : ∃ w5, w5 = w3.alloc (.cells (relA zeroM) 173) := ⟨_, rfl⟩
  have hx3 : Ext w w3 := by rw [hw3]; exact Ext.alloc1 _ _
  have hx5 : Ext w3 w5 := by rw [hw5]; exact Ext.alloc1 _ _
  have z3 : w3.heap.size = w.heap.size + 1 := by rw [hw3]; simp
  have z5 : w5.heap.size = w.heap.size + 1 + 1 := by rw [hw5]; simp [z3]
  rw [← hw3] at hc3
  have b4 : RelB w5 (w.heap.size + 1) zeroM := by rw [← z3, hw5]; exact RelB.new w3 zeroM
  have hI0 : ThI w5 x y (w.heap.size + 1 + 1) 0 [] (w5.alloc (.cells (relA zeroM) 173)) :=
    ⟨by rw [thenTo_zero, ← z5]; exact RelB.new w5 zeroM, Ext.alloc1 _ _, List.nodup_nil, fun D hD => by cases hD⟩
  change Code.wpIn _ _ _ _ _ _ (((w.alloc (.cells #[.pointer (some ⟨by_, 0, none⟩)] 220)).alloc (.cells (relA zeroM) 173)).alloc (.cells (relA zeroM) 173))
  rw [← hw3, ← hw5]
  replace hc3 := hx5.cellv hc3
  replace hbx := hbx.ext (hx3.trans hx5)
  replace hby := hby.ext (hx3.trans hx5)
  replace hT := hT.ext (hx3.trans hx5)
  have hxw := hx3.trans hx5
  clear hw3 hw5 hx3 hx5 z3
  obtain ⟨b5, hb5⟩ : ∃ b5, b5 = w.heap.size + 1 + 1 := ⟨_, rfl⟩
  rw [← hb5] at hI0 z5 ⊢
  generalize hb4 : w.heap.size + 1 = b4' at *
  generalize hb3 : w.heap.size = b3 at *
  replace hb5 := Lib.hid hb5
  replace hb4 := Lib.hid hb4
  refine wpIn_loop (ThJ w5 x y b5 (.pointer (some ⟨bx, 0, none⟩)) (.pointer (some ⟨by_, 0, none⟩)) (.pointer (some ⟨b3, 0, none⟩)) (.pointer (some ⟨b4', 0, none⟩)) (.pointer (some ⟨b5, 0, none⟩))) (fun a _ => 33 - (intOf (a.tmps.getD 10 undef)).toNat) ⟨0, [], Nat.zero_le _, ⟨undef, undef, undef, undef, undef, undef, undef, undef, undef, undef, undef, undef, undef, undef, undef, undef, undef, undef, undef, undef, undef, undef, undef, rfl⟩, hI0⟩ ?_
  clear hI0
  rintro a W ⟨i, Ds, hi, ⟨u6, u7, u8, u11, u12, u13, u14, u15, u16, u17, u18, u19, u20, u21, u22, u23, u24, u25, u26, u27, u28, u29, u30, rfl⟩, hI⟩
  by_cases hlt : i < 33
  · have hki : (i : Int) < 33 := by omega
    obtain ⟨ho, hxr, hnod, hmk⟩ := hI
    obtain ⟨s, hs⟩ : ∃ s, s = x.getD i 0 := ⟨_, rfl⟩
    have cx := (hbx.ext hxr).cell (rel_at hx.1 hlt)
    rw [← hs] at cx
    have hs33 : s < 2 ^ 33 := by rw [hs]; exact hx.getD i
    have hmx : Tryz.prog.follows .mixedOrders = true := by kernel_rfl
    have h5W : b5 < W.heap.size := ho.lt
    have hbl : bx < W.heap.size := (hbx.ext hxr).lt
    have hbn : bx ≠ W.heap.size := by omega
    have hbn2 : W.heap.size ≠ bx := by omega
    have hbb := hb5.out
    have hbb4 := hb4.out
    clear hbb hbb4
    replace hs := Lib.hid hs
    replace hs33 := Lib.hid hs33
    replace ho := Lib.hid ho
    replace hmk := Lib.hid hmk
    replace hnod := Lib.hid hnod
    gi_wp2
    refine region_only ?_
    refine wpIn_region_FW (fun W' : World => Ext w5 W') [0, 1, 2, 3] (by kernel_rfl) (by kernel_rfl) (by rintro ⟨_, _, h⟩; exact h) ?_
    show wpF _ _ _ _ _ _ 7 _ _ _
    have hS0 : (fun W' : World => Ext w5 W') W.drew := hxr.drew
    refine wpF_take (i := 0) (v := (.int .i64 (i : Int))) rfl (by kernel_rfl) (by kernel_rfl) (by kernel_rfl) (by kernel_rfl) (fun _ _ _ h => h) (.inl ⟨rfl, fun W' hW' => ?_⟩) hS0 ?_
    · go_simp
    refine wpF_take (i := 1) (v := (.pointer (some ⟨bx, 0, none⟩))) rfl (by kernel_rfl) (by kernel_rfl) (by kernel_rfl) (by kernel_rfl) (fun _ _ _ h => h) (.inl ⟨rfl, fun W' hW' => ?_⟩) hS0 ?_
    · go_simp
    refine wpF_take (i := 2) (v := (.pointer (some ⟨bx, i, none⟩))) rfl (by kernel_rfl) (by kernel_rfl) (by kernel_rfl) (by kernel_rfl) (fun _ _ _ h => h) (.inl ⟨rfl, fun W' hW' => ?_⟩) hS0 ?_
    · go_simp
    refine wpF_take (i := 3) (v := .int .u64 (s : Int)) rfl (by kernel_rfl) (by kernel_rfl) (by kernel_rfl) (by kernel_rfl) (fun _ _ _ h => h) (.inl ⟨rfl, fun W' hW' => ?_⟩) hS0 ?_
    · have u := (hbx.ext hW').cell (rel_at hx.1 hlt)
      rw [← hs.out] at u
      clear cx
      go_simp
    clear cx
    refine wpF_step (k := 4) rfl (by kernel_rfl) rfl fun K hK => ?_
    go_simp
    have hS1 : (fun W' : World => Ext w5 W') ((W.alloc (.cells #[.int .i64 0] 3)).drew) := (hxr.alloc _).drew
    refine hK _ _ hS1 ?_
    clear hK K
    refine wpF_step (k := 5) rfl (by kernel_rfl) rfl fun K hK => ?_
    go_simp
    have hx6 : Ext w5 ((W.alloc (.cells #[.int .i64 (i : Int)] 3)).drew) := (hxr.alloc _).drew
    have b6 : Boxed ((W.alloc (.cells #[.int .i64 (i : Int)] 3)).drew) W.heap.size 3 (.int .i64 (i : Int)) := World.alloc_heap_new W _
    have ho6 : RelB ((W.alloc (.cells #[.int .i64 (i : Int)] 3)).drew) b5 (thenTo x y i) := RelB.ext ho.out (Ext.alloc1 W (.cells #[.int .i64 (i : Int)] 3)).drew
    have hm6 : ∀ D ∈ Ds, w5.heap.size ≤ D ∧ ((W.alloc (.cells #[.int .i64 (i : Int)] 3)).drew).heap[D]? = some (.deferred (some [])) := fun D hD => ⟨(hmk.out D hD).1, (Below.heap_alloc _ _ _ (Array.getElem?_eq_some_iff.1 (hmk.out D hD).2).1).trans (hmk.out D hD).2⟩
    have z6 : ((W.alloc (.cells #[.int .i64 (i : Int)] 3)).drew).heap.size = W.heap.size + 1 := by show (W.alloc _).heap.size = _; simp
    refine hK _ _ hx6 ?_
    clear hK K hS1 hS0
    generalize (W.alloc (.cells #[.int .i64 (i : Int)] 3)).drew = w6 at *
    refine wpF_step (k := 6) rfl (by kernel_rfl) rfl fun K hK => ?_
    go_simp
    refine hK _ _ hx6 ?_
    clear hK K
    refine ⟨by kernel_rfl, ?_⟩
    obtain ⟨B6, hB6⟩ : ∃ B6, B6 = W.heap.size := ⟨_, rfl⟩
    rw [← hB6] at b6 h5W z6 ⊢
    clear hmk ho hbl hbn hbn2
    replace hB6 := Lib.hid hB6
    replace hm6 := Lib.hid hm6
    replace ho6 := Lib.hid ho6
    gi_wp2
    refine ⟨trivial, ?_⟩
    gi_at_call 107
    refine (all_in _ s _).mono ?_
    rintro e wB ⟨rfl, hwB⟩
    have bX : Boxed wB w6.heap.size 171 (.int .u64 (s : Int)) := by rw [hwB]; exact World.alloc_heap_new w6 _
    have hx6B : Ext w6 wB := by rw [hwB]; exact Ext.alloc1 _ _
    have zB : wB.heap.size = w6.heap.size + 1 := by rw [hwB]; simp
    have hP0 : ThS w5 x y b5 i B6 Ds [] wB := by
      refine ⟨?_, boxed_more b6 hx6B, hx6.trans hx6B, fun D hD => ⟨(hm6.out D hD).1, (Below.block hx6B.bel D (Array.getElem?_eq_some_iff.1 (hm6.out D hD).2).1).trans (hm6.out D hD).2⟩⟩
      have h0 : (thenTo x y i).set i (accM y []) = thenTo x y i := rel_ext (by rw [List.length_set, thenTo_len]) (thenTo_len _ _ _) fun j hj => by
        rw [List.getElem?_set]
        split
        · rename_i e
          subst e
          rw [if_pos (by rw [thenTo_len]; exact hj), thenTo_at _ _ _ hj, if_neg (Nat.lt_irrefl _)]; rfl
        · rfl
      rw [h0]
      exact RelB.ext ho6.out hx6B
    clear hwB
    rw [z6] at bX zB
    have hDlt : ∀ D ∈ Ds, D < B6 + 1 := fun D hD => by rw [← z6]; exact (Array.getElem?_eq_some_iff.1 (hm6.out D hD).2).1
    have hx5B := hx6.trans hx6B
    replace hDlt := Lib.hid hDlt
    gi_wp2
    refine wpIn_range_ownA rfl (by decide : 1 ≤ 9) (gf := 113) (lb := #[.pointer (some ⟨B6 + 1, 0, none⟩)]) rfl trivial (enters_of Tryz.func113 (by kernel_rfl) rfl) (encs := encF) (fun _ => rfl) (fun r => r = B6 + 1) (fun r hr => by omega) (bitsOf s)
      (ThS w5 x y b5 i B6 Ds) (fun s X Y row hs hg hr => hs.beside hg fun r e => by
        rcases hr r e with h | ⟨h2, _⟩
        · exact ⟨by omega, by omega, by omega, fun D hD => by have := hDlt.out D hD; omega⟩
        · exact ⟨by omega, by omega, by omega, fun D hD => by have := hDlt.out D hD; omega⟩)
      hP0 (fun _ _ _ => False) (fun _ _ _ _ _ hs _ _ => hs)
      (fun lp J Jx X hB hJ0 hJ hJx hI hY => all1_in (9 - 1) lp (B6 + 1) (by decide) s hs33.out J Jx (fun s X Y row hs hg hr => hJ s X Y row hs hg hr) (fun s X hs => hT.ext (hI s X hs).2.2.1) hY X ((Below.block hB _ (by omega)).trans bX) hJ0)
      (fun tm f a' _ => a' = { tmps := (tm.setIfInBounds 18 (.int .i64 (f : Int))).setIfInBounds 8 (.int .i64 (f : Int)), defers := [] }) (fun _ _ _ _ _ _ hs _ _ => hs)
      ?assign ?body ?done ?stop
    case assign =>
      rintro lp pre f X K hS hK
      gi_wp2
      refine hK _ _ (KeepsFrom.refl _ _) (Same.refl _ _) hS ?_
      simp only [List.setIfInBounds_toArray, List.set_cons_succ, List.set_cons_zero]
    case body =>
      rintro lp pre f a' X hS rfl hpre
      obtain ⟨h1, h2, h3, h4⟩ := id hS
      have hf33 : f < 33 := by
        have : f ∈ bitsOf s := hpre.subset (by simp)
        unfold bitsOf at this
        exact List.mem_range.1 (List.mem_filter.1 this).1
      have hfi : (f : Int) < 33 := by omega
      have c6 := h2.cell
      have hlt2 : i < ((thenTo x y i).set i (accM y pre)).length := by rw [List.length_set, thenTo_len]; exact hlt
      have c5 : X.cell? ⟨b5, i, none⟩ = some (.int .u64 ((accM y pre : Nat) : Int)) := h1.cell (by rw [List.getElem?_set_self (by rw [thenTo_len]; exact hlt)])
      have c3 := h3.cellv hc3
      have cy := (hby.ext h3).cell (rel_at hy.1 hf33)
      have hfr := h1.free i
      have hor := bits_or64 (accM_lt hy pre) (hy.getD f)
      have hsn := accM_snoc y pre f
      have hset := h1.set hlt2 (accM y pre ||| y.getD f 0)
      rw [List.set_set] at hset
      obtain ⟨p, hp⟩ : ∃ p, p = accM y pre := ⟨_, rfl⟩
      obtain ⟨q, hq⟩ : ∃ q, q = y.getD f 0 := ⟨_, rfl⟩
      rw [← hp, ← hq] at hor hset hsn
      rw [← hp] at c5
      rw [← hq] at cy
      replace hp := Lib.hid hp
      replace hq := Lib.hid hq
      rw [← hsn] at hset
      simp only [List.setIfInBounds_toArray, List.set_cons_succ, List.set_cons_zero]
      replace hsn := Lib.hid hsn
      have hsz : X.heap.size = X.drew.heap.size := rfl
      have hgr : X.grownBy ((X.drew).setCell ⟨b5, i, none⟩ (.int .u64 ((accM y (pre ++ [f]) : Nat) : Int))) (some b5) := by
        have h := grownBy_setCell' X.drew b5 (.int .u64 ((accM y (pre ++ [f]) : Nat) : Int))
        have h' := grownBy_set X.drew b5 i (.int .u64 ((accM y (pre ++ [f]) : Nat) : Int))
        exact ⟨h'.os, h'.tape, h'.output, h'.size, h'.block⟩
      have hsetd : RelB ((X.drew).setCell ⟨b5, i, none⟩ (.int .u64 ((accM y (pre ++ [f]) : Nat) : Int))) b5 ((thenTo x y i).set i (accM y (pre ++ [f]))) := by
        have h1d : RelB X.drew b5 ((thenTo x y i).set i (accM y pre)) := h1
        have := h1d.set hlt2 (accM y (pre ++ [f]))
        rwa [List.set_set] at this
      have hS2 : ThS w5 x y b5 i B6 Ds (pre ++ [f]) ((X.drew).setCell ⟨b5, i, none⟩ (.int .u64 ((accM y (pre ++ [f]) : Nat) : Int))) :=
        ⟨hsetd, h2.kept hgr (fun e => by cases e; omega), h3.grown hgr (fun r e => by cases e; omega), fun D hD => ⟨(h4 D hD).1, (hgr.block D (Array.getElem?_eq_some_iff.1 (h4 D hD).2).1 (fun e => by
          cases e
          have := h1.symm.trans (h4 b5 hD).2
          cases this)).trans (h4 D hD).2⟩⟩
      have hk2 : KeepsFrom wB.heap.size X ((X.drew).setCell ⟨b5, i, none⟩ (.int .u64 ((accM y (pre ++ [f]) : Nat) : Int))) :=
        ⟨hgr.size, (KeepsFrom.of_grownBy hgr (fun j e => by cases e; omega)).same⟩
      have hs2 : Same (fun r => r = B6 + 1) X ((X.drew).setCell ⟨b5, i, none⟩ (.int .u64 ((accM y (pre ++ [f]) : Nat) : Int))) := fun r hr => by
        by_cases hrl : r < X.heap.size
        · exact hgr.block r hrl (fun e => by cases e; omega)
        · have e1 := Array.getElem?_eq_none (xs := X.heap) (i := r) (by omega)
          rw [e1]; exact Array.getElem?_eq_none (by show (World.setCell X.drew _ _).heap.size ≤ r; simp; omega)
      have fin := Lib.hid (And.intro hk2 (And.intro hs2 hS2))
      clear hk2 hs2 hS2 hsetd hgr hset
      clear c6 c5 c3 cy hfr
      gi_wp2
      refine wpIn_region_F (fun W' : World => ThS w5 x y b5 i B6 Ds pre W') [0, 1, 2, 3, 4, 5, 6, 7, 8, 9] (by kernel_rfl) (by kernel_rfl) (by rintro ⟨_, _, h⟩; exact h) ?_
      show wpF _ _ _ _ _ _ 11 _ _ _
      have hS0 : (fun W' : World => ThS w5 x y b5 i B6 Ds pre W') X.drew := ⟨hS.1, hS.2.1, hS.2.2.1.drew, hS.2.2.2⟩
      refine wpF_take (i := 0) (v := (.int .i64 (i : Int))) rfl (by kernel_rfl) (by kernel_rfl) (by kernel_rfl) (by kernel_rfl) (fun _ _ _ h => h) (.inl ⟨rfl, fun W' hW' => ?_⟩) hS0 ?_
      · have c6 := hW'.2.1.cell
        go_simp
      refine wpF_take (i := 1) (v := (.pointer (some ⟨b5, i, none⟩))) rfl (by kernel_rfl) (by kernel_rfl) (by kernel_rfl) (by kernel_rfl) (fun _ _ _ h => h) (.inl ⟨rfl, fun W' hW' => ?_⟩) hS0 ?_
      · go_simp
      refine wpF_take (i := 2) (v := (.int .u64 (p : Int))) rfl (by kernel_rfl) (by kernel_rfl) (by kernel_rfl) (by kernel_rfl) (fun _ _ _ h => h) (.inl ⟨rfl, fun W' hW' => ?_⟩) hS0 ?_
      · (have c5 : W'.cell? ⟨b5, i, none⟩ = some (.int .u64 ((accM y pre : Nat) : Int)) := RelB.cell hW'.1 (by rw [List.getElem?_set_self (by rw [thenTo_len]; exact hlt)])); rw [← hp.out] at c5
        go_simp
      refine wpF_take (i := 3) (v := (.pointer (some ⟨by_, 0, none⟩))) rfl (by kernel_rfl) (by kernel_rfl) (by kernel_rfl) (by kernel_rfl) (fun _ _ _ h => h) (.inl ⟨rfl, fun W' hW' => ?_⟩) hS0 ?_
      · have c3 := hW'.2.2.1.cellv hc3
        go_simp
      refine wpF_take (i := 4) (v := (.int .i64 (f : Int))) rfl (by kernel_rfl) (by kernel_rfl) (by kernel_rfl) (by kernel_rfl) (fun _ _ _ h => h) (.inl ⟨rfl, fun W' hW' => ?_⟩) hS0 ?_
      · go_simp
      refine wpF_take (i := 5) (v := (.pointer (some ⟨by_, 0, none⟩))) rfl (by kernel_rfl) (by kernel_rfl) (by kernel_rfl) (by kernel_rfl) (fun _ _ _ h => h) (.inl ⟨rfl, fun W' hW' => ?_⟩) hS0 ?_
      · go_simp
      refine wpF_take (i := 6) (v := (.pointer (some ⟨by_, f, none⟩))) rfl (by kernel_rfl) (by kernel_rfl) (by kernel_rfl) (by kernel_rfl) (fun _ _ _ h => h) (.inl ⟨rfl, fun W' hW' => ?_⟩) hS0 ?_
      · go_simp
      refine wpF_take (i := 7) (v := (.int .u64 (q : Int))) rfl (by kernel_rfl) (by kernel_rfl) (by kernel_rfl) (by kernel_rfl) (fun _ _ _ h => h) (.inl ⟨rfl, fun W' hW' => ?_⟩) hS0 ?_
      · (have cy := (hby.ext hW'.2.2.1).cell (rel_at hy.1 hf33)); rw [← hq.out] at cy
        go_simp
      refine wpF_take (i := 8) (v := (.int .u64 ((p ||| q : Nat) : Int))) rfl (by kernel_rfl) (by kernel_rfl) (by kernel_rfl) (by kernel_rfl) (fun _ _ _ h => h) (.inl ⟨rfl, fun W' hW' => ?_⟩) hS0 ?_
      · go_simp
      refine wpF_take (i := 9) (v := (.pointer (some ⟨b5, i, none⟩))) rfl (by kernel_rfl) (by kernel_rfl) (by kernel_rfl) (by kernel_rfl) (fun _ _ _ h => h) (.inl ⟨rfl, fun W' hW' => ?_⟩) hS0 ?_
      · go_simp
      have h1d : RelB X.drew b5 ((thenTo x y i).set i (accM y pre)) := h1
      have hfr := h1d.free i
      have c5 : X.drew.cell? ⟨b5, i, none⟩ = some (.int .u64 ((accM y pre : Nat) : Int)) := h1d.cell (by rw [List.getElem?_set_self (by rw [thenTo_len]; exact hlt)])
      clear h1d
      rw [hsn.out] at fin
      generalize X.drew = Xd at *
      refine wpF_last (k := 10) rfl (by kernel_rfl) (by kernel_rfl) (by kernel_rfl) rfl fun K hK => ?_
      go_simp
      refine hK _ _ ?_
      exact fin.out
    case done =>
      rintro D X hD hS hDX
      obtain ⟨h1, h2, h3, h4⟩ := hS
      have hnx : ThI w5 x y b5 (i + 1) (D :: Ds) X := by
        refine ⟨?_, h3, List.nodup_cons.2 ⟨fun h => by have := hDlt.out D h; omega, hnod.out⟩, fun E hE => ?_⟩
        · rw [thenTo_succ hlt, ← hs.out]; exact h1
        · rcases List.mem_cons.1 hE with rfl | hE
          · exact ⟨by have := hx5B.le; omega, hDX⟩
          · exact h4 E hE
      clear h1 h2 h3 h4
      gi_wp2
      refine ⟨⟨i + 1, D :: Ds, hlt, ⟨_, _, _, _, _, _, _, _, _, _, _, _, _, _, _, _, _, _, _, _, _, _, _, rfl⟩, hnx⟩, ?_⟩
      simp [intOf]; omega
    case stop =>
      rintro D c pre X _ h
      exact h.elim
  · obtain rfl : i = 33 := by omega
    have hI' := hI
    obtain ⟨ho, hxr, hnod, hmk⟩ := hI
    rw [thenTo_all hx.1] at ho
    have hok := thenM_ok hx hy
    have h4 := b4.ext hxr
    have hb5o := hb5.out
    have hb4o := hb4.out
    have hxf : Ext w (W.setRow b4' (relA (thenM x y))) := ext_setRow (hxw.trans hxr) (by omega) _
    have hmf : ∀ D ∈ Ds, w.heap.size ≤ D ∧ (W.setRow b4' (relA (thenM x y))).heap[D]? = some (.deferred (some [])) := fun D hD => by
      obtain ⟨h1, h2⟩ := hmk D hD
      exact ⟨by omega, by rw [setRow_other W b4' D _ (by omega)]; exact h2⟩
    have hrf := h4.put (thenM x y)
    have hbD : b4' ∉ Ds := fun h => by have := (hmk _ h).1; omega
    replace hbD := Lib.hid hbD
    replace hmf := Lib.hid hmf
    replace hnod := Lib.hid hnod
    clear hI' hmk hb5o hb4o
    gi_wp2_with (first | (refine listIn_of rfl (fun c h => by cases h) fun K hK => ?_; refine wp_load_row 173 _ rfl b5 rfl 173 _ (0, 0) _ ho Tryz.underlying173 rfl (size_of hok.1) ?_; refine hK _ _ ?_) | (refine listIn_of rfl (fun c h => by cases h) fun K hK => ?_; refine wp_store_row 173 _ _ rfl b4' (relA (thenM x y)) rfl rfl 173 (relA zeroM) h4 (size_of hok.1) (by rw [relA_len zeroM_ok.1, relA_len hok.1]) (relA_one _) ?_; refine hK _ _ ?_))
    refine leaves_marksK Ds _ hnod.out hmf.out hxf hbD.out hrf fun w' hx' hb' => ?_
    refine ⟨_, results_cell_row rfl _ _ b4' 173 (relA (thenM x y)) (0, 0) _ rfl hb' Tryz.underlying173 rfl (size_of hok.1), ?_⟩
    exact ⟨rfl, hx'⟩
end Go.Proofs.YtadncjpknckaaaaGreatDoor
namespace Go.Proofs.YtadncjpknckaaaaGreatDoor
open Go.RowKit Go.Maps
theorem powGo_zero (f : Nat) (x out : Rel) : powGo f 0 x out = out := by cases f <;> simp [powGo]
theorem powGo_step {f k : Nat} (hk : k ≠ 0) (x out : Rel) : powGo (f + 1) k x out = powGo f (k / 2) (thenM x x) (if k % 2 = 1 then thenM out x else out) := by
  rw [powGo, if_neg hk]
theorem put_none (a : Act) (v : Value) : a.put none v = a := rfl
theorem bits_and_one (i : Nat) (hi : i < 9223372036854775808) : bits BinOp.and IntKind.i64 (i : Int) 1 = ((i % 2 : Nat) : Int) := by
  have two63 : (2 : Int) ^ 63 = 9223372036854775808 := by decide
  have h := bits_mask .i64 63 (by decide) (fun n h0 h1 => by rw [two63] at h1; rw [IntKind.wrap_i64]; omega) 1 (by decide) (i : Int) (by omega) (by rw [two63]; omega)
  have e : ((2 : Int) ^ 1 - 1) = 1 := by decide
  rw [e] at h
  rw [h]
  omega
set_option maxHeartbeats 2000000 in
theorem power_any (x : Rel) (hx : RelOk x) (k n : Nat) (hk : k ≤ 40) (hn : n ≤ 32) (w : World) (hT : Tab64 w) : Calls Tryz.prog 136 #[.agg (relA x), .int .i64 (k : Int), .int .i64 (n : Int)] w (RetR (powM x k n) w) := by
  go_enter Tryz.func136, Tryz.ntmps136
  go_wp2_with fail
  have b3 : RelB ((w.alloc (.cells (relA x) 173)).alloc (.cells (relA zeroM) 173)) w.heap.size x := (RelB.new w x).ext (Ext.alloc1 _ _)
  have b6 : RelB ((w.alloc (.cells (relA x) 173)).alloc (.cells (relA zeroM) 173)) (w.heap.size + 1) zeroM := by
    have := RelB.new (w.alloc (.cells (relA x) 173)) zeroM
    rwa [World.size_alloc] at this
  have hx0 : Ext w ((w.alloc (.cells (relA x) 173)).alloc (.cells (relA zeroM) 173)) := (Ext.alloc1 _ _).trans (Ext.alloc1 _ _)
  change Calls _ _ _ ((w.alloc (.cells (relA x) 173)).alloc (.cells (relA zeroM) 173)) _
  have hsz : ((w.alloc (.cells (relA x) 173)).alloc (.cells (relA zeroM) 173)).heap.size = w.heap.size + 1 + 1 := by simp
  generalize (w.alloc (.cells (relA x) 173)).alloc (.cells (relA zeroM) 173) = w1 at *
  refine (identity_any n hn w1).mono ?_
  rintro e w2 ⟨rfl, hx2⟩
  have hid := idM_ok hn
  have hle2 := hx2.le
  go_wp2_with (refine wpList_store_row rfl 173 _ _ rfl w2.heap.size (relA (idM n)) rfl rfl 173 (relA zeroM) (RelB.new w2 zeroM) (size_of (hid).1) (by rw [relA_len (zeroM_ok).1, relA_len (hid).1]) (relA_one _) ?_)
  rw [put_none, World.setRow_alloc_new]
  have hT3 := hT.ext (hx0.trans (hx2.trans (Ext.alloc1 w2 (.cells (relA (idM n)) 173))))
  have hx3 := hx2.trans (Ext.alloc1 w2 (.cells (relA (idM n)) 173))
  have b7 := RelB.new w2 (idM n)
  replace b3 := b3.ext hx3
  replace b6 := b6.ext hx3
  replace hx3 := hx0.trans hx3
  obtain ⟨c3, hc3⟩ : ∃ c3, c3 = w.heap.size := ⟨_, rfl⟩
  obtain ⟨c6, hc6⟩ : ∃ c6, c6 = w.heap.size + 1 := ⟨_, rfl⟩
  obtain ⟨c7, hc7⟩ : ∃ c7, c7 = w2.heap.size := ⟨_, rfl⟩
  have n36 : c3 ≠ c6 := by omega
  have n37 : c3 ≠ c7 := by omega
  have n67 : c6 ≠ c7 := by omega
  have l3 : w.heap.size ≤ c3 := by omega
  have l6 : w.heap.size ≤ c6 := by omega
  have l7 : w.heap.size ≤ c7 := by omega
  rw [← hc7] at b7 ⊢
  rw [← hc6] at b6 ⊢
  rw [← hc3] at b3 ⊢
  clear hc3 hc6 hc7 hle2 hsz hx2 hx0
  generalize w2.alloc (.cells (relA (idM n)) 173) = w3 at *
  have hTw := fun W (h : Ext w W) => hT.ext h
  go_loopw [1] (fun kv wr => ∃ (f j : Nat) (y o : Rel), j ≤ f ∧ f ≤ 40 ∧ kv = .int .i64 j ∧ powGo f j y o = powM x k n ∧ RelOk y ∧ RelOk o ∧ RelB wr c3 y ∧ RelB wr c7 o ∧ RelB wr c6 zeroM ∧ Ext w wr) (fun kv _ => (intOf kv).toNat)
  case atStart => exact ⟨40, k, x, idM n, hk, Nat.le_refl _, rfl, rfl, hx, hid, b3, b7, b6, hx3⟩
  case round =>
    obtain ⟨f, j, y, o, hjf, hf, rfl, hpow, hy, ho, h3, h7, h6, hxr⟩ := hrel
    by_cases hj0 : j = 0
    · subst hj0
      rw [powGo_zero] at hpow
      subst hpow
      have hxf := ext_setRow hxr l6 (relA (powM x k n))
      have hrf := h6.put (powM x k n)
      go_wp2_with (first | (refine wpList_load_row rfl 173 _ rfl c7 rfl 173 _ (0, 0) _ h7 Tryz.underlying173 rfl (size_of ho.1) ?_) | (refine wpList_store_row rfl 173 _ _ rfl c6 (relA (powM x k n)) rfl rfl 173 (relA zeroM) h6 (size_of (ho).1) (by rw [relA_len (zeroM_ok).1, relA_len (ho).1]) (relA_one _) ?_))
      refine bodyPost_ret (results_cell_row rfl _ _ c6 173 (relA (powM x k n)) (0, 0) _ rfl hrf Tryz.underlying173 rfl (size_of ho.1)) rfl ?_
      exact ⟨rfl, hxf⟩
    · have hjp : (0 : Int) < (j : Int) := by omega
      obtain ⟨g, rfl⟩ : ∃ g, f = g + 1 := ⟨f - 1, by omega⟩
      rw [powGo_step hj0] at hpow
      have hand := bits_and_one j (by omega)
      have hyy := thenM_ok hy hy
      by_cases hodd : j % 2 = 1
      · rw [if_pos hodd] at hpow
        have hoy := thenM_ok ho hy
        rw [hodd] at hand
        replace hpow := Lib.hid hpow
        replace hodd := Lib.hid hodd
        go_wp2_with fail
        refine (then_any _ y ho hy c7 c3 _ h7 h3 (hTw _ hxr)).mono ?_
        rintro e W1 ⟨rfl, hx1⟩
        replace h3 := h3.ext hx1
        replace h7 := h7.ext hx1
        replace h6 := h6.ext hx1
        replace hxr := hxr.trans hx1
        clear hx1
        have h7n := h7.put (thenM o y)
        have h3n := h3.off (Ne.symm n37) (relA (thenM o y))
        have h6n := h6.off (Ne.symm n67) (relA (thenM o y))
        have hxn := ext_setRow hxr l7 (relA (thenM o y))
        go_wp2_with (refine wpList_store_row rfl 173 _ _ rfl c7 (relA (thenM o y)) rfl rfl 173 (relA o) h7 (size_of (hoy).1) (by rw [relA_len (ho).1, relA_len (hoy).1]) (relA_one _) ?_)
        clear h3 h7 h6 hxr
        have h3 := h3n
        have h7 := h7n
        have h6 := h6n
        have hxr := hxn
        clear h3n h7n h6n hxn
        generalize World.setRow W1 c7 _ = W4 at *
        refine (then_any y y hy hy c3 c3 _ h3 h3 (hTw _ hxr)).mono ?_
        rintro e W2 ⟨rfl, hx2⟩
        replace h3 := h3.ext hx2
        replace h7 := h7.ext hx2
        replace h6 := h6.ext hx2
        replace hxr := hxr.trans hx2
        clear hx2
        have h3n := h3.put (thenM y y)
        have h7n := h7.off n37 (relA (thenM y y))
        have h6n := h6.off n36 (relA (thenM y y))
        have hxn := ext_setRow hxr l3 (relA (thenM y y))
        go_wp2_with (refine wpList_store_row rfl 173 _ _ rfl c3 (relA (thenM y y)) rfl rfl 173 (relA y) h3 (size_of (hyy).1) (by rw [relA_len (hy).1, relA_len (hyy).1]) (relA_one _) ?_)
        refine ⟨⟨g, j / 2, _, _, by omega, by omega, by simp, hpow.out, hyy, hoy, h3n, h7n, h6n, hxn⟩, ?_⟩
        simp only [intOf]; omega
      · rw [if_neg hodd] at hpow
        rw [show j % 2 = 0 by omega] at hand
        replace hpow := Lib.hid hpow
        replace hodd := Lib.hid hodd
        go_wp2_with fail
        refine (then_any y y hy hy c3 c3 _ h3 h3 (hTw _ hxr)).mono ?_
        rintro e W2 ⟨rfl, hx2⟩
        replace h3 := h3.ext hx2
        replace h7 := h7.ext hx2
        replace h6 := h6.ext hx2
        replace hxr := hxr.trans hx2
        clear hx2
        have h3n := h3.put (thenM y y)
        have h7n := h7.off n37 (relA (thenM y y))
        have h6n := h6.off n36 (relA (thenM y y))
        have hxn := ext_setRow hxr l3 (relA (thenM y y))
        go_wp2_with (refine wpList_store_row rfl 173 _ _ rfl c3 (relA (thenM y y)) rfl rfl 173 (relA y) h3 (size_of (hyy).1) (by rw [relA_len (hy).1, relA_len (hyy).1]) (relA_one _) ?_)
        refine ⟨⟨g, j / 2, _, _, by omega, by omega, by simp, hpow.out, hyy, ho, h3n, h7n, h6n, hxn⟩, ?_⟩
        simp only [intOf]; omega
end Go.Proofs.YtadncjpknckaaaaGreatDoor
