/-
  pats.Check at any pattern: it answers OK exactly if no node of the first forty is out of order, and there are no more.
-/
import Derived.Test.YtadncjpknckaaaaGreatDoorA11
namespace Go.Proofs.YtadncjpknckaaaaGreatDoor
open Go.RowKit Go.Shelf
/-- The check: nodes that are still to be examined, the next one first. -/
def chkGo : Nat → List HP → Bool
  | _, [] => true
  | 0, _ :: _ => false
  | f + 1, x :: r => x.okB && chkGo f (x.l.take 41 ++ r)
def chkB (h : HP) : Bool := chkGo 40 [h]
theorem chkGo_good : ∀ (f : Nat) (td : List HP), f ≤ 40 → chkGo f td = true → (∀ x ∈ td, x.allB = true) ∧ HP.cntL td ≤ f
  | f, [], _, _ => ⟨fun x hx => by simp at hx, by simp [HP.cntL]⟩
  | 0, x :: r, _, h => by simp [chkGo] at h
  | f + 1, x :: r, hf, h => by
    simp only [chkGo, Bool.and_eq_true] at h
    obtain ⟨h1, h2⟩ := h
    obtain ⟨h3, h4⟩ := chkGo_good f _ (by omega) h2
    rw [HP.cntL_app] at h4
    have h5 := HP.cntL_len (x.l.take 41)
    rw [List.length_take] at h5
    have h6 : x.l.take 41 = x.l := List.take_of_length_le (by omega)
    rw [h6] at h3 h4
    refine ⟨fun y hy => ?_, ?_⟩
    · rcases List.mem_cons.1 hy with rfl | hy
      · obtain ⟨k, is, b, m1, m2, a, n, c, l⟩ := y
        simp only [HP.allB, Bool.and_eq_true]
        refine ⟨h1, ?_⟩
        have : ∀ l' : List HP, (∀ x ∈ l', x.allB = true) → HP.allBL l' = true := fun l' => by
          induction l' with
          | nil => intro _; rfl
          | cons z l' ih => intro h; simp only [HP.allBL, Bool.and_eq_true]; exact ⟨h z List.mem_cons_self, ih fun x hx => h x (List.mem_cons_of_mem _ hx)⟩
        exact this l fun z hz => h3 z (List.mem_append.2 (.inl hz))
      · exact h3 y (List.mem_append.2 (.inr hy))
    · simp only [HP.cntL]; rw [HP.cnt_pos]; omega
theorem chkB_good {h : HP} (hc : chkB h = true) : h.allB = true ∧ h.cnt ≤ 40 := by
  obtain ⟨h1, h2⟩ := chkGo_good 40 [h] (Nat.le_refl _) hc
  exact ⟨h1 h (List.mem_singleton.2 rfl), by simpa [HP.cntL] using h2⟩
/-- A pattern with its first parts. -/
def HP.cut (x : HP) (m : Nat) : HP := .mk x.kind x.is x.neg x.mn x.mx x.a m x.cap (x.l.take m)
theorem RdPt.cut {w : World} {x : HP} (h : RdPt w x) {m : Nat} (hm : m ≤ x.n) : RdPt w (x.cut m) := by
  have hr := h.rd.sub (l := 0) (m := m) (Nat.zero_le _) hm
  simp only [Nat.sub_zero, List.drop_zero] at hr
  have hs : subA 7 x.a x.cap 0 = x.a := by
    unfold subA
    split
    · rfl
    · cases x.a with
      | none => rfl
      | some ad => simp [Addr.add]
  rw [hs] at hr
  exact RdPt.mk' hr fun y hy => h.sub (List.mem_of_mem_take hy)
/-- What stands while a pattern is checked. -/
structure CkI (w : World) (O k : Nat) (R : Bool) (Ds : List Nat) (td : List HP) (W : World) : Prop where
  box : ∃ v, Boxed W O 53 v ∧ OwnK 7 HP.enc w.heap.size 55 W v td
  ext : Ext w W
  low : w.heap.size ≤ O
  kle : k ≤ 40
  cnt : td.length ≤ 1 + 41 * k
  chk : chkGo (40 - k) td.reverse = R
  ok : ∀ x ∈ td, RdPt w x
  nod : Ds.Nodup
  marks : ∀ D ∈ Ds, w.heap.size ≤ D ∧ W.heap[D]? = some (.deferred (some []))
def CkJ (w : World) (O : Nat) (R : Bool) (a0 a1 a3 a10 a11 : Value) (a : Act) (W : World) : Prop := ∃ k Ds td, ChkF a0 a1 a3 a10 a11 k Ds a ∧ CkI w O k R Ds td W
def RetK (R : Bool) (w : World) (e : Ending) (w' : World) : Prop := ∃ r : Int, e = .returned (.int .i64 r) ∧ (r = 0 ↔ R = true) ∧ Ext w w'
attribute [local go_sem] Oper.semAt_some
set_option maxHeartbeats 40000000 in
set_option maxRecDepth 20000 in
theorem check_full (h : HP) (w : World) (hr : RdPt w h) : Calls Tryz.prog 56 #[patV h] w (RetK (chkB h) w) := by
  have h1 : 1 ≤ 9 := by omega
  have hrl := hr.rd.len
  refine (callsIn_wide (n := 9)).1 ?_
  refine callsIn_of_wp_marks Tryz.func56 rfl trivial ?_ rfl
  simp only [Tryz.ntmps56, List.size_toArray, List.length_cons, List.length_nil, Nat.reduceAdd, Nat.reduceSub, Array.replicate_succ, Array.replicate_zero, List.push_toArray, List.append_toArray, List.nil_append, List.cons_append]
  gi_wp2
  have hlit := lit_own HP.len (w.alloc (.cells #[.int .i64 h.kind, .int .u32 h.is.p.toNat, .int .u32 h.is.m.toNat, .bool h.neg, .int .i64 h.mn, .int .i64 h.mx, .slice h.a h.n h.cap] 55)) 55 [h] #[.int .i64 h.kind, .int .u32 h.is.p.toNat, .int .u32 h.is.m.toNat, .bool h.neg, .int .i64 h.mn, .int .i64 h.mx, .slice h.a h.n h.cap] rfl (n := 1) rfl (by decide)
  rw [World.size_alloc] at hlit
  have hbx := Boxed.new ((w.alloc (.cells #[.int .i64 h.kind, .int .u32 h.is.p.toNat, .int .u32 h.is.m.toNat, .bool h.neg, .int .i64 h.mn, .int .i64 h.mx, .slice h.a h.n h.cap] 55)).alloc (.cells #[.int .i64 h.kind, .int .u32 h.is.p.toNat, .int .u32 h.is.m.toNat, .bool h.neg, .int .i64 h.mn, .int .i64 h.mx, .slice h.a h.n h.cap] 55)) 53 (.slice (some ⟨w.heap.size + 1, 0, none⟩) 1 1)
  have hxA : Ext w (((w.alloc (.cells #[.int .i64 h.kind, .int .u32 h.is.p.toNat, .int .u32 h.is.m.toNat, .bool h.neg, .int .i64 h.mn, .int .i64 h.mx, .slice h.a h.n h.cap] 55)).alloc (.cells #[.int .i64 h.kind, .int .u32 h.is.p.toNat, .int .u32 h.is.m.toNat, .bool h.neg, .int .i64 h.mn, .int .i64 h.mx, .slice h.a h.n h.cap] 55)).alloc (.cells #[.slice (some ⟨w.heap.size + 1, 0, none⟩) 1 1] 53)) := (by repeat (first | exact Ext.refl _ | assumption | refine Ext.drew ?_ | refine Ext.drewN ?_ _ | refine Ext.alloc ?_ _ | refine Ext.trans ?_ (by assumption)))
  have hI0 : CkI w (w.heap.size + 1 + 1) 0 (chkB h) [] [h] (((w.alloc (.cells #[.int .i64 h.kind, .int .u32 h.is.p.toNat, .int .u32 h.is.m.toNat, .bool h.neg, .int .i64 h.mn, .int .i64 h.mx, .slice h.a h.n h.cap] 55)).alloc (.cells #[.int .i64 h.kind, .int .u32 h.is.p.toNat, .int .u32 h.is.m.toNat, .bool h.neg, .int .i64 h.mn, .int .i64 h.mx, .slice h.a h.n h.cap] 55)).alloc (.cells #[.slice (some ⟨w.heap.size + 1, 0, none⟩) 1 1] 53)) :=
    ⟨⟨_, by simpa using hbx, (hlit.base (by omega)).kept (Ext.alloc1 _ _)⟩, hxA, by omega, Nat.zero_le _, by simp, rfl, fun x hx => by rw [List.mem_singleton.1 hx]; exact hr, List.nodup_nil, fun D hD => by cases hD⟩
  clear hlit hbx hxA
  obtain ⟨O, hO⟩ : ∃ O, O = w.heap.size + 1 + 1 := ⟨_, rfl⟩
  rw [← hO] at hI0 ⊢
  replace hO := Lib.hid hO
  obtain ⟨a0, ha0⟩ : ∃ a0, a0 = patV h := ⟨_, rfl⟩
  rw [← ha0]
  replace ha0 := Lib.hid ha0
  generalize chkB h = R at *
  refine wpIn_loop (CkJ w O R a0 (.pointer (some ⟨w.heap.size, 0, none⟩)) (.pointer (some ⟨O, 0, none⟩)) (.agg #[.int .i64 h.kind, .int .u32 h.is.p.toNat, .int .u32 h.is.m.toNat, .bool h.neg, .int .i64 h.mn, .int .i64 h.mx, .slice h.a h.n h.cap]) (.slice (some ⟨w.heap.size + 1, 0, none⟩) 1 1)) (fun a _ => ChkMu a) ⟨0, [], [h], ⟨undef, undef, undef, undef, undef, undef, undef, undef, undef, undef, undef, undef, undef, undef, undef, undef, undef, undef, undef, undef, undef, undef, undef, undef, undef, undef, undef, undef, undef, undef, undef, undef, undef, undef, undef, rfl⟩, hI0⟩ ?_
  clear hI0
  generalize (Value.agg #[.int .i64 h.kind, .int .u32 h.is.p.toNat, .int .u32 h.is.m.toNat, .bool h.neg, .int .i64 h.mn, .int .i64 h.mx, .slice h.a h.n h.cap]) = a10
  generalize (Value.slice (some ⟨w.heap.size + 1, 0, none⟩) 1 1) = a11
  generalize (Value.pointer (some ⟨w.heap.size, 0, none⟩)) = a1
  rintro a W ⟨k, Ds, td, ⟨u5, u6, u7, u12, u13, u14, u15, u16, u17, u18, u19, u20, u21, u22, u23, u24, u25, u26, u27, u28, u29, u30, u31, u32, u33, u34, u35, u36, u37, u38, u39, u40, u41, u42, u43, rfl⟩, hI⟩
  obtain ⟨⟨v, hbx, hown⟩, hx, hlow, hkle, hcnt, hchk, htd, hnod, hmk⟩ := id hI
  obtain ⟨ta, tn, tc, htn, rfl, _⟩ := OwnK.rdn HP.len hown
  have hbc := hbx.cell
  rcases List.eq_nil_or_concat td with rfl | ⟨td', x, rfl⟩
  · simp at htn
    subst htn
    gi_wp2
    refine leaves_marks Ds W hnod hmk hx fun w' hx' => ?_
    refine ⟨_, results_tmp rfl _ _ _, ?_⟩
    refine ⟨0, rfl, ?_, hx'⟩
    rw [← hchk]; simp [chkGo]
  · simp only [List.concat_eq_append] at hown htn hcnt htd hI hchk
    obtain ⟨L, hL⟩ : ∃ L, L = td'.length := ⟨_, rfl⟩
    rw [List.length_append, List.length_singleton, ← hL] at htn
    subst htn
    obtain ⟨T, rfl⟩ := own_some hown (by simp)
    have hat : (td' ++ [x])[L]? = some x := by simp [hL]
    have c0 := own_at HP.len hown hat (j := 0) rfl
    rw [Nat.add_zero] at c0
    have c1 := own_at HP.len hown hat (j := 1) rfl
    have c2 := own_at HP.len hown hat (j := 2) rfl
    have c3 := own_at HP.len hown hat (j := 3) rfl
    have c4 := own_at HP.len hown hat (j := 4) rfl
    have c5 := own_at HP.len hown hat (j := 5) rfl
    have c6 := own_at HP.len hown hat (j := 6) rfl
    have hrx := htd x (by simp)
    rw [List.length_append, List.length_singleton, ← hL] at hcnt
    have hxn := hrx.rd.len
    have hL40 : L ≤ 1640 := by omega
    rw [List.reverse_append, List.reverse_singleton, List.singleton_append] at hchk
    rcases Nat.lt_or_ge k 40 with hk40 | hk40
    rotate_left
    · obtain rfl : k = 40 := by omega
      have hR : R = false := by rw [← hchk]; rfl
      replace hchk := Lib.hid hchk
      replace hcnt := Lib.hid hcnt
      clear hkle hk40
      replace hL := Lib.hid hL
      replace hxn := Lib.hid hxn
      replace hmk := Lib.hid hmk
      replace hnod := Lib.hid hnod
      clear htd
      gi_wp2
      refine leaves_marks Ds W hnod.out hmk.out hx fun w' hx' => ?_
      refine ⟨_, results_tmp rfl _ _ _, ?_⟩
      exact ⟨12, rfl, by rw [hR]; simp, hx'⟩
    have dk : ((k : Int) == 40) = false := by simp; omega
    have dk' : ¬ (k : Int) = 40 := by omega
    rw [show 40 - k = (39 - k) + 1 by omega, chkGo] at hchk
    obtain ⟨m, hm⟩ : ∃ m, m = min x.n 41 := ⟨_, rfl⟩
    have hmn : m ≤ x.n := by omega
    have hm41 : m ≤ 41 := by omega
    have hmin : (if (41 : Int) < (x.n : Int) then (41 : Int) else (x.n : Int)) = (m : Int) := by split <;> omega
    have htake : x.l.take 41 = x.l.take m := by
      rw [hm, List.take_eq_take_iff, hxn]; omega
    have hmc : m ≤ x.cap := by have := hrx.rd.le; omega
    rw [htake] at hchk
    clear htake
    replace hm := Lib.hid hm
    replace hmin := Lib.hid hmin
    replace hmn := Lib.hid hmn
    replace hm41 := Lib.hid hm41
    replace hmc := Lib.hid hmc
    replace hchk := Lib.hid hchk
    have hwL : wrap64 (L : Int) = (L : Int) := by unfold wrap64; omega
    have hLc := (own_ge hown).2.2.2.1
    have hTl := (own_ge hown).2.1
    have hOl := hbx.lt
    have hfO := hbx.frozen
    have hTO : T ≠ O := fun e => by
      obtain ⟨cur, h1⟩ := own_type hown (g := T) rfl
      rw [e] at h1
      have := hbx.symm.trans h1; cases this
    have hOT : O ≠ T := fun e => hTO e.symm
    replace hat := Lib.hid hat
    replace hL := Lib.hid hL
    replace hxn := Lib.hid hxn
    replace hcnt := Lib.hid hcnt
    have hI2 : CkI w O k (chkGo (40 - k) td'.reverse) Ds td' ((W.setCell ⟨O, 0, none⟩ (.slice (some ⟨T, 0, none⟩) L tc)).alloc (.cells #[.int .i64 x.kind, .int .u32 x.is.p.toNat, .int .u32 x.is.m.toNat, .bool x.neg, .int .i64 x.mn, .int .i64 x.mx, .slice x.a x.n x.cap] 55)) := by
      have ht2 := own_take HP.len hown (m := L) (by omega)
      rw [hL.out, List.take_left' rfl, ← hL.out] at ht2
      refine ⟨⟨_, (Boxed.set _ hbx).alloc _, (own_offT ht2 hbx (by decide)).kept (Ext.alloc1 _ _)⟩, (ext_set hx hlow _ _).alloc _, hlow, hkle, ?_, rfl, fun y hy => htd y (by simp [hy]), hnod, fun D hD => ⟨(hmk D hD).1, ?_⟩⟩
      · have := hcnt.out; have := hL.out; omega
      · have hDO : D ≠ O := fun e => by
          have := (hmk D hD).2; rw [e] at this
          have h2 := hbx.symm.trans this; cases h2
        refine (Below.heap_alloc _ _ _ ?_).trans ?_
        · have := (Array.getElem?_eq_some_iff.1 (hmk D hD).2).1; simpa using this
        · rw [heap_setCell_other W ⟨O, 0, none⟩ D _ hDO]; exact (hmk D hD).2
    have hbk : ((W.setCell ⟨O, 0, none⟩ (.slice (some ⟨T, 0, none⟩) L tc)).alloc (.cells #[.int .i64 x.kind, .int .u32 x.is.p.toNat, .int .u32 x.is.m.toNat, .bool x.neg, .int .i64 x.mn, .int .i64 x.mx, .slice x.a x.n x.cap] 55)).cell? ⟨W.heap.size, 6, none⟩ = some (.slice x.a x.n x.cap) := by go_simp
    replace hmk := Lib.hid hmk
    replace htd := Lib.hid htd
    replace hnod := Lib.hid hnod
    gi_wp2
    refine ⟨trivial, ?_⟩
    gi_at_call 72
    refine (callsIn_wide.2 (allowed_full x _ hxn.out)).mono ?_
    rintro e w1 ⟨r, rfl, hro, hx1⟩
    have hOw1 : O < w1.heap.size := by have := hx1.le; simp at this; omega
    generalize (W.setCell ⟨O, 0, none⟩ (.slice (some ⟨T, 0, none⟩) L tc)).alloc (.cells #[.int .i64 x.kind, .int .u32 x.is.p.toNat, .int .u32 x.is.m.toNat, .bool x.neg, .int .i64 x.mn, .int .i64 x.mx, .slice x.a x.n x.cap] 55) = W2 at *
    replace hbk := hx1.cellv hbk
    have hxc := hrx.rd.le
    rcases Decidable.em (r = 0) with hr0 | hr0
    rotate_left
    · have hR : R = false := by
        rw [← hchk.out]
        have : x.okB = false := by rw [Bool.eq_false_iff]; exact fun h => hr0 (hro.2 h)
        rw [this]; rfl
      have dr : (r == 0) = false := by simpa using hr0
      replace hro := Lib.hid hro
      obtain ⟨_, x2, _, _, _, _, _, nod2, mk2⟩ := hI2
      have x3 := x2.trans hx1
      have mk3 : ∀ D ∈ Ds, w.heap.size ≤ D ∧ w1.heap[D]? = some (.deferred (some [])) := fun D hD => ⟨(mk2 D hD).1, (Below.block hx1.bel D (Array.getElem?_eq_some_iff.1 (mk2 D hD).2).1).trans (mk2 D hD).2⟩
      replace mk3 := Lib.hid mk3
      replace nod2 := Lib.hid nod2
      clear mk2
      gi_wp2
      refine leaves_marks Ds _ nod2.out mk3.out x3 fun w' hx' => ?_
      refine ⟨_, results_tmp rfl _ _ _, ?_⟩
      exact ⟨r, rfl, by rw [hR]; simp [hr0], hx'⟩
    subst hr0
    replace hmin := hmin.out
    replace hmc := hmc.out
    have hxo : x.okB = true := hro.1 rfl
    rw [hxo, Bool.true_and] at hchk
    clear hro
    gi_wp2
    replace hmin := Lib.hid hmin
    refine ⟨trivial, ?_⟩
    gi_at_call 73
    refine (backward_in _ x.a m x.cap w1).mono ?_
    rintro e w2 ⟨rfl, rfl⟩
    obtain ⟨⟨v2, b2, o2⟩, x2, _, _, _, _, ok2, nod2, mk2⟩ := hI2
    have hxB := hx1.trans (Ext.alloc1 w1 (.cells #[.slice x.a m x.cap] 53))
    have hP0 : PushI w O w1.heap.size (x.cut m) Ds td' [] (w1.alloc (.cells #[.slice x.a m x.cap] 53)) :=
      ⟨⟨v2, Boxed.more b2 hxB, by rw [List.map_nil, List.append_nil]; exact o2.kept hxB⟩, Boxed.new _ _ _, x2.trans hxB, fun D hD => ⟨(mk2 D hD).1, (Below.block hxB.bel D (Array.getElem?_eq_some_iff.1 (mk2 D hD).2).1).trans (mk2 D hD).2⟩⟩
    have hDB : ∀ D ∈ Ds, D < (w1.alloc (.cells #[.slice x.a m x.cap] 53)).heap.size := fun D hD => (Array.getElem?_eq_some_iff.1 (hP0.2.2.2 D hD).2).1
    have hwB := hP0.2.2.1.le
    have hBb : w1.heap.size < (w1.alloc (.cells #[.slice x.a m x.cap] 53)).heap.size := by simp
    have hwBs : (w1.alloc (.cells #[.slice x.a m x.cap] 53)).heap.size = w1.heap.size + 1 := by simp
    gi_wp2
    obtain ⟨Bb, hBbe⟩ : ∃ Bb, Bb = w1.heap.size := ⟨_, rfl⟩
    rw [← hBbe] at hP0 hBb hwBs hOw1 ⊢
    have hOB : O ≠ Bb := by omega
    generalize w1.alloc (.cells #[.slice x.a m x.cap] 53) = wB at *
    clear mk2 b2 o2 hxB hx1 hbk hbc hfO hown hbx hI hx
    replace hDB := Lib.hid hDB
    replace hBbe := Lib.hid hBbe
    replace hP0 := Lib.hid hP0
    replace ok2 := Lib.hid ok2
    replace nod2 := Lib.hid nod2
    refine wpIn_range_ownA rfl h1 (gf := 93) (lb := #[.pointer (some ⟨Bb, 0, none⟩)]) rfl trivial (enters_of Tryz.func93 (by kernel_rfl) rfl) (encs := encP) (fun _ => rfl) (fun _ => False) (fun r hr => hr.elim) (backP (x.l.take m))
      (PushI w O Bb (x.cut m) Ds td') (fun s X Y row hs hg hr => hs.beside hg fun r e => by
        rcases hr r e with h | ⟨h2, h3⟩
        · exact h.elim
        · exact ⟨by omega, h3, fun hD => by have := hDB.out r hD; omega⟩)
      hP0.out (fun _ _ _ => False) (fun _ _ _ _ _ hs _ _ => hs)
      (fun lp J Jx W hB hJ0 hJ hJx hI hY => backward1_in (9 - 1) lp Bb (by decide) w (x.cut m) (hrx.cut hmn.out) J Jx (fun s X hs => by obtain ⟨_, h3, h4, _⟩ := hI s X hs; exact ⟨Boxed.cell h3, h4⟩)
        (fun pre y X hp hpre => (hY pre y X hp hpre).mono (fun e Y h => h.elim (fun h => .inl ⟨h.1, h.2.1⟩) (fun h => .inr h))) W hJ0)
      (PushA wB.heap.size)
      (fun y a' s X Y row hs hg hr => by
        obtain ⟨Bx, h1, h2, h3⟩ := hs
        refine ⟨Bx, h1, (hg.block Bx (Array.getElem?_eq_some_iff.1 h2).1 (fun e => ?_)).trans h2, h3⟩
        rcases hr Bx e.symm with h | ⟨_, o, ho, hc⟩
        · exact h
        · rw [h2] at ho; cases ho; cases hc)
      ?assign ?body ?done ?stop
    case assign =>
      rintro lp pre y X K hS hK
      have hle := hS.2.2.1.le
      have hle0 : wB.heap.size ≤ X.heap.size := by have := Boxed.lt hS.2.1; omega
      gi_wp2
      refine hK _ _ ((KeepsOthers.alloc _ _).from _) (fun r h => h.elim) (hS.more (Ext.alloc1 _ _)) ⟨X.heap.size, hle0, World.alloc_heap_new X _, ?_⟩
      simp only [List.setIfInBounds_toArray, List.set_cons_succ, List.set_cons_zero]
    case body =>
      rintro lp pre y a' X hS ⟨Bx, hBx, hbx, rfl⟩ hpre
      obtain ⟨⟨v3, b3, o3⟩, s3, x3, mk3⟩ := id hS
      obtain ⟨a3, n3, c3, hn3, rfl, _⟩ := OwnK.rdn HP.len o3
      replace hn3 := Lib.hid hn3
      have hn31 : (n3 : Int) < (n3 : Int) + 1 := by omega
      have e0 := Boxed.cell b3
      have f0 := Boxed.frozen b3
      have q0 : X.cell? ⟨Bx, 0, none⟩ = some (.int .i64 y.2.kind) := by simp [World.cell?, hbx]
      have q1 : X.cell? ⟨Bx, 1, none⟩ = some (.int .u32 y.2.is.p.toNat) := by simp [World.cell?, hbx]
      have q2 : X.cell? ⟨Bx, 2, none⟩ = some (.int .u32 y.2.is.m.toNat) := by simp [World.cell?, hbx]
      have q3 : X.cell? ⟨Bx, 3, none⟩ = some (.bool y.2.neg) := by simp [World.cell?, hbx]
      have q4 : X.cell? ⟨Bx, 4, none⟩ = some (.int .i64 y.2.mn) := by simp [World.cell?, hbx]
      have q5 : X.cell? ⟨Bx, 5, none⟩ = some (.int .i64 y.2.mx) := by simp [World.cell?, hbx]
      have q6 : X.cell? ⟨Bx, 6, none⟩ = some (.slice y.2.a y.2.n y.2.cap) := by simp [World.cell?, hbx]
      simp only [List.setIfInBounds_toArray, List.set_cons_succ, List.set_cons_zero]
      have oL := (o3.kept (Ext.refl X).drew).kept (Ext.alloc1 X.drew (.cells #[.int .i64 0, .int .u32 0, .int .u32 0, .bool false, .int .i64 0, .int .i64 0, .slice none 0 0] 55))
      have hlit := OwnK.rdc HP.len (lit_own HP.len X.drew 55 [zP] #[.int .i64 0, .int .u32 0, .int .u32 0, .bool false, .int .i64 0, .int .i64 0, .slice none 0 0] rfl (n := 1) rfl (by decide))
      have hXL := ((Ext.refl X).drew).alloc (.cells #[.int .i64 0, .int .u32 0, .int .u32 0, .bool false, .int .i64 0, .int .i64 0, .slice none 0 0] 55)
      have hprl := hpre.length_le
      rw [backP_len, List.length_append, List.length_singleton, List.length_take] at hprl
      have hML : (td' ++ pre.map (·.2)).length ≤ 1700 := by rw [List.length_append, List.length_map, ← hL.out]; have := hm41.out; omega
      have hxl := x3.le
      have hOl2 := b3.lt
      have hBxl := (Array.getElem?_eq_some_iff.1 hbx).1
      replace hS := Lib.hid hS
      clear mk3 s3 hpre
      gi_wp2
      refine wpIn_region_any (by kernel_rfl) (any_bridge (nodefer (by kernel_rfl)) (by rintro ⟨_, _, h⟩; exact h) _ _ _ _ ?_)
      · change wpAny _ _ _ _ _ _ _ (World.drew _)
        refine wpAny_ready (rs := [0, 1, 3]) (by kernel_rfl) (by simp) ?_
        refine AllReady.cons rfl (fun K hK => ?_) ?_
        · go_simp
          refine hK _ _ ?_
          clear hK K
          refine wpAny_ready (rs := [1, 2, 3]) (by kernel_rfl) (by simp) ?_
          refine AllReady.cons rfl (fun K hK => ?_) ?_
          · go_simp
            refine hK _ _ ?_
            clear hK K
            refine wpAny_ready (rs := [2, 3]) (by kernel_rfl) (by simp) ?_
            refine AllReady.cons rfl (fun K hK => ?_) ?_
            · go_simp
              refine hK _ _ ?_
              clear hK K
              refine wpAny_ready (rs := [3]) (by kernel_rfl) (by simp) ?_
              refine AllReady.cons rfl (fun K hK => ?_) ?_
              · go_simp
                refine hK _ _ ?_
                clear hK K
                refine wpAny_ready (rs := [4]) (by kernel_rfl) (by simp) ?_
                refine AllReady.cons rfl (fun K hK => ?_) ?_
                · (refine step_app1 w.heap.size _ zP rfl _ _ 53 rfl 55 Tryz.underlying53 info_pat rfl (by decide) HP.len HP.one (.slice a3 n3 c3) (td' ++ pre.map (·.2)) rfl oL ⟨X.heap.size, 0, none⟩ rfl hlit (by omega) (by decide) (by simp; omega) ?_; intro v6 w6 o6 g6 n6; obtain ⟨T6, c6, rfl, z0, z1, z2, z3, z4, z5, z6, zf, p0, pf, hTO6, hOT6⟩ := push_facts hS.out e0 hXL o6 g6 hn3.out; go_simp)
                  refine hK _ _ ?_
                  clear hK K
                  refine wpAny_ready (rs := [5, 7]) (by kernel_rfl) (by simp) ?_
                  refine AllReady.cons rfl (fun K hK => ?_) ?_
                  · go_simp
                    refine hK _ _ ?_
                    clear hK K
                    refine wpAny_ready (rs := [6, 7]) (by kernel_rfl) (by simp) ?_
                    refine AllReady.cons rfl (fun K hK => ?_) ?_
                    · go_simp
                      refine hK _ _ ?_
                      clear hK K
                      refine wpAny_ready (rs := [7]) (by kernel_rfl) (by simp) ?_
                      refine AllReady.cons rfl (fun K hK => ?_) ?_
                      · go_simp
                        refine hK _ _ ?_
                        clear hK K
                        refine wpAny_done (by kernel_rfl) ?_ _
                        have hE := push_end (y := y) (B := wB.heap.size) hlow hS.out e0 hOB o6 hn3.out hXL g6 ((setHP w6 T6 (n3 * 7) y.2).setCell ⟨O, 0, none⟩ (.slice (some ⟨T6, 0, none⟩) (n3 + 1) c6)) (.inl rfl)
                        simp only [setHP] at hE
                        exact hE
                      exact AllReady.nil
                    refine AllReady.cons rfl (fun K hK => ?_) ?_
                    · go_simp
                      refine hK _ _ ?_
                      clear hK K
                      refine wpAny_ready (rs := [6]) (by kernel_rfl) (by simp) ?_
                      refine AllReady.cons rfl (fun K hK => ?_) ?_
                      · go_simp
                        refine hK _ _ ?_
                        clear hK K
                        refine wpAny_done (by kernel_rfl) ?_ _
                        have hE := push_end (y := y) (B := wB.heap.size) hlow hS.out e0 hOB o6 hn3.out hXL g6 (setHP (w6.setCell ⟨O, 0, none⟩ (.slice (some ⟨T6, 0, none⟩) (n3 + 1) c6)) T6 (n3 * 7) y.2) (.inr rfl)
                        simp only [setHP] at hE
                        exact hE
                      exact AllReady.nil
                    exact AllReady.nil
                  refine AllReady.cons rfl (fun K hK => ?_) ?_
                  · go_simp
                    refine hK _ _ ?_
                    clear hK K
                    refine wpAny_ready (rs := [5]) (by kernel_rfl) (by simp) ?_
                    refine AllReady.cons rfl (fun K hK => ?_) ?_
                    · go_simp
                      refine hK _ _ ?_
                      clear hK K
                      refine wpAny_ready (rs := [6]) (by kernel_rfl) (by simp) ?_
                      refine AllReady.cons rfl (fun K hK => ?_) ?_
                      · go_simp
                        refine hK _ _ ?_
                        clear hK K
                        refine wpAny_done (by kernel_rfl) ?_ _
                        have hE := push_end (y := y) (B := wB.heap.size) hlow hS.out e0 hOB o6 hn3.out hXL g6 (setHP (w6.setCell ⟨O, 0, none⟩ (.slice (some ⟨T6, 0, none⟩) (n3 + 1) c6)) T6 (n3 * 7) y.2) (.inr rfl)
                        simp only [setHP] at hE
                        exact hE
                      exact AllReady.nil
                    exact AllReady.nil
                  exact AllReady.nil
                exact AllReady.nil
              exact AllReady.nil
            refine AllReady.cons rfl (fun K hK => ?_) ?_
            · go_simp
              refine hK _ _ ?_
              clear hK K
              refine wpAny_ready (rs := [2]) (by kernel_rfl) (by simp) ?_
              refine AllReady.cons rfl (fun K hK => ?_) ?_
              · go_simp
                refine hK _ _ ?_
                clear hK K
                refine wpAny_ready (rs := [4]) (by kernel_rfl) (by simp) ?_
                refine AllReady.cons rfl (fun K hK => ?_) ?_
                · (refine step_app1 w.heap.size _ zP rfl _ _ 53 rfl 55 Tryz.underlying53 info_pat rfl (by decide) HP.len HP.one (.slice a3 n3 c3) (td' ++ pre.map (·.2)) rfl oL ⟨X.heap.size, 0, none⟩ rfl hlit (by omega) (by decide) (by simp; omega) ?_; intro v6 w6 o6 g6 n6; obtain ⟨T6, c6, rfl, z0, z1, z2, z3, z4, z5, z6, zf, p0, pf, hTO6, hOT6⟩ := push_facts hS.out e0 hXL o6 g6 hn3.out; go_simp)
                  refine hK _ _ ?_
                  clear hK K
                  refine wpAny_ready (rs := [5, 7]) (by kernel_rfl) (by simp) ?_
                  refine AllReady.cons rfl (fun K hK => ?_) ?_
                  · go_simp
                    refine hK _ _ ?_
                    clear hK K
                    refine wpAny_ready (rs := [6, 7]) (by kernel_rfl) (by simp) ?_
                    refine AllReady.cons rfl (fun K hK => ?_) ?_
                    · go_simp
                      refine hK _ _ ?_
                      clear hK K
                      refine wpAny_ready (rs := [7]) (by kernel_rfl) (by simp) ?_
                      refine AllReady.cons rfl (fun K hK => ?_) ?_
                      · go_simp
                        refine hK _ _ ?_
                        clear hK K
                        refine wpAny_done (by kernel_rfl) ?_ _
                        have hE := push_end (y := y) (B := wB.heap.size) hlow hS.out e0 hOB o6 hn3.out hXL g6 ((setHP w6 T6 (n3 * 7) y.2).setCell ⟨O, 0, none⟩ (.slice (some ⟨T6, 0, none⟩) (n3 + 1) c6)) (.inl rfl)
                        simp only [setHP] at hE
                        exact hE
                      exact AllReady.nil
                    refine AllReady.cons rfl (fun K hK => ?_) ?_
                    · go_simp
                      refine hK _ _ ?_
                      clear hK K
                      refine wpAny_ready (rs := [6]) (by kernel_rfl) (by simp) ?_
                      refine AllReady.cons rfl (fun K hK => ?_) ?_
                      · go_simp
                        refine hK _ _ ?_
                        clear hK K
                        refine wpAny_done (by kernel_rfl) ?_ _
                        have hE := push_end (y := y) (B := wB.heap.size) hlow hS.out e0 hOB o6 hn3.out hXL g6 (setHP (w6.setCell ⟨O, 0, none⟩ (.slice (some ⟨T6, 0, none⟩) (n3 + 1) c6)) T6 (n3 * 7) y.2) (.inr rfl)
                        simp only [setHP] at hE
                        exact hE
                      exact AllReady.nil
                    exact AllReady.nil
                  refine AllReady.cons rfl (fun K hK => ?_) ?_
                  · go_simp
                    refine hK _ _ ?_
                    clear hK K
                    refine wpAny_ready (rs := [5]) (by kernel_rfl) (by simp) ?_
                    refine AllReady.cons rfl (fun K hK => ?_) ?_
                    · go_simp
                      refine hK _ _ ?_
                      clear hK K
                      refine wpAny_ready (rs := [6]) (by kernel_rfl) (by simp) ?_
                      refine AllReady.cons rfl (fun K hK => ?_) ?_
                      · go_simp
                        refine hK _ _ ?_
                        clear hK K
                        refine wpAny_done (by kernel_rfl) ?_ _
                        have hE := push_end (y := y) (B := wB.heap.size) hlow hS.out e0 hOB o6 hn3.out hXL g6 (setHP (w6.setCell ⟨O, 0, none⟩ (.slice (some ⟨T6, 0, none⟩) (n3 + 1) c6)) T6 (n3 * 7) y.2) (.inr rfl)
                        simp only [setHP] at hE
                        exact hE
                      exact AllReady.nil
                    exact AllReady.nil
                  exact AllReady.nil
                exact AllReady.nil
              exact AllReady.nil
            exact AllReady.nil
          refine AllReady.cons rfl (fun K hK => ?_) ?_
          · go_simp
            refine hK _ _ ?_
            clear hK K
            refine wpAny_ready (rs := [1, 3]) (by kernel_rfl) (by simp) ?_
            refine AllReady.cons rfl (fun K hK => ?_) ?_
            · go_simp
              refine hK _ _ ?_
              clear hK K
              refine wpAny_ready (rs := [3]) (by kernel_rfl) (by simp) ?_
              refine AllReady.cons rfl (fun K hK => ?_) ?_
              · go_simp
                refine hK _ _ ?_
                clear hK K
                refine wpAny_ready (rs := [4]) (by kernel_rfl) (by simp) ?_
                refine AllReady.cons rfl (fun K hK => ?_) ?_
                · (refine step_app1 w.heap.size _ zP rfl _ _ 53 rfl 55 Tryz.underlying53 info_pat rfl (by decide) HP.len HP.one (.slice a3 n3 c3) (td' ++ pre.map (·.2)) rfl oL ⟨X.heap.size, 0, none⟩ rfl hlit (by omega) (by decide) (by simp; omega) ?_; intro v6 w6 o6 g6 n6; obtain ⟨T6, c6, rfl, z0, z1, z2, z3, z4, z5, z6, zf, p0, pf, hTO6, hOT6⟩ := push_facts hS.out e0 hXL o6 g6 hn3.out; go_simp)
                  refine hK _ _ ?_
                  clear hK K
                  refine wpAny_ready (rs := [5, 7]) (by kernel_rfl) (by simp) ?_
                  refine AllReady.cons rfl (fun K hK => ?_) ?_
                  · go_simp
                    refine hK _ _ ?_
                    clear hK K
                    refine wpAny_ready (rs := [6, 7]) (by kernel_rfl) (by simp) ?_
                    refine AllReady.cons rfl (fun K hK => ?_) ?_
                    · go_simp
                      refine hK _ _ ?_
                      clear hK K
                      refine wpAny_ready (rs := [7]) (by kernel_rfl) (by simp) ?_
                      refine AllReady.cons rfl (fun K hK => ?_) ?_
                      · go_simp
                        refine hK _ _ ?_
                        clear hK K
                        refine wpAny_done (by kernel_rfl) ?_ _
                        have hE := push_end (y := y) (B := wB.heap.size) hlow hS.out e0 hOB o6 hn3.out hXL g6 ((setHP w6 T6 (n3 * 7) y.2).setCell ⟨O, 0, none⟩ (.slice (some ⟨T6, 0, none⟩) (n3 + 1) c6)) (.inl rfl)
                        simp only [setHP] at hE
                        exact hE
                      exact AllReady.nil
                    refine AllReady.cons rfl (fun K hK => ?_) ?_
                    · go_simp
                      refine hK _ _ ?_
                      clear hK K
                      refine wpAny_ready (rs := [6]) (by kernel_rfl) (by simp) ?_
                      refine AllReady.cons rfl (fun K hK => ?_) ?_
                      · go_simp
                        refine hK _ _ ?_
                        clear hK K
                        refine wpAny_done (by kernel_rfl) ?_ _
                        have hE := push_end (y := y) (B := wB.heap.size) hlow hS.out e0 hOB o6 hn3.out hXL g6 (setHP (w6.setCell ⟨O, 0, none⟩ (.slice (some ⟨T6, 0, none⟩) (n3 + 1) c6)) T6 (n3 * 7) y.2) (.inr rfl)
                        simp only [setHP] at hE
                        exact hE
                      exact AllReady.nil
                    exact AllReady.nil
                  refine AllReady.cons rfl (fun K hK => ?_) ?_
                  · go_simp
                    refine hK _ _ ?_
                    clear hK K
                    refine wpAny_ready (rs := [5]) (by kernel_rfl) (by simp) ?_
                    refine AllReady.cons rfl (fun K hK => ?_) ?_
                    · go_simp
                      refine hK _ _ ?_
                      clear hK K
                      refine wpAny_ready (rs := [6]) (by kernel_rfl) (by simp) ?_
                      refine AllReady.cons rfl (fun K hK => ?_) ?_
                      · go_simp
                        refine hK _ _ ?_
                        clear hK K
                        refine wpAny_done (by kernel_rfl) ?_ _
                        have hE := push_end (y := y) (B := wB.heap.size) hlow hS.out e0 hOB o6 hn3.out hXL g6 (setHP (w6.setCell ⟨O, 0, none⟩ (.slice (some ⟨T6, 0, none⟩) (n3 + 1) c6)) T6 (n3 * 7) y.2) (.inr rfl)
                        simp only [setHP] at hE
                        exact hE
                      exact AllReady.nil
                    exact AllReady.nil
                  exact AllReady.nil
                exact AllReady.nil
              exact AllReady.nil
            refine AllReady.cons rfl (fun K hK => ?_) ?_
            · go_simp
              refine hK _ _ ?_
              clear hK K
              refine wpAny_ready (rs := [1]) (by kernel_rfl) (by simp) ?_
              refine AllReady.cons rfl (fun K hK => ?_) ?_
              · go_simp
                refine hK _ _ ?_
                clear hK K
                refine wpAny_ready (rs := [4]) (by kernel_rfl) (by simp) ?_
                refine AllReady.cons rfl (fun K hK => ?_) ?_
                · (refine step_app1 w.heap.size _ zP rfl _ _ 53 rfl 55 Tryz.underlying53 info_pat rfl (by decide) HP.len HP.one (.slice a3 n3 c3) (td' ++ pre.map (·.2)) rfl oL ⟨X.heap.size, 0, none⟩ rfl hlit (by omega) (by decide) (by simp; omega) ?_; intro v6 w6 o6 g6 n6; obtain ⟨T6, c6, rfl, z0, z1, z2, z3, z4, z5, z6, zf, p0, pf, hTO6, hOT6⟩ := push_facts hS.out e0 hXL o6 g6 hn3.out; go_simp)
                  refine hK _ _ ?_
                  clear hK K
                  refine wpAny_ready (rs := [5, 7]) (by kernel_rfl) (by simp) ?_
                  refine AllReady.cons rfl (fun K hK => ?_) ?_
                  · go_simp
                    refine hK _ _ ?_
                    clear hK K
                    refine wpAny_ready (rs := [6, 7]) (by kernel_rfl) (by simp) ?_
                    refine AllReady.cons rfl (fun K hK => ?_) ?_
                    · go_simp
                      refine hK _ _ ?_
                      clear hK K
                      refine wpAny_ready (rs := [7]) (by kernel_rfl) (by simp) ?_
                      refine AllReady.cons rfl (fun K hK => ?_) ?_
                      · go_simp
                        refine hK _ _ ?_
                        clear hK K
                        refine wpAny_done (by kernel_rfl) ?_ _
                        have hE := push_end (y := y) (B := wB.heap.size) hlow hS.out e0 hOB o6 hn3.out hXL g6 ((setHP w6 T6 (n3 * 7) y.2).setCell ⟨O, 0, none⟩ (.slice (some ⟨T6, 0, none⟩) (n3 + 1) c6)) (.inl rfl)
                        simp only [setHP] at hE
                        exact hE
                      exact AllReady.nil
                    refine AllReady.cons rfl (fun K hK => ?_) ?_
                    · go_simp
                      refine hK _ _ ?_
                      clear hK K
                      refine wpAny_ready (rs := [6]) (by kernel_rfl) (by simp) ?_
                      refine AllReady.cons rfl (fun K hK => ?_) ?_
                      · go_simp
                        refine hK _ _ ?_
                        clear hK K
                        refine wpAny_done (by kernel_rfl) ?_ _
                        have hE := push_end (y := y) (B := wB.heap.size) hlow hS.out e0 hOB o6 hn3.out hXL g6 (setHP (w6.setCell ⟨O, 0, none⟩ (.slice (some ⟨T6, 0, none⟩) (n3 + 1) c6)) T6 (n3 * 7) y.2) (.inr rfl)
                        simp only [setHP] at hE
                        exact hE
                      exact AllReady.nil
                    exact AllReady.nil
                  refine AllReady.cons rfl (fun K hK => ?_) ?_
                  · go_simp
                    refine hK _ _ ?_
                    clear hK K
                    refine wpAny_ready (rs := [5]) (by kernel_rfl) (by simp) ?_
                    refine AllReady.cons rfl (fun K hK => ?_) ?_
                    · go_simp
                      refine hK _ _ ?_
                      clear hK K
                      refine wpAny_ready (rs := [6]) (by kernel_rfl) (by simp) ?_
                      refine AllReady.cons rfl (fun K hK => ?_) ?_
                      · go_simp
                        refine hK _ _ ?_
                        clear hK K
                        refine wpAny_done (by kernel_rfl) ?_ _
                        have hE := push_end (y := y) (B := wB.heap.size) hlow hS.out e0 hOB o6 hn3.out hXL g6 (setHP (w6.setCell ⟨O, 0, none⟩ (.slice (some ⟨T6, 0, none⟩) (n3 + 1) c6)) T6 (n3 * 7) y.2) (.inr rfl)
                        simp only [setHP] at hE
                        exact hE
                      exact AllReady.nil
                    exact AllReady.nil
                  exact AllReady.nil
                exact AllReady.nil
              exact AllReady.nil
            exact AllReady.nil
          refine AllReady.cons rfl (fun K hK => ?_) ?_
          · go_simp
            refine hK _ _ ?_
            clear hK K
            refine wpAny_ready (rs := [1, 2]) (by kernel_rfl) (by simp) ?_
            refine AllReady.cons rfl (fun K hK => ?_) ?_
            · go_simp
              refine hK _ _ ?_
              clear hK K
              refine wpAny_ready (rs := [2]) (by kernel_rfl) (by simp) ?_
              refine AllReady.cons rfl (fun K hK => ?_) ?_
              · go_simp
                refine hK _ _ ?_
                clear hK K
                refine wpAny_ready (rs := [4]) (by kernel_rfl) (by simp) ?_
                refine AllReady.cons rfl (fun K hK => ?_) ?_
                · (refine step_app1 w.heap.size _ zP rfl _ _ 53 rfl 55 Tryz.underlying53 info_pat rfl (by decide) HP.len HP.one (.slice a3 n3 c3) (td' ++ pre.map (·.2)) rfl oL ⟨X.heap.size, 0, none⟩ rfl hlit (by omega) (by decide) (by simp; omega) ?_; intro v6 w6 o6 g6 n6; obtain ⟨T6, c6, rfl, z0, z1, z2, z3, z4, z5, z6, zf, p0, pf, hTO6, hOT6⟩ := push_facts hS.out e0 hXL o6 g6 hn3.out; go_simp)
                  refine hK _ _ ?_
                  clear hK K
                  refine wpAny_ready (rs := [5, 7]) (by kernel_rfl) (by simp) ?_
                  refine AllReady.cons rfl (fun K hK => ?_) ?_
                  · go_simp
                    refine hK _ _ ?_
                    clear hK K
                    refine wpAny_ready (rs := [6, 7]) (by kernel_rfl) (by simp) ?_
                    refine AllReady.cons rfl (fun K hK => ?_) ?_
                    · go_simp
                      refine hK _ _ ?_
                      clear hK K
                      refine wpAny_ready (rs := [7]) (by kernel_rfl) (by simp) ?_
                      refine AllReady.cons rfl (fun K hK => ?_) ?_
                      · go_simp
                        refine hK _ _ ?_
                        clear hK K
                        refine wpAny_done (by kernel_rfl) ?_ _
                        have hE := push_end (y := y) (B := wB.heap.size) hlow hS.out e0 hOB o6 hn3.out hXL g6 ((setHP w6 T6 (n3 * 7) y.2).setCell ⟨O, 0, none⟩ (.slice (some ⟨T6, 0, none⟩) (n3 + 1) c6)) (.inl rfl)
                        simp only [setHP] at hE
                        exact hE
                      exact AllReady.nil
                    refine AllReady.cons rfl (fun K hK => ?_) ?_
                    · go_simp
                      refine hK _ _ ?_
                      clear hK K
                      refine wpAny_ready (rs := [6]) (by kernel_rfl) (by simp) ?_
                      refine AllReady.cons rfl (fun K hK => ?_) ?_
                      · go_simp
                        refine hK _ _ ?_
                        clear hK K
                        refine wpAny_done (by kernel_rfl) ?_ _
                        have hE := push_end (y := y) (B := wB.heap.size) hlow hS.out e0 hOB o6 hn3.out hXL g6 (setHP (w6.setCell ⟨O, 0, none⟩ (.slice (some ⟨T6, 0, none⟩) (n3 + 1) c6)) T6 (n3 * 7) y.2) (.inr rfl)
                        simp only [setHP] at hE
                        exact hE
                      exact AllReady.nil
                    exact AllReady.nil
                  refine AllReady.cons rfl (fun K hK => ?_) ?_
                  · go_simp
                    refine hK _ _ ?_
                    clear hK K
                    refine wpAny_ready (rs := [5]) (by kernel_rfl) (by simp) ?_
                    refine AllReady.cons rfl (fun K hK => ?_) ?_
                    · go_simp
                      refine hK _ _ ?_
                      clear hK K
                      refine wpAny_ready (rs := [6]) (by kernel_rfl) (by simp) ?_
                      refine AllReady.cons rfl (fun K hK => ?_) ?_
                      · go_simp
                        refine hK _ _ ?_
                        clear hK K
                        refine wpAny_done (by kernel_rfl) ?_ _
                        have hE := push_end (y := y) (B := wB.heap.size) hlow hS.out e0 hOB o6 hn3.out hXL g6 (setHP (w6.setCell ⟨O, 0, none⟩ (.slice (some ⟨T6, 0, none⟩) (n3 + 1) c6)) T6 (n3 * 7) y.2) (.inr rfl)
                        simp only [setHP] at hE
                        exact hE
                      exact AllReady.nil
                    exact AllReady.nil
                  exact AllReady.nil
                exact AllReady.nil
              exact AllReady.nil
            refine AllReady.cons rfl (fun K hK => ?_) ?_
            · go_simp
              refine hK _ _ ?_
              clear hK K
              refine wpAny_ready (rs := [1]) (by kernel_rfl) (by simp) ?_
              refine AllReady.cons rfl (fun K hK => ?_) ?_
              · go_simp
                refine hK _ _ ?_
                clear hK K
                refine wpAny_ready (rs := [4]) (by kernel_rfl) (by simp) ?_
                refine AllReady.cons rfl (fun K hK => ?_) ?_
                · (refine step_app1 w.heap.size _ zP rfl _ _ 53 rfl 55 Tryz.underlying53 info_pat rfl (by decide) HP.len HP.one (.slice a3 n3 c3) (td' ++ pre.map (·.2)) rfl oL ⟨X.heap.size, 0, none⟩ rfl hlit (by omega) (by decide) (by simp; omega) ?_; intro v6 w6 o6 g6 n6; obtain ⟨T6, c6, rfl, z0, z1, z2, z3, z4, z5, z6, zf, p0, pf, hTO6, hOT6⟩ := push_facts hS.out e0 hXL o6 g6 hn3.out; go_simp)
                  refine hK _ _ ?_
                  clear hK K
                  refine wpAny_ready (rs := [5, 7]) (by kernel_rfl) (by simp) ?_
                  refine AllReady.cons rfl (fun K hK => ?_) ?_
                  · go_simp
                    refine hK _ _ ?_
                    clear hK K
                    refine wpAny_ready (rs := [6, 7]) (by kernel_rfl) (by simp) ?_
                    refine AllReady.cons rfl (fun K hK => ?_) ?_
                    · go_simp
                      refine hK _ _ ?_
                      clear hK K
                      refine wpAny_ready (rs := [7]) (by kernel_rfl) (by simp) ?_
                      refine AllReady.cons rfl (fun K hK => ?_) ?_
                      · go_simp
                        refine hK _ _ ?_
                        clear hK K
                        refine wpAny_done (by kernel_rfl) ?_ _
                        have hE := push_end (y := y) (B := wB.heap.size) hlow hS.out e0 hOB o6 hn3.out hXL g6 ((setHP w6 T6 (n3 * 7) y.2).setCell ⟨O, 0, none⟩ (.slice (some ⟨T6, 0, none⟩) (n3 + 1) c6)) (.inl rfl)
                        simp only [setHP] at hE
                        exact hE
                      exact AllReady.nil
                    refine AllReady.cons rfl (fun K hK => ?_) ?_
                    · go_simp
                      refine hK _ _ ?_
                      clear hK K
                      refine wpAny_ready (rs := [6]) (by kernel_rfl) (by simp) ?_
                      refine AllReady.cons rfl (fun K hK => ?_) ?_
                      · go_simp
                        refine hK _ _ ?_
                        clear hK K
                        refine wpAny_done (by kernel_rfl) ?_ _
                        have hE := push_end (y := y) (B := wB.heap.size) hlow hS.out e0 hOB o6 hn3.out hXL g6 (setHP (w6.setCell ⟨O, 0, none⟩ (.slice (some ⟨T6, 0, none⟩) (n3 + 1) c6)) T6 (n3 * 7) y.2) (.inr rfl)
                        simp only [setHP] at hE
                        exact hE
                      exact AllReady.nil
                    exact AllReady.nil
                  refine AllReady.cons rfl (fun K hK => ?_) ?_
                  · go_simp
                    refine hK _ _ ?_
                    clear hK K
                    refine wpAny_ready (rs := [5]) (by kernel_rfl) (by simp) ?_
                    refine AllReady.cons rfl (fun K hK => ?_) ?_
                    · go_simp
                      refine hK _ _ ?_
                      clear hK K
                      refine wpAny_ready (rs := [6]) (by kernel_rfl) (by simp) ?_
                      refine AllReady.cons rfl (fun K hK => ?_) ?_
                      · go_simp
                        refine hK _ _ ?_
                        clear hK K
                        refine wpAny_done (by kernel_rfl) ?_ _
                        have hE := push_end (y := y) (B := wB.heap.size) hlow hS.out e0 hOB o6 hn3.out hXL g6 (setHP (w6.setCell ⟨O, 0, none⟩ (.slice (some ⟨T6, 0, none⟩) (n3 + 1) c6)) T6 (n3 * 7) y.2) (.inr rfl)
                        simp only [setHP] at hE
                        exact hE
                      exact AllReady.nil
                    exact AllReady.nil
                  exact AllReady.nil
                exact AllReady.nil
              exact AllReady.nil
            exact AllReady.nil
          exact AllReady.nil
        refine AllReady.cons rfl (fun K hK => ?_) ?_
        · go_simp
          refine hK _ _ ?_
          clear hK K
          refine wpAny_ready (rs := [0, 3]) (by kernel_rfl) (by simp) ?_
          refine AllReady.cons rfl (fun K hK => ?_) ?_
          · go_simp
            refine hK _ _ ?_
            clear hK K
            refine wpAny_ready (rs := [2, 3]) (by kernel_rfl) (by simp) ?_
            refine AllReady.cons rfl (fun K hK => ?_) ?_
            · go_simp
              refine hK _ _ ?_
              clear hK K
              refine wpAny_ready (rs := [3]) (by kernel_rfl) (by simp) ?_
              refine AllReady.cons rfl (fun K hK => ?_) ?_
              · go_simp
                refine hK _ _ ?_
                clear hK K
                refine wpAny_ready (rs := [4]) (by kernel_rfl) (by simp) ?_
                refine AllReady.cons rfl (fun K hK => ?_) ?_
                · (refine step_app1 w.heap.size _ zP rfl _ _ 53 rfl 55 Tryz.underlying53 info_pat rfl (by decide) HP.len HP.one (.slice a3 n3 c3) (td' ++ pre.map (·.2)) rfl oL ⟨X.heap.size, 0, none⟩ rfl hlit (by omega) (by decide) (by simp; omega) ?_; intro v6 w6 o6 g6 n6; obtain ⟨T6, c6, rfl, z0, z1, z2, z3, z4, z5, z6, zf, p0, pf, hTO6, hOT6⟩ := push_facts hS.out e0 hXL o6 g6 hn3.out; go_simp)
                  refine hK _ _ ?_
                  clear hK K
                  refine wpAny_ready (rs := [5, 7]) (by kernel_rfl) (by simp) ?_
                  refine AllReady.cons rfl (fun K hK => ?_) ?_
                  · go_simp
                    refine hK _ _ ?_
                    clear hK K
                    refine wpAny_ready (rs := [6, 7]) (by kernel_rfl) (by simp) ?_
                    refine AllReady.cons rfl (fun K hK => ?_) ?_
                    · go_simp
                      refine hK _ _ ?_
                      clear hK K
                      refine wpAny_ready (rs := [7]) (by kernel_rfl) (by simp) ?_
                      refine AllReady.cons rfl (fun K hK => ?_) ?_
                      · go_simp
                        refine hK _ _ ?_
                        clear hK K
                        refine wpAny_done (by kernel_rfl) ?_ _
                        have hE := push_end (y := y) (B := wB.heap.size) hlow hS.out e0 hOB o6 hn3.out hXL g6 ((setHP w6 T6 (n3 * 7) y.2).setCell ⟨O, 0, none⟩ (.slice (some ⟨T6, 0, none⟩) (n3 + 1) c6)) (.inl rfl)
                        simp only [setHP] at hE
                        exact hE
                      exact AllReady.nil
                    refine AllReady.cons rfl (fun K hK => ?_) ?_
                    · go_simp
                      refine hK _ _ ?_
                      clear hK K
                      refine wpAny_ready (rs := [6]) (by kernel_rfl) (by simp) ?_
                      refine AllReady.cons rfl (fun K hK => ?_) ?_
                      · go_simp
                        refine hK _ _ ?_
                        clear hK K
                        refine wpAny_done (by kernel_rfl) ?_ _
                        have hE := push_end (y := y) (B := wB.heap.size) hlow hS.out e0 hOB o6 hn3.out hXL g6 (setHP (w6.setCell ⟨O, 0, none⟩ (.slice (some ⟨T6, 0, none⟩) (n3 + 1) c6)) T6 (n3 * 7) y.2) (.inr rfl)
                        simp only [setHP] at hE
                        exact hE
                      exact AllReady.nil
                    exact AllReady.nil
                  refine AllReady.cons rfl (fun K hK => ?_) ?_
                  · go_simp
                    refine hK _ _ ?_
                    clear hK K
                    refine wpAny_ready (rs := [5]) (by kernel_rfl) (by simp) ?_
                    refine AllReady.cons rfl (fun K hK => ?_) ?_
                    · go_simp
                      refine hK _ _ ?_
                      clear hK K
                      refine wpAny_ready (rs := [6]) (by kernel_rfl) (by simp) ?_
                      refine AllReady.cons rfl (fun K hK => ?_) ?_
                      · go_simp
                        refine hK _ _ ?_
                        clear hK K
                        refine wpAny_done (by kernel_rfl) ?_ _
                        have hE := push_end (y := y) (B := wB.heap.size) hlow hS.out e0 hOB o6 hn3.out hXL g6 (setHP (w6.setCell ⟨O, 0, none⟩ (.slice (some ⟨T6, 0, none⟩) (n3 + 1) c6)) T6 (n3 * 7) y.2) (.inr rfl)
                        simp only [setHP] at hE
                        exact hE
                      exact AllReady.nil
                    exact AllReady.nil
                  exact AllReady.nil
                exact AllReady.nil
              exact AllReady.nil
            refine AllReady.cons rfl (fun K hK => ?_) ?_
            · go_simp
              refine hK _ _ ?_
              clear hK K
              refine wpAny_ready (rs := [2]) (by kernel_rfl) (by simp) ?_
              refine AllReady.cons rfl (fun K hK => ?_) ?_
              · go_simp
                refine hK _ _ ?_
                clear hK K
                refine wpAny_ready (rs := [4]) (by kernel_rfl) (by simp) ?_
                refine AllReady.cons rfl (fun K hK => ?_) ?_
                · (refine step_app1 w.heap.size _ zP rfl _ _ 53 rfl 55 Tryz.underlying53 info_pat rfl (by decide) HP.len HP.one (.slice a3 n3 c3) (td' ++ pre.map (·.2)) rfl oL ⟨X.heap.size, 0, none⟩ rfl hlit (by omega) (by decide) (by simp; omega) ?_; intro v6 w6 o6 g6 n6; obtain ⟨T6, c6, rfl, z0, z1, z2, z3, z4, z5, z6, zf, p0, pf, hTO6, hOT6⟩ := push_facts hS.out e0 hXL o6 g6 hn3.out; go_simp)
                  refine hK _ _ ?_
                  clear hK K
                  refine wpAny_ready (rs := [5, 7]) (by kernel_rfl) (by simp) ?_
                  refine AllReady.cons rfl (fun K hK => ?_) ?_
                  · go_simp
                    refine hK _ _ ?_
                    clear hK K
                    refine wpAny_ready (rs := [6, 7]) (by kernel_rfl) (by simp) ?_
                    refine AllReady.cons rfl (fun K hK => ?_) ?_
                    · go_simp
                      refine hK _ _ ?_
                      clear hK K
                      refine wpAny_ready (rs := [7]) (by kernel_rfl) (by simp) ?_
                      refine AllReady.cons rfl (fun K hK => ?_) ?_
                      · go_simp
                        refine hK _ _ ?_
                        clear hK K
                        refine wpAny_done (by kernel_rfl) ?_ _
                        have hE := push_end (y := y) (B := wB.heap.size) hlow hS.out e0 hOB o6 hn3.out hXL g6 ((setHP w6 T6 (n3 * 7) y.2).setCell ⟨O, 0, none⟩ (.slice (some ⟨T6, 0, none⟩) (n3 + 1) c6)) (.inl rfl)
                        simp only [setHP] at hE
                        exact hE
                      exact AllReady.nil
                    refine AllReady.cons rfl (fun K hK => ?_) ?_
                    · go_simp
                      refine hK _ _ ?_
                      clear hK K
                      refine wpAny_ready (rs := [6]) (by kernel_rfl) (by simp) ?_
                      refine AllReady.cons rfl (fun K hK => ?_) ?_
                      · go_simp
                        refine hK _ _ ?_
                        clear hK K
                        refine wpAny_done (by kernel_rfl) ?_ _
                        have hE := push_end (y := y) (B := wB.heap.size) hlow hS.out e0 hOB o6 hn3.out hXL g6 (setHP (w6.setCell ⟨O, 0, none⟩ (.slice (some ⟨T6, 0, none⟩) (n3 + 1) c6)) T6 (n3 * 7) y.2) (.inr rfl)
                        simp only [setHP] at hE
                        exact hE
                      exact AllReady.nil
                    exact AllReady.nil
                  refine AllReady.cons rfl (fun K hK => ?_) ?_
                  · go_simp
                    refine hK _ _ ?_
                    clear hK K
                    refine wpAny_ready (rs := [5]) (by kernel_rfl) (by simp) ?_
                    refine AllReady.cons rfl (fun K hK => ?_) ?_
                    · go_simp
                      refine hK _ _ ?_
                      clear hK K
                      refine wpAny_ready (rs := [6]) (by kernel_rfl) (by simp) ?_
                      refine AllReady.cons rfl (fun K hK => ?_) ?_
                      · go_simp
                        refine hK _ _ ?_
                        clear hK K
                        refine wpAny_done (by kernel_rfl) ?_ _
                        have hE := push_end (y := y) (B := wB.heap.size) hlow hS.out e0 hOB o6 hn3.out hXL g6 (setHP (w6.setCell ⟨O, 0, none⟩ (.slice (some ⟨T6, 0, none⟩) (n3 + 1) c6)) T6 (n3 * 7) y.2) (.inr rfl)
                        simp only [setHP] at hE
                        exact hE
                      exact AllReady.nil
                    exact AllReady.nil
                  exact AllReady.nil
                exact AllReady.nil
              exact AllReady.nil
            exact AllReady.nil
          refine AllReady.cons rfl (fun K hK => ?_) ?_
          · go_simp
            refine hK _ _ ?_
            clear hK K
            refine wpAny_ready (rs := [0]) (by kernel_rfl) (by simp) ?_
            refine AllReady.cons rfl (fun K hK => ?_) ?_
            · go_simp
              refine hK _ _ ?_
              clear hK K
              refine wpAny_ready (rs := [2]) (by kernel_rfl) (by simp) ?_
              refine AllReady.cons rfl (fun K hK => ?_) ?_
              · go_simp
                refine hK _ _ ?_
                clear hK K
                refine wpAny_ready (rs := [4]) (by kernel_rfl) (by simp) ?_
                refine AllReady.cons rfl (fun K hK => ?_) ?_
                · (refine step_app1 w.heap.size _ zP rfl _ _ 53 rfl 55 Tryz.underlying53 info_pat rfl (by decide) HP.len HP.one (.slice a3 n3 c3) (td' ++ pre.map (·.2)) rfl oL ⟨X.heap.size, 0, none⟩ rfl hlit (by omega) (by decide) (by simp; omega) ?_; intro v6 w6 o6 g6 n6; obtain ⟨T6, c6, rfl, z0, z1, z2, z3, z4, z5, z6, zf, p0, pf, hTO6, hOT6⟩ := push_facts hS.out e0 hXL o6 g6 hn3.out; go_simp)
                  refine hK _ _ ?_
                  clear hK K
                  refine wpAny_ready (rs := [5, 7]) (by kernel_rfl) (by simp) ?_
                  refine AllReady.cons rfl (fun K hK => ?_) ?_
                  · go_simp
                    refine hK _ _ ?_
                    clear hK K
                    refine wpAny_ready (rs := [6, 7]) (by kernel_rfl) (by simp) ?_
                    refine AllReady.cons rfl (fun K hK => ?_) ?_
                    · go_simp
                      refine hK _ _ ?_
                      clear hK K
                      refine wpAny_ready (rs := [7]) (by kernel_rfl) (by simp) ?_
                      refine AllReady.cons rfl (fun K hK => ?_) ?_
                      · go_simp
                        refine hK _ _ ?_
                        clear hK K
                        refine wpAny_done (by kernel_rfl) ?_ _
                        have hE := push_end (y := y) (B := wB.heap.size) hlow hS.out e0 hOB o6 hn3.out hXL g6 ((setHP w6 T6 (n3 * 7) y.2).setCell ⟨O, 0, none⟩ (.slice (some ⟨T6, 0, none⟩) (n3 + 1) c6)) (.inl rfl)
                        simp only [setHP] at hE
                        exact hE
                      exact AllReady.nil
                    refine AllReady.cons rfl (fun K hK => ?_) ?_
                    · go_simp
                      refine hK _ _ ?_
                      clear hK K
                      refine wpAny_ready (rs := [6]) (by kernel_rfl) (by simp) ?_
                      refine AllReady.cons rfl (fun K hK => ?_) ?_
                      · go_simp
                        refine hK _ _ ?_
                        clear hK K
                        refine wpAny_done (by kernel_rfl) ?_ _
                        have hE := push_end (y := y) (B := wB.heap.size) hlow hS.out e0 hOB o6 hn3.out hXL g6 (setHP (w6.setCell ⟨O, 0, none⟩ (.slice (some ⟨T6, 0, none⟩) (n3 + 1) c6)) T6 (n3 * 7) y.2) (.inr rfl)
                        simp only [setHP] at hE
                        exact hE
                      exact AllReady.nil
                    exact AllReady.nil
                  refine AllReady.cons rfl (fun K hK => ?_) ?_
                  · go_simp
                    refine hK _ _ ?_
                    clear hK K
                    refine wpAny_ready (rs := [5]) (by kernel_rfl) (by simp) ?_
                    refine AllReady.cons rfl (fun K hK => ?_) ?_
                    · go_simp
                      refine hK _ _ ?_
                      clear hK K
                      refine wpAny_ready (rs := [6]) (by kernel_rfl) (by simp) ?_
                      refine AllReady.cons rfl (fun K hK => ?_) ?_
                      · go_simp
                        refine hK _ _ ?_
                        clear hK K
                        refine wpAny_done (by kernel_rfl) ?_ _
                        have hE := push_end (y := y) (B := wB.heap.size) hlow hS.out e0 hOB o6 hn3.out hXL g6 (setHP (w6.setCell ⟨O, 0, none⟩ (.slice (some ⟨T6, 0, none⟩) (n3 + 1) c6)) T6 (n3 * 7) y.2) (.inr rfl)
                        simp only [setHP] at hE
                        exact hE
                      exact AllReady.nil
                    exact AllReady.nil
                  exact AllReady.nil
                exact AllReady.nil
              exact AllReady.nil
            exact AllReady.nil
          exact AllReady.nil
        refine AllReady.cons rfl (fun K hK => ?_) ?_
        · go_simp
          refine hK _ _ ?_
          clear hK K
          refine wpAny_ready (rs := [0, 1]) (by kernel_rfl) (by simp) ?_
          refine AllReady.cons rfl (fun K hK => ?_) ?_
          · go_simp
            refine hK _ _ ?_
            clear hK K
            refine wpAny_ready (rs := [1, 2]) (by kernel_rfl) (by simp) ?_
            refine AllReady.cons rfl (fun K hK => ?_) ?_
            · go_simp
              refine hK _ _ ?_
              clear hK K
              refine wpAny_ready (rs := [2]) (by kernel_rfl) (by simp) ?_
              refine AllReady.cons rfl (fun K hK => ?_) ?_
              · go_simp
                refine hK _ _ ?_
                clear hK K
                refine wpAny_ready (rs := [4]) (by kernel_rfl) (by simp) ?_
                refine AllReady.cons rfl (fun K hK => ?_) ?_
                · (refine step_app1 w.heap.size _ zP rfl _ _ 53 rfl 55 Tryz.underlying53 info_pat rfl (by decide) HP.len HP.one (.slice a3 n3 c3) (td' ++ pre.map (·.2)) rfl oL ⟨X.heap.size, 0, none⟩ rfl hlit (by omega) (by decide) (by simp; omega) ?_; intro v6 w6 o6 g6 n6; obtain ⟨T6, c6, rfl, z0, z1, z2, z3, z4, z5, z6, zf, p0, pf, hTO6, hOT6⟩ := push_facts hS.out e0 hXL o6 g6 hn3.out; go_simp)
                  refine hK _ _ ?_
                  clear hK K
                  refine wpAny_ready (rs := [5, 7]) (by kernel_rfl) (by simp) ?_
                  refine AllReady.cons rfl (fun K hK => ?_) ?_
                  · go_simp
                    refine hK _ _ ?_
                    clear hK K
                    refine wpAny_ready (rs := [6, 7]) (by kernel_rfl) (by simp) ?_
                    refine AllReady.cons rfl (fun K hK => ?_) ?_
                    · go_simp
                      refine hK _ _ ?_
                      clear hK K
                      refine wpAny_ready (rs := [7]) (by kernel_rfl) (by simp) ?_
                      refine AllReady.cons rfl (fun K hK => ?_) ?_
                      · go_simp
                        refine hK _ _ ?_
                        clear hK K
                        refine wpAny_done (by kernel_rfl) ?_ _
                        have hE := push_end (y := y) (B := wB.heap.size) hlow hS.out e0 hOB o6 hn3.out hXL g6 ((setHP w6 T6 (n3 * 7) y.2).setCell ⟨O, 0, none⟩ (.slice (some ⟨T6, 0, none⟩) (n3 + 1) c6)) (.inl rfl)
                        simp only [setHP] at hE
                        exact hE
                      exact AllReady.nil
                    refine AllReady.cons rfl (fun K hK => ?_) ?_
                    · go_simp
                      refine hK _ _ ?_
                      clear hK K
                      refine wpAny_ready (rs := [6]) (by kernel_rfl) (by simp) ?_
                      refine AllReady.cons rfl (fun K hK => ?_) ?_
                      · go_simp
                        refine hK _ _ ?_
                        clear hK K
                        refine wpAny_done (by kernel_rfl) ?_ _
                        have hE := push_end (y := y) (B := wB.heap.size) hlow hS.out e0 hOB o6 hn3.out hXL g6 (setHP (w6.setCell ⟨O, 0, none⟩ (.slice (some ⟨T6, 0, none⟩) (n3 + 1) c6)) T6 (n3 * 7) y.2) (.inr rfl)
                        simp only [setHP] at hE
                        exact hE
                      exact AllReady.nil
                    exact AllReady.nil
                  refine AllReady.cons rfl (fun K hK => ?_) ?_
                  · go_simp
                    refine hK _ _ ?_
                    clear hK K
                    refine wpAny_ready (rs := [5]) (by kernel_rfl) (by simp) ?_
                    refine AllReady.cons rfl (fun K hK => ?_) ?_
                    · go_simp
                      refine hK _ _ ?_
                      clear hK K
                      refine wpAny_ready (rs := [6]) (by kernel_rfl) (by simp) ?_
                      refine AllReady.cons rfl (fun K hK => ?_) ?_
                      · go_simp
                        refine hK _ _ ?_
                        clear hK K
                        refine wpAny_done (by kernel_rfl) ?_ _
                        have hE := push_end (y := y) (B := wB.heap.size) hlow hS.out e0 hOB o6 hn3.out hXL g6 (setHP (w6.setCell ⟨O, 0, none⟩ (.slice (some ⟨T6, 0, none⟩) (n3 + 1) c6)) T6 (n3 * 7) y.2) (.inr rfl)
                        simp only [setHP] at hE
                        exact hE
                      exact AllReady.nil
                    exact AllReady.nil
                  exact AllReady.nil
                exact AllReady.nil
              exact AllReady.nil
            refine AllReady.cons rfl (fun K hK => ?_) ?_
            · go_simp
              refine hK _ _ ?_
              clear hK K
              refine wpAny_ready (rs := [1]) (by kernel_rfl) (by simp) ?_
              refine AllReady.cons rfl (fun K hK => ?_) ?_
              · go_simp
                refine hK _ _ ?_
                clear hK K
                refine wpAny_ready (rs := [4]) (by kernel_rfl) (by simp) ?_
                refine AllReady.cons rfl (fun K hK => ?_) ?_
                · (refine step_app1 w.heap.size _ zP rfl _ _ 53 rfl 55 Tryz.underlying53 info_pat rfl (by decide) HP.len HP.one (.slice a3 n3 c3) (td' ++ pre.map (·.2)) rfl oL ⟨X.heap.size, 0, none⟩ rfl hlit (by omega) (by decide) (by simp; omega) ?_; intro v6 w6 o6 g6 n6; obtain ⟨T6, c6, rfl, z0, z1, z2, z3, z4, z5, z6, zf, p0, pf, hTO6, hOT6⟩ := push_facts hS.out e0 hXL o6 g6 hn3.out; go_simp)
                  refine hK _ _ ?_
                  clear hK K
                  refine wpAny_ready (rs := [5, 7]) (by kernel_rfl) (by simp) ?_
                  refine AllReady.cons rfl (fun K hK => ?_) ?_
                  · go_simp
                    refine hK _ _ ?_
                    clear hK K
                    refine wpAny_ready (rs := [6, 7]) (by kernel_rfl) (by simp) ?_
                    refine AllReady.cons rfl (fun K hK => ?_) ?_
                    · go_simp
                      refine hK _ _ ?_
                      clear hK K
                      refine wpAny_ready (rs := [7]) (by kernel_rfl) (by simp) ?_
                      refine AllReady.cons rfl (fun K hK => ?_) ?_
                      · go_simp
                        refine hK _ _ ?_
                        clear hK K
                        refine wpAny_done (by kernel_rfl) ?_ _
                        have hE := push_end (y := y) (B := wB.heap.size) hlow hS.out e0 hOB o6 hn3.out hXL g6 ((setHP w6 T6 (n3 * 7) y.2).setCell ⟨O, 0, none⟩ (.slice (some ⟨T6, 0, none⟩) (n3 + 1) c6)) (.inl rfl)
                        simp only [setHP] at hE
                        exact hE
                      exact AllReady.nil
                    refine AllReady.cons rfl (fun K hK => ?_) ?_
                    · go_simp
                      refine hK _ _ ?_
                      clear hK K
                      refine wpAny_ready (rs := [6]) (by kernel_rfl) (by simp) ?_
                      refine AllReady.cons rfl (fun K hK => ?_) ?_
                      · go_simp
                        refine hK _ _ ?_
                        clear hK K
                        refine wpAny_done (by kernel_rfl) ?_ _
                        have hE := push_end (y := y) (B := wB.heap.size) hlow hS.out e0 hOB o6 hn3.out hXL g6 (setHP (w6.setCell ⟨O, 0, none⟩ (.slice (some ⟨T6, 0, none⟩) (n3 + 1) c6)) T6 (n3 * 7) y.2) (.inr rfl)
                        simp only [setHP] at hE
                        exact hE
                      exact AllReady.nil
                    exact AllReady.nil
                  refine AllReady.cons rfl (fun K hK => ?_) ?_
                  · go_simp
                    refine hK _ _ ?_
                    clear hK K
                    refine wpAny_ready (rs := [5]) (by kernel_rfl) (by simp) ?_
                    refine AllReady.cons rfl (fun K hK => ?_) ?_
                    · go_simp
                      refine hK _ _ ?_
                      clear hK K
                      refine wpAny_ready (rs := [6]) (by kernel_rfl) (by simp) ?_
                      refine AllReady.cons rfl (fun K hK => ?_) ?_
                      · go_simp
                        refine hK _ _ ?_
                        clear hK K
                        refine wpAny_done (by kernel_rfl) ?_ _
                        have hE := push_end (y := y) (B := wB.heap.size) hlow hS.out e0 hOB o6 hn3.out hXL g6 (setHP (w6.setCell ⟨O, 0, none⟩ (.slice (some ⟨T6, 0, none⟩) (n3 + 1) c6)) T6 (n3 * 7) y.2) (.inr rfl)
                        simp only [setHP] at hE
                        exact hE
                      exact AllReady.nil
                    exact AllReady.nil
                  exact AllReady.nil
                exact AllReady.nil
              exact AllReady.nil
            exact AllReady.nil
          refine AllReady.cons rfl (fun K hK => ?_) ?_
          · go_simp
            refine hK _ _ ?_
            clear hK K
            refine wpAny_ready (rs := [0]) (by kernel_rfl) (by simp) ?_
            refine AllReady.cons rfl (fun K hK => ?_) ?_
            · go_simp
              refine hK _ _ ?_
              clear hK K
              refine wpAny_ready (rs := [2]) (by kernel_rfl) (by simp) ?_
              refine AllReady.cons rfl (fun K hK => ?_) ?_
              · go_simp
                refine hK _ _ ?_
                clear hK K
                refine wpAny_ready (rs := [4]) (by kernel_rfl) (by simp) ?_
                refine AllReady.cons rfl (fun K hK => ?_) ?_
                · (refine step_app1 w.heap.size _ zP rfl _ _ 53 rfl 55 Tryz.underlying53 info_pat rfl (by decide) HP.len HP.one (.slice a3 n3 c3) (td' ++ pre.map (·.2)) rfl oL ⟨X.heap.size, 0, none⟩ rfl hlit (by omega) (by decide) (by simp; omega) ?_; intro v6 w6 o6 g6 n6; obtain ⟨T6, c6, rfl, z0, z1, z2, z3, z4, z5, z6, zf, p0, pf, hTO6, hOT6⟩ := push_facts hS.out e0 hXL o6 g6 hn3.out; go_simp)
                  refine hK _ _ ?_
                  clear hK K
                  refine wpAny_ready (rs := [5, 7]) (by kernel_rfl) (by simp) ?_
                  refine AllReady.cons rfl (fun K hK => ?_) ?_
                  · go_simp
                    refine hK _ _ ?_
                    clear hK K
                    refine wpAny_ready (rs := [6, 7]) (by kernel_rfl) (by simp) ?_
                    refine AllReady.cons rfl (fun K hK => ?_) ?_
                    · go_simp
                      refine hK _ _ ?_
                      clear hK K
                      refine wpAny_ready (rs := [7]) (by kernel_rfl) (by simp) ?_
                      refine AllReady.cons rfl (fun K hK => ?_) ?_
                      · go_simp
                        refine hK _ _ ?_
                        clear hK K
                        refine wpAny_done (by kernel_rfl) ?_ _
                        have hE := push_end (y := y) (B := wB.heap.size) hlow hS.out e0 hOB o6 hn3.out hXL g6 ((setHP w6 T6 (n3 * 7) y.2).setCell ⟨O, 0, none⟩ (.slice (some ⟨T6, 0, none⟩) (n3 + 1) c6)) (.inl rfl)
                        simp only [setHP] at hE
                        exact hE
                      exact AllReady.nil
                    refine AllReady.cons rfl (fun K hK => ?_) ?_
                    · go_simp
                      refine hK _ _ ?_
                      clear hK K
                      refine wpAny_ready (rs := [6]) (by kernel_rfl) (by simp) ?_
                      refine AllReady.cons rfl (fun K hK => ?_) ?_
                      · go_simp
                        refine hK _ _ ?_
                        clear hK K
                        refine wpAny_done (by kernel_rfl) ?_ _
                        have hE := push_end (y := y) (B := wB.heap.size) hlow hS.out e0 hOB o6 hn3.out hXL g6 (setHP (w6.setCell ⟨O, 0, none⟩ (.slice (some ⟨T6, 0, none⟩) (n3 + 1) c6)) T6 (n3 * 7) y.2) (.inr rfl)
                        simp only [setHP] at hE
                        exact hE
                      exact AllReady.nil
                    exact AllReady.nil
                  refine AllReady.cons rfl (fun K hK => ?_) ?_
                  · go_simp
                    refine hK _ _ ?_
                    clear hK K
                    refine wpAny_ready (rs := [5]) (by kernel_rfl) (by simp) ?_
                    refine AllReady.cons rfl (fun K hK => ?_) ?_
                    · go_simp
                      refine hK _ _ ?_
                      clear hK K
                      refine wpAny_ready (rs := [6]) (by kernel_rfl) (by simp) ?_
                      refine AllReady.cons rfl (fun K hK => ?_) ?_
                      · go_simp
                        refine hK _ _ ?_
                        clear hK K
                        refine wpAny_done (by kernel_rfl) ?_ _
                        have hE := push_end (y := y) (B := wB.heap.size) hlow hS.out e0 hOB o6 hn3.out hXL g6 (setHP (w6.setCell ⟨O, 0, none⟩ (.slice (some ⟨T6, 0, none⟩) (n3 + 1) c6)) T6 (n3 * 7) y.2) (.inr rfl)
                        simp only [setHP] at hE
                        exact hE
                      exact AllReady.nil
                    exact AllReady.nil
                  exact AllReady.nil
                exact AllReady.nil
              exact AllReady.nil
            exact AllReady.nil
          exact AllReady.nil
        exact AllReady.nil
    case done =>
      rintro D X hD ⟨⟨v3, b3, o3⟩, s3, x3, mk3⟩ hK
      rw [backP_snd] at o3
      gi_wp2
      refine ⟨⟨k + 1, D :: Ds, td' ++ (x.l.take m).reverse, ⟨_, _, _, _, _, _, _, _, _, _, _, _, _, _, _, _, _, _, _, _, _, _, _, _, _, _, _, _, _, _, _, _, _, _, _, rfl⟩, ⟨⟨_, b3, o3⟩, x3, hlow, hk40, ?_, ?_, fun y hy => ?_, ?_, fun E hE => ?_⟩⟩, ?_⟩
      · rw [List.length_append, List.length_reverse, List.length_take, ← hL.out]; have := hm41.out; have := hcnt.out; omega
      · rw [show 40 - (k + 1) = 39 - k by omega, List.reverse_append, List.reverse_reverse]; exact hchk.out
      · rcases List.mem_append.1 hy with h | h
        · exact ok2.out y h
        · exact hrx.sub (List.mem_of_mem_take (List.mem_reverse.1 h))
      · exact List.nodup_cons.2 ⟨fun h => by have := hDB.out D h; omega, nod2.out⟩
      · rcases List.mem_cons.1 hE with rfl | h
        · exact ⟨by omega, hK⟩
        · exact mk3 E h
      · show (41 - intOf (Value.int .i64 ((k : Int) + 1))).toNat < (41 - intOf (Value.int .i64 (k : Int))).toNat
        simp only [intOf]; omega
    case stop =>
      rintro D c pre W _ h _
      exact h.elim
end Go.Proofs.YtadncjpknckaaaaGreatDoor
