/-
  tree.Path.
  attest: words that are attested.
  attest.entries.
  Histories: a tree, laws, and for each node the laws that lead to it.
-/
import Derived.Test.YtadncjpknckaaaaGreatDoorA29
import Derived.Test.YtadncjpknckaaaaGreatDoorA19
import Derived.Test.YtadncjpknckaaaaGreatDoorA31
import Derived.Test.YtadncjpknckaaaaGreatDoorA28
namespace Go.Proofs.YtadncjpknckaaaaGreatDoor
open Go.RowKit Go.Shelf Go.Maps
attribute [local go_sem] Oper.semAt_some
/-- From a node up to the root. -/
def pathF (ts : List Nd) : Nat → Int → List Nat
  | 0, _ => []
  | f + 1, x => if x < 0 then [] else x.toNat :: pathF ts f (((ts[x.toNat]?).map Nd.par).getD (-1))
theorem pathF_neg {ts : List Nd} {f : Nat} {x : Int} (h : x < 0) : pathF ts f x = [] := by
  cases f with
  | zero => rfl
  | succ f => rw [pathF, if_pos h]
theorem pathF_at {ts : List Nd} {f k : Nat} {y : Nd} (h : ts[k]? = some y) : pathF ts (f + 1) (k : Int) = k :: pathF ts f y.par := by
  rw [pathF, if_neg (by omega), Int.toNat_natCast, h]; rfl
theorem pathF_len (ts : List Nd) : ∀ (f : Nat) (x : Int), (pathF ts f x).length ≤ f
  | 0, _ => Nat.le_refl _
  | f + 1, x => by
    unfold pathF
    split
    · simp
    · rw [List.length_cons]; exact Nat.succ_le_succ (pathF_len ts f _)
def pathL (ts : List Nd) (v : Nat) : List Nat := pathF ts (v + 1) (v : Int)
def intAt (w : World) (b : Nat) : Int := match w.cell? ⟨b, 0, none⟩ with
  | some (.int _ x) => x
  | _ => 0
theorem intAt_eq {w : World} {b : Nat} {x : Int} (h : w.cell? ⟨b, 0, none⟩ = some (.int .i64 x)) : intAt w b = x := by unfold intAt; rw [h]
theorem up_any (a : Option Addr) (n cap : Nat) (v : Nat) (w : World) : Calls Tryz.prog 33 #[.slice a n cap, .int .i64 (v : Int)] w fun e w' =>
    e = .returned (.func (.func 48) #[] #[.pointer (some ⟨w.heap.size + 1, 0, none⟩), .pointer (some ⟨w.heap.size, 0, none⟩)]) ∧ w' = (w.alloc (.cells #[.slice a n cap] 22)).alloc (.cells #[.int .i64 (v : Int)] 3) := by
  go_enter Tryz.func33, Tryz.ntmps33
  go_wp2_with fail
  go_ret
  exact ⟨rfl, rfl⟩
set_option maxHeartbeats 1000000 in
set_option maxRecDepth 20000 in
theorem up1_iter (ts : List Nd) (a : Option Addr) (n cap : Nat) (w0 W0 : World) (hts : RdN w0 a n cap ts) (htb : treeB ts = true) (v : Nat) (hv : v < n) (bt bv : Nat) (hbt : Boxed W0 bt 22 (.slice a n cap)) (hbv : Boxed W0 bv 3 (.int .i64 (v : Int))) (hne : bt ≠ bv) :
    IterN 48 #[.pointer (some ⟨bv, 0, none⟩), .pointer (some ⟨bt, 0, none⟩)] (fun r => r = bv ∨ r = bt) (pathL ts v) w0 W0 := by
  intro l J Jx W hB hJ0 hJ hJx hI hY
  have hro : Fence.wide.round = none := rfl
  refine callsIn_of_wp Tryz.func48 rfl trivial ?_ hro
  simp only [Tryz.ntmps48, List.size_toArray, List.length_cons, List.length_nil, Nat.reduceAdd, Nat.reduceSub, Array.replicate_succ, Array.replicate_zero, List.push_toArray, List.append_toArray, List.nil_append, List.cons_append]
  have hbt' : Boxed W bt 22 (.slice a n cap) := (Below.block hB _ hbt.lt).trans hbt
  have hbv' : Boxed W bv 3 (.int .i64 (v : Int)) := (Below.block hB _ hbv.lt).trans hbv
  have hnl := hts.rd.len
  have hmax : n ≤ 9223372036854775807 := by have := hts.rd.le; have := hts.rd.most; unfold maxLen at this; omega
  replace hnl := Lib.hid hnl
  gi_wp2
  gi_loopw [4] (fun _ wr => ∃ (x : Int) (f : Nat) (pre : List Nat), J pre wr ∧ Boxed wr bt 22 (.slice a n cap) ∧ Boxed wr bv 3 (.int .i64 x) ∧ Hid (pathL ts v = pre ++ pathF ts f x) ∧ x < f ∧ x < n ∧ -1 ≤ x) (fun _ wr => (intAt wr bv + 1).toNat)
  case atStart => exact ⟨v, v + 1, [], hJ0, hbt', hbv', Lib.hid rfl, by omega, by omega, by omega⟩
  case round =>
    obtain ⟨x, f, pre, hj, kt, kv, hpath, hxf, hxn, hx1⟩ := hrel
    have ct := kt.cell
    have cv := kv.cell
    have fv := kv.frozen
    have hm0 := intAt_eq cv
    by_cases hx : 0 ≤ x
    · obtain ⟨k, rfl⟩ : ∃ k : Nat, x = (k : Int) := ⟨x.toNat, by omega⟩
      obtain ⟨f', rfl⟩ : ∃ f', f = f' + 1 := ⟨f - 1, by omega⟩
      have hkn : k < n := by omega
      obtain ⟨b, off, y, hya, hs, hb, hc0, hc1, hsz⟩ := (hts.ext (hI _ _ hj)).nd hkn
      subst hya
      have hp2 : Hid (pathL ts v = (pre ++ [k]) ++ pathF ts f' y.par) := Lib.hid (by rw [hpath.out, pathF_at hs.out, List.append_assoc]; rfl)
      have hpar : -1 ≤ y.par ∧ y.par < k := by
        rcases Nat.eq_zero_or_pos k with h0 | h0
        · subst h0; rw [treeB_root htb hs.out]; omega
        · have := treeB_par htb hs.out h0; omega
      obtain ⟨fn, tmps, assign, body, hyl, hR⟩ := hY pre k wr hj ⟨_, hp2.out.symm⟩
      replace hm0 := Lib.hid hm0
      clear hc1 hsz hpath
      gi_wp2
      refine hR.mono ?_
      rintro e w2 (⟨rfl, J2, hsame⟩ | ⟨rfl, hJx2⟩)
      rotate_left
      · gi_wp2
        refine bodyPost_ret (results_none rfl _ _ _) rfl ?_
        exact ⟨⟨_, rfl⟩, .inr ⟨_, hJx2⟩⟩
      have kt2 : Boxed w2 bt 22 (.slice (some ⟨b, off, none⟩) n cap) := (hsame bt (.inr rfl)).trans kt
      have kv2 : Boxed w2 bv 3 (.int .i64 (k : Int)) := (hsame bv (.inl rfl)).trans kv
      obtain ⟨b', off', y', hya', hs', hb', hc0', hc1', hsz'⟩ := (hts.ext (hI _ _ J2)).nd hkn
      cases hya'
      have hyy : y' = y := by have := hs'.out; rw [hs.out] at this; cases this; rfl
      subst hyy
      clear hc0 hb hc1' hsz' ct cv fv hyl hR hsame
      have ct := kt2.cell
      have cv := kv2.cell
      have fv := kv2.frozen
      gi_wp2
      have g3 := grownBy_set w2 bv 0 (.int .i64 y'.par)
      have J3 := hJ _ _ _ _ J2 g3 (fun r e => by cases e; exact .inl rfl)
      have kt3 := kt2.other hne (.int .i64 y'.par)
      have kv3 := kv2.set (.int .i64 y'.par)
      have hm1 := intAt_eq kv3.cell
      refine ⟨⟨y'.par, f', pre ++ [k], J3, kt3, kv3, hp2, by omega, by omega, hpar.1⟩, ?_⟩
      rw [hm1, hm0.out]
      omega
    · have hfin : Hid (pathL ts v = pre) := Lib.hid (by rw [hpath.out, pathF_neg (by omega), List.append_nil])
      gi_wp2
      go_end0
      exact ⟨⟨_, rfl⟩, .inl (by rw [hfin.out]; exact hj)⟩
set_option maxHeartbeats 1000000 in
set_option maxRecDepth 20000 in
theorem tchk_any (ts : List Nd) (a : Option Addr) (n cap : Nat) (v : Nat) (a2 : Option Addr) (c2 : Nat) (w : World) (hts : RdN w a n cap ts) (htb : treeB ts = true) (hv : v < n) (hr : RdI w a2 1 c2 [(v : Int)]) :
    Calls Tryz.prog 31 #[.slice a n cap, .slice a2 1 c2] w fun e w' => e = .returned (.int .i64 0) ∧ Ext w w' := by
  have hck := treeck_any a n cap ts
  rw [treeE_zero htb] at hck
  have hv1 : ¬ (v : Int) < 0 := by omega
  have hv2 : ¬ (n : Int) ≤ (v : Int) := by omega
  go_enter Tryz.func31, Tryz.ntmps31
  go_wp2_with fail
  refine (hck _ (hts.ext (by repeat (first | exact Ext.refl _ | assumption | refine Ext.drew ?_ | refine Ext.drewN ?_ _ | refine Ext.alloc ?_ _ | refine Ext.trans ?_ (by assumption))))).mono ?_
  rintro e w1 ⟨rfl, hx1⟩
  clear hck
  go_wp2_with fail
  go_loopw [15] (fun i wr => ∃ k : Nat, k ≤ 1 ∧ i = .int .i64 k ∧ Ext w wr) (fun i _ => 1 - (intOf i).toNat)
  case atStart => exact ⟨0, Nat.zero_le _, rfl, hx1⟩
  case round =>
    obtain ⟨k, hk, rfl, hx⟩ := hrel
    by_cases hlt : k < 1
    · obtain ⟨b, off, y, rfl, hs, hb, hc⟩ := (hr.ext hx).get hlt
      have hk0 : k = 0 := by omega
      have hy : y = (v : Int) := by have := hs.out; rw [hk0] at this; simpa using this.symm
      subst hy
      have hc0 := hc 0 _ rfl
      simp only [Nat.mul_one, Nat.add_zero] at hc0
      replace hk0 := Lib.hid hk0
      clear hc
      go_wp2_with fail
      (first | exact ⟨⟨k + 1, by omega, by go_num, hx⟩, (by simp [intOf]; omega)⟩ | (go_roundw; case rel => exact ⟨k + 1, by omega, by go_num, hx⟩; case measure => exact (by simp [intOf]; omega)))
    · go_wp2_with fail
      go_ret
      exact ⟨rfl, hx⟩
/-- The way from the root to a node. -/
def downL (ts : List Nd) (v : Nat) : List Int := ((pathL ts v).map fun x : Nat => (x : Int)).reverse
def RetPath (xs : List Int) (w : World) (e : Ending) (w' : World) : Prop := ∃ (a : Option Addr) (n c : Nat), e = .returned (.tuple #[.slice a n c, .int .i64 0]) ∧ Hid (n = xs.length) ∧ OwnI w.heap.size 3 w' (.slice a n c) xs ∧ Ext w w'
set_option maxHeartbeats 1000000 in
set_option maxRecDepth 20000 in
theorem path_any (ts : List Nd) (a : Option Addr) (n cap : Nat) (v : Nat) (w : World) (hts : RdN w a n cap ts) (htb : treeB ts = true) (hv : v < n) :
    Calls Tryz.prog 17 #[.slice a n cap, .int .i64 (v : Int)] w (RetPath (downL ts v) w) := by
  have hx0 := Ext.alloc1 w (.cells #[.int .i64 (v : Int)] 3)
  have hck := tchk_any ts a n cap v (some ⟨w.heap.size, 0, none⟩) 1 (w.alloc (.cells #[.int .i64 (v : Int)] 3)) (hts.ext hx0) htb hv (one_rd w 3 (v : Int))
  have hn63 : n ≤ 63 := by have := (treeB_len htb).2; have := hts.rd.len; omega
  go_enter Tryz.func17, Tryz.ntmps17
  go_wp2_with fail
  refine hck.mono ?_
  rintro e w2 ⟨rfl, hx2⟩
  have hX2 := hx0.trans hx2
  clear hck
  go_wp2_with fail
  refine (up_any a n cap v w2).mono ?_
  rintro e w3 ⟨rfl, hw3⟩
  have hx3 : Ext w2 w3 := by rw [hw3]; exact (by repeat (first | exact Ext.refl _ | refine Ext.drew ?_ | refine Ext.drewN ?_ _ | refine Ext.alloc ?_ _))
  have kt : Boxed w3 w2.heap.size 22 (.slice a n cap) := by rw [hw3]; exact (Below.heap_alloc _ _ _ (by simp)).trans (World.alloc_heap_new _ _)
  have kv : Boxed w3 (w2.heap.size + 1) 3 (.int .i64 (v : Int)) := by
    rw [hw3]
    have := World.alloc_heap_new (w2.alloc (.cells #[.slice a n cap] 22)) (.cells #[.int .i64 (v : Int)] 3)
    rwa [World.size_alloc] at this
  clear hw3
  have hX3 := hX2.trans hx3
  go_wp2_with fail
  refine (collectN_any 48 #[.pointer (some ⟨w2.heap.size + 1, 0, none⟩), .pointer (some ⟨w2.heap.size, 0, none⟩)] (fun r => r = w2.heap.size + 1 ∨ r = w2.heap.size) (pathL ts v) w2 w3 hx3 (fun r hr => by
    have := kv.lt
    rcases hr with rfl | rfl <;> omega) (enters_of Tryz.func48 (by kernel_rfl) rfl) (Nat.le_trans (pathF_len _ _ _) (by omega))
    (up1_iter ts a n cap w2 _ (hts.ext hX2) htb v hv w2.heap.size (w2.heap.size + 1) (boxed_more kt (Ext.alloc1 _ _)) (boxed_more kv (Ext.alloc1 _ _)) (by omega))).mono ?_
  rintro e w4 ⟨a4, n4, c4, rfl, hn4, ho4, hx4⟩
  have hX4 := hX2.trans hx4
  have hl4 : ((pathL ts v).map fun x : Nat => (x : Int)).length ≤ 60000 := by rw [List.length_map]; exact Nat.le_trans (pathF_len _ _ _) (by omega)
  go_wp2_with fail
  refine (revIV_any hX4 (ho4.base hX3.le) hl4).mono ?_
  rintro e w5 ⟨rfl, hx5, ho5⟩
  go_wp2_with fail
  go_ret2
  exact ⟨_, _, _, rfl, Lib.hid (by unfold downL; rw [List.length_reverse, List.length_map, ← hn4.out]), ho5, hx5⟩
end Go.Proofs.YtadncjpknckaaaaGreatDoor
namespace Go.Proofs.YtadncjpknckaaaaGreatDoor
open Go.RowKit Go.Shelf
/-- A word that may be attested. -/
structure Fm where
  on : Bool
  a : Option Addr
  n : Nat
  cap : Nat
  ws : List Snd
def Fm.enc (f : Fm) : List Value := [.bool f.on, .slice f.a f.n f.cap]
theorem Fm.len (f : Fm) : f.enc.length = 2 := rfl
abbrev Fm.v (f : Fm) : Value := .agg #[.bool f.on, .slice f.a f.n f.cap]
/-- A list of such words. -/
structure RdFs (w : World) (a : Option Addr) (n cap : Nat) (fs : List Fm) : Prop where
  rd : RdK 2 Fm.enc w a n cap fs
  words : ∀ f ∈ fs, RdS w f.a f.n f.cap f.ws
theorem RdFs.ext {w w' : World} {a : Option Addr} {n cap : Nat} {fs : List Fm} (h : RdFs w a n cap fs) (hx : Ext w w') : RdFs w' a n cap fs := ⟨h.rd.ext hx, fun f hf => (h.words f hf).ext hx⟩
theorem RdFs.fm {w : World} {a : Option Addr} {n cap : Nat} {fs : List Fm} (h : RdFs w a n cap fs) {i : Nat} (hi : i < n) :
    ∃ b off f, a = some ⟨b, off, none⟩ ∧ Hid (fs[i]? = some f) ∧ b < w.heap.size ∧ w.cell? ⟨b, off + i * 2, none⟩ = some (.bool f.on) ∧ w.cell? ⟨b, off + i * 2 + 1, none⟩ = some (.slice f.a f.n f.cap) ∧ RdS w f.a f.n f.cap f.ws := by
  obtain ⟨b, off, x, ha, hx, hb, hc⟩ := h.rd.get hi
  exact ⟨b, off, x, ha, hx, hb, by simpa using hc 0 _ rfl, hc 1 _ rfl, h.words x (List.mem_of_getElem? hx.out)⟩
def badF (f : Fm) : Bool := !f.on && decide (0 < f.n)
theorem empty1_any (f : Fm) (w : World) : Calls Tryz.prog 41 #[f.v] w fun e w' => e = .returned (.bool (badF f)) ∧ Ext w w' := by
  obtain ⟨on, a, n, cap, ws⟩ := f
  cases on
  · by_cases h : 0 < n
    · have h' : (0 : Int) < (n : Int) := by omega
      have hr : Hid (badF ⟨false, a, n, cap, ws⟩ = true) := Lib.hid (by simp [badF, h])
      rw [hr.out]
      go_enter Tryz.func41, Tryz.ntmps41
      go_wp2_with fail
      go_ret
      exact ⟨rfl, (by repeat (first | exact Ext.refl _ | assumption | refine Ext.drew ?_ | refine Ext.drewN ?_ _ | refine Ext.alloc ?_ _ | refine Ext.trans ?_ (by assumption)))⟩
    · have h' : ¬ (0 : Int) < (n : Int) := by omega
      have hr : Hid (badF ⟨false, a, n, cap, ws⟩ = false) := Lib.hid (by simp [badF, h])
      rw [hr.out]
      go_enter Tryz.func41, Tryz.ntmps41
      go_wp2_with fail
      go_ret
      exact ⟨rfl, (by repeat (first | exact Ext.refl _ | assumption | refine Ext.drew ?_ | refine Ext.drewN ?_ _ | refine Ext.alloc ?_ _ | refine Ext.trans ?_ (by assumption)))⟩
  · have hr : Hid (badF ⟨true, a, n, cap, ws⟩ = false) := Lib.hid rfl
    rw [hr.out]
    go_enter Tryz.func41, Tryz.ntmps41
    go_wp2_with fail
    go_ret
    exact ⟨rfl, (by repeat (first | exact Ext.refl _ | assumption | refine Ext.drew ?_ | refine Ext.drewN ?_ _ | refine Ext.alloc ?_ _ | refine Ext.trans ?_ (by assumption)))⟩
theorem indexF_any (a : Option Addr) (n cap : Nat) (xs : List Fm) (w : World) (hr : RdFs w a n cap xs) :
    Calls Tryz.prog 59 #[.slice a n cap, .func (.func 41) #[] #[]] w fun e w' => ∃ r : Int, e = .returned (.int .i64 r) ∧ decide (0 ≤ r) = xs.any (fun y => badF y) ∧ Ext w w' := by
  have any_of_at := @any_of_atG Fm
  have any_none := @any_noneG Fm
  have hl := hr.rd.len
  have hmax : n ≤ 9223372036854775807 := by have := hr.rd.le; have := hr.rd.most; unfold maxLen at this; omega
  replace hl := Lib.hid hl
  go_enter Tryz.func59, Tryz.ntmps59
  go_wp2_with fail
  go_loopw [8] (fun i wr => ∃ k : Nat, k ≤ n ∧ i = .int .i64 k ∧ Ext w wr ∧ Hid (∀ (i : Nat) (y : _), i < k → xs[i]? = some y → (!(fun y : Fm => badF y) y) = true)) (fun i _ => n - (intOf i).toNat)
  case atStart => exact ⟨0, Nat.zero_le _, rfl, Ext.refl _, fun i x hi => absurd hi (Nat.not_lt_zero _)⟩
  case round =>
    obtain ⟨k, hk, rfl, hx, hall⟩ := hrel
    by_cases hlt : k < n
    · obtain ⟨b, off, y, rfl, hs, hb, hc0, hc1, _⟩ := (hr.ext hx).fm hlt
      cases hp : (fun y : Fm => badF y) y
      · have hnew := Lib.hid (all_succ (p := fun y => !(fun y : Fm => badF y) y) hall.out hs.out (by show (!(fun y : Fm => badF y) y) = true; rw [hp]; rfl))
        go_wp2_with fail
        refine (cbool (empty1_any y _) hp).mono ?_
        rintro e w1 ⟨rfl, hx1⟩
        clear hp
        go_wp2_with fail
        (first | exact ⟨⟨k + 1, by omega, by go_num, hx.trans hx1, hnew⟩, (by simp [intOf]; omega)⟩ | (go_roundw; case rel => exact ⟨k + 1, by omega, by go_num, hx.trans hx1, hnew⟩; case measure => exact (by simp [intOf]; omega)))
      · have hany := Lib.hid (any_of_at (p := fun y : Fm => badF y) hs.out hp)
        go_wp2_with fail
        refine (cbool (empty1_any y _) hp).mono ?_
        rintro e w1 ⟨rfl, hx1⟩
        clear hp
        go_wp2_with fail
        go_ret
        exact ⟨(k : Int), rfl, by rw [hany.out]; simp, hx.trans hx1⟩
    · go_wp2_with fail
      go_ret
      exact ⟨-1, rfl, by rw [any_none (p := fun y : Fm => badF y) hl.out (fun i y hi => hall.out i y (by omega))]; simp, hx⟩
theorem containsF_any (a : Option Addr) (n cap : Nat) (xs : List Fm) (w : World) (hr : RdFs w a n cap xs) :
    Calls Tryz.prog 40 #[.slice a n cap, .func (.func 41) #[] #[]] w fun e w' => e = .returned (.bool (xs.any fun y => badF y)) ∧ Ext w w' := by
  go_enter Tryz.func40, Tryz.ntmps40
  go_wp2_with fail
  refine (indexF_any a n cap xs _ hr).mono ?_
  rintro e w1 ⟨r, rfl, hd, hx1⟩
  replace hd := Lib.hid hd
  go_wp2_with fail
  go_ret
  exact ⟨ret_bool hd.out, hx1⟩
theorem empty_any (a : Option Addr) (n cap : Nat) (xs : List Fm) (w : World) (hr : RdFs w a n cap xs) :
    Calls Tryz.prog 22 #[.slice a n cap] w fun e w' => e = .returned (.bool (!xs.any fun y => badF y)) ∧ Ext w w' := by
  go_enter Tryz.func22, Tryz.ntmps22
  go_wp2_with fail
  refine (containsF_any a n cap xs _ hr).mono ?_
  rintro e w1 ⟨rfl, hx1⟩
  go_wp2_with fail
  go_ret
  exact ⟨rfl, hx1⟩
def RetEr (b : Bool) (w : World) (e : Ending) (w' : World) : Prop := ∃ err : Int, e = .returned (.int .i64 err) ∧ Hid (err = 0 ↔ b = true) ∧ Ext w w'
set_option maxHeartbeats 1000000 in
set_option maxRecDepth 20000 in
theorem words_any (a : Option Addr) (n cap : Nat) (fs : List Fm) (w : World) (hr : RdFs w a n cap fs) : Calls Tryz.prog 24 #[.slice a n cap] w (RetEr (fs.all fun f => wordOk f.ws) w) := by
  have hl := hr.rd.len
  have hmax : n ≤ 9223372036854775807 := by have := hr.rd.le; have := hr.rd.most; unfold maxLen at this; omega
  replace hl := Lib.hid hl
  go_enter Tryz.func24, Tryz.ntmps24
  go_wp2_with fail
  go_loopw [8] (fun i wr => ∃ k : Nat, k ≤ n ∧ i = .int .i64 k ∧ Ext w wr ∧ Hid (∀ (i : Nat) (y : Fm), i < k → fs[i]? = some y → wordOk y.ws = true)) (fun i _ => n - (intOf i).toNat)
  case atStart => exact ⟨0, Nat.zero_le _, rfl, Ext.refl _, fun i x hi => absurd hi (Nat.not_lt_zero _)⟩
  case round =>
    obtain ⟨k, hk, rfl, hx, hall⟩ := hrel
    by_cases hlt : k < n
    · obtain ⟨b, off, y, rfl, hs, hb, hc0, hc1, hy⟩ := (hr.ext hx).fm hlt
      have hck := wcheck_any y.a y.n y.cap y.ws
      by_cases h0 : checkS y.ws = 0
      · have hnew : Hid (∀ (i : Nat) (z : Fm), i < k + 1 → fs[i]? = some z → wordOk z.ws = true) := Lib.hid fun i z hi hz => by
          rcases Nat.lt_or_ge i k with h | h
          · exact hall.out i z h hz
          · obtain rfl : i = k := by omega
            rw [hs.out] at hz; cases hz; exact checkS_word.1 h0
        rw [h0] at hck
        replace h0 := Lib.hid h0
        go_wp2_with fail
        refine (hck _ (hy.ext (by repeat (first | exact Ext.refl _ | refine Ext.drew ?_ | refine Ext.drewN ?_ _ | refine Ext.alloc ?_ _)))).mono ?_
        rintro e w1 ⟨rfl, hx1⟩
        clear hck
        have hx2 : Ext w w1 := hx.trans (Ext.trans (by repeat (first | exact Ext.refl _ | refine Ext.drew ?_ | refine Ext.drewN ?_ _ | refine Ext.alloc ?_ _)) hx1)
        go_wp2_with fail
        (first | exact ⟨⟨k + 1, by omega, by go_num, hx2, hnew⟩, (by simp [intOf]; omega)⟩ | (go_roundw; case rel => exact ⟨k + 1, by omega, by go_num, hx2, hnew⟩; case measure => exact (by simp [intOf]; omega)))
      · have hno : Hid (¬ (checkS y.ws = 0)) := Lib.hid h0
        have hbad : Hid ((fs.all fun f => wordOk f.ws) = false) := Lib.hid (by
          rw [List.all_eq_false]
          exact ⟨y, List.mem_of_getElem? hs.out, fun h => h0 (checkS_word.2 h)⟩)
        go_wp2_with fail
        refine (hck _ (hy.ext (by repeat (first | exact Ext.refl _ | refine Ext.drew ?_ | refine Ext.drewN ?_ _ | refine Ext.alloc ?_ _)))).mono ?_
        rintro e w1 ⟨rfl, hx1⟩
        clear hck
        have hx2 : Ext w w1 := hx.trans (Ext.trans (by repeat (first | exact Ext.refl _ | refine Ext.drew ?_ | refine Ext.drewN ?_ _ | refine Ext.alloc ?_ _)) hx1)
        go_wp2_with fail
        go_ret
        exact ⟨_, rfl, Lib.hid ⟨fun h => absurd h hno.out, fun h => by rw [hbad.out] at h; cases h⟩, hx2⟩
    · have hok : Hid ((fs.all fun f => wordOk f.ws) = true) := Lib.hid (by
        rw [List.all_eq_true]
        intro f hf
        obtain ⟨i, hi⟩ := List.mem_iff_getElem?.1 hf
        have := (List.getElem?_eq_some_iff.1 hi).1
        have := hl.out
        exact hall.out i f (by omega) hi)
      go_wp2_with fail
      go_ret
      exact ⟨0, rfl, Lib.hid ⟨fun _ => hok.out, fun _ => rfl⟩, hx⟩
/-- Is a name in order? -/
def named1B (s : ByteArray) : Bool := treeB [⟨-1, s⟩]
theorem anamed_any (s : ByteArray) (hs : s.size ≤ maxLen) (w : World) : Calls Tryz.prog 42 #[.string s] w fun e w' => e = .returned (.bool (named1B s)) ∧ Ext w w' := by
  have hx0 := Ext.alloc1 w (.cells #[.int .i64 (-1), .string s] 60)
  have hrd : RdN (w.alloc (.cells #[.int .i64 (-1), .string s] 60)) (some ⟨w.heap.size, 0, none⟩) 1 1 [⟨-1, s⟩] := ⟨rd_lit1 (k := 2) (enc := Nd.enc) w ⟨-1, s⟩ 60, fun x hx => by rw [List.mem_singleton.1 hx]; exact hs⟩
  have hck := treeck_any (some ⟨w.heap.size, 0, none⟩) 1 1 [⟨-1, s⟩] _ hrd
  cases hb : named1B s
  · have hE : treeE [⟨-1, s⟩] = 16 := treeE_not hb
    rw [hE] at hck
    replace hE := Lib.hid hE
    replace hb := Lib.hid hb
    go_enter Tryz.func42, Tryz.ntmps42
    go_wp2_with fail
    refine hck.mono ?_
    rintro e w1 ⟨rfl, hx1⟩
    clear hck
    go_wp2_with fail
    go_ret
    exact ⟨rfl, hx0.trans hx1⟩
  · have hE : treeE [⟨-1, s⟩] = 0 := treeE_zero hb
    rw [hE] at hck
    replace hE := Lib.hid hE
    replace hb := Lib.hid hb
    go_enter Tryz.func42, Tryz.ntmps42
    go_wp2_with fail
    refine hck.mono ?_
    rintro e w1 ⟨rfl, hx1⟩
    clear hck
    go_wp2_with fail
    go_ret
    exact ⟨rfl, hx0.trans hx1⟩
end Go.Proofs.YtadncjpknckaaaaGreatDoor
namespace Go.Proofs.YtadncjpknckaaaaGreatDoor
open Go.RowKit Go.Shelf
/-- An entry: its name and its words, leaf by leaf. -/
structure En where
  name : ByteArray
  a : Option Addr
  n : Nat
  cap : Nat
  fs : List Fm
def En.enc (x : En) : List Value := [.string x.name, .slice x.a x.n x.cap]
structure RdEs (w : World) (a : Option Addr) (n cap : Nat) (es : List En) : Prop where
  rd : RdK 2 En.enc w a n cap es
  words : ∀ x ∈ es, RdFs w x.a x.n x.cap x.fs
  names : ∀ x ∈ es, x.name.size ≤ maxLen
theorem RdEs.ext {w w' : World} {a : Option Addr} {n cap : Nat} {es : List En} (h : RdEs w a n cap es) (hx : Ext w w') : RdEs w' a n cap es := ⟨h.rd.ext hx, fun f hf => (h.words f hf).ext hx, h.names⟩
theorem RdEs.en {w : World} {a : Option Addr} {n cap : Nat} {es : List En} (h : RdEs w a n cap es) {i : Nat} (hi : i < n) :
    ∃ b off x, a = some ⟨b, off, none⟩ ∧ Hid (es[i]? = some x) ∧ b < w.heap.size ∧ w.cell? ⟨b, off + i * 2, none⟩ = some (.string x.name) ∧ w.cell? ⟨b, off + i * 2 + 1, none⟩ = some (.slice x.a x.n x.cap) ∧ RdFs w x.a x.n x.cap x.fs ∧ x.name.size ≤ maxLen := by
  obtain ⟨b, off, x, ha, hx, hb, hc⟩ := h.rd.get hi
  exact ⟨b, off, x, ha, hx, hb, by simpa using hc 0 _ rfl, hc 1 _ rfl, h.words x (List.mem_of_getElem? hx.out), h.names x (List.mem_of_getElem? hx.out)⟩
def en1B (m : Nat) (x : En) : Bool := decide (x.n = m) && !(x.fs.any fun y => badF y)
def entB (m : Nat) (es : List En) : Bool := (es.all fun x => en1B m x) && es.all fun x => named1B x.name
set_option maxHeartbeats 1000000 in
set_option maxRecDepth 20000 in
theorem entries_any (a : Option Addr) (n cap : Nat) (es : List En) (m : Nat) (w : World) (hr : RdEs w a n cap es) : Calls Tryz.prog 23 #[.slice a n cap, .int .i64 (m : Int)] w (RetEr (entB m es) w) := by
  have hl := hr.rd.len
  have hmax : n ≤ 9223372036854775807 := by have := hr.rd.le; have := hr.rd.most; unfold maxLen at this; omega
  replace hl := Lib.hid hl
  go_enter Tryz.func23, Tryz.ntmps23
  go_wp2_with fail
  go_loopw [11] (fun i wr => ∃ k : Nat, k ≤ n ∧ i = .int .i64 k ∧ Ext w wr ∧ Hid (∀ (i : Nat) (y : En), i < k → es[i]? = some y → en1B m y = true)) (fun i _ => n - (intOf i).toNat)
  case atStart => exact ⟨0, Nat.zero_le _, rfl, Ext.refl _, fun i x hi => absurd hi (Nat.not_lt_zero _)⟩
  case round =>
    obtain ⟨k, hk, rfl, hx, hall⟩ := hrel
    by_cases hlt : k < n
    · obtain ⟨b, off, y, rfl, hs, hb, hc0, hc1, hy, hyn⟩ := (hr.ext hx).en hlt
      have hemp := empty_any y.a y.n y.cap y.fs
      by_cases hm : y.n = m
      · cases he : (!y.fs.any fun z => badF z)
        · have hbad : Hid (entB m es = false) := Lib.hid (by
            unfold entB
            have : (es.all fun x => en1B m x) = false := by
              rw [List.all_eq_false]
              exact ⟨y, List.mem_of_getElem? hs.out, by unfold en1B; rw [he]; simp⟩
            rw [this]; rfl)
          rw [he] at hemp
          replace he := Lib.hid he
          subst hm
          go_wp2_with fail
          refine (hemp _ (hy.ext (by repeat (first | exact Ext.refl _ | refine Ext.drew ?_ | refine Ext.drewN ?_ _ | refine Ext.alloc ?_ _)))).mono ?_
          rintro e w1 ⟨rfl, hx1⟩
          clear hemp
          have hx2 : Ext w w1 := hx.trans (Ext.trans (by repeat (first | exact Ext.refl _ | refine Ext.drew ?_ | refine Ext.drewN ?_ _ | refine Ext.alloc ?_ _)) hx1)
          go_wp2_with fail
          go_ret
          exact ⟨2, rfl, Lib.hid ⟨fun h => (by cases h), fun h => (by rw [hbad.out] at h; cases h)⟩, hx2⟩
        · have hnew : Hid (∀ (i : Nat) (z : En), i < k + 1 → es[i]? = some z → en1B m z = true) := Lib.hid fun i z hi hz => by
            rcases Nat.lt_or_ge i k with h | h
            · exact hall.out i z h hz
            · obtain rfl : i = k := by omega
              rw [hs.out] at hz; cases hz; unfold en1B; rw [he, decide_eq_true hm]; rfl
          rw [he] at hemp
          replace he := Lib.hid he
          subst hm
          go_wp2_with fail
          refine (hemp _ (hy.ext (by repeat (first | exact Ext.refl _ | refine Ext.drew ?_ | refine Ext.drewN ?_ _ | refine Ext.alloc ?_ _)))).mono ?_
          rintro e w1 ⟨rfl, hx1⟩
          clear hemp
          have hx2 : Ext w w1 := hx.trans (Ext.trans (by repeat (first | exact Ext.refl _ | refine Ext.drew ?_ | refine Ext.drewN ?_ _ | refine Ext.alloc ?_ _)) hx1)
          go_wp2_with fail
          (first | exact ⟨⟨k + 1, by omega, by go_num, hx2, hnew⟩, (by simp [intOf]; omega)⟩ | (go_roundw; case rel => exact ⟨k + 1, by omega, by go_num, hx2, hnew⟩; case measure => exact (by simp [intOf]; omega)))
      · have hm1 : ¬ ((y.n : Int) = (m : Int)) := by omega
        have hbad : Hid (entB m es = false) := Lib.hid (by
          unfold entB
          have : (es.all fun x => en1B m x) = false := by
            rw [List.all_eq_false]
            exact ⟨y, List.mem_of_getElem? hs.out, by unfold en1B; rw [decide_eq_false hm]; simp⟩
          rw [this]; rfl)
        clear hemp
        go_wp2_with fail
        go_ret
        exact ⟨2, rfl, Lib.hid ⟨fun h => (by cases h), fun h => (by rw [hbad.out] at h; cases h)⟩, hx.trans (by repeat (first | exact Ext.refl _ | refine Ext.drew ?_ | refine Ext.drewN ?_ _ | refine Ext.alloc ?_ _))⟩
    · have hok1 : Hid ((es.all fun x => en1B m x) = true) := Lib.hid (by
        rw [List.all_eq_true]
        intro f hf
        obtain ⟨i, hi⟩ := List.mem_iff_getElem?.1 hf
        have := (List.getElem?_eq_some_iff.1 hi).1
        have := hl.out
        exact hall.out i f (by omega) hi)
      go_wp2_with fail
      generalize wr = wk at *
      go_loopw [29] (fun i wr => ∃ k : Nat, k ≤ n ∧ i = .int .i64 k ∧ Ext w wr ∧ Hid (∀ (i : Nat) (y : En), i < k → es[i]? = some y → named1B y.name = true)) (fun i _ => n - (intOf i).toNat)
      case atStart => exact ⟨0, Nat.zero_le _, rfl, hx, fun i x hi => absurd hi (Nat.not_lt_zero _)⟩
      case round =>
        obtain ⟨j, hj, rfl, hx, hall⟩ := hrel
        by_cases hlt : j < n
        · obtain ⟨b, off, y, rfl, hs, hb, hc0, hc1, hy, hyn⟩ := (hr.ext hx).en hlt
          have hnm := anamed_any y.name hyn
          cases he : named1B y.name
          · have hbad : Hid (entB m es = false) := Lib.hid (by
              unfold entB
              have : (es.all fun x => named1B x.name) = false := by
                rw [List.all_eq_false]
                exact ⟨y, List.mem_of_getElem? hs.out, by rw [he]; simp⟩
              rw [this, Bool.and_false])
            rw [he] at hnm
            replace he := Lib.hid he
            go_wp2_with fail
            refine (hnm _).mono ?_
            rintro e w1 ⟨rfl, hx1⟩
            clear hnm
            have hx2 : Ext w w1 := hx.trans (Ext.trans (by repeat (first | exact Ext.refl _ | refine Ext.drew ?_ | refine Ext.drewN ?_ _ | refine Ext.alloc ?_ _)) hx1)
            go_wp2_with fail
            go_ret
            exact ⟨15, rfl, Lib.hid ⟨fun h => (by cases h), fun h => (by rw [hbad.out] at h; cases h)⟩, hx2⟩
          · have hnew : Hid (∀ (i : Nat) (z : En), i < j + 1 → es[i]? = some z → named1B z.name = true) := Lib.hid fun i z hi hz => by
              rcases Nat.lt_or_ge i j with h | h
              · exact hall.out i z h hz
              · obtain rfl : i = j := by omega
                rw [hs.out] at hz; cases hz; exact he
            rw [he] at hnm
            replace he := Lib.hid he
            go_wp2_with fail
            refine (hnm _).mono ?_
            rintro e w1 ⟨rfl, hx1⟩
            clear hnm
            have hx2 : Ext w w1 := hx.trans (Ext.trans (by repeat (first | exact Ext.refl _ | refine Ext.drew ?_ | refine Ext.drewN ?_ _ | refine Ext.alloc ?_ _)) hx1)
            go_wp2_with fail
            (first | exact ⟨⟨j + 1, by omega, by go_num, hx2, hnew⟩, (by simp [intOf]; omega)⟩ | (go_roundw; case rel => exact ⟨j + 1, by omega, by go_num, hx2, hnew⟩; case measure => exact (by simp [intOf]; omega)))
        · have hok : Hid (entB m es = true) := Lib.hid (by
            unfold entB
            rw [hok1.out, Bool.true_and, List.all_eq_true]
            intro f hf
            obtain ⟨i, hi⟩ := List.mem_iff_getElem?.1 hf
            have := (List.getElem?_eq_some_iff.1 hi).1
            have := hl.out
            exact hall.out i f (by omega) hi)
          go_wp2_with fail
          go_ret
          exact ⟨0, rfl, Lib.hid ⟨fun _ => hok.out, fun _ => rfl⟩, hx⟩
end Go.Proofs.YtadncjpknckaaaaGreatDoor
namespace Go.Proofs.YtadncjpknckaaaaGreatDoor
open Go.RowKit Go.Shelf
/-- A list of places of laws. -/
structure Pl where
  a : Option Addr
  n : Nat
  cap : Nat
  xs : List Int
def Pl.enc (p : Pl) : List Value := [.slice p.a p.n p.cap]
structure RdPls (w : World) (a : Option Addr) (n cap : Nat) (ps : List Pl) : Prop where
  rd : RdK 1 Pl.enc w a n cap ps
  rows : ∀ p ∈ ps, RdI w p.a p.n p.cap p.xs
theorem RdPls.ext {w w' : World} {a : Option Addr} {n cap : Nat} {ps : List Pl} (h : RdPls w a n cap ps) (hx : Ext w w') : RdPls w' a n cap ps := ⟨h.rd.ext hx, fun p hp => (h.rows p hp).ext hx⟩
theorem RdPls.pl {w : World} {a : Option Addr} {n cap : Nat} {ps : List Pl} (h : RdPls w a n cap ps) {i : Nat} (hi : i < n) :
    ∃ b off p, a = some ⟨b, off, none⟩ ∧ Hid (ps[i]? = some p) ∧ b < w.heap.size ∧ w.cell? ⟨b, off + i, none⟩ = some (.slice p.a p.n p.cap) ∧ RdI w p.a p.n p.cap p.xs := by
  obtain ⟨b, off, x, ha, hx, hb, hc⟩ := h.rd.get hi
  exact ⟨b, off, x, ha, hx, hb, by simpa using hc 0 _ rfl, h.rows x (List.mem_of_getElem? hx.out)⟩
/-- A history as it lies in memory. -/
structure HH where
  ta : Option Addr
  tn : Nat
  tc : Nat
  ts : List Nd
  la : Option Addr
  ln : Nat
  lc : Nat
  ls : List HL
  pa : Option Addr
  pn : Nat
  pc : Nat
  ps : List Pl
abbrev HH.v (h : HH) : Value := .agg #[.slice h.ta h.tn h.tc, .slice h.la h.ln h.lc, .slice h.pa h.pn h.pc]
structure RdH (w : World) (h : HH) : Prop where
  tree : RdN w h.ta h.tn h.tc h.ts
  laws : RdLws w h.la h.ln h.lc h.ls
  lists : RdPls w h.pa h.pn h.pc h.ps
theorem RdH.ext {w w' : World} {h : HH} (hr : RdH w h) (hx : Ext w w') : RdH w' h := ⟨hr.tree.ext hx, hr.laws.ext hx, hr.lists.ext hx⟩
end Go.Proofs.YtadncjpknckaaaaGreatDoor
