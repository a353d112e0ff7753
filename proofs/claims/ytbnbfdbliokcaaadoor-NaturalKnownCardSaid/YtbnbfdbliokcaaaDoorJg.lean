/-
  Meet and the common values of the reference.
-/
import Derived.Test.YtbnbfdbliokcaaaDoorJf
namespace Go.Proofs.YtbnbfdbliokcaaaDoor
open Go.RowKit
theorem SndB.setx {w0 w : World} {B : Nat} (hx : Ext w0 w) (hB : w0.heap.size ≤ B) (t : Snd) : Ext w0 ((w.setCell ⟨B, 0, none⟩ (.int .u32 t.p.toNat)).setCell ⟨B, 1, none⟩ (.int .u32 t.m.toNat)) :=
  (hx.setCell (p := ⟨B, 0, none⟩) hB _).setCell (p := ⟨B, 1, none⟩) hB _
theorem SndB.offB {w : World} {B C : Nat} {s : Snd} (h : SndB w B s) (hne : B ≠ C) (t : Snd) : SndB ((w.setCell ⟨C, 0, none⟩ (.int .u32 t.p.toNat)).setCell ⟨C, 1, none⟩ (.int .u32 t.m.toNat)) B s := by
  have h1 : ∀ (W : World) (i : Nat) (v : Value), (W.setCell ⟨C, i, none⟩ v).heap[B]? = W.heap[B]? := fun W i v => by
    show (W.heap.modify C _)[B]? = _
    rw [Array.getElem?_modify, if_neg (fun e => hne e.symm)]
  exact ((h1 _ _ _).trans (h1 _ _ _)).trans h
theorem rmTo_succ (a b : Snd) (k : Nat) : rmTo a b (k + 1) = if getS a k = getS b k then putS (rmTo a b k) k (getS a k) else rmTo a b k := rfl
set_option maxHeartbeats 1000000 in
theorem rmeet_any (a b : Snd) (w : World) (ha : a.ok = true) (hb : b.ok = true) :
    Calls Tryd.prog 74 #[sndV a, sndV b] w fun e w' => e = .returned (sndV (meetS a b)) ∧ Ext w w' := by
  have hfull := rmTo_all ha hb
  have q0 : SndB ((((w.alloc (.cells #[.int .u32 a.p.toNat, .int .u32 a.m.toNat] 27)).alloc (.cells #[.int .u32 b.p.toNat, .int .u32 b.m.toNat] 27)).alloc (.cells #[.int .u32 0, .int .u32 0] 27)).alloc (.cells #[.int .u32 0, .int .u32 0] 27)) w.heap.size a := (((SndB.new w a).ext (Ext.alloc1 _ _)).ext (Ext.alloc1 _ _)).ext (Ext.alloc1 _ _)
  have q1 : SndB ((((w.alloc (.cells #[.int .u32 a.p.toNat, .int .u32 a.m.toNat] 27)).alloc (.cells #[.int .u32 b.p.toNat, .int .u32 b.m.toNat] 27)).alloc (.cells #[.int .u32 0, .int .u32 0] 27)).alloc (.cells #[.int .u32 0, .int .u32 0] 27)) (w.heap.size + 1) b := by
    have := ((SndB.new (w.alloc (.cells #[.int .u32 a.p.toNat, .int .u32 a.m.toNat] 27)) b).ext (Ext.alloc1 _ (.cells #[.int .u32 0, .int .u32 0] 27))).ext (Ext.alloc1 _ (.cells #[.int .u32 0, .int .u32 0] 27))
    rwa [World.size_alloc] at this
  have q2 : SndB ((((w.alloc (.cells #[.int .u32 a.p.toNat, .int .u32 a.m.toNat] 27)).alloc (.cells #[.int .u32 b.p.toNat, .int .u32 b.m.toNat] 27)).alloc (.cells #[.int .u32 0, .int .u32 0] 27)).alloc (.cells #[.int .u32 0, .int .u32 0] 27)) (w.heap.size + 1 + 1) ⟨0#32, 0#32⟩ := by
    have := (SndB.zero ((w.alloc (.cells #[.int .u32 a.p.toNat, .int .u32 a.m.toNat] 27)).alloc (.cells #[.int .u32 b.p.toNat, .int .u32 b.m.toNat] 27))).ext (Ext.alloc1 _ (.cells #[.int .u32 0, .int .u32 0] 27))
    rwa [World.size_alloc, World.size_alloc] at this
  have q3 : SndB ((((w.alloc (.cells #[.int .u32 a.p.toNat, .int .u32 a.m.toNat] 27)).alloc (.cells #[.int .u32 b.p.toNat, .int .u32 b.m.toNat] 27)).alloc (.cells #[.int .u32 0, .int .u32 0] 27)).alloc (.cells #[.int .u32 0, .int .u32 0] 27)) (w.heap.size + 1 + 1 + 1) ⟨0#32, 0#32⟩ := by
    have := SndB.zero (((w.alloc (.cells #[.int .u32 a.p.toNat, .int .u32 a.m.toNat] 27)).alloc (.cells #[.int .u32 b.p.toNat, .int .u32 b.m.toNat] 27)).alloc (.cells #[.int .u32 0, .int .u32 0] 27))
    rwa [World.size_alloc, World.size_alloc, World.size_alloc] at this
  have hxB : Ext w ((((w.alloc (.cells #[.int .u32 a.p.toNat, .int .u32 a.m.toNat] 27)).alloc (.cells #[.int .u32 b.p.toNat, .int .u32 b.m.toNat] 27)).alloc (.cells #[.int .u32 0, .int .u32 0] 27)).alloc (.cells #[.int .u32 0, .int .u32 0] 27)) := (by repeat (first | exact Ext.refl _ | refine Ext.drew ?_ | refine Ext.drewN ?_ _ | refine Ext.alloc ?_ _))
  have hszW : ((((w.alloc (.cells #[.int .u32 a.p.toNat, .int .u32 a.m.toNat] 27)).alloc (.cells #[.int .u32 b.p.toNat, .int .u32 b.m.toNat] 27)).alloc (.cells #[.int .u32 0, .int .u32 0] 27)).alloc (.cells #[.int .u32 0, .int .u32 0] 27)).heap.size = w.heap.size + 1 + 1 + 1 + 1 := by rw [World.size_alloc, World.size_alloc, World.size_alloc, World.size_alloc]
  replace hszW := Lib.hid hszW
  replace hfull := Lib.hid hfull
  go_enter Tryd.func74, Tryd.ntmps74
  go_wp2_with fail
  generalize ((((w.alloc (.cells #[.int .u32 a.p.toNat, .int .u32 a.m.toNat] 27)).alloc (.cells #[.int .u32 b.p.toNat, .int .u32 b.m.toNat] 27)).alloc (.cells #[.int .u32 0, .int .u32 0] 27)).alloc (.cells #[.int .u32 0, .int .u32 0] 27)) = wB at *
  have hge : w.heap.size ≤ w.heap.size + 1 + 1 + 1 := by omega
  have hge2 : w.heap.size ≤ w.heap.size + 1 + 1 := by omega
  go_loopw [6] (fun i wr => ∃ k : Nat, k ≤ 24 ∧ i = .int .i64 k ∧ SndB wr w.heap.size a ∧ SndB wr (w.heap.size + 1) b ∧ SndB wr (w.heap.size + 1 + 1) ⟨0#32, 0#32⟩ ∧ SndB wr (w.heap.size + 1 + 1 + 1) (rmTo a b k) ∧ Ext w wr) (fun i _ => 24 - (intOf i).toNat)
  case atStart => exact ⟨0, Nat.zero_le _, rfl, q0, q1, q2, q3, hxB⟩
  case round =>
    clear q0 q1 q2 q3
    obtain ⟨k, hk, rfl, q0, q1, q2, q3, hx⟩ := hrel
    by_cases hlt : k < 24
    · have hki : (k : Int) < 24 := by omega
      obtain ⟨c0, c1⟩ := q0.cells
      obtain ⟨c2, c3⟩ := q1.cells
      obtain ⟨c4, c5⟩ := q3.cells
      have r0 := fun z : ExtOf wr => z.cell c0
      have r1 := fun z : ExtOf wr => z.cell c1
      have r2 := fun z : ExtOf wr => z.cell c2
      have r3 := fun z : ExtOf wr => z.cell c3
      have hga := fun W => getV_any a k ha hlt W
      have hgb := fun W => getV_any b k hb hlt W
      have hrg := getS_range a k
      have hsu := rmTo_succ a b k
      by_cases he : getS a k = getS b k
      · have hput := fun W => put_any (rmTo a b k) k (getS a k) W hlt hrg
        rw [if_pos he] at hsu
        rw [← he] at hgb
        clear hrg he
        generalize getS a k = A at *
        have hdA : (A == A) = true := by simp
        replace hsu := Lib.hid hsu
        go_wp2_with fail
        (refine wp_region_qx (by kernel_rfl) (by kernel_rfl) ?_
         repeat (go_big_quiet_step ((first | (go_at_call_of 64 a; exact calls_ext (hga _)) | (go_at_call_of 64 b; exact calls_ext (hgb _)))))
         refine wpQuiet_nil ?_
         intro wq hw'
         have hxq := ext_of_ex hw'
         clear hw')
        have q0 := q0.ext hxq
        have q1 := q1.ext hxq
        have q2 := q2.ext hxq
        have q3 := q3.ext hxq
        have hx := hx.trans hxq
        clear r0 r1 r2 r3 c0 c1 c2 c3 c4 c5
        obtain ⟨c0, c1⟩ := q0.cells
        obtain ⟨c4, c5⟩ := q3.cells
        have r0 := fun z : ExtOf wq => z.cell c0
        have r1 := fun z : ExtOf wq => z.cell c1
        have r2 := fun z : ExtOf wq => z.cell c4
        have r3 := fun z : ExtOf wq => z.cell c5
        clear hxq
        go_wp2_with fail
        refine wp_region_qxt 6 (by kernel_rfl) (by kernel_rfl) ?_
        simp only [List.take_succ_cons, List.take_zero, List.drop_succ_cons, List.drop_zero]
        repeat (go_big_quiet_step ((first | (go_at_call 64; exact calls_ext (hga _)) | (go_at_call 80; exact calls_ext (hput _)))))
        refine wpQuiet_nil ?_
        intro wt hw'
        have hxt := ext_of_ex hw'
        clear hw' r0 r1 r2 r3 c0 c1 c4 c5
        have q0 := q0.ext hxt
        have q1 := q1.ext hxt
        have q2 := q2.ext hxt
        have q3 := q3.ext hxt
        have hx := hx.trans hxt
        obtain ⟨c4, c5⟩ := q3.cells
        obtain ⟨f0, f1⟩ := q3.frz
        have hfin := q3.set (rmTo a b (k + 1))
        rw [← hsu.out] at *
        have hx' := SndB.setx (B := w.heap.size + 1 + 1 + 1) hx hge (rmTo a b (k + 1))
        have l0 := q0.lt
        have l1 := q1.lt
        have l2 := q2.lt
        have l3 := q3.lt
        have q0 := q0.offB (C := w.heap.size + 1 + 1 + 1) (by omega) (rmTo a b (k + 1))
        have q1 := q1.offB (C := w.heap.size + 1 + 1 + 1) (by omega) (rmTo a b (k + 1))
        have q2 := q2.offB (C := w.heap.size + 1 + 1 + 1) (by omega) (rmTo a b (k + 1))
        clear hput hga hgb q3 hsu
        generalize hN : rmTo a b (k + 1) = N at *
        replace hN := Lib.hid hN
        go_wp2_with fail
        (first | exact ⟨⟨k + 1, by omega, by go_num, q0, q1, q2, by rw [hN.out]; exact hfin, hx'⟩, (by simp [intOf]; omega)⟩ | (go_roundw; case rel => exact ⟨k + 1, by omega, by go_num, q0, q1, q2, by rw [hN.out]; exact hfin, hx'⟩; case measure => exact (by simp [intOf]; omega)))
      · have hd : (getS a k == getS b k) = false := by simpa using he
        rw [if_neg he] at hsu
        clear hrg
        replace he := Lib.hid he
        generalize getS a k = A at *
        generalize getS b k = B at *
        replace hsu := Lib.hid hsu
        go_wp2_with fail
        (refine wp_region_qx (by kernel_rfl) (by kernel_rfl) ?_
         repeat (go_big_quiet_step ((first | (go_at_call_of 64 a; exact calls_ext (hga _)) | (go_at_call_of 64 b; exact calls_ext (hgb _)))))
         refine wpQuiet_nil ?_
         intro wq hw'
         have hxq := ext_of_ex hw'
         clear hw')
        have q0 := q0.ext hxq
        have q1 := q1.ext hxq
        have q2 := q2.ext hxq
        have q3 := q3.ext hxq
        have hx := hx.trans hxq
        clear r0 r1 r2 r3 c0 c1 c2 c3 c4 c5 hga hgb
        rw [← hsu.out] at q3
        go_wp2_with fail
        (first | exact ⟨⟨k + 1, by omega, by go_num, q0, q1, q2, q3, hx⟩, (by simp [intOf]; omega)⟩ | (go_roundw; case rel => exact ⟨k + 1, by omega, by go_num, q0, q1, q2, q3, hx⟩; case measure => exact (by simp [intOf]; omega)))
    · have hk24 : k = 24 := by omega
      subst hk24
      rw [hfull.out] at q3
      have l2 := q2.lt
      have l3 := q3.lt
      obtain ⟨c4, c5⟩ := q3.cells
      obtain ⟨c6, c7⟩ := q2.cells
      obtain ⟨f0, f1⟩ := q2.frz
      have hfin := q2.set (meetS a b)
      have hx' := SndB.setx (B := w.heap.size + 1 + 1) hx hge2 (meetS a b)
      clear q0 q1 q2 q3 hfull
      generalize hM : meetS a b = M at *
      replace hM := Lib.hid hM
      go_wp2_with fail
      exact bodyPost_ret (ret_snd rfl _ _ (w.heap.size + 1 + 1) _ rfl hfin) rfl ⟨by first | rfl | (rw [hM.out]), hx'⟩
/-! ### The common values -/
theorem comS_take {xs : List Snd} {k : Nat} {x : Snd} (hk : 0 < k) (h : xs[k]? = some x) : comS (xs.take (k + 1)) = meetS (comS (xs.take k)) x := by
  rw [take_succ_at h, comS_snoc]
  intro e
  have h2 := congrArg List.length e
  have h1 := (List.getElem?_eq_some_iff.1 h).1
  rw [List.length_take, List.length_nil] at h2; omega
theorem comS_take_ok {xs : List Snd} (hall : ∀ x ∈ xs, x.ok = true) {k : Nat} (hk : 0 < k) (hl : 0 < xs.length) : (comS (xs.take k)).ok = true := by
  refine comS_ok (fun e => ?_) fun x hx => hall x (List.mem_of_mem_take hx)
  have h2 := congrArg List.length e
  rw [List.length_take, List.length_nil] at h2; omega
theorem comS_take_one {xs : List Snd} {x : Snd} (h : xs[0]? = some x) : comS (xs.take 1) = x := by
  rw [take_succ_at h]; rfl
set_option maxHeartbeats 1000000 in
theorem rcommon_any (a : Option Addr) (n cap : Nat) (xs : List Snd) (w : World) (hr : RdS w a n cap xs) (hn : 0 < n) (hall : ∀ x ∈ xs, x.ok = true) :
    Calls Tryd.prog 52 #[.slice a n cap] w fun e w' => e = .returned (sndV (comS xs)) ∧ Ext w w' := by
  have hl := hr.len
  have hmax : n ≤ 9223372036854775807 := by have := hr.le; have := hr.most; unfold maxLen at this; omega
  obtain ⟨b0, off, s0, rfl, hs0, hb0, p0, p1⟩ := hr.snd hn
  have hone := comS_take_one hs0.out
  have hsok := hall s0 (List.mem_of_getElem? hs0.out)
  have hcok := fun k (hk : 0 < k) => comS_take_ok hall hk (by omega)
  have hz0 : 0 * 2 = 0 := rfl
  rw [hz0, Nat.add_zero] at p0 p1
  have q0 : SndB ((w.alloc (.cells #[.int .u32 0, .int .u32 0] 27)).alloc (.cells #[.int .u32 s0.p.toNat, .int .u32 s0.m.toNat] 27)) w.heap.size ⟨0#32, 0#32⟩ := (SndB.zero w).ext (Ext.alloc1 _ _)
  have q1 : SndB ((w.alloc (.cells #[.int .u32 0, .int .u32 0] 27)).alloc (.cells #[.int .u32 s0.p.toNat, .int .u32 s0.m.toNat] 27)) (w.heap.size + 1) s0 := by
    have := SndB.new (w.alloc (.cells #[.int .u32 0, .int .u32 0] 27)) s0
    rwa [World.size_alloc] at this
  have hxB : Ext w ((w.alloc (.cells #[.int .u32 0, .int .u32 0] 27)).alloc (.cells #[.int .u32 s0.p.toNat, .int .u32 s0.m.toNat] 27)) := (by repeat (first | exact Ext.refl _ | refine Ext.drew ?_ | refine Ext.drewN ?_ _ | refine Ext.alloc ?_ _))
  replace q1 : SndB ((w.alloc (.cells #[.int .u32 0, .int .u32 0] 27)).alloc (.cells #[.int .u32 s0.p.toNat, .int .u32 s0.m.toNat] 27)) (w.heap.size + 1) (comS (xs.take 1)) := by
    rw [hone]; exact q1
  have hge : w.heap.size ≤ w.heap.size + 1 := by omega
  replace hl := Lib.hid hl
  replace hone := Lib.hid hone
  replace hs0 := Lib.hid hs0.out
  go_enter Tryd.func52, Tryd.ntmps52
  go_wp2_with fail
  generalize ((w.alloc (.cells #[.int .u32 0, .int .u32 0] 27)).alloc (.cells #[.int .u32 s0.p.toNat, .int .u32 s0.m.toNat] 27)) = wB at *
  go_loopw [4] (fun i wr => ∃ k : Nat, 1 ≤ k ∧ k ≤ n ∧ i = .int .i64 k ∧ SndB wr w.heap.size ⟨0#32, 0#32⟩ ∧ SndB wr (w.heap.size + 1) (comS (xs.take k)) ∧ Ext w wr) (fun i _ => n - (intOf i).toNat)
  case atStart => exact ⟨1, Nat.le_refl _, hn, rfl, q0, q1, hxB⟩
  case round =>
    clear q0 q1 p0 p1
    obtain ⟨k, hk1, hk, rfl, q0, q1, hx⟩ := hrel
    have hko := hcok k hk1
    by_cases hlt : k < n
    · have hki : (k : Int) < (n : Int) := by omega
      obtain ⟨b, off2, s, heq, hs, hb, p0, p1⟩ := (hr.ext hx).snd hlt
      cases heq
      have hsu := comS_take hk1 hs.out
      have hso := hall s (List.mem_of_getElem? hs.out)
      obtain ⟨c4, c5⟩ := q1.cells
      have r0 := fun z : ExtOf wr => z.cell p0
      have r1 := fun z : ExtOf wr => z.cell p1
      have r2 := fun z : ExtOf wr => z.cell c4
      have r3 := fun z : ExtOf wr => z.cell c5
      have hcall := fun W => rmeet_any (comS (xs.take k)) s W hko hso
      replace hs := Lib.hid hs.out
      rw [← hsu] at hcall
      generalize comS (xs.take k) = C at *
      generalize hD : comS (xs.take (k + 1)) = D at *
      replace hsu := Lib.hid hsu
      replace hD := Lib.hid hD
      go_wp2_with fail
      (refine wp_region_qxt 6 (by kernel_rfl) (by kernel_rfl) ?_
       simp only [List.take_succ_cons, List.take_zero, List.drop_succ_cons, List.drop_zero]
       repeat (go_big_quiet_step ((go_at_call 74; exact calls_ext (hcall _))))
       refine wpQuiet_nil ?_
       intro wq hw'
       have hxq := ext_of_ex hw'
       clear hw')
      clear r0 r1 r2 r3 c4 c5 hcall
      have q0 := q0.ext hxq
      have q1 := q1.ext hxq
      have hx := hx.trans hxq
      obtain ⟨c4, c5⟩ := q1.cells
      obtain ⟨f0, f1⟩ := q1.frz
      have hfin := q1.set D
      have hx' := SndB.setx (B := w.heap.size + 1) hx hge D
      have q0 := q0.offB (C := w.heap.size + 1) (by omega) D
      clear q1
      go_wp2_with fail
      (first | exact ⟨⟨k + 1, by omega, by omega, by go_num, q0, by rw [hD.out]; exact hfin, hx'⟩, (by simp [intOf]; omega)⟩ | (go_roundw; case rel => exact ⟨k + 1, by omega, by omega, by go_num, q0, by rw [hD.out]; exact hfin, hx'⟩; case measure => exact (by simp [intOf]; omega)))
    · have hkn : k = n := by omega
      have hfull : xs.take k = xs := List.take_of_length_le (by rw [hl.out]; omega)
      rw [hfull] at q1
      clear hfull hkn
      obtain ⟨c4, c5⟩ := q1.cells
      obtain ⟨c6, c7⟩ := q0.cells
      obtain ⟨f0, f1⟩ := q0.frz
      have l0 := q0.lt
      have l1 := q1.lt
      have hfin := q0.set (comS xs)
      have hx' := SndB.setx (B := w.heap.size) hx (Nat.le_refl _) (comS xs)
      clear q0 q1
      generalize hM : comS xs = M at *
      replace hM := Lib.hid hM
      go_wp2_with fail
      exact bodyPost_ret (ret_snd rfl _ _ w.heap.size _ rfl hfin) rfl ⟨by first | rfl | (rw [hM.out]), hx'⟩
end Go.Proofs.YtbnbfdbliokcaaaDoor
