/-
  made, States, Accepts, Not: the walks.
-/
import Derived.Test.YtilkemdecenibaaV8
namespace Go.Proofs.Ytilkemdecenibaa
open Go.RowKit Go.Maps
def Au.madeB (A : Au) : Bool := decide (0 < A.next.length)
theorem made_any (A : Au) (w : World) (b : Nat) (h : AuAt w b A) : Calls Try.prog 59 #[.pointer (some ⟨b, 0, none⟩)] w fun e w' => e = .returned (.bool A.madeB) ∧ Ext w w' := by
  obtain ⟨sa, sc, na, nc, fa, fc, hbox, hS, hX, hF⟩ := h
  obtain ⟨n, hn⟩ : ∃ n, A.next.length = n := ⟨_, rfl⟩
  rw [hn] at hbox
  have q1 : w.cell? ⟨b, 1, none⟩ = some (.slice na n nc) := by simp [World.cell?, hbox]
  have hB : A.madeB = decide (0 < n) := by unfold Au.madeB; rw [hn]
  rw [hB]
  replace hn := Lib.hid hn
  replace hB := Lib.hid hB
  clear hbox hS hX hF
  go_enter Try.func59, Try.ntmps59
  go_wp2_with fail
  go_ret
  exact ⟨rfl, Ext.refl _⟩
theorem made_nil (w : World) : Calls Try.prog 59 #[.pointer none] w fun e w' => e = .returned (.bool false) ∧ Ext w w' := by
  go_enter Try.func59, Try.ntmps59
  go_wp2_with fail
  go_ret
  exact ⟨rfl, Ext.refl _⟩
theorem states_any (A : Au) (w : World) (b : Nat) (h : AuAt w b A) : Calls Try.prog 19 #[.pointer (some ⟨b, 0, none⟩)] w fun e w' => e = .returned (.int .i64 (A.next.length : Int)) ∧ Ext w w' := by
  have hm := made_any A w b h
  obtain ⟨sa, sc, na, nc, fa, fc, hbox, hS, hX, hF⟩ := h
  obtain ⟨n, hn⟩ : ∃ n, A.next.length = n := ⟨_, rfl⟩
  rw [hn] at hbox ⊢
  have q1 : w.cell? ⟨b, 1, none⟩ = some (.slice na n nc) := by simp [World.cell?, hbox]
  have hB : A.madeB = decide (0 < n) := by unfold Au.madeB; rw [hn]
  rw [hB] at hm
  replace hn := Lib.hid hn
  replace hB := Lib.hid hB
  clear hbox hS hX hF
  cases hd : decide (0 < n)
  · have h0 : (0 : Int) = (n : Int) := by simp at hd; omega
    replace h0 := Lib.hid h0
    go_enter Try.func19, Try.ntmps19
    go_wp2_with fail
    refine (cbool hm hd).mono ?_
    rintro e w1 ⟨rfl, hx1⟩
    clear hd
    go_wp2_with fail
    go_ret
    exact ⟨ret_int h0.out, hx1⟩
  · go_enter Try.func19, Try.ntmps19
    go_wp2_with fail
    refine (cbool hm hd).mono ?_
    rintro e w1 ⟨rfl, hx1⟩
    replace hd := Lib.hid hd
    replace q1 := hx1.cellv q1
    go_wp2_with fail
    go_ret
    exact ⟨rfl, hx1⟩
theorem states_nil (w : World) : Calls Try.prog 19 #[.pointer none] w fun e w' => e = .returned (.int .i64 0) ∧ Ext w w' := by
  go_enter Try.func19, Try.ntmps19
  go_wp2_with fail
  refine (made_nil w).mono ?_
  rintro e w1 ⟨rfl, hx1⟩
  go_wp2_with fail
  go_ret
  exact ⟨rfl, hx1⟩
/-! ### Accepts -/
def runA (A : Au) : List Snd → Nat → Option Nat
  | [], s => some s
  | x :: l, s => if x ∈ A.snd then runA A l ((A.next.getD s []).getD (A.snd.idxOf x) 0) else none
def accM (A : Au) (u : List Snd) : Bool := A.madeB && decide (u.length ≤ 32) && match runA A u 0 with
  | some s => A.fin.getD s false
  | none => false
theorem runA_app (A : Au) : ∀ (l m : List Snd) (s : Nat), runA A (l ++ m) s = (runA A l s).bind fun t => runA A m t
  | [], m, s => rfl
  | x :: l, m, s => by
    simp only [List.cons_append, runA]
    split
    · exact runA_app A l m _
    · rfl
theorem runA_succ (A : Au) {u : List Snd} {k : Nat} {x : Snd} (h : u[k]? = some x) : runA A (u.take (k + 1)) 0 = (runA A (u.take k) 0).bind fun t => runA A [x] t := by rw [take_succ_at h, runA_app]
theorem runA_fail (A : Au) {u : List Snd} {k : Nat} (h : runA A (u.take k) 0 = none) : runA A u 0 = none := by
  have := runA_app A (u.take k) (u.drop k) 0
  rw [List.take_append_drop, h] at this
  exact this
set_option maxHeartbeats 2000000 in
theorem accepts_any (A : Au) (hok : A.okB = true) (w : World) (b : Nat) (h : AuAt w b A) (ua : Option Addr) (m uc : Nat) (u : List Snd) (hu : RdS w ua m uc u) :
    Calls Try.prog 21 #[.pointer (some ⟨b, 0, none⟩), .slice ua m uc] w fun e w' => e = .returned (.bool (accM A u)) ∧ Ext w w' := by
  have hm := made_any A w b h
  obtain ⟨R, hR⟩ : ∃ R, R = accM A u := ⟨_, rfl⟩
  rw [← hR]
  unfold accM at hR
  obtain ⟨hs8, hfl, hrow⟩ := Au.ok_at hok
  obtain ⟨sa, sc, na, nc, fa, fc, hbox, hS, hX, hF⟩ := h
  have hul := hu.len
  have humost := hu.most
  have hule := hu.le
  unfold maxLen at humost
  rw [hul] at hR
  obtain ⟨N, hN⟩ : ∃ N, A.next.length = N := ⟨_, rfl⟩
  rw [hfl, hN] at hbox hF
  rw [hN] at hX hrow
  obtain ⟨n, hn⟩ : ∃ n, A.snd.length = n := ⟨_, rfl⟩
  rw [hn] at hbox hS hrow hs8
  have hB : A.madeB = decide (0 < N) := by unfold Au.madeB; rw [hN]
  rw [hB] at hm hR
  have q0 : w.cell? ⟨b, 0, none⟩ = some (.slice sa n sc) := by simp [World.cell?, hbox]
  have q1 : w.cell? ⟨b, 1, none⟩ = some (.slice na N nc) := by simp [World.cell?, hbox]
  have q2 : w.cell? ⟨b, 2, none⟩ = some (.slice fa N fc) := by simp [World.cell?, hbox]
  have hBl : b < w.heap.size := cell_lt q0
  replace hul := Lib.hid hul
  replace hN := Lib.hid hN
  replace hn := Lib.hid hn
  replace hB := Lib.hid hB
  replace hfl := Lib.hid hfl
  replace hrow := Lib.hid hrow
  clear hbox
  cases hd : decide (0 < N)
  · rw [hd] at hR
    replace hR := Lib.hid hR
    go_enter Try.func21, Try.ntmps21
    go_wp2_with fail
    refine (cbool hm hd).mono ?_
    rintro e w1 ⟨rfl, hx1⟩
    clear hd
    go_wp2_with fail
    go_ret
    exact ⟨ret_bool (by rw [hR.out]; rfl), hx1⟩
  · rw [hd] at hR
    have hN0 : 0 < N := by simpa using hd
    obtain ⟨xb, xo, rfl, _, _⟩ := hX.pos hN0
    obtain ⟨fb, fo, rfl, _, _⟩ := hF.pos hN0
    by_cases h32 : m ≤ 32
    · have d32 : decide ((32 : Int) < (m : Int)) = false := by simp; omega
      rw [show decide (m ≤ 32) = true by simpa using h32] at hR
      simp only [Bool.true_and] at hR
      replace hR := Lib.hid hR
      go_enter Try.func21, Try.ntmps21
      go_wp2_with fail
      refine (cbool hm hd).mono ?_
      rintro e w1 ⟨rfl, hx1⟩
      replace hd := Lib.hid hd
      go_wp2_with fail
      go_loopw [5, 19] (fun sv iv wr => ∃ (i s : Nat), i ≤ m ∧ iv = .int .i64 i ∧ sv = .int .i64 s ∧ Hid (runA A (u.take i) 0 = some s) ∧ s < N ∧ Ext w wr) (fun _ iv _ => m - (intOf iv).toNat)
      case atStart => exact ⟨0, 0, Nat.zero_le _, rfl, rfl, Lib.hid rfl, hN0, hx1⟩
      case round =>
        clear hx1
        obtain ⟨i, s, hi, rfl, rfl, hrun, hsN, hx⟩ := hrel
        by_cases hlt : i < m
        · obtain ⟨ub, uo, x, rfl, hxi, hub, x0, x1⟩ := (hu.ext hx).snd hlt
          have hsc := runA_succ A hxi.out
          rw [hrun.out] at hsc
          change runA A (u.take (i + 1)) 0 = runA A [x] s at hsc
          have hBr := cell_lt (hx.cellv q0)
          have hxs : Ext wr (wr.alloc (.cells #[.int .u32 x.p.toNat, .int .u32 x.m.toNat] 24)) := Ext.alloc1 _ _
          have t0 : (wr.alloc (.cells #[.int .u32 x.p.toNat, .int .u32 x.m.toNat] 24)).cell? ⟨wr.heap.size, 0, none⟩ = some (.int .u32 x.p.toNat) := by go_simp
          have t1 : (wr.alloc (.cells #[.int .u32 x.p.toNat, .int .u32 x.m.toNat] 24)).cell? ⟨wr.heap.size, 1, none⟩ = some (.int .u32 x.m.toNat) := by go_simp
          have e0 := fun X : ExtOf (wr.alloc (.cells #[.int .u32 x.p.toNat, .int .u32 x.m.toNat] 24)) => X.cell t0
          have e1 := fun X : ExtOf (wr.alloc (.cells #[.int .u32 x.p.toNat, .int .u32 x.m.toNat] 24)) => X.cell t1
          have k0 := (hx.trans hxs).cellv q0
          have e2 := fun X : ExtOf (wr.alloc (.cells #[.int .u32 x.p.toNat, .int .u32 x.m.toNat] 24)) => X.cell k0
          have hidx := fun X : ExtOf (wr.alloc (.cells #[.int .u32 x.p.toNat, .int .u32 x.m.toNat] 24)) => indexS_any sa n sc A.snd x X.w ((hS.ext (hx.trans hxs)).ext X.h)
          by_cases hmem : x ∈ A.snd
          · obtain ⟨k, hk⟩ : ∃ k, k = A.snd.idxOf x := ⟨_, rfl⟩
            have hkn : k < n := by have := List.idxOf_lt_length_iff.2 hmem; rw [hn.out] at this; omega
            have hidv : idxI A.snd x = (k : Int) := by unfold idxI; rw [if_pos hmem, hk]
            rw [hidv] at hidx
            obtain ⟨r, hr⟩ : ∃ r, A.next[s]? = some r := ⟨_, List.getElem?_eq_getElem (by rw [hN.out]; exact hsN)⟩
            have hrN := hrow.out s r hr k hkn
            have hgd : A.next.getD s [] = r := by rw [List.getD_eq_getElem?_getD, hr]; rfl
            have hsc2 : runA A (u.take (i + 1)) 0 = some (r.getD k 0) := by rw [hsc]; simp only [runA]; rw [if_pos hmem, hgd, ← hk]
            obtain ⟨to, hto⟩ : ∃ t, t = r.getD k 0 := ⟨_, rfl⟩
            rw [← hto] at hrN hsc2
            obtain ⟨_, _, r2, e, hr2, hrb, hrc⟩ := (hX.ext hx).get hsN
            cases e
            obtain rfl : r2 = r := by have := hr2.out; rw [hr] at this; exact (Option.some.inj this).symm
            have hc := hrc k _ (RE.at r2 (by omega))
            rw [← hto] at hc
            clear hrc hr2
            replace hsc2 := Lib.hid hsc2
            replace hsc := Lib.hid hsc
            replace hk := Lib.hid hk
            replace hto := Lib.hid hto
            replace hr := Lib.hid hr
            replace hgd := Lib.hid hgd
            replace hmem := Lib.hid hmem
            replace hidv := Lib.hid hidv
            replace hxi := Lib.hid hxi.out
            have hk0 : (0 : Int) ≤ (k : Int) := by omega
            go_wp2_with fail
            (refine wp_region_qx (by kernel_rfl) (by kernel_rfl) ?_
             repeat (go_big_quiet_step ((go_at_call 61; exact calls_ext (hidx _))))
             refine wpQuiet_nil ?_
             intro wq hw'
             have hxq := ext_of_ex hw'
             clear hw')
            have hxq2 := (hx.trans hxs).trans hxq
            have k1 := hxq2.cellv q1
            have hc2 := (hxs.trans hxq).cellv hc
            go_wp2_with fail
            (first | exact ⟨⟨i + 1, to, hlt, by go_num, rfl, hsc2, hrN, hxq2⟩, (by simp [intOf]; omega)⟩ | (go_roundw; case rel => exact ⟨i + 1, to, hlt, by go_num, rfl, hsc2, hrN, hxq2⟩; case measure => exact (by simp [intOf]; omega)))
          · have hidv : idxI A.snd x = -1 := by unfold idxI; rw [if_neg hmem]
            rw [hidv] at hidx
            have hsc2 : runA A (u.take (i + 1)) 0 = none := by rw [hsc]; simp only [runA]; rw [if_neg hmem]
            have hRf : Hid (false = R) := Lib.hid (by rw [hR.out, runA_fail A hsc2])
            replace hsc := Lib.hid hsc
            replace hsc2 := Lib.hid hsc2
            replace hmem := Lib.hid hmem
            replace hidv := Lib.hid hidv
            replace hxi := Lib.hid hxi.out
            go_wp2_with fail
            (refine wp_region_qx (by kernel_rfl) (by kernel_rfl) ?_
             repeat (go_big_quiet_step ((go_at_call 61; exact calls_ext (hidx _))))
             refine wpQuiet_nil ?_
             intro wq hw'
             have hxq := ext_of_ex hw'
             clear hw')
            have hxq2 := (hx.trans hxs).trans hxq
            go_wp2_with fail
            go_ret
            exact ⟨ret_bool hRf.out, hxq2⟩
        · obtain rfl : i = m := by omega
          have k2 := hx.cellv q2
          obtain ⟨_, _, fv, e, hfi, _, hfc⟩ := (hF.ext hx).get hsN
          cases e
          have hf0 := hfc 0 _ rfl
          rw [Nat.mul_one, Nat.add_zero] at hf0
          clear hfc
          have hRf : Hid (fv = R) := Lib.hid (by
            have h1 := hrun.out
            rw [List.take_of_length_le (by rw [hul.out]; exact Nat.le_refl _)] at h1
            rw [hR.out, h1]
            show _ = A.fin.getD s false
            rw [List.getD_eq_getElem?_getD, hfi.out]; rfl)
          go_wp2_with fail
          go_ret
          exact ⟨ret_bool hRf.out, hx⟩
    · have d32 : decide ((32 : Int) < (m : Int)) = true := by simp; omega
      rw [show decide (m ≤ 32) = false by simpa using h32] at hR
      replace hR := Lib.hid hR
      go_enter Try.func21, Try.ntmps21
      go_wp2_with fail
      refine (cbool hm hd).mono ?_
      rintro e w1 ⟨rfl, hx1⟩
      replace hd := Lib.hid hd
      go_wp2_with fail
      go_ret
      exact ⟨ret_bool (by rw [hR.out]; rfl), hx1⟩
theorem accepts_nil (w : World) (ua : Option Addr) (m uc : Nat) : Calls Try.prog 21 #[.pointer none, .slice ua m uc] w fun e w' => e = .returned (.bool false) ∧ Ext w w' := by
  go_enter Try.func21, Try.ntmps21
  go_wp2_with fail
  refine (made_nil w).mono ?_
  rintro e w1 ⟨rfl, hx1⟩
  go_wp2_with fail
  go_ret
  exact ⟨rfl, hx1⟩
end Go.Proofs.Ytilkemdecenibaa
