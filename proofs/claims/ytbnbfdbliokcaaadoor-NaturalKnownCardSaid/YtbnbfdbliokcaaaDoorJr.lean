/-
  Needed, Select.
-/
import Derived.Test.YtbnbfdbliokcaaaDoorJq
namespace Go.Proofs.YtbnbfdbliokcaaaDoor
open Go.RowKit
/-! ### Needed, plain -/
def needF (xs : List Snd) (x : Nat × Nat) : BitVec 32 := match xs[x.1]?, xs[x.2]? with
  | some s, some t => diffS s t
  | _, _ => 0#32
def needTo (xs : List Snd) (L : List (Nat × Nat)) : Nat → BitVec 32
  | 0 => 0#32
  | k + 1 => needTo xs L k ||| match L[k]? with
    | some x => needF xs x
    | none => 0#32
theorem needTo_succ {xs : List Snd} {L : List (Nat × Nat)} {k : Nat} {x : Nat × Nat} {s t : Snd} (h : L[k]? = some x) (h1 : xs[x.1]? = some s) (h2 : xs[x.2]? = some t) : needTo xs L (k + 1) = needTo xs L k ||| diffS s t := by
  have : needF xs x = diffS s t := by unfold needF; rw [h1, h2]
  simp only [needTo, h, this]
def needB (xs : List Snd) : BitVec 32 := needTo xs (prL xs) (prL xs).length
theorem RdK.p2 {w : World} {a : Option Addr} {n cap : Nat} {xs : List (Nat × Nat)} (h : RdK 2 P2.enc w a n cap xs) {i : Nat} (hi : i < n) :
    ∃ b off x, a = some ⟨b, off, none⟩ ∧ Hid (xs[i]? = some x) ∧ b < w.heap.size ∧ w.cell? ⟨b, off + i * 2, none⟩ = some (.int .i64 (x.1 : Nat)) ∧ w.cell? ⟨b, off + i * 2 + 1, none⟩ = some (.int .i64 (x.2 : Nat)) := by
  obtain ⟨b, off, x, ha, hx, hb, hc⟩ := h.get hi
  exact ⟨b, off, x, ha, hx, hb, by simpa using hc 0 _ rfl, hc 1 _ rfl⟩
theorem prL_mem {xs : List Snd} {x : Nat × Nat} (h : x ∈ prL xs) : chkI 256 xs = 0 ∧ x.1 < x.2 ∧ x.2 < xs.length ∧ adjB xs x.1 x.2 = true := by
  unfold prL at h
  split at h
  · rename_i hc
    have := mem_pairTo.1 h
    exact ⟨hc, this.2⟩
  · cases h
theorem prL_at {xs : List Snd} {k : Nat} {x : Nat × Nat} (h : (prL xs)[k]? = some x) : ∃ s t, x.1 < xs.length ∧ x.2 < xs.length ∧ xs[x.1]? = some s ∧ xs[x.2]? = some t ∧ s.ok = true ∧ t.ok = true ∧ cntB (diffS s t) = 1 := by
  obtain ⟨hc, h1, h2, h3⟩ := prL_mem (List.mem_of_getElem? h)
  have e1 : xs[x.1]? = some (xs[x.1]'(by omega)) := List.getElem?_eq_getElem _
  have e2 : xs[x.2]? = some (xs[x.2]'h2) := List.getElem?_eq_getElem _
  rw [adjB_at e1 e2] at h3
  have hok := (chkI_zero hc).2.1
  exact ⟨_, _, by omega, h2, e1, e2, hok _ (List.getElem_mem _), hok _ (List.getElem_mem _), of_decide_eq_true h3⟩
def RetN (xs : List Snd) (w : World) (e : Ending) (w' : World) : Prop := e = .returned (.tuple #[.int .u32 (needB xs).toNat, .int .i64 (chkI 256 xs)]) ∧ Ext w w'
theorem p2_box (w : World) (x y : Int) : (w.alloc (.cells #[.int .i64 x, .int .i64 y] 41)).cell? ⟨w.heap.size, 0, none⟩ = some (.int .i64 x) ∧ (w.alloc (.cells #[.int .i64 x, .int .i64 y] 41)).cell? ⟨w.heap.size, 1, none⟩ = some (.int .i64 y) := by
  have h := World.alloc_heap_new w (.cells #[.int .i64 x, .int .i64 y] 41)
  refine ⟨?_, ?_⟩ <;> (simp only [World.cell?]; rw [h]; rfl)
set_option maxHeartbeats 2000000 in
set_option maxRecDepth 20000 in
theorem needed_any (a : Option Addr) (n cap : Nat) (xs : List Snd) (w : World) (hr : RdS w a n cap xs) :
    Calls Tryd.prog 25 #[.slice a n cap] w (RetN xs w) := by
  have hl := hr.len
  have hpr := pairs_any a n cap xs w hr
  unfold RetPr at hpr
  have hN : needB xs = needTo xs (prL xs) (prL xs).length := rfl
  have hat := fun k x h => prL_at (xs := xs) (k := k) (x := x) h
  unfold RetN
  generalize chkI 256 xs = E at *
  generalize needB xs = R at *
  generalize prL xs = L at *
  replace hl := Lib.hid hl
  replace hN := Lib.hid hN
  replace hat := Lib.hid hat
  go_enter Tryd.func25, Tryd.ntmps25
  go_wp2_with fail
  refine hpr.mono ?_
  rintro e w1 ⟨v, rfl, hown, hx1⟩
  clear hpr
  obtain ⟨a1, n1, c1, hn1, rfl, hrp⟩ := OwnK.rdn P2.len hown
  have hmax : n1 ≤ 9223372036854775807 := by have := hrp.le; have := hrp.most; unfold maxLen at this; omega
  replace hn1 := Lib.hid hn1
  clear hown
  go_wp2_with fail
  go_loopw [6, 16] (fun sv i wr => ∃ k : Nat, k ≤ n1 ∧ i = .int .i64 k ∧ sv = .int .u32 (needTo xs L k).toNat ∧ Ext w1 wr) (fun _ i _ => n1 - (intOf i).toNat)
  case atStart => exact ⟨0, Nat.zero_le _, rfl, rfl, Ext.refl _⟩
  case round =>
    obtain ⟨k, hk, rfl, rfl, hx⟩ := hrel
    have hxw := hx1.trans hx
    by_cases hlt : k < n1
    · have hki : (k : Int) < (n1 : Int) := by omega
      obtain ⟨b1, o1, x, rfl, hxk, hb1, d0, d1⟩ := (hrp.ext hx).p2 hlt
      obtain ⟨s, t, hi1, hi2, hs, ht, hso, hto, hone⟩ := hat.out k x hxk.out
      have hsu := needTo_succ hxk.out hs ht
      obtain ⟨i1, i2⟩ := x
      simp only at *
      rw [hl.out] at hi1 hi2
      obtain ⟨b, off, s1, rfl, hs1, hb, p0, p1⟩ := (hr.ext hxw).snd hi1
      have e1 : s1 = s := by have := hs1.out; rw [hs] at this; exact (Option.some.inj this).symm
      subst e1
      obtain ⟨b2, off2, t1, heq, ht1, hb2, p2, p3⟩ := (hr.ext hxw).snd hi2
      cases heq
      have e2 : t1 = t := by have := ht1.out; rw [ht] at this; exact (Option.some.inj this).symm
      subst e2
      have hii1 : (i1 : Int) < (n : Int) := by omega
      have hii2 : (i2 : Int) < (n : Int) := by omega
      have hdf := fun W => diff_any s1 t1 W hso hto
      obtain ⟨c0, c1⟩ := p2_box wr i1 i2
      have hxa := hx.alloc (.cells #[.int .i64 i1, .int .i64 i2] 41)
      have p0 := (Ext.alloc1 wr (.cells #[.int .i64 i1, .int .i64 i2] 41)).cellv p0
      have p1 := (Ext.alloc1 wr (.cells #[.int .i64 i1, .int .i64 i2] 41)).cellv p1
      have p2 := (Ext.alloc1 wr (.cells #[.int .i64 i1, .int .i64 i2] 41)).cellv p2
      have p3 := (Ext.alloc1 wr (.cells #[.int .i64 i1, .int .i64 i2] 41)).cellv p3
      replace hxk := Lib.hid hxk.out
      replace hs := Lib.hid hs
      replace ht := Lib.hid ht
      replace hs1 := Lib.hid hs1.out
      replace ht1 := Lib.hid ht1.out
      replace hsu := Lib.hid hsu
      replace hone := Lib.hid hone
      generalize diffS s1 t1 = D at *
      generalize needTo xs L k = S at *
      go_wp2_with fail
      clear hx hxw
      generalize wr.heap.size = B at *
      generalize (wr.alloc (.cells #[.int .i64 i1, .int .i64 i2] 41)) = wC at *
      have r0 := fun z : ExtOf wC => z.cell p0
      have r1 := fun z : ExtOf wC => z.cell p1
      have r2 := fun z : ExtOf wC => z.cell p2
      have r3 := fun z : ExtOf wC => z.cell p3
      have r4 := fun z : ExtOf wC => z.cell c0
      have r5 := fun z : ExtOf wC => z.cell c1
      (refine wp_region_qx (by kernel_rfl) (by kernel_rfl) ?_
       repeat (go_big_quiet_step ((go_at_call 32; exact calls_ext (hdf _))))
       refine wpQuiet_nil ?_
       intro wq hw'
       have hxq := ext_of_ex hw'
       clear hw')
      clear r0 r1 r2 r3 r4 r5 hdf
      go_wp2_with fail
      (first | exact ⟨⟨k + 1, by omega, by go_num, by rw [hsu.out]; simp, hxa.trans hxq⟩, (by simp [intOf]; omega)⟩ | (go_roundw; case rel => exact ⟨k + 1, by omega, by go_num, by rw [hsu.out]; simp, hxa.trans hxq⟩; case measure => exact (by simp [intOf]; omega)))
    · have hkn : k = n1 := by omega
      have hfin : Hid (R = needTo xs L k) := Lib.hid (by rw [hN.out, ← hn1.out, hkn])
      replace hkn := Lib.hid hkn
      go_wp2_with fail
      go_ret2
      exact ⟨by rw [hfin.out]; rfl, hxw⟩
theorem alone_at {s t : Snd} (hs : s.ok = true) (ht : t.ok = true) (h : cntB (diffS s t) = 1) : ∃ f, f < 24 ∧ aloneF s t = some f ∧ diffS s t = bt f := by
  have h1 := alone_one hs ht
  rw [h, decide_eq_true rfl] at h1
  obtain ⟨f, hf⟩ := Option.isSome_iff_exists.1 h1
  obtain ⟨h2, h3⟩ := aloneTo_some hf
  exact ⟨f, h2, hf, h3⟩
set_option maxHeartbeats 2000000 in
set_option maxRecDepth 20000 in
theorem rneeded_any (a : Option Addr) (n cap : Nat) (xs : List Snd) (w : World) (hr : RdS w a n cap xs) :
    Calls Tryd.prog 26 #[.slice a n cap] w (RetN xs w) := by
  have hl := hr.len
  have hpr := rpairs_any a n cap xs w hr
  unfold RetPr at hpr
  unfold RetN
  have hN : needB xs = needTo xs (prL xs) (prL xs).length := rfl
  by_cases hc : chkI 256 xs = 0
  · have hat := fun k x h => prL_at (xs := xs) (k := k) (x := x) h
    rw [hc] at hpr ⊢
    replace hc := Lib.hid hc
    generalize needB xs = R at *
    generalize prL xs = L at *
    replace hl := Lib.hid hl
    replace hN := Lib.hid hN
    replace hat := Lib.hid hat
    go_enter Tryd.func26, Tryd.ntmps26
    go_wp2_with fail
    refine hpr.mono ?_
    rintro e w1 ⟨v, rfl, hown, hx1⟩
    clear hpr
    obtain ⟨a1, n1, c1, hn1, rfl, hrp⟩ := OwnK.rdn P2.len hown
    have hmax : n1 ≤ 9223372036854775807 := by have := hrp.le; have := hrp.most; unfold maxLen at this; omega
    replace hn1 := Lib.hid hn1
    clear hown
    go_wp2_with fail
    go_loopw [6, 7] (fun sv i wr => ∃ k : Nat, k ≤ n1 ∧ i = .int .i64 k ∧ sv = .int .u32 (needTo xs L k).toNat ∧ Ext w1 wr) (fun _ i _ => n1 - (intOf i).toNat)
    case atStart => exact ⟨0, Nat.zero_le _, rfl, rfl, Ext.refl _⟩
    case round =>
      obtain ⟨k, hk, rfl, rfl, hx⟩ := hrel
      have hxw := hx1.trans hx
      by_cases hlt : k < n1
      · have hki : (k : Int) < (n1 : Int) := by omega
        obtain ⟨b1, o1, x, rfl, hxk, hb1, d0, d1⟩ := (hrp.ext hx).p2 hlt
        obtain ⟨s, t, hi1, hi2, hs, ht, hso, hto, hone⟩ := hat.out k x hxk.out
        have hsu := needTo_succ hxk.out hs ht
        obtain ⟨f, hf24, hal, hdi⟩ := alone_at hso hto hone
        have hbt := bt_nat hf24
        rw [hdi] at hsu
        obtain ⟨i1, i2⟩ := x
        simp only at *
        rw [hl.out] at hi1 hi2
        obtain ⟨b, off, s1, rfl, hs1, hb, p0, p1⟩ := (hr.ext hxw).snd hi1
        have e1 : s1 = s := by have := hs1.out; rw [hs] at this; exact (Option.some.inj this).symm
        subst e1
        obtain ⟨b2, off2, t1, heq, ht1, hb2, p2, p3⟩ := (hr.ext hxw).snd hi2
        cases heq
        have e2 : t1 = t := by have := ht1.out; rw [ht] at this; exact (Option.some.inj this).symm
        subst e2
        have hii1 : (i1 : Int) < (n : Int) := by omega
        have hii2 : (i2 : Int) < (n : Int) := by omega
        have hdf := fun W => alone_any s1 t1 W hso hto
        unfold AlR at hdf
        rw [hal] at hdf
        replace hxk := Lib.hid hxk.out
        replace hs := Lib.hid hs
        replace ht := Lib.hid ht
        replace hs1 := Lib.hid hs1.out
        replace ht1 := Lib.hid ht1.out
        replace hsu := Lib.hid hsu
        replace hone := Lib.hid hone
        replace hal := Lib.hid hal
        replace hdi := Lib.hid hdi
        generalize bt f = D at *
        generalize needTo xs L k = S at *
        have r0 := fun z : ExtOf wr => z.cell p0
        have r1 := fun z : ExtOf wr => z.cell p1
        have r2 := fun z : ExtOf wr => z.cell p2
        have r3 := fun z : ExtOf wr => z.cell p3
        have r4 := fun z : ExtOf wr => z.cell d0
        have r5 := fun z : ExtOf wr => z.cell d1
        go_wp2_with fail
        (refine wp_region_qx (by kernel_rfl) (by kernel_rfl) ?_
         repeat (go_big_quiet_step ((go_at_call 60; exact calls_ext (hdf _))))
         refine wpQuiet_nil ?_
         intro wq hw'
         have hxq := ext_of_ex hw'
         clear hw')
        clear r0 r1 r2 r3 r4 r5 hdf
        go_wp2_with fail
        (first | exact ⟨⟨k + 1, by omega, by go_num, by rw [hsu.out]; simp, hx.trans hxq⟩, (by simp [intOf]; omega)⟩ | (go_roundw; case rel => exact ⟨k + 1, by omega, by go_num, by rw [hsu.out]; simp, hx.trans hxq⟩; case measure => exact (by simp [intOf]; omega)))
      · have hkn : k = n1 := by omega
        have hfin : Hid (R = needTo xs L k) := Lib.hid (by rw [hN.out, ← hn1.out, hkn])
        replace hkn := Lib.hid hkn
        go_wp2_with fail
        go_ret2
        exact ⟨by rw [hfin.out]; rfl, hxw⟩
  · have hL : prL xs = [] := by unfold prL; rw [if_neg hc]
    rw [hL] at hN hpr
    have hN0 : needB xs = 0#32 := hN
    have hd : (chkI 256 xs != 0) = true := by simpa using hc
    replace hc := Lib.hid hc
    replace hL := Lib.hid hL
    replace hN := Lib.hid hN
    replace hN0 := Lib.hid hN0
    generalize chkI 256 xs = E at *
    go_enter Tryd.func26, Tryd.ntmps26
    go_wp2_with fail
    refine hpr.mono ?_
    rintro e w1 ⟨v, rfl, hown, hx1⟩
    clear hpr
    obtain ⟨a1, n1, c1, hn1, rfl, hrp⟩ := OwnK.rdn P2.len hown
    replace hn1 := Lib.hid hn1
    clear hown
    go_wp2_with fail
    go_ret2
    exact ⟨by rw [hN0.out]; rfl, hx1⟩
/-! ### Select -/
def selE (xs : List Snd) (c : Snd) : Int := if chkI 256 xs = 0 then if c.ok = true then 0 else 14 else chkI 256 xs
def selL (xs : List Snd) (c : Snd) : List Int := if selE xs c = 0 then memL xs c else []
def RetSl (xs : List Snd) (c : Snd) (w : World) (e : Ending) (w' : World) : Prop := ∃ v, e = .returned (.tuple #[v, .int .i64 (selE xs c)]) ∧ OwnI w.heap.size 3 w' v (selL xs c) ∧ Ext w w'
set_option maxHeartbeats 1000000 in
theorem select_any (a : Option Addr) (n cap : Nat) (xs : List Snd) (c : Snd) (w : World) (hr : RdS w a n cap xs) :
    Calls Tryd.prog 36 #[.slice a n cap, sndV c] w (RetSl xs c w) := by
  have hl := hr.len
  have q0 := SndB.new w c
  have hxB : Ext w (w.alloc (.cells #[.int .u32 c.p.toNat, .int .u32 c.m.toNat] 27)) := (by repeat (first | exact Ext.refl _ | refine Ext.drew ?_ | refine Ext.drewN ?_ _ | refine Ext.alloc ?_ _))
  by_cases hc : chkI 256 xs = 0
  · obtain ⟨hn, hok, _⟩ := chkI_zero hc
    rw [hl] at hn
    have hck := fun W (h : RdS W a n cap xs) => cint (check_any 256 (by omega) a n cap xs W h) hc
    cases hco : c.ok
    · have hE : selE xs c = 14 := by unfold selE; rw [if_pos hc, hco]; rfl
      have hL : selL xs c = [] := by unfold selL; rw [hE]; rfl
      replace hc := Lib.hid hc
      replace hok := Lib.hid hok
      replace hl := Lib.hid hl
      replace hE := Lib.hid hE
      replace hL := Lib.hid hL
      go_enter Tryd.func36, Tryd.ntmps36
      go_wp2_with fail
      generalize (w.alloc (.cells #[.int .u32 c.p.toNat, .int .u32 c.m.toNat] 27)) = wB at *
      refine (hck _ (hr.ext hxB)).mono ?_
      rintro e w1 ⟨rfl, hx1⟩
      clear hck
      obtain ⟨c0, c1⟩ := (q0.ext hx1).cells
      go_wp2_with fail
      refine (cbool (fvalid_any c _) hco).mono ?_
      rintro e w2 ⟨rfl, hx2⟩
      go_wp2_with fail
      go_ret2
      exact ⟨.slice none 0 0, by rw [hE.out]; rfl, by rw [hL.out]; exact OwnK.nil _ _ _, (hxB.trans hx1).trans hx2⟩
    · have hE : selE xs c = 0 := by unfold selE; rw [if_pos hc, hco]; rfl
      have hL : selL xs c = memL xs c := by unfold selL; rw [hE]; rfl
      have hcall := fun W (h : RdS W a n cap xs) => members_any a n cap xs c W h (by omega) hok hco
      replace hc := Lib.hid hc
      replace hok := Lib.hid hok
      replace hl := Lib.hid hl
      replace hE := Lib.hid hE
      replace hL := Lib.hid hL
      go_enter Tryd.func36, Tryd.ntmps36
      go_wp2_with fail
      generalize (w.alloc (.cells #[.int .u32 c.p.toNat, .int .u32 c.m.toNat] 27)) = wB at *
      refine (hck _ (hr.ext hxB)).mono ?_
      rintro e w1 ⟨rfl, hx1⟩
      clear hck
      obtain ⟨c0, c1⟩ := (q0.ext hx1).cells
      go_wp2_with fail
      refine (cbool (fvalid_any c _) hco).mono ?_
      rintro e w2 ⟨rfl, hx2⟩
      have hx := hx1.trans hx2
      clear c0 c1
      obtain ⟨c0, c1⟩ := (q0.ext hx).cells
      go_wp2_with fail
      refine (hcall _ (hr.ext (hxB.trans hx))).mono ?_
      rintro e w3 ⟨v, rfl, hown, hx3⟩
      go_wp2_with fail
      go_ret2
      exact ⟨v, by rw [hE.out]; rfl, by rw [hL.out]; exact OwnK.base hown (hxB.trans hx).le, (hxB.trans hx).trans hx3⟩
  · have hE : selE xs c = chkI 256 xs := by unfold selE; rw [if_neg hc]
    have hL : selL xs c = [] := by unfold selL; rw [hE, if_neg hc]
    have hck := fun W (h : RdS W a n cap xs) => check_any 256 (by omega) a n cap xs W h
    have hd : (chkI 256 xs != 0) = true := by simpa using hc
    generalize chkI 256 xs = E at *
    replace hc := Lib.hid hc
    replace hl := Lib.hid hl
    replace hE := Lib.hid hE
    replace hL := Lib.hid hL
    go_enter Tryd.func36, Tryd.ntmps36
    go_wp2_with fail
    generalize (w.alloc (.cells #[.int .u32 c.p.toNat, .int .u32 c.m.toNat] 27)) = wB at *
    refine (hck _ (hr.ext hxB)).mono ?_
    rintro e w1 ⟨rfl, hx1⟩
    clear hck
    go_wp2_with fail
    go_ret2
    exact ⟨.slice none 0 0, by rw [hE.out]; rfl, by rw [hL.out]; exact OwnK.nil _ _ _, hxB.trans hx1⟩
set_option maxHeartbeats 1000000 in
theorem rselect_any (a : Option Addr) (n cap : Nat) (xs : List Snd) (c : Snd) (w : World) (hr : RdS w a n cap xs) :
    Calls Tryd.prog 37 #[.slice a n cap, sndV c] w (RetSl xs c w) := by
  have hl := hr.len
  have q0 := SndB.new w c
  have hxB : Ext w (w.alloc (.cells #[.int .u32 c.p.toNat, .int .u32 c.m.toNat] 27)) := (by repeat (first | exact Ext.refl _ | refine Ext.drew ?_ | refine Ext.drewN ?_ _ | refine Ext.alloc ?_ _))
  by_cases hc : chkI 256 xs = 0
  · obtain ⟨hn, hok, _⟩ := chkI_zero hc
    rw [hl] at hn
    have hck := fun W (h : RdS W a n cap xs) => cint (rcheck_any 256 a n cap xs W h) hc
    cases hco : c.ok
    · have hE : selE xs c = 14 := by unfold selE; rw [if_pos hc, hco]; rfl
      have hL : selL xs c = [] := by unfold selL; rw [hE]; rfl
      replace hc := Lib.hid hc
      replace hok := Lib.hid hok
      replace hl := Lib.hid hl
      replace hE := Lib.hid hE
      replace hL := Lib.hid hL
      go_enter Tryd.func37, Tryd.ntmps37
      go_wp2_with fail
      generalize (w.alloc (.cells #[.int .u32 c.p.toNat, .int .u32 c.m.toNat] 27)) = wB at *
      refine (hck _ (hr.ext hxB)).mono ?_
      rintro e w1 ⟨rfl, hx1⟩
      clear hck
      obtain ⟨c0, c1⟩ := (q0.ext hx1).cells
      go_wp2_with fail
      refine (cbool (rvalid1_any c _) hco).mono ?_
      rintro e w2 ⟨rfl, hx2⟩
      go_wp2_with fail
      go_ret2
      exact ⟨.slice none 0 0, by rw [hE.out]; rfl, by rw [hL.out]; exact OwnK.nil _ _ _, (hxB.trans hx1).trans hx2⟩
    · have hE : selE xs c = 0 := by unfold selE; rw [if_pos hc, hco]; rfl
      have hL : selL xs c = memL xs c := by unfold selL; rw [hE]; rfl
      have hcall := fun W (h : RdS W a n cap xs) => rmembers_any a n cap xs c W h (by omega) hok hco
      replace hc := Lib.hid hc
      replace hok := Lib.hid hok
      replace hl := Lib.hid hl
      replace hE := Lib.hid hE
      replace hL := Lib.hid hL
      go_enter Tryd.func37, Tryd.ntmps37
      go_wp2_with fail
      generalize (w.alloc (.cells #[.int .u32 c.p.toNat, .int .u32 c.m.toNat] 27)) = wB at *
      refine (hck _ (hr.ext hxB)).mono ?_
      rintro e w1 ⟨rfl, hx1⟩
      clear hck
      obtain ⟨c0, c1⟩ := (q0.ext hx1).cells
      go_wp2_with fail
      refine (cbool (rvalid1_any c _) hco).mono ?_
      rintro e w2 ⟨rfl, hx2⟩
      have hx := hx1.trans hx2
      clear c0 c1
      obtain ⟨c0, c1⟩ := (q0.ext hx).cells
      go_wp2_with fail
      refine (hcall _ (hr.ext (hxB.trans hx))).mono ?_
      rintro e w3 ⟨v, rfl, hown, hx3⟩
      go_wp2_with fail
      go_ret2
      exact ⟨v, by rw [hE.out]; rfl, by rw [hL.out]; exact OwnK.base hown (hxB.trans hx).le, (hxB.trans hx).trans hx3⟩
  · have hE : selE xs c = chkI 256 xs := by unfold selE; rw [if_neg hc]
    have hL : selL xs c = [] := by unfold selL; rw [hE, if_neg hc]
    have hck := fun W (h : RdS W a n cap xs) => rcheck_any 256 a n cap xs W h
    have hd : (chkI 256 xs != 0) = true := by simpa using hc
    generalize chkI 256 xs = E at *
    replace hc := Lib.hid hc
    replace hl := Lib.hid hl
    replace hE := Lib.hid hE
    replace hL := Lib.hid hL
    go_enter Tryd.func37, Tryd.ntmps37
    go_wp2_with fail
    generalize (w.alloc (.cells #[.int .u32 c.p.toNat, .int .u32 c.m.toNat] 27)) = wB at *
    refine (hck _ (hr.ext hxB)).mono ?_
    rintro e w1 ⟨rfl, hx1⟩
    clear hck
    go_wp2_with fail
    go_ret2
    exact ⟨.slice none 0 0, by rw [hE.out]; rfl, by rw [hL.out]; exact OwnK.nil _ _ _, hxB.trans hx1⟩
end Go.Proofs.YtbnbfdbliokcaaaDoor
