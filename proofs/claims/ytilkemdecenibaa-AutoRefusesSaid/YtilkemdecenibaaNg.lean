/-
  What together refuses.
-/
import Derived.Test.YtilkemdecenibaaNc
namespace Go.Proofs.Ytilkemdecenibaa
open Go.RowKit Go.Maps
def RetEr (r : Int) (w : World) (e : Ending) (w' : World) : Prop := e = .returned (.tuple #[.pointer none, .int .i64 r]) ∧ Ext w w'
/-- A pointer to an automaton, or none; is it made? -/
def AuP (w : World) (p : Option Addr) (m : Bool) : Prop := (p = none ∧ m = false) ∨ ∃ b A, p = some ⟨b, 0, none⟩ ∧ AuAt w b A ∧ A.madeB = m
theorem AuP.ext {w w' : World} {p : Option Addr} {m : Bool} (h : AuP w p m) (hx : Ext w w') : AuP w' p m := by
  rcases h with h | ⟨b, A, h1, h2, h3⟩
  · exact .inl h
  · exact .inr ⟨b, A, h1, h2.ext hx, h3⟩
theorem madeP_any {w : World} {p : Option Addr} {m : Bool} (h : AuP w p m) : Calls Try.prog 59 #[.pointer p] w fun e w' => e = .returned (.bool m) ∧ Ext w w' := by
  rcases h with ⟨rfl, rfl⟩ | ⟨b, A, rfl, h2, rfl⟩
  · exact made_nil w
  · exact made_any A w b h2
theorem togA_nil (w : World) (p q : Option Addr) (m1 m2 : Bool) (hp : AuP w p m1) (hq : AuP w q m2) (hm : m1 = false ∨ m2 = false) :
    Calls Try.prog 73 #[.pointer p, .pointer q, .func (.func 74) #[] #[]] w (RetEr 1 w) := by
  have h1 := fun W (hW : Ext w W) => madeP_any (hp.ext hW)
  have h2 := fun W (hW : Ext w W) => madeP_any (hq.ext hW)
  cases m1
  · go_enter Try.func73, Try.ntmps73
    go_wp2_with fail
    refine (h1 _ (Ext.refl _)).mono ?_
    rintro e w1 ⟨rfl, hx1⟩
    go_wp2_with fail
    go_ret2
    exact ⟨rfl, hx1⟩
  · obtain rfl : m2 = false := by rcases hm with h | h; cases h; exact h
    go_enter Try.func73, Try.ntmps73
    go_wp2_with fail
    refine (h1 _ (Ext.refl _)).mono ?_
    rintro e w1 ⟨rfl, hx1⟩
    have h3 := h2 w1 hx1
    clear h1 h2
    go_wp2_with fail
    refine h3.mono ?_
    rintro e w2 ⟨rfl, hx2⟩
    have hxw := hx1.trans hx2
    go_wp2_with fail
    go_ret2
    exact ⟨rfl, hxw⟩
theorem togD_nil (w : World) (p q : Option Addr) (m1 m2 : Bool) (hp : AuP w p m1) (hq : AuP w q m2) (hm : m1 = false ∨ m2 = false) :
    Calls Try.prog 73 #[.pointer p, .pointer q, .func (.func 75) #[] #[]] w (RetEr 1 w) := by
  have h1 := fun W (hW : Ext w W) => madeP_any (hp.ext hW)
  have h2 := fun W (hW : Ext w W) => madeP_any (hq.ext hW)
  cases m1
  · go_enter Try.func73, Try.ntmps73
    go_wp2_with fail
    refine (h1 _ (Ext.refl _)).mono ?_
    rintro e w1 ⟨rfl, hx1⟩
    go_wp2_with fail
    go_ret2
    exact ⟨rfl, hx1⟩
  · obtain rfl : m2 = false := by rcases hm with h | h; cases h; exact h
    go_enter Try.func73, Try.ntmps73
    go_wp2_with fail
    refine (h1 _ (Ext.refl _)).mono ?_
    rintro e w1 ⟨rfl, hx1⟩
    have h3 := h2 w1 hx1
    clear h1 h2
    go_wp2_with fail
    refine h3.mono ?_
    rintro e w2 ⟨rfl, hx2⟩
    have hxw := hx1.trans hx2
    go_wp2_with fail
    go_ret2
    exact ⟨rfl, hxw⟩
set_option maxHeartbeats 2000000 in
theorem togA_err (A B : Au) (NA NB : Nat) (hNA : A.next.length = NA) (hNB : B.next.length = NB) (hA0 : 0 < NA) (hB0 : 0 < NB) (hA5 : NA ≤ 5000) (hB5 : NB ≤ 5000) (r : Int) (hr : (A.snd ≠ B.snd ∧ r = 2) ∨ (A.snd = B.snd ∧ 4096 < NA * NB ∧ r = 12)) (w : World) (ba bb : Nat) (hA : AuAt w ba A) (hB : AuAt w bb B) :
    Calls Try.prog 73 #[.pointer (some ⟨ba, 0, none⟩), .pointer (some ⟨bb, 0, none⟩), .func (.func 74) #[] #[]] w (RetEr r w) := by
  have hma := fun W (hW : Ext w W) => made_any A W ba (hA.ext hW)
  have hmb := fun W (hW : Ext w W) => made_any B W bb (hB.ext hW)
  rw [show A.madeB = true by unfold Au.madeB; simp [hNA, hA0]] at hma
  rw [show B.madeB = true by unfold Au.madeB; simp [hNB, hB0]] at hmb
  obtain ⟨sa, sc, na, nc, fa, fc, hbox, hS, hX, hF⟩ := hA
  obtain ⟨sb, sd, nb, nd, fb, fd, hboxb, hSb, hXb, hFb⟩ := hB
  rw [hNA] at hbox
  rw [hNB] at hboxb
  have q0 : w.cell? ⟨ba, 0, none⟩ = some (.slice sa A.snd.length sc) := by simp [World.cell?, hbox]
  have q1 : w.cell? ⟨ba, 1, none⟩ = some (.slice na NA nc) := by simp [World.cell?, hbox]
  have p0 : w.cell? ⟨bb, 0, none⟩ = some (.slice sb B.snd.length sd) := by simp [World.cell?, hboxb]
  have p1 : w.cell? ⟨bb, 1, none⟩ = some (.slice nb NB nd) := by simp [World.cell?, hboxb]
  have hequ := fun W (hW : Ext w W) => seq_any sa sb A.snd.length sc B.snd.length sd A.snd B.snd W (hS.ext hW) (hSb.ext hW)
  have hmi : IntKind.i64.wrap ((NA : Int) * (NB : Int)) = (NA : Int) * (NB : Int) := by
    have h0 : (0 : Int) ≤ (NA : Int) * (NB : Int) := Int.mul_nonneg (by omega) (by omega)
    have h1 : (NA : Int) * (NB : Int) ≤ 5000 * 5000 := Int.mul_le_mul (by omega) (by omega) (by omega) (by omega)
    exact IntWalk.i64_in _ (by omega)
  generalize A.snd.length = n1 at *
  generalize B.snd.length = n2 at *
  generalize A.snd = xs at *
  generalize B.snd = ys at *
  replace hNA := Lib.hid hNA
  replace hNB := Lib.hid hNB
  clear hbox hboxb hX hXb hF hFb hS hSb
  rcases hr with ⟨hne, rfl⟩ | ⟨heq, hmul, rfl⟩
  · have hd : decide (xs = ys) = false := decide_eq_false hne
    replace hne := Lib.hid hne
    go_enter Try.func73, Try.ntmps73
    go_wp2_with fail
    refine (hma _ (Ext.refl _)).mono ?_
    rintro e w1 ⟨rfl, hx1⟩
    have hmb1 := hmb w1 hx1
    clear hma hmb
    go_wp2_with fail
    refine hmb1.mono ?_
    rintro e w2 ⟨rfl, hx2⟩
    have hxw := hx1.trans hx2
    have k0 := hxw.cellv q0
    have m0 := hxw.cellv p0
    have e0 := fun X : ExtOf w2 => X.cell k0
    have e1 := fun X : ExtOf w2 => X.cell m0
    have hequ2 := fun X : ExtOf w2 => hequ X.w (hxw.trans X.h)
    clear hmb1 hequ
    go_wp2_with fail
    (refine wp_region_qx (by kernel_rfl) (by kernel_rfl) ?_
     repeat (go_big_quiet_step ((go_at_call 50; exact calls_ext (cbool (hequ2 _) hd))))
     refine wpQuiet_nil ?_
     intro wq hw'
     have hxq := ext_of_ex hw'
     clear hw')
    have hxw3 := hxw.trans hxq
    go_wp2_with fail
    go_ret2
    exact ⟨rfl, hxw3⟩
  · have hd : decide (xs = ys) = true := decide_eq_true heq
    have hmd : decide ((4096 : Int) < (NA : Int) * (NB : Int)) = true := by
      have h1 : (4096 : Int) < (NA : Int) * (NB : Int) := by have h0 : ((4096 : Nat) : Int) < ((NA * NB : Nat) : Int) := Int.ofNat_lt.2 hmul; rw [Int.natCast_mul] at h0; exact h0
      exact decide_eq_true h1
    replace heq := Lib.hid heq
    replace hmul := Lib.hid hmul
    go_enter Try.func73, Try.ntmps73
    go_wp2_with fail
    refine (hma _ (Ext.refl _)).mono ?_
    rintro e w1 ⟨rfl, hx1⟩
    have hmb1 := hmb w1 hx1
    clear hma hmb
    go_wp2_with fail
    refine hmb1.mono ?_
    rintro e w2 ⟨rfl, hx2⟩
    have hxw := hx1.trans hx2
    have k0 := hxw.cellv q0
    have m0 := hxw.cellv p0
    have e0 := fun X : ExtOf w2 => X.cell k0
    have e1 := fun X : ExtOf w2 => X.cell m0
    have hequ2 := fun X : ExtOf w2 => hequ X.w (hxw.trans X.h)
    clear hmb1 hequ
    go_wp2_with fail
    (refine wp_region_qx (by kernel_rfl) (by kernel_rfl) ?_
     repeat (go_big_quiet_step ((go_at_call 50; exact calls_ext (cbool (hequ2 _) hd))))
     refine wpQuiet_nil ?_
     intro wq hw'
     have hxq := ext_of_ex hw'
     clear hw')
    have hxw3 := hxw.trans hxq
    have k1 := hxw3.cellv q1
    have m1 := hxw3.cellv p1
    clear hequ2 e0 e1 k0 m0 hx1 hx2 hxq hxw
    generalize wq = w3 at *
    have e0 := fun X : ExtOf w3 => X.cell k1
    have e1 := fun X : ExtOf w3 => X.cell m1
    go_wp2_with fail
    (refine wp_region_qx (by kernel_rfl) (by kernel_rfl) ?_
     repeat (go_big_quiet_step (fail))
     refine wpQuiet_nil ?_
     intro wq hw'
     have hxq := ext_of_ex hw'
     clear hw')
    have hxw4 := hxw3.trans hxq
    go_wp2_with fail
    go_ret2
    exact ⟨rfl, hxw4⟩
set_option maxHeartbeats 2000000 in
theorem togD_err (A B : Au) (NA NB : Nat) (hNA : A.next.length = NA) (hNB : B.next.length = NB) (hA0 : 0 < NA) (hB0 : 0 < NB) (hA5 : NA ≤ 5000) (hB5 : NB ≤ 5000) (r : Int) (hr : (A.snd ≠ B.snd ∧ r = 2) ∨ (A.snd = B.snd ∧ 4096 < NA * NB ∧ r = 12)) (w : World) (ba bb : Nat) (hA : AuAt w ba A) (hB : AuAt w bb B) :
    Calls Try.prog 73 #[.pointer (some ⟨ba, 0, none⟩), .pointer (some ⟨bb, 0, none⟩), .func (.func 75) #[] #[]] w (RetEr r w) := by
  have hma := fun W (hW : Ext w W) => made_any A W ba (hA.ext hW)
  have hmb := fun W (hW : Ext w W) => made_any B W bb (hB.ext hW)
  rw [show A.madeB = true by unfold Au.madeB; simp [hNA, hA0]] at hma
  rw [show B.madeB = true by unfold Au.madeB; simp [hNB, hB0]] at hmb
  obtain ⟨sa, sc, na, nc, fa, fc, hbox, hS, hX, hF⟩ := hA
  obtain ⟨sb, sd, nb, nd, fb, fd, hboxb, hSb, hXb, hFb⟩ := hB
  rw [hNA] at hbox
  rw [hNB] at hboxb
  have q0 : w.cell? ⟨ba, 0, none⟩ = some (.slice sa A.snd.length sc) := by simp [World.cell?, hbox]
  have q1 : w.cell? ⟨ba, 1, none⟩ = some (.slice na NA nc) := by simp [World.cell?, hbox]
  have p0 : w.cell? ⟨bb, 0, none⟩ = some (.slice sb B.snd.length sd) := by simp [World.cell?, hboxb]
  have p1 : w.cell? ⟨bb, 1, none⟩ = some (.slice nb NB nd) := by simp [World.cell?, hboxb]
  have hequ := fun W (hW : Ext w W) => seq_any sa sb A.snd.length sc B.snd.length sd A.snd B.snd W (hS.ext hW) (hSb.ext hW)
  have hmi : IntKind.i64.wrap ((NA : Int) * (NB : Int)) = (NA : Int) * (NB : Int) := by
    have h0 : (0 : Int) ≤ (NA : Int) * (NB : Int) := Int.mul_nonneg (by omega) (by omega)
    have h1 : (NA : Int) * (NB : Int) ≤ 5000 * 5000 := Int.mul_le_mul (by omega) (by omega) (by omega) (by omega)
    exact IntWalk.i64_in _ (by omega)
  generalize A.snd.length = n1 at *
  generalize B.snd.length = n2 at *
  generalize A.snd = xs at *
  generalize B.snd = ys at *
  replace hNA := Lib.hid hNA
  replace hNB := Lib.hid hNB
  clear hbox hboxb hX hXb hF hFb hS hSb
  rcases hr with ⟨hne, rfl⟩ | ⟨heq, hmul, rfl⟩
  · have hd : decide (xs = ys) = false := decide_eq_false hne
    replace hne := Lib.hid hne
    go_enter Try.func73, Try.ntmps73
    go_wp2_with fail
    refine (hma _ (Ext.refl _)).mono ?_
    rintro e w1 ⟨rfl, hx1⟩
    have hmb1 := hmb w1 hx1
    clear hma hmb
    go_wp2_with fail
    refine hmb1.mono ?_
    rintro e w2 ⟨rfl, hx2⟩
    have hxw := hx1.trans hx2
    have k0 := hxw.cellv q0
    have m0 := hxw.cellv p0
    have e0 := fun X : ExtOf w2 => X.cell k0
    have e1 := fun X : ExtOf w2 => X.cell m0
    have hequ2 := fun X : ExtOf w2 => hequ X.w (hxw.trans X.h)
    clear hmb1 hequ
    go_wp2_with fail
    (refine wp_region_qx (by kernel_rfl) (by kernel_rfl) ?_
     repeat (go_big_quiet_step ((go_at_call 50; exact calls_ext (cbool (hequ2 _) hd))))
     refine wpQuiet_nil ?_
     intro wq hw'
     have hxq := ext_of_ex hw'
     clear hw')
    have hxw3 := hxw.trans hxq
    go_wp2_with fail
    go_ret2
    exact ⟨rfl, hxw3⟩
  · have hd : decide (xs = ys) = true := decide_eq_true heq
    have hmd : decide ((4096 : Int) < (NA : Int) * (NB : Int)) = true := by
      have h1 : (4096 : Int) < (NA : Int) * (NB : Int) := by have h0 : ((4096 : Nat) : Int) < ((NA * NB : Nat) : Int) := Int.ofNat_lt.2 hmul; rw [Int.natCast_mul] at h0; exact h0
      exact decide_eq_true h1
    replace heq := Lib.hid heq
    replace hmul := Lib.hid hmul
    go_enter Try.func73, Try.ntmps73
    go_wp2_with fail
    refine (hma _ (Ext.refl _)).mono ?_
    rintro e w1 ⟨rfl, hx1⟩
    have hmb1 := hmb w1 hx1
    clear hma hmb
    go_wp2_with fail
    refine hmb1.mono ?_
    rintro e w2 ⟨rfl, hx2⟩
    have hxw := hx1.trans hx2
    have k0 := hxw.cellv q0
    have m0 := hxw.cellv p0
    have e0 := fun X : ExtOf w2 => X.cell k0
    have e1 := fun X : ExtOf w2 => X.cell m0
    have hequ2 := fun X : ExtOf w2 => hequ X.w (hxw.trans X.h)
    clear hmb1 hequ
    go_wp2_with fail
    (refine wp_region_qx (by kernel_rfl) (by kernel_rfl) ?_
     repeat (go_big_quiet_step ((go_at_call 50; exact calls_ext (cbool (hequ2 _) hd))))
     refine wpQuiet_nil ?_
     intro wq hw'
     have hxq := ext_of_ex hw'
     clear hw')
    have hxw3 := hxw.trans hxq
    have k1 := hxw3.cellv q1
    have m1 := hxw3.cellv p1
    clear hequ2 e0 e1 k0 m0 hx1 hx2 hxq hxw
    generalize wq = w3 at *
    have e0 := fun X : ExtOf w3 => X.cell k1
    have e1 := fun X : ExtOf w3 => X.cell m1
    go_wp2_with fail
    (refine wp_region_qx (by kernel_rfl) (by kernel_rfl) ?_
     repeat (go_big_quiet_step (fail))
     refine wpQuiet_nil ?_
     intro wq hw'
     have hxq := ext_of_ex hw'
     clear hw')
    have hxw4 := hxw3.trans hxq
    go_wp2_with fail
    go_ret2
    exact ⟨rfl, hxw4⟩
theorem and_err {w : World} {p q : Option Addr} {r : Int} (h : Calls Try.prog 73 #[.pointer p, .pointer q, .func (.func 74) #[] #[]] w (RetEr r w)) : Calls Try.prog 36 #[.pointer p, .pointer q] w (RetEr r w) := by
  go_enter Try.func36, Try.ntmps36
  go_wp2_with fail
  refine h.mono ?_
  rintro e w1 ⟨rfl, hx1⟩
  go_wp2_with fail
  go_ret2
  exact ⟨rfl, hx1⟩
theorem and_ok {w : World} {p q : Option Addr} {A : Au} (h : Calls Try.prog 73 #[.pointer p, .pointer q, .func (.func 74) #[] #[]] w (RetBu A w)) : Calls Try.prog 36 #[.pointer p, .pointer q] w (RetBu A w) := by
  go_enter Try.func36, Try.ntmps36
  go_wp2_with fail
  refine h.mono ?_
  rintro e w1 ⟨b, rfl, hA, hx1⟩
  replace hA := Lib.hid hA
  go_wp2_with fail
  go_ret2
  exact ⟨b, rfl, hA.out, hx1⟩
theorem differ_err {w : World} {p q : Option Addr} {r : Int} (hr : (r == 0) = false) (h : Calls Try.prog 73 #[.pointer p, .pointer q, .func (.func 75) #[] #[]] w (RetEr r w)) : Calls Try.prog 37 #[.pointer p, .pointer q] w fun e w' => e = .returned (.tuple #[.slice none 0 0, .bool false, .int .i64 r]) ∧ Ext w w' := by
  have hr2 : (r != 0) = true := by simpa using hr
  go_enter Try.func37, Try.ntmps37
  go_wp2_with fail
  refine h.mono ?_
  rintro e w1 ⟨rfl, hx1⟩
  go_wp2_with fail
  go_ret3
  exact ⟨rfl, hx1⟩
end Go.Proofs.Ytilkemdecenibaa
