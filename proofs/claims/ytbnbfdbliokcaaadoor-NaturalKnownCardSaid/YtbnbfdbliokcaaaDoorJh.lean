/-
  Closure of the program and of the reference.
-/
import Derived.Test.YtbnbfdbliokcaaaDoorJg
import Derived.Deep.RegionHeld3
namespace Go.Proofs.YtbnbfdbliokcaaaDoor
open Go.RowKit
/-! ### Plain -/
def closE (all some : List Snd) : Int := if chkI 256 all = 0 then if some = [] ∨ ∃ s ∈ some, s ∉ all then 5 else 0 else chkI 256 all
def clC (all some : List Snd) : Snd := if closE all some = 0 then comS some else ⟨0#32, 0#32⟩
def clL (all some : List Snd) : List Int := if closE all some = 0 then memL all (comS some) else []
theorem closE_zero {all some : List Snd} (h : closE all some = 0) : chkI 256 all = 0 ∧ some ≠ [] ∧ ∀ s ∈ some, s ∈ all := by
  unfold closE at h
  split at h
  · rename_i h1
    split at h
    · cases h
    · rename_i h2
      exact ⟨h1, fun e => h2 (.inl e), fun s hs => Classical.byContradiction fun hn => h2 (.inr ⟨s, hs, hn⟩)⟩
  · rename_i h1; exact absurd h h1
theorem closE_of {all some : List Snd} (h1 : chkI 256 all = 0) (h2 : some ≠ []) (h3 : ∀ s ∈ some, s ∈ all) : closE all some = 0 := by
  unfold closE
  rw [if_pos h1, if_neg]
  rintro (h | ⟨s, hs, hn⟩)
  · exact h2 h
  · exact hn (h3 s hs)
theorem closE_none {all some : List Snd} (h1 : chkI 256 all = 0) (h2 : some = [] ∨ ∃ s ∈ some, s ∉ all) : closE all some = 5 := by
  unfold closE; rw [if_pos h1, if_pos h2]
theorem closE_bad {all some : List Snd} (h1 : chkI 256 all ≠ 0) : closE all some = chkI 256 all := by
  unfold closE; rw [if_neg h1]
/-- The error: the values that go with it. -/
theorem cl_bad {all some : List Snd} {E : Int} (h : closE all some = E) (hE : E ≠ 0) : clC all some = ⟨0#32, 0#32⟩ ∧ clL all some = [] := by
  unfold clC clL
  rw [if_neg (by rw [h]; exact hE), if_neg (by rw [h]; exact hE)]
  exact ⟨rfl, rfl⟩
theorem cl_good {all some : List Snd} (h : closE all some = 0) : clC all some = comS some ∧ clL all some = memL all (comS some) := by
  unfold clC clL
  rw [if_pos h, if_pos h]
  exact ⟨rfl, rfl⟩
/-- The common values after k rounds of the program. -/
def comP (xs : List Snd) (k : Nat) : Snd := comS (xs.take (max k 1))
theorem comP_zero {xs : List Snd} {x : Snd} (h : xs[0]? = some x) : comP xs 0 = x := comS_take_one h
theorem comP_succ {xs : List Snd} {k : Nat} {x : Snd} (h : xs[k]? = some x) : comP xs (k + 1) = meetS (comP xs k) x := by
  unfold comP
  by_cases e : k = 0
  · subst e
    show comS (xs.take 1) = meetS (comS (xs.take 1)) x
    rw [comS_take_one h, meetS_self]
  · rw [show max (k + 1) 1 = k + 1 by omega, show max k 1 = k by omega]
    exact comS_take (by omega) h
theorem comP_full {xs : List Snd} {n : Nat} (h : xs.length = n) (hn : 0 < n) : comP xs n = comS xs := by
  unfold comP; rw [List.take_of_length_le (by omega)]
theorem comP_ok {xs : List Snd} (hall : ∀ x ∈ xs, x.ok = true) (hl : 0 < xs.length) (k : Nat) : (comP xs k).ok = true := comS_take_ok hall (by omega) hl
theorem SndB.set0 {w : World} {B : Nat} {s : Snd} (h : SndB w B s) : SndB ((w.setCell ⟨B, 0, none⟩ (.int .u32 0)).setCell ⟨B, 1, none⟩ (.int .u32 0)) B ⟨0#32, 0#32⟩ := h.set ⟨0#32, 0#32⟩
theorem SndB.setx0 {w0 w : World} {B : Nat} (hx : Ext w0 w) (hB : w0.heap.size ≤ B) : Ext w0 ((w.setCell ⟨B, 0, none⟩ (.int .u32 0)).setCell ⟨B, 1, none⟩ (.int .u32 0)) := SndB.setx hx hB ⟨0#32, 0#32⟩
theorem OwnK.below {α : Type} {k : Nat} {enc : α → List Value} {B C i : Nat} {e : TypeId} {w : World} {v u : Value} {xs : List α} (h : OwnK k enc B e w v xs) (hC : C < B) : OwnK k enc B e (w.setCell ⟨C, i, none⟩ u) v xs := by
  obtain ⟨h1, h2⟩ := h
  refine ⟨h1, ?_⟩
  rcases h2 with h2 | ⟨g, cap, cur, hv, hg, hh, r⟩
  · exact .inl h2
  · refine .inr ⟨g, cap, cur, hv, hg, ?_, r⟩
    have : (w.setCell ⟨C, i, none⟩ u).heap[g]? = w.heap[g]? := by
      show (w.heap.modify C _)[g]? = _
      rw [Array.getElem?_modify, if_neg (by omega)]
    exact this.trans hh
def RetC (all some : List Snd) (w : World) (e : Ending) (w' : World) : Prop :=
  ∃ v, e = .returned (.tuple #[sndV (clC all some), v, .int .i64 (closE all some)]) ∧ OwnI w.heap.size 3 w' v (clL all some) ∧ Ext w w'
theorem RetC.bad {all some : List Snd} {w w' : World} {E : Int} (h : closE all some = E) (hE : E ≠ 0) (hx : Ext w w') {e : Ending} (he : e = .returned (.tuple #[sndV ⟨0#32, 0#32⟩, .slice none 0 0, .int .i64 E])) : RetC all some w e w' := by
  obtain ⟨h1, h2⟩ := cl_bad h hE
  refine ⟨.slice none 0 0, ?_, ?_, hx⟩
  · rw [he, h1, h]
  · rw [h2]; exact OwnK.nil _ _ _
/-! ### The program -/
set_option maxHeartbeats 1000000 in
theorem closure_any (a : Option Addr) (n cap : Nat) (xs : List Snd) (b : Option Addr) (m cap2 : Nat) (ys : List Snd) (w : World) (hr : RdS w a n cap xs) (hs : RdS w b m cap2 ys) :
    Calls Tryd.prog 15 #[.slice a n cap, .slice b m cap2] w (RetC xs ys w) := by
  have hl := hr.len
  have hl2 := hs.len
  have hmax : n ≤ 9223372036854775807 := by have := hr.le; have := hr.most; unfold maxLen at this; omega
  have hmax2 : m ≤ 9223372036854775807 := by have := hs.le; have := hs.most; unfold maxLen at this; omega
  have q0 := SndB.zero w
  have hxB : Ext w (w.alloc (.cells #[.int .u32 0, .int .u32 0] 27)) := (by repeat (first | exact Ext.refl _ | refine Ext.drew ?_ | refine Ext.drewN ?_ _ | refine Ext.alloc ?_ _))
  by_cases hc : chkI 256 xs = 0
  · have hck := fun W (h : RdS W a n cap xs) => cint (check_any 256 (by omega) a n cap xs W h) hc
    obtain ⟨hn, hok, hnd⟩ := chkI_zero hc
    rw [hl] at hn
    by_cases hm0 : m = 0
    · have hE : Hid (closE xs ys = 5) := Lib.hid (closE_none hc (.inl (List.eq_nil_of_length_eq_zero (by omega))))
      subst hm0
      replace hl := Lib.hid hl
      replace hl2 := Lib.hid hl2
      replace hc := Lib.hid hc
      clear hnd
      go_enter Tryd.func15, Tryd.ntmps15
      go_wp2_with fail
      generalize (w.alloc (.cells #[.int .u32 0, .int .u32 0] 27)) = wB at *
      refine (hck wB (hr.ext hxB)).mono ?_
      rintro e w1 ⟨rfl, hx1⟩
      clear hck
      have hx := hxB.trans hx1
      have q0 := q0.ext hx1
      obtain ⟨c0, c1⟩ := q0.cells
      obtain ⟨f0, f1⟩ := q0.frz
      (have hfin := q0.set0
       have hx' := SndB.setx0 (B := w.heap.size) hx (Nat.le_refl _)
       go_wp2_with fail
       exact bodyPost_ret (ret_snd_t2 rfl _ _ w.heap.size _ rfl hfin) rfl (RetC.bad hE.out (by decide) hx' rfl))
    · have hmp : 0 < m := by omega
      obtain ⟨b0, off0, s0, rfl, hs0, hb0, p0, p1⟩ := hs.snd hmp
      have hz0 : 0 * 2 = 0 := rfl
      rw [hz0, Nat.add_zero] at p0 p1
      have hone := comP_zero hs0.out
      have hd0 : ((m : Int) == 0) = false := by simpa using hm0
      replace hl := Lib.hid hl
      replace hl2 := Lib.hid hl2
      replace hc := Lib.hid hc
      replace hone := Lib.hid hone
      replace hm0 := Lib.hid hm0
      clear hnd
      go_enter Tryd.func15, Tryd.ntmps15
      go_wp2_with fail
      generalize (w.alloc (.cells #[.int .u32 0, .int .u32 0] 27)) = wB at *
      refine (hck wB (hr.ext hxB)).mono ?_
      rintro e w1 ⟨rfl, hx1⟩
      clear hck
      have hx := hxB.trans hx1
      have q0 := q0.ext hx1
      have p0 := hx.cellv p0
      have p1 := hx.cellv p1
      have l0 := q0.lt
      go_wp2_with fail
      have q1 : SndB (w1.alloc (.cells #[.int .u32 s0.p.toNat, .int .u32 s0.m.toNat] 27)) w1.heap.size (comP ys 0) := by rw [hone.out]; exact SndB.new w1 s0
      have q0 := q0.ext (Ext.alloc1 _ (.cells #[.int .u32 s0.p.toNat, .int .u32 s0.m.toNat] 27))
      have hx := hx.alloc (.cells #[.int .u32 s0.p.toNat, .int .u32 s0.m.toNat] 27)
      have hBge : w.heap.size < w1.heap.size := l0
      generalize w1.heap.size = B at *
      generalize (w1.alloc (.cells #[.int .u32 s0.p.toNat, .int .u32 s0.m.toNat] 27)) = wC at *
      clear p0 p1
      go_loopw [26] (fun i wr => ∃ k : Nat, k ≤ m ∧ i = .int .i64 k ∧ SndB wr w.heap.size ⟨0#32, 0#32⟩ ∧ SndB wr B (comP ys k) ∧ Hid (∀ (i : Nat) (y : Snd), i < k → ys[i]? = some y → decide (y ∈ xs) = true) ∧ Ext w wr) (fun i _ => m - (intOf i).toNat)
      case atStart => exact ⟨0, Nat.zero_le _, rfl, q0, q1, Lib.hid (fun i x h => absurd h (Nat.not_lt_zero _)), hx⟩
      case round =>
        clear q0 q1 hx
        obtain ⟨k, hk, rfl, q0, q1, hall, hx⟩ := hrel
        have l0 := q0.lt
        have l1 := q1.lt
        by_cases hlt : k < m
        · have hki : (k : Int) < (m : Int) := by omega
          obtain ⟨b1, off1, s, heq, hsk, hb1, p0, p1⟩ := (hs.ext hx).snd hlt
          cases heq
          have hcall := fun W (h : RdS W a n cap xs) => containsS_any a n cap xs s W h
          by_cases hin : s ∈ xs
          · have hdin : decide (s ∈ xs) = true := by simpa using hin
            have hsok := hok s hin
            have hall2 := Lib.hid (all_succ (p := fun y => decide (y ∈ xs)) hall.out hsk.out hdin)
            have hCok : (comP ys k).ok = true := by
              by_cases e : k = 0
              · subst e; rw [hone.out]
                have : s0 = s := by have h1 := hs0.out; have h2 := hsk.out; rw [h1] at h2; exact Option.some.inj h2
                rw [this]; exact hsok
              · unfold comP
                refine comS_ok (fun e2 => ?_) fun x hx => ?_
                · have h2 := congrArg List.length e2
                  rw [List.length_take, List.length_nil] at h2
                  have := hl2.out; omega
                · obtain ⟨i, hi⟩ := List.getElem?_of_mem hx
                  rw [List.getElem?_take] at hi
                  split at hi
                  · exact hok x (of_decide_eq_true (hall.out i x (by omega) hi))
                  · cases hi
            have hsu := comP_succ hsk.out
            have hmeet := fun W => meet_any (comP ys k) s W hCok hsok
            rw [← hsu] at hmeet
            rw [hdin] at hcall
            replace hsk := Lib.hid hsk.out
            replace hsu := Lib.hid hsu
            replace hin := Lib.hid hin
            clear hdin hCok
            generalize comP ys k = C at *
            generalize hD : comP ys (k + 1) = D at *
            replace hD := Lib.hid hD
            go_wp2_with fail
            refine (hcall _ ((hr.ext hx).ext (Ext.alloc1 _ _))).mono ?_
            rintro e w2 ⟨rfl, hx2⟩
            obtain ⟨d0, d1⟩ := ((SndB.new wr s).ext hx2).cells
            have hx3 := (Ext.alloc1 wr (.cells #[.int .u32 s.p.toNat, .int .u32 s.m.toNat] 27)).trans hx2
            have q0 := q0.ext hx3
            have q1 := q1.ext hx3
            have hx := hx.trans hx3
            clear hcall hx2 hx3
            obtain ⟨c0, c1⟩ := q1.cells
            go_wp2_with fail
            refine (hmeet _).mono ?_
            rintro e w3 ⟨rfl, hx2⟩
            have q0 := q0.ext hx2
            have q1 := q1.ext hx2
            have hx := hx.trans hx2
            clear hmeet hx2 c0 c1 d0 d1
            obtain ⟨c0, c1⟩ := q1.cells
            obtain ⟨f0, f1⟩ := q1.frz
            have hfin := q1.set D
            have hx' := SndB.setx (B := B) hx (Nat.le_of_lt hBge) D
            have q0 := q0.offB (C := B) (by omega) D
            clear q1
            go_wp2_with fail
            (first | exact ⟨⟨k + 1, by omega, by go_num, q0, by rw [hD.out]; exact hfin, hall2, hx'⟩, (by simp [intOf]; omega)⟩ | (go_roundw; case rel => exact ⟨k + 1, by omega, by go_num, q0, by rw [hD.out]; exact hfin, hall2, hx'⟩; case measure => exact (by simp [intOf]; omega)))
          · have hdin : decide (s ∈ xs) = false := by simpa using hin
            have hE : Hid (closE xs ys = 5) := Lib.hid (closE_none hc.out (.inr ⟨s, List.mem_of_getElem? hsk.out, hin⟩))
            rw [hdin] at hcall
            replace hsk := Lib.hid hsk.out
            replace hin := Lib.hid hin
            go_wp2_with fail
            refine (hcall _ ((hr.ext hx).ext (Ext.alloc1 _ _))).mono ?_
            rintro e w2 ⟨rfl, hx2⟩
            have hx3 := (Ext.alloc1 wr (.cells #[.int .u32 s.p.toNat, .int .u32 s.m.toNat] 27)).trans hx2
            have q0 := q0.ext hx3
            have hx := hx.trans hx3
            clear hcall hx2 hx3
            obtain ⟨c0, c1⟩ := q0.cells
            obtain ⟨f0, f1⟩ := q0.frz
            (have hfin := q0.set0
             have hx' := SndB.setx0 (B := w.heap.size) hx (Nat.le_refl _)
             go_wp2_with fail
             exact bodyPost_ret (ret_snd_t2 rfl _ _ w.heap.size _ rfl hfin) rfl (RetC.bad hE.out (by decide) hx' rfl))
        · have hkm : k = m := by omega
          subst hkm
          have hin : ∀ s ∈ ys, s ∈ xs := fun s hs' => by
            obtain ⟨i, hi⟩ := List.getElem?_of_mem hs'
            exact of_decide_eq_true (hall.out i s (by have := (List.getElem?_eq_some_iff.1 hi).1; have := hl2.out; omega) hi)
          have hE := closE_of hc.out (fun e => by have := hl2.out; rw [e] at this; simp at this; omega) hin
          obtain ⟨g1, g2⟩ := cl_good hE
          have hful := comP_full hl2.out hmp
          rw [hful] at q1
          have hCok : (comS ys).ok = true := comS_ok (fun e => by have := hl2.out; rw [e] at this; simp at this; omega) fun x hx => hok x (hin x hx)
          have hcall := fun W (h : RdS W a n cap xs) => members_any a n cap xs (comS ys) W h (by omega) hok hCok
          rw [← g2] at hcall
          replace hful := Lib.hid hful
          replace hE := Lib.hid hE
          replace g1 := Lib.hid g1
          replace g2 := Lib.hid g2
          replace hCok := Lib.hid hCok
          replace hin := Lib.hid hin
          generalize hM : comS ys = M at *
          replace hM := Lib.hid hM
          obtain ⟨c0, c1⟩ := q1.cells
          go_wp2_with fail
          have hBne : B ≠ w.heap.size := by omega
          have hEd : Ext wr wr.drew := (Ext.refl _).drew
          go_region_held3 (fun w' => w'.cell? ⟨B, 0, none⟩ = some (.int .u32 M.p.toNat) ∧ w'.cell? ⟨B, 1, none⟩ = some (.int .u32 M.m.toNat))
            ((first | exact ⟨hEd.cellv c0, hEd.cellv c1⟩ | exact ⟨hEq.cellv c0, hEq.cellv c1⟩ | exact hSo))
            ((go_at_call 49; refine (hcall _ (hr.ext (hx.trans (Ext.refl _).drew))).mono ?_; rintro e wq ⟨v1, rfl, hown, hxq⟩; have hEq : Ext wr wq := Ext.trans ((Ext.refl _).drew) hxq; have q0q := q0.ext hEq; obtain ⟨c2, c3⟩ := q0q.cells; obtain ⟨f0, f1⟩ := q0q.frz; have hSo := ((q1.ext hEq).offB (C := w.heap.size) hBne M).cells))
          have hfin := q0q.set M
          have hx' := SndB.setx (B := w.heap.size) (hx.trans hEq) (Nat.le_refl _) M
          have hown' := OwnK.base ((hown.below (C := w.heap.size) (i := 0) (u := .int .u32 M.p.toNat) l0).below (C := w.heap.size) (i := 1) (u := .int .u32 M.m.toNat) l0) (show w.heap.size ≤ wr.drew.heap.size from Nat.le_of_lt l0)
          go_wp2_with fail
          exact bodyPost_ret (ret_snd_t2 rfl _ _ w.heap.size _ rfl hfin) rfl ⟨v1, by rw [hE.out, g1.out]; rfl, by first | exact hown' | (rw [g2.out]; exact hown'), hx'⟩
  · obtain ⟨E, hE⟩ : ∃ E, chkI 256 xs = E := ⟨_, rfl⟩
    have hck := fun W (h : RdS W a n cap xs) => cint (check_any 256 (by omega) a n cap xs W h) hE
    have hE0 : E ≠ 0 := by rw [← hE]; exact hc
    have hEd : (E != 0) = true := by simpa using hE0
    have hE : Hid (closE xs ys = E) := Lib.hid ((closE_bad hc).trans hE)
    replace hc := Lib.hid hc
    replace hE0 := Lib.hid hE0
    replace hl := Lib.hid hl
    replace hl2 := Lib.hid hl2
    go_enter Tryd.func15, Tryd.ntmps15
    go_wp2_with fail
    generalize (w.alloc (.cells #[.int .u32 0, .int .u32 0] 27)) = wB at *
    refine (hck wB (hr.ext hxB)).mono ?_
    rintro e w1 ⟨rfl, hx1⟩
    clear hck
    have hx := hxB.trans hx1
    have q0 := q0.ext hx1
    obtain ⟨c0, c1⟩ := q0.cells
    obtain ⟨f0, f1⟩ := q0.frz
    have hfin := q0.set0
    have hx' := SndB.setx0 (B := w.heap.size) hx (Nat.le_refl _)
    go_wp2_with fail
    exact bodyPost_ret (ret_snd_t2 rfl _ _ w.heap.size _ rfl hfin) rfl (RetC.bad hE.out hE0.out hx' rfl)
/-! ### The reference -/
set_option maxHeartbeats 1000000 in
theorem rclosure_any (a : Option Addr) (n cap : Nat) (xs : List Snd) (b : Option Addr) (m cap2 : Nat) (ys : List Snd) (w : World) (hr : RdS w a n cap xs) (hs : RdS w b m cap2 ys) :
    Calls Tryd.prog 16 #[.slice a n cap, .slice b m cap2] w (RetC xs ys w) := by
  have hl := hr.len
  have hl2 := hs.len
  have hmax : n ≤ 9223372036854775807 := by have := hr.le; have := hr.most; unfold maxLen at this; omega
  have hmax2 : m ≤ 9223372036854775807 := by have := hs.le; have := hs.most; unfold maxLen at this; omega
  have q0 := SndB.zero w
  have hxB : Ext w (w.alloc (.cells #[.int .u32 0, .int .u32 0] 27)) := (by repeat (first | exact Ext.refl _ | refine Ext.drew ?_ | refine Ext.drewN ?_ _ | refine Ext.alloc ?_ _))
  by_cases hc : chkI 256 xs = 0
  · have hck := fun W (h : RdS W a n cap xs) => cint (rcheck_any 256 a n cap xs W h) hc
    obtain ⟨hn, hok, hnd⟩ := chkI_zero hc
    rw [hl] at hn
    replace hl := Lib.hid hl
    replace hl2 := Lib.hid hl2
    replace hc := Lib.hid hc
    clear hnd
    go_enter Tryd.func16, Tryd.ntmps16
    go_wp2_with fail
    generalize (w.alloc (.cells #[.int .u32 0, .int .u32 0] 27)) = wB at *
    refine (hck wB (hr.ext hxB)).mono ?_
    rintro e w1 ⟨rfl, hx1⟩
    clear hck
    have hx := hxB.trans hx1
    have q0 := q0.ext hx1
    go_wp2_with fail
    go_loopw [8] (fun i wr => ∃ k : Nat, k ≤ m ∧ i = .int .i64 k ∧ SndB wr w.heap.size ⟨0#32, 0#32⟩ ∧ Hid (∀ (i : Nat) (y : Snd), i < k → ys[i]? = some y → decide (y ∈ xs) = true) ∧ Ext w wr) (fun i _ => m - (intOf i).toNat)
    case atStart => exact ⟨0, Nat.zero_le _, rfl, q0, Lib.hid (fun i x h => absurd h (Nat.not_lt_zero _)), hx⟩
    case round =>
      clear q0 hx hx1
      obtain ⟨k, hk, rfl, q0, hall, hx⟩ := hrel
      have l0 := q0.lt
      by_cases hlt : k < m
      · have hki : (k : Int) < (m : Int) := by omega
        obtain ⟨b1, off1, s, rfl, hsk, hb1, p0, p1⟩ := (hs.ext hx).snd hlt
        have hcall := fun W (h : RdS W a n cap xs) => rhas_any a n cap xs s W h
        by_cases hin : s ∈ xs
        · have hdin : decide (s ∈ xs) = true := by simpa using hin
          have hall2 := Lib.hid (all_succ (p := fun y => decide (y ∈ xs)) hall.out hsk.out hdin)
          rw [hdin] at hcall
          replace hsk := Lib.hid hsk.out
          replace hin := Lib.hid hin
          clear hdin
          go_wp2_with fail
          refine (hcall _ (hr.ext hx)).mono ?_
          rintro e w2 ⟨rfl, hx2⟩
          have q0 := q0.ext hx2
          have hx := hx.trans hx2
          clear hcall hx2
          go_wp2_with fail
          (first | exact ⟨⟨k + 1, by omega, by go_num, q0, hall2, hx⟩, (by simp [intOf]; omega)⟩ | (go_roundw; case rel => exact ⟨k + 1, by omega, by go_num, q0, hall2, hx⟩; case measure => exact (by simp [intOf]; omega)))
        · have hdin : decide (s ∈ xs) = false := by simpa using hin
          have hE : Hid (closE xs ys = 5) := Lib.hid (closE_none hc.out (.inr ⟨s, List.mem_of_getElem? hsk.out, hin⟩))
          rw [hdin] at hcall
          replace hsk := Lib.hid hsk.out
          replace hin := Lib.hid hin
          clear hdin
          go_wp2_with fail
          refine (hcall _ (hr.ext hx)).mono ?_
          rintro e w2 ⟨rfl, hx2⟩
          have q0 := q0.ext hx2
          have hx := hx.trans hx2
          clear hcall hx2
          obtain ⟨c0, c1⟩ := q0.cells
          obtain ⟨f0, f1⟩ := q0.frz
          (have hfin := q0.set0
           have hx' := SndB.setx0 (B := w.heap.size) hx (Nat.le_refl _)
           go_wp2_with fail
           exact bodyPost_ret (ret_snd_t2 rfl _ _ w.heap.size _ rfl hfin) rfl (RetC.bad hE.out (by decide) hx' rfl))
      · have hkm : k = m := by omega
        subst hkm
        have hin : ∀ s ∈ ys, s ∈ xs := fun s hs' => by
          obtain ⟨i, hi⟩ := List.getElem?_of_mem hs'
          exact of_decide_eq_true (hall.out i s (by have := (List.getElem?_eq_some_iff.1 hi).1; have := hl2.out; omega) hi)
        by_cases hm0 : k = 0
        · have hd0 : ((k : Int) == 0) = true := by simpa using hm0
          have hE : Hid (closE xs ys = 5) := Lib.hid (closE_none hc.out (.inl (List.eq_nil_of_length_eq_zero (by rw [hl2.out]; exact hm0))))
          replace hm0 := Lib.hid hm0
          replace hin := Lib.hid hin
          obtain ⟨c0, c1⟩ := q0.cells
          obtain ⟨f0, f1⟩ := q0.frz
          (have hfin := q0.set0
           have hx' := SndB.setx0 (B := w.heap.size) hx (Nat.le_refl _)
           go_wp2_with fail
           exact bodyPost_ret (ret_snd_t2 rfl _ _ w.heap.size _ rfl hfin) rfl (RetC.bad hE.out (by decide) hx' rfl))
        · have hd0 : ((k : Int) == 0) = false := by simpa using hm0
          have hne : ys ≠ [] := fun e => by have := hl2.out; rw [e] at this; simp at this; omega
          have hE := closE_of hc.out hne hin
          obtain ⟨g1, g2⟩ := cl_good hE
          have hCok : (comS ys).ok = true := comS_ok hne fun x hx => hok x (hin x hx)
          have hcall := fun W (h : RdS W a n cap xs) => rmembers_any a n cap xs (comS ys) W h (by omega) hok hCok
          have hcom := fun W (h : RdS W b k cap2 ys) => rcommon_any b k cap2 ys W h (by omega) fun x hx => hok x (hin x hx)
          rw [← g2] at hcall
          replace hE := Lib.hid hE
          replace g1 := Lib.hid g1
          replace g2 := Lib.hid g2
          replace hCok := Lib.hid hCok
          replace hin := Lib.hid hin
          replace hne := Lib.hid hne
          replace hm0 := Lib.hid hm0
          generalize hM : comS ys = M at *
          replace hM := Lib.hid hM
          go_wp2_with fail
          refine (hcom _ (hs.ext hx)).mono ?_
          rintro e w2 ⟨rfl, hx2⟩
          have q0 := q0.ext hx2
          have hx := hx.trans hx2
          clear hcom hx2
          have l0 := q0.lt
          go_wp2_with fail
          have q1 := SndB.new w2 M
          have q0 := q0.ext (Ext.alloc1 _ (.cells #[.int .u32 M.p.toNat, .int .u32 M.m.toNat] 27))
          have hx := hx.alloc (.cells #[.int .u32 M.p.toNat, .int .u32 M.m.toNat] 27)
          have hBne : w2.heap.size ≠ w.heap.size := by omega
          have l1 := q1.lt
          generalize w2.heap.size = B at *
          generalize (w2.alloc (.cells #[.int .u32 M.p.toNat, .int .u32 M.m.toNat] 27)) = wr at *
          obtain ⟨c0, c1⟩ := q1.cells
          have hEd : Ext wr wr.drew := (Ext.refl _).drew
          have l0 := q0.lt
          go_region_held3 (fun w' => w'.cell? ⟨B, 0, none⟩ = some (.int .u32 M.p.toNat) ∧ w'.cell? ⟨B, 1, none⟩ = some (.int .u32 M.m.toNat))
            ((first | exact ⟨hEd.cellv c0, hEd.cellv c1⟩ | exact ⟨hEq.cellv c0, hEq.cellv c1⟩ | exact hSo))
            ((go_at_call 53; refine (hcall _ (hr.ext (hx.trans (Ext.refl _).drew))).mono ?_; rintro e wq ⟨v1, rfl, hown, hxq⟩; have hEq : Ext wr wq := Ext.trans ((Ext.refl _).drew) hxq; have q0q := q0.ext hEq; obtain ⟨c2, c3⟩ := q0q.cells; obtain ⟨f0, f1⟩ := q0q.frz; have hSo := ((q1.ext hEq).offB (C := w.heap.size) hBne M).cells))
          have hfin := q0q.set M
          have hx' := SndB.setx (B := w.heap.size) (hx.trans hEq) (Nat.le_refl _) M
          have hown' := OwnK.base ((hown.below (C := w.heap.size) (i := 0) (u := .int .u32 M.p.toNat) l0).below (C := w.heap.size) (i := 1) (u := .int .u32 M.m.toNat) l0) (show w.heap.size ≤ wr.drew.heap.size from Nat.le_of_lt l0)
          go_wp2_with fail
          exact bodyPost_ret (ret_snd_t2 rfl _ _ w.heap.size _ rfl hfin) rfl ⟨v1, by rw [hE.out, g1.out]; rfl, by first | exact hown' | (rw [g2.out]; exact hown'), hx'⟩
  · obtain ⟨E, hE⟩ : ∃ E, chkI 256 xs = E := ⟨_, rfl⟩
    have hck := fun W (h : RdS W a n cap xs) => cint (rcheck_any 256 a n cap xs W h) hE
    have hE0 : E ≠ 0 := by rw [← hE]; exact hc
    have hEd : (E != 0) = true := by simpa using hE0
    have hE : Hid (closE xs ys = E) := Lib.hid ((closE_bad hc).trans hE)
    replace hc := Lib.hid hc
    replace hE0 := Lib.hid hE0
    replace hl := Lib.hid hl
    replace hl2 := Lib.hid hl2
    go_enter Tryd.func16, Tryd.ntmps16
    go_wp2_with fail
    generalize (w.alloc (.cells #[.int .u32 0, .int .u32 0] 27)) = wB at *
    refine (hck wB (hr.ext hxB)).mono ?_
    rintro e w1 ⟨rfl, hx1⟩
    clear hck
    have hx := hxB.trans hx1
    have q0 := q0.ext hx1
    obtain ⟨c0, c1⟩ := q0.cells
    obtain ⟨f0, f1⟩ := q0.frz
    have hfin := q0.set0
    have hx' := SndB.setx0 (B := w.heap.size) hx (Nat.le_refl _)
    go_wp2_with fail
    exact bodyPost_ret (ret_snd_t2 rfl _ _ w.heap.size _ rfl hfin) rfl (RetC.bad hE.out hE0.out hx' rfl)
end Go.Proofs.YtbnbfdbliokcaaaDoor
