/-
  law.Apply.
  derive.Check, derive.check.
-/
import Derived.Test.YtadncjpknckaaaaGreatDoorA24
import Derived.Deep.MidRow
namespace Go.Proofs.YtadncjpknckaaaaGreatDoor
open Go.RowKit Go.Shelf
attribute [local go_sem] Oper.semAt_some
/-- What Apply makes of a word: none if law or word are not in order, or if it grows too long. -/
def applyM (L : HL) (ws : List Snd) : Option (List Snd) := if lawOkB L = true ∧ wordOk ws = true then runM L ws else none
theorem applyM_some {L : HL} {ws : List Snd} : ((lawOkB L = true ∧ wordOk ws = true) ∧ (runM L ws).isSome = true) ↔ (applyM L ws).isSome = true := by
  unfold applyM
  by_cases h : lawOkB L = true ∧ wordOk ws = true
  · rw [if_pos h]; simp [h]
  · rw [if_neg h]; simp [h]
def RetAp (r : Option (List Snd)) (w : World) (e : Ending) (w' : World) : Prop := ∃ (a : Option Addr) (n cap : Nat) (err : Int), e = .returned (.tuple #[.slice a n cap, .int .i64 err]) ∧ Ext w w' ∧ Hid (err = 0 ↔ r.isSome = true) ∧ Hid (∀ x, r = some x → OwnS w.heap.size 52 w' (.slice a n cap) x)
set_option maxHeartbeats 1000000 in
set_option maxRecDepth 20000 in
theorem apply_any (L : HL) (a : Option Addr) (nw cap : Nat) (ws : List Snd) (w : World) (hL : RdLw w L) (hws : RdS w a nw cap ws) (hT : Tab64 w) :
    Calls Tryz.prog 18 #[lawV L, .slice a nw cap] w (RetAp (applyM L ws) w) := by
  have hB := LawB.new w L
  have hX : Ext w (w.alloc (.cells #[.string L.name, .int .i64 L.left.kind, .int .u32 L.left.is.p.toNat, .int .u32 L.left.is.m.toNat, .bool L.left.neg, .int .i64 L.left.mn, .int .i64 L.left.mx, .slice L.left.a L.left.n L.left.cap, .int .i64 L.right.kind, .int .u32 L.right.is.p.toNat, .int .u32 L.right.is.m.toNat, .bool L.right.neg, .int .i64 L.right.mn, .int .i64 L.right.mx, .slice L.right.a L.right.n L.right.cap, .slice L.ia L.ifs.length L.icap, .slice L.oa L.outs.length L.ocap, .int .i64 L.mode] 58)) := Ext.alloc1 _ _
  go_enter Tryz.func18, Tryz.ntmps18
  refine seq_stop fun K hK => ?_
  go_wp2_with fail
  refine hK.out _ _ ?_
  clear hK
  generalize (w.alloc (.cells #[.string L.name, .int .i64 L.left.kind, .int .u32 L.left.is.p.toNat, .int .u32 L.left.is.m.toNat, .bool L.left.neg, .int .i64 L.left.mn, .int .i64 L.left.mx, .slice L.left.a L.left.n L.left.cap, .int .i64 L.right.kind, .int .u32 L.right.is.p.toNat, .int .u32 L.right.is.m.toNat, .bool L.right.neg, .int .i64 L.right.mn, .int .i64 L.right.mx, .slice L.right.a L.right.n L.right.cap, .slice L.ia L.ifs.length L.icap, .slice L.oa L.outs.length L.ocap, .int .i64 L.mode] 58)) = w1 at *
  generalize hb1 : w.heap.size = b1 at *
  replace hb1 := Lib.hid hb1
  go_wp2_with (refine wpList_load_row rfl 58 _ rfl b1 rfl 58 _ (0, 0) _ hB Tryz.underlying58 rfl (by kernel_rfl) ?_)
  refine (trace_any L a nw cap ws w1 (hL.ext hX) (hws.ext hX) (hT.ext hX)).mono ?_
  rintro e w2 ⟨p, a2, n2, c2, err, rfl, hx2, herr, hres⟩
  have hX2 := hX.trans hx2
  by_cases h0 : err = 0
  · subst h0
    have hs : (applyM L ws).isSome = true := applyM_some.1 (herr.out.1 rfl)
    have hap : applyM L ws = runM L ws := by unfold applyM; rw [if_pos (herr.out.1 rfl).1]
    rcases hres.out rfl with ⟨rfl, hr⟩ | ⟨hs', h, x, hn2, hrd, hr, ho⟩
    · have hn60 : nw ≤ 60000 := by
        have h1 := (herr.out.1 rfl).1.2
        unfold wordOk at h1
        rw [Bool.and_eq_true, decide_eq_true_eq] at h1
        have := hws.len; omega
      have hfin : Hid (applyM L ws = some ws) := Lib.hid (by rw [hap, hr])
      clear hap hr hres herr hs
      go_wp2_with fail
      refine (clone_any a nw cap ws w2 (hws.ext hX2) hn60).mono ?_
      rintro e w3 ⟨v3, rfl, ho3, hx3⟩
      obtain ⟨a3, n3, c3, hz3, rfl, _⟩ := OwnK.rdn Snd.len ho3
      clear hz3
      go_wp2_with fail
      go_ret2
      exact ⟨_, _, _, _, rfl, hX2.trans hx3, Lib.hid ⟨fun _ => by rw [hfin.out]; rfl, fun _ => rfl⟩, Lib.hid fun x hx => by rw [hfin.out] at hx; cases hx; exact ho3.base hX2.le⟩
    · have hfin : Hid (applyM L ws = some x) := Lib.hid (by rw [hap, hr])
      obtain ⟨j, hj⟩ : ∃ j, j = hs'.length := ⟨_, rfl⟩
      have hj1 : (n2 : Int) - 1 = (j : Int) := by omega
      have hjl : (j : Int) < (n2 : Int) := by omega
      have hjn : j < n2 := by omega
      have hpos : (0 : Int) < (n2 : Int) := by omega
      have hle := hrd.le
      have hmo := hrd.most
      obtain ⟨bb, ob, rfl, hbb, hcc⟩ := hrd.pos (by omega)
      have hc0 := hcc j h (by rw [hj]; simp) 0 h.v rfl
      have hmax : n2 ≤ 9223372036854775807 := by unfold maxLen at hmo; omega
      simp only [Nat.mul_one, Nat.add_zero] at hc0
      replace hj := Lib.hid hj
      replace hn2 := Lib.hid hn2
      clear hap hr hres herr hs hcc
      go_wp2_with fail
      go_ret2
      exact ⟨_, _, _, _, rfl, hX2, Lib.hid ⟨fun _ => by rw [hfin.out]; rfl, fun _ => rfl⟩, Lib.hid fun x hx => by rw [hfin.out] at hx; cases hx; exact ho.base hX.le⟩
  · have hs : ¬ (applyM L ws).isSome = true := fun h => h0 (herr.out.2 (applyM_some.2 h))
    have hfin : Hid (¬ (applyM L ws).isSome = true) := Lib.hid hs
    clear hs herr hres
    go_wp2_with fail
    go_ret2
    exact ⟨_, _, _, _, rfl, hX2, Lib.hid ⟨fun h => absurd h h0, fun h => absurd h hfin.out⟩, Lib.hid fun x hx => absurd (by rw [hx]; rfl) hfin.out⟩
end Go.Proofs.YtadncjpknckaaaaGreatDoor
namespace Go.Proofs.YtadncjpknckaaaaGreatDoor
open Go.RowKit Go.Shelf
/-- A list of laws. -/
structure RdLws (w : World) (a : Option Addr) (n cap : Nat) (Ls : List HL) : Prop where
  rd : RdK 18 HL.enc w a n cap Ls
  laws : ∀ L ∈ Ls, RdLw w L
theorem RdLws.ext {w w' : World} {a : Option Addr} {n cap : Nat} {Ls : List HL} (h : RdLws w a n cap Ls) (hx : Ext w w') : RdLws w' a n cap Ls := ⟨h.rd.ext hx, fun L hL => (h.laws L hL).ext hx⟩
theorem RdLws.at {w : World} {a : Option Addr} {n cap : Nat} {Ls : List HL} (h : RdLws w a n cap Ls) {k : Nat} (hk : k < n) :
    ∃ b off L, a = some ⟨b, off, none⟩ ∧ Hid (Ls[k]? = some L) ∧ b < w.heap.size ∧ w.rangeAt b (off + k * 18) L.enc ∧ RdLw w L := by
  obtain ⟨b, off, ha, hb, hc⟩ := h.rd.pos (by omega)
  have hl := h.rd.len
  have hs : Ls[k]? = some Ls[k] := List.getElem?_eq_getElem (by omega)
  exact ⟨b, off, _, ha, Lib.hid hs, hb, fun j v hv => hc k _ hs j v hv, h.laws _ (List.getElem_mem _)⟩
theorem load_law {ops : Array Oper} {rest : List Oper} {o : Oper} {a : Act} {w : World} {Q : Exit → Act → World → Prop} (L : HL) (hgd : o.guard = none) (x : Operand) (ho : o.op = .load 58 x) (b p : Nat) (hx : a.eval x = .pointer (some ⟨b, p, none⟩)) (hc : w.rangeAt b p L.enc)
    (h : wpList Tryz.prog ops Q rest (a.put o.dst (lawV L)) w) : wpList Tryz.prog ops Q (o :: rest) a w :=
  wpList_load_mid hgd 58 x ho b p hx L.enc _ hc Tryz.underlying58 rfl (by rw [HL.len]; kernel_rfl) h
set_option maxHeartbeats 1000000 in
set_option maxRecDepth 20000 in
theorem dcheck1_any (L : HL) (w : World) (hL : RdLw w L) : Calls Tryz.prog 77 #[lawV L] w fun e w' => e = .returned (.bool (!lawOkB L)) ∧ Ext w w' := by
  have hB := LawB.new w L
  have hX : Ext w (w.alloc (.cells #[.string L.name, .int .i64 L.left.kind, .int .u32 L.left.is.p.toNat, .int .u32 L.left.is.m.toNat, .bool L.left.neg, .int .i64 L.left.mn, .int .i64 L.left.mx, .slice L.left.a L.left.n L.left.cap, .int .i64 L.right.kind, .int .u32 L.right.is.p.toNat, .int .u32 L.right.is.m.toNat, .bool L.right.neg, .int .i64 L.right.mn, .int .i64 L.right.mx, .slice L.right.a L.right.n L.right.cap, .slice L.ia L.ifs.length L.icap, .slice L.oa L.outs.length L.ocap, .int .i64 L.mode] 58)) := Ext.alloc1 _ _
  have hr : (lawE L != 0) = !lawOkB L := by unfold lawE; cases lawOkB L <;> rfl
  replace hr := Lib.hid hr
  go_enter Tryz.func77, Tryz.ntmps77
  refine seq_stop fun K hK => ?_
  go_wp2_with fail
  refine hK.out _ _ ?_
  clear hK
  generalize (w.alloc (.cells #[.string L.name, .int .i64 L.left.kind, .int .u32 L.left.is.p.toNat, .int .u32 L.left.is.m.toNat, .bool L.left.neg, .int .i64 L.left.mn, .int .i64 L.left.mx, .slice L.left.a L.left.n L.left.cap, .int .i64 L.right.kind, .int .u32 L.right.is.p.toNat, .int .u32 L.right.is.m.toNat, .bool L.right.neg, .int .i64 L.right.mn, .int .i64 L.right.mx, .slice L.right.a L.right.n L.right.cap, .slice L.ia L.ifs.length L.icap, .slice L.oa L.outs.length L.ocap, .int .i64 L.mode] 58)) = w1 at *
  generalize w.heap.size = b1 at *
  go_wp2_with (refine wpList_load_row rfl 58 _ rfl b1 rfl 58 _ (0, 0) _ hB Tryz.underlying58 rfl (by kernel_rfl) ?_)
  refine (lcheck_any L w1 (hL.ext hX)).mono ?_
  rintro e w2 ⟨rfl, hx2⟩
  go_wp2_with fail
  go_ret
  exact ⟨by rw [← hr.out]; rfl, hX.trans hx2⟩
set_option maxHeartbeats 1000000 in
set_option maxRecDepth 20000 in
theorem indexW_any (a : Option Addr) (n cap : Nat) (xs : List HL) (w : World) (hr : RdLws w a n cap xs) :
    Calls Tryz.prog 94 #[.slice a n cap, .func (.func 77) #[] #[]] w fun e w' => ∃ r : Int, e = .returned (.int .i64 r) ∧ decide (0 ≤ r) = xs.any (fun y => !lawOkB y) ∧ Ext w w' := by
  have any_of_at := @any_of_atG HL
  have any_none := @any_noneG HL
  have hl := hr.rd.len
  have hmax : n ≤ 9223372036854775807 := by have := hr.rd.le; have := hr.rd.most; unfold maxLen at this; omega
  replace hl := Lib.hid hl
  go_enter Tryz.func94, Tryz.ntmps94
  go_wp2_with fail
  go_loopw [8] (fun i wr => ∃ k : Nat, k ≤ n ∧ i = .int .i64 k ∧ Ext w wr ∧ Hid (∀ (i : Nat) (y : _), i < k → xs[i]? = some y → (!((fun y : HL => !lawOkB y) y)) = true)) (fun i _ => n - (intOf i).toNat)
  case atStart => exact ⟨0, Nat.zero_le _, rfl, Ext.refl _, fun i x hi => absurd hi (Nat.not_lt_zero _)⟩
  case round =>
    obtain ⟨k, hk, rfl, hx, hall⟩ := hrel
    by_cases hlt : k < n
    · obtain ⟨b, off, y, rfl, hs, hb, hc, hy⟩ := (hr.ext hx).at hlt
      cases hp : (fun y : HL => !lawOkB y) y
      · have hnew := Lib.hid (all_succ (p := fun y => !((fun y : HL => !lawOkB y) y)) hall.out hs.out (by show (!((fun y : HL => !lawOkB y) y)) = true; rw [hp]; rfl))
        replace hp := Lib.hid hp
        go_wp2_with (refine load_law y rfl _ rfl b (off + k * 18) rfl hc ?_)
        refine (cbool (dcheck1_any y _ hy) hp.out).mono ?_
        rintro e w1 ⟨rfl, hx1⟩
        go_wp2_with fail
        (first | exact ⟨⟨k + 1, by omega, by go_num, hx.trans hx1, hnew⟩, (by simp [intOf]; omega)⟩ | (go_roundw; case rel => exact ⟨k + 1, by omega, by go_num, hx.trans hx1, hnew⟩; case measure => exact (by simp [intOf]; omega)))
      · have hany := Lib.hid (any_of_at (p := fun y : HL => !lawOkB y) hs.out hp)
        replace hp := Lib.hid hp
        go_wp2_with (refine load_law y rfl _ rfl b (off + k * 18) rfl hc ?_)
        refine (cbool (dcheck1_any y _ hy) hp.out).mono ?_
        rintro e w1 ⟨rfl, hx1⟩
        go_wp2_with fail
        go_ret
        exact ⟨(k : Int), rfl, by rw [hany.out]; simp, hx.trans hx1⟩
    · go_wp2_with fail
      go_ret
      exact ⟨-1, rfl, by rw [any_none (p := fun y : HL => !lawOkB y) hl.out (fun i y hi => hall.out i y (by omega))]; simp, hx⟩
theorem containsW_any (a : Option Addr) (n cap : Nat) (xs : List HL) (w : World) (hr : RdLws w a n cap xs) :
    Calls Tryz.prog 76 #[.slice a n cap, .func (.func 77) #[] #[]] w fun e w' => e = .returned (.bool (xs.any fun y => !lawOkB y)) ∧ Ext w w' := by
  go_enter Tryz.func76, Tryz.ntmps76
  go_wp2_with fail
  refine (indexW_any a n cap xs _ hr).mono ?_
  rintro e w1 ⟨r, rfl, hd, hx1⟩
  replace hd := Lib.hid hd
  go_wp2_with fail
  go_ret
  exact ⟨ret_bool hd.out, hx1⟩
/-- Are all laws in order, and no more than 64? -/
def lawsE (Ls : List HL) : Int := if 64 < Ls.length then 12 else if (Ls.any fun y => !lawOkB y) = true then 17 else 0
def lawsOkB (Ls : List HL) : Bool := decide (Ls.length ≤ 64) && Ls.all lawOkB
theorem lawsE_zero {Ls : List HL} : lawsE Ls = 0 ↔ lawsOkB Ls = true := by
  unfold lawsE lawsOkB
  rw [List.any_eq_not_all_not]
  simp only [Bool.not_not]
  by_cases h : 64 < Ls.length
  · rw [if_pos h, decide_eq_false (by omega)]; simp
  · rw [if_neg h, decide_eq_true (by omega)]
    cases Ls.all lawOkB <;> simp
theorem dcheck_any (a : Option Addr) (n cap : Nat) (Ls : List HL) (w : World) (hr : RdLws w a n cap Ls) :
    Calls Tryz.prog 61 #[.slice a n cap] w fun e w' => e = .returned (.int .i64 (lawsE Ls)) ∧ Ext w w' := by
  have hl := hr.rd.len
  by_cases hlt : 64 < n
  · have hE : Hid (lawsE Ls = 12) := Lib.hid (by unfold lawsE; rw [if_pos (by omega)])
    have hlt' : (64 : Int) < (n : Int) := by omega
    replace hl := Lib.hid hl
    go_enter Tryz.func61, Tryz.ntmps61
    go_wp2_with fail
    go_ret
    exact ⟨by rw [hE.out]; rfl, (by repeat (first | exact Ext.refl _ | assumption | refine Ext.drew ?_ | refine Ext.drewN ?_ _ | refine Ext.alloc ?_ _ | refine Ext.trans ?_ (by assumption)))⟩
  · have hlt' : ¬ (64 : Int) < (n : Int) := by omega
    cases hc : Ls.any fun y => !lawOkB y
    · have hE : Hid (lawsE Ls = 0) := Lib.hid (by unfold lawsE; rw [if_neg (by omega), hc]; rfl)
      replace hl := Lib.hid hl
      replace hc := Lib.hid hc
      go_enter Tryz.func61, Tryz.ntmps61
      go_wp2_with fail
      refine (cbool (containsW_any a n cap Ls _ (hr.ext (by repeat (first | exact Ext.refl _ | assumption | refine Ext.drew ?_ | refine Ext.drewN ?_ _ | refine Ext.alloc ?_ _ | refine Ext.trans ?_ (by assumption))))) hc.out).mono ?_
      rintro e w1 ⟨rfl, hx1⟩
      go_wp2_with fail
      go_ret
      exact ⟨by rw [hE.out]; rfl, (by repeat (first | exact Ext.refl _ | assumption | refine Ext.drew ?_ | refine Ext.drewN ?_ _ | refine Ext.alloc ?_ _ | refine Ext.trans ?_ (by assumption)))⟩
    · have hE : Hid (lawsE Ls = 17) := Lib.hid (by unfold lawsE; rw [if_neg (by omega), hc]; rfl)
      replace hl := Lib.hid hl
      replace hc := Lib.hid hc
      go_enter Tryz.func61, Tryz.ntmps61
      go_wp2_with fail
      refine (cbool (containsW_any a n cap Ls _ (hr.ext (by repeat (first | exact Ext.refl _ | assumption | refine Ext.drew ?_ | refine Ext.drewN ?_ _ | refine Ext.alloc ?_ _ | refine Ext.trans ?_ (by assumption))))) hc.out).mono ?_
      rintro e w1 ⟨rfl, hx1⟩
      go_wp2_with fail
      go_ret
      exact ⟨by rw [hE.out]; rfl, (by repeat (first | exact Ext.refl _ | assumption | refine Ext.drew ?_ | refine Ext.drewN ?_ _ | refine Ext.alloc ?_ _ | refine Ext.trans ?_ (by assumption)))⟩
/-- Are laws and a word in order? -/
def dchkE (Ls : List HL) (ws : List Snd) : Int := if lawsE Ls = 0 then checkS ws else lawsE Ls
theorem dchkE_zero {Ls : List HL} {ws : List Snd} : dchkE Ls ws = 0 ↔ lawsOkB Ls = true ∧ wordOk ws = true := by
  unfold dchkE
  by_cases h : lawsE Ls = 0
  · rw [if_pos h, checkS_word, lawsE_zero.1 h]; simp
  · rw [if_neg h]
    have : lawsOkB Ls ≠ true := fun h2 => h (lawsE_zero.2 h2)
    simp [h, this]
set_option maxHeartbeats 1000000 in
set_option maxRecDepth 20000 in
theorem dchk_any (a : Option Addr) (n cap : Nat) (Ls : List HL) (a2 : Option Addr) (c2 : Nat) (ws : List Snd) (w : World) (hr : RdLws w a n cap Ls) (hw : RdWs w a2 1 c2 [ws]) :
    Calls Tryz.prog 44 #[.slice a n cap, .slice a2 1 c2] w fun e w' => e = .returned (.int .i64 (dchkE Ls ws)) ∧ Ext w w' := by
  by_cases h0 : lawsE Ls = 0
  · have hE : Hid (dchkE Ls ws = checkS ws) := Lib.hid (by unfold dchkE; rw [if_pos h0])
    have hd := (dcheck_any a n cap Ls)
    rw [h0] at hd
    replace h0 := Lib.hid h0
    go_enter Tryz.func44, Tryz.ntmps44
    go_wp2_with fail
    refine (hd _ (hr.ext (by repeat (first | exact Ext.refl _ | assumption | refine Ext.drew ?_ | refine Ext.drewN ?_ _ | refine Ext.alloc ?_ _ | refine Ext.trans ?_ (by assumption))))).mono ?_
    rintro e w1 ⟨rfl, hx1⟩
    clear hd
    go_wp2_with fail
    go_loopw [19] (fun i wr => ∃ k : Nat, k ≤ 1 ∧ i = .int .i64 k ∧ Ext w wr ∧ Hid (k = 1 → checkS ws = 0)) (fun i _ => 1 - (intOf i).toNat)
    case atStart => exact ⟨0, Nat.zero_le _, rfl, hx1, Lib.hid fun h => by cases h⟩
    case round =>
      obtain ⟨k, hk, rfl, hx, hall⟩ := hrel
      by_cases hlt : k < 1
      · have hk0 : k = 0 := by omega
        obtain ⟨b, off, v, x, rfl, hs, hb, hc0, a1, n1, cap1, rfl, hr1⟩ := (RdWs.ext hw hx).at hlt
        have hx0 : ws = x := by have := hs.out; rw [hk0] at this; simpa using this
        replace hk0 := Lib.hid hk0
        subst hx0
        by_cases hck : checkS ws = 0
        · have hcc := wcheck_any a1 n1 cap1 ws wr hr1
          rw [hck] at hcc
          replace hck := Lib.hid hck
          go_wp2_with fail
          refine hcc.mono ?_
          rintro e w2 ⟨rfl, hx2⟩
          clear hcc
          go_wp2_with fail
          (first | exact ⟨⟨k + 1, by omega, by go_num, hx.trans hx2, Lib.hid fun _ => hck.out⟩, (by simp [intOf]; omega)⟩ | (go_roundw; case rel => exact ⟨k + 1, by omega, by go_num, hx.trans hx2, Lib.hid fun _ => hck.out⟩; case measure => exact (by simp [intOf]; omega)))
        · have hcc := wcheck_any a1 n1 cap1 ws wr hr1
          go_wp2_with fail
          refine hcc.mono ?_
          rintro e w2 ⟨rfl, hx2⟩
          clear hcc
          go_wp2_with fail
          go_ret
          exact ⟨by rw [hE.out]; rfl, hx.trans hx2⟩
      · obtain rfl : k = 1 := by omega
        have hz := Lib.hid (hall.out rfl)
        go_wp2_with fail
        go_ret
        exact ⟨by rw [hE.out, hz.out]; rfl, hx⟩
  · have hE : Hid (dchkE Ls ws = lawsE Ls) := Lib.hid (by unfold dchkE; rw [if_neg h0])
    go_enter Tryz.func44, Tryz.ntmps44
    go_wp2_with fail
    refine (dcheck_any a n cap Ls _ (hr.ext (by repeat (first | exact Ext.refl _ | assumption | refine Ext.drew ?_ | refine Ext.drewN ?_ _ | refine Ext.alloc ?_ _ | refine Ext.trans ?_ (by assumption))))).mono ?_
    rintro e w1 ⟨rfl, hx1⟩
    go_wp2_with fail
    go_ret
    exact ⟨by rw [hE.out]; rfl, (by repeat (first | exact Ext.refl _ | assumption | refine Ext.drew ?_ | refine Ext.drewN ?_ _ | refine Ext.alloc ?_ _ | refine Ext.trans ?_ (by assumption)))⟩
end Go.Proofs.YtadncjpknckaaaaGreatDoor
