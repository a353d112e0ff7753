/-
  NaturalPairs: the walk.
-/
import Derived.Test.YtbnbfdbliokcaaaDoorJ6
namespace Go.Proofs.YtbnbfdbliokcaaaDoor
open Go.RowKit
theorem eqIn_p2 (a b c d : Int) (w : World) : (Op.equalIn 10000 41 (.agg #[.int .i64 a, .int .i64 b]) (.agg #[.int .i64 c, .int .i64 d])).run Tryd.prog w = .ok (decide (a = c ∧ b = d)) w := by
  have hS : Tryd.prog.underlying 41 = some (.array 2 3) := Tryd.underlying41
  have hI : (sizeOf 3).run Tryd.prog w = .ok 1 w := by kernel_rfl
  have p0 : ∀ (x y : Int), (part 3 #[.int .i64 x, .int .i64 y] 0).run Tryd.prog w = .ok (.int .i64 x) w := fun x y => by
    unfold part; simp [Sem.run_bind, Result.andThen]
  have p1 : ∀ (x y : Int), (part 3 #[.int .i64 x, .int .i64 y] 1).run Tryd.prog w = .ok (.int .i64 y) w := fun x y => by
    unfold part; simp [Sem.run_bind, Result.andThen]
  rw [show (10000 : Nat) = 9998 + 1 + 1 from rfl, Op.equalIn]
  simp [run_underlying hS, Sem.run_bind, hI, Result.andThen, List.range', p0, run_equalIn_int w _ 3 .i64 .i64 _ _ Tryd.underlying3]
  by_cases h1 : a = c <;> by_cases h2 : b = d <;> simp [h1, h2, p1, Sem.run_bind, Result.andThen, run_equalIn_int w _ 3 .i64 .i64 _ _ Tryd.underlying3]
theorem neq_p2 (a b c d : Int) (w : World) : (binOp .neq 41 (.agg #[.int .i64 a, .int .i64 b]) (.agg #[.int .i64 c, .int .i64 d])).run Tryd.prog w = .ok (.bool (!decide (a = c ∧ b = d))) w := by
  rw [run_neq_struct, eqIn_p2]; rfl
/-- Gaps, with one list for program and reference. -/
def gapL (xs : List Snd) (L : List Snd) : Prop := (chkI 256 xs = 0 → SrtG xs L) ∧ (chkI 256 xs ≠ 0 → L = [])
theorem gapL.uniq {xs L L' : List Snd} (h : gapL xs L) (h' : gapL xs L') : L = L' := by
  by_cases hc : chkI 256 xs = 0
  · exact (h.1 hc).uniq (h'.1 hc)
  · rw [h.2 hc, h'.2 hc]
set_option maxHeartbeats 2000000 in
set_option maxRecDepth 20000 in
theorem naturalPairs_any (a : Option Addr) (n cap : Nat) (xs : List Snd) (w : World) (hr : RdS w a n cap xs) (hT : TabOk w) (hT2 : Tab64 w) :
    Calls Tryd.prog 4 #[.slice a n cap] w fun e w' => e = .returned (.bool true) ∧ Ext w w' := by
  have hfw := fun W => few_any a n cap W
  have hl := hr.len
  cases hf : fewB n
  · rw [hf] at hfw
    go_enter Tryd.func4, Tryd.ntmps4
    go_wp2_with fail
    refine (hfw _).mono ?_
    rintro e w1 ⟨rfl, hx⟩
    clear hfw
    go_wp2_with fail
    refine (works_any _ (hT.ext hx) (hT2.ext hx)).mono ?_
    rintro e wz ⟨rfl, hxz⟩
    go_wp2_with fail
    go_ret
    exact ⟨rfl, (hx).trans hxz⟩
  · rw [hf] at hfw
    have hn : n ≤ 300 := by unfold fewB at hf; have := of_decide_eq_true hf; omega
    replace hf := Lib.hid hf
    replace hl := Lib.hid hl
    go_enter Tryd.func4, Tryd.ntmps4
    go_wp2_with fail
    refine (hfw _).mono ?_
    rintro e wa ⟨rfl, hxa⟩
    clear hfw
    have o0 : OwnS w.heap.size 27 (wa.alloc (.cells #[] 27)) (.slice (some ⟨wa.heap.size, 0, Option.none⟩) 0 0) [] := OwnK.base (World.ownsRow_lit wa #[] 0 (Nat.le_refl _) (Nat.zero_le _) rfl) (Ext.le hxa)
    have hl0 := hr.len
    have hrz := hr.ext (hxa.alloc (.cells #[] 27))
    go_wp2_with (at_builtin; refine wp_appN w _ xs rfl _ _ 22 rfl 27 Tryd.underlying22 info_snd rfl (by decide) _ _ rfl o0 (hxa.alloc _) a n cap rfl hrz Snd.len Snd.one (by simp; omega) (by unfold maxLen; simp; omega) ?_; intro vz w2 o2 x2 _; obtain ⟨am, nm, cm, hnm, rfl, rm⟩ := OwnK.rdn Snd.len o2; replace hnm := Lib.hid hnm)
    rw [List.nil_append] at rm
    have hnm2 : nm = n := by have := hnm.out; simpa [hl0] using this
    subst hnm2
    clear o0 hrz hl0 hxa hnm
    have hpr := pairs_any am nm cm xs w2 rm
    unfold RetPr at hpr
    refine hpr.mono ?_
    rintro e w3 ⟨v3, rfl, hown3, hx3⟩
    obtain ⟨a3, n3, c3, hn3, rfl, hP⟩ := OwnK.rdn P2.len hown3
    clear hpr hown3
    have hx := x2.trans hx3
    have rm := rm.ext hx3
    replace hn3 := Lib.hid hn3
    go_wp2_with fail
    have hpr := rpairs_any a nm cap xs w3 (hr.ext hx)
    unfold RetPr at hpr
    refine hpr.mono ?_
    rintro e w4 ⟨v4, rfl, hown4, hx4⟩
    obtain ⟨a4, n4, c4, hn4, rfl, hP2⟩ := OwnK.rdn P2.len hown4
    have hn43 : n4 = n3 := by rw [hn4, hn3.out]
    subst hn43
    clear hpr hown4 hn4
    have hx := hx.trans hx4
    have rm := rm.ext hx4
    have hP := hP.ext hx4
    have hmax : n4 ≤ 9223372036854775807 := by have := hP.le; have := hP.most; unfold maxLen at this; omega
    have hnd := fun W (h : RdS W am nm cm xs) => needed_any am nm cm xs W h
    have hrnd := fun W (h : RdS W a nm cap xs) => rneeded_any a nm cap xs W h
    have hgp := fun W (h : RdS W am nm cm xs) (hT : TabOk W) => gaps_any am nm cm xs W h hT
    have hrgp := fun W (h : RdS W a nm cap xs) => rgaps_any a nm cap xs W h
    unfold RetN at hnd hrnd
    have hG : ∀ (w : World) e w', RetG xs w e w' → ∃ v L, e = .returned (.tuple #[v, .int .i64 (chkI 256 xs)]) ∧ OwnS w.heap.size 27 w' v L ∧ gapL xs L ∧ Ext w w' := fun w e w' ⟨v, L, h1, h2, h3, h4, h5⟩ => ⟨v, L, h1, h2, ⟨h3, h4⟩, h5⟩
    replace hG := Lib.hid hG
    generalize hEe : chkI 256 xs = E at *
    replace hEe := Lib.hid hEe
    generalize needB xs = ND at *
    generalize prL xs = PL at *
    clear hx3 hx4 x2
    go_wp2_with fail
    go_loopw [8] (fun iv wr => ∃ k : Nat, k ≤ n4 ∧ iv = .int .i64 k ∧ Ext w4 wr) (fun iv _ => n4 - (intOf iv).toNat)
    case atStart => exact ⟨0, Nat.zero_le _, rfl, Ext.refl _⟩
    case round =>
      obtain ⟨k, hk, rfl, hxr⟩ := hrel
      by_cases hlt : k < n4
      · have hki : (k : Int) < (n4 : Int) := by omega
        obtain ⟨b1, o1, x, rfl, hxk, hb1, d0, d1⟩ := (hP.ext hxr).p2 hlt
        obtain ⟨b2, o2, y, rfl, hyk, hb2, f0, f1⟩ := (hP2.ext hxr).p2 hlt
        have e1 : y = x := by have h3 := hyk.out; rw [hxk.out] at h3; exact (Option.some.inj h3).symm
        subst e1
        have hq : ∀ W : World, (binOp .neq 41 (.agg #[.int .i64 (y.1 : Nat), .int .i64 (y.2 : Nat)]) (.agg #[.int .i64 (y.1 : Nat), .int .i64 (y.2 : Nat)])).run Tryd.prog W = .ok (.bool false) W := fun W => by
          rw [neq_p2]; simp
        replace hxk := Lib.hid hxk.out
        replace hyk := Lib.hid hyk.out
        have r0 := fun z : ExtOf wr => z.cell d0
        have r1 := fun z : ExtOf wr => z.cell d1
        have r2 := fun z : ExtOf wr => z.cell f0
        have r3 := fun z : ExtOf wr => z.cell f1
        go_wp2_with fail
        (refine wp_region_qx (by kernel_rfl) (by kernel_rfl) ?_
         repeat (go_big_quiet_step (fail))
         refine wpQuiet_nil ?_
         intro wq hw'
         have hxq := ext_of_ex hw'
         clear hw')
        clear r0 r1 r2 r3
        go_wp2_with fail
        (first | exact ⟨⟨k + 1, hlt, by go_num, hxr.trans hxq⟩, (by simp [intOf]; omega)⟩ | (go_roundw; case rel => exact ⟨k + 1, hlt, by go_num, hxr.trans hxq⟩; case measure => exact (by simp [intOf]; omega)))
      · have hx := hx.trans hxr
        have rm := rm.ext hxr
        clear hP hP2 hmax
        have hkn : Hid (k = n4) := Lib.hid (by omega)
        go_wp2_with fail
        refine (hnd _ rm).mono ?_
        rintro e w5 ⟨rfl, hx5⟩
        have hx := hx.trans hx5
        have rm := rm.ext hx5
        clear hx5
        go_wp2_with fail
        refine (hrnd _ (hr.ext hx)).mono ?_
        rintro e w6 ⟨rfl, hx6⟩
        have hx := hx.trans hx6
        have rm := rm.ext hx6
        clear hx6
        go_wp2_with fail
        refine (hgp _ rm (hT.ext hx)).mono ?_
        intro e w7 hg
        obtain ⟨v7, L7, rfl, hown7, hgl7, hx7⟩ := hG.out _ _ _ hg
        obtain ⟨a7, n7, c7, hn7, rfl, hS7⟩ := OwnK.rdn Snd.len hown7
        replace hn7 := Lib.hid hn7
        have hx := hx.trans hx7
        have rm := rm.ext hx7
        clear hx7 hown7 hg
        go_wp2_with fail
        refine (hrgp _ (hr.ext hx)).mono ?_
        intro e w8 hg
        obtain ⟨v8, L8, rfl, hown8, hgl8, hx8⟩ := hG.out _ _ _ hg
        have hLL := hgl7.uniq hgl8
        subst hLL
        obtain ⟨a8, n8, c8, hn8, rfl, hS8⟩ := OwnK.rdn Snd.len hown8
        replace hn8 := Lib.hid hn8
        have hx := hx.trans hx8
        have rm := rm.ext hx8
        have hS7 := hS7.ext hx8
        clear hx8 hown8 hg
        have heq := lsame_any _ _ _ _ _ _ _ _ _ hS7 hS8
        rw [decide_eq_true rfl] at heq
        go_wp2_with fail
        refine heq.mono ?_
        rintro e w9 ⟨rfl, hx9⟩
        have hx := hx.trans hx9
        have rm := rm.ext hx9
        clear hx9 heq hS7 hS8
        have heq := lsame_any _ _ _ _ _ _ _ _ _ rm (hr.ext hx)
        rw [decide_eq_true rfl] at heq
        go_wp2_with fail
        refine heq.mono ?_
        rintro e w10 ⟨rfl, hx10⟩
        have hx := hx.trans hx10
        clear hx10 heq
        go_wp2_with fail
        refine (works_any _ (hT.ext hx) (hT2.ext hx)).mono ?_
        rintro e wz ⟨rfl, hxz⟩
        go_wp2_with fail
        go_ret
        exact ⟨rfl, (hx).trans hxz⟩
end Go.Proofs.YtbnbfdbliokcaaaDoor
