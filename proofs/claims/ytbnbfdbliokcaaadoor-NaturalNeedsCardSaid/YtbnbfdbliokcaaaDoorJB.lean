/-
  NaturalNeeds, walked.
-/
import Derived.Test.YtbnbfdbliokcaaaDoorJA
namespace Go.Proofs.YtbnbfdbliokcaaaDoor
open Go.RowKit
theorem eqIn_p2 (a b c d : Int) (w : World) : (Op.equalIn 10000 41 (.agg #[.int .i64 a, .int .i64 b]) (.agg #[.int .i64 c, .int .i64 d])).run Tryd.prog w = .ok (decide (a = c ∧ b = d)) w := by
  have hS : Tryd.prog.underlying 41 = some (.array 2 3) := Tryd.underlying41
  have hI : (sizeOf 3).run Tryd.prog w = .ok 1 w := by kernel_rfl
  have p0 : ∀ (x y : Int), (part 3 #[.int .i64 x, .int .i64 y] 0).run Tryd.prog w = .ok (.int .i64 x) w := fun x y => by
    unfold part; simp [Sem.run_bind, Result.andThen]
  have p1 : ∀ (x y : Int), (part 3 #[.int .i64 x, .int .i64 y] 1).run Tryd.prog w = .ok (.int .i64 y) w := fun x y => by
    unfold part; simp [Sem.run_bind, Result.andThen]
  rw [show (10000 : Nat) = 9998 + 1 + 1 from rfl, Op.equalIn]
  simp [run_underlying hS, Sem.run_bind, hI, Result.andThen, List.range', p0, run_equalIn_int w _ 3 .i64 .i64 _ _ Tryd.underlying3]
  by_cases h1 : a = c <;> by_cases h2 : b = d <;> simp [h1, h2, p1, Sem.run_bind, Result.andThen, run_equalIn_int w _ 3 .i64 .i64 _ _ Tryd.underlying3]
theorem neq_p2 (a b c d : Int) (w : World) : (binOp .neq 41 (.agg #[.int .i64 a, .int .i64 b]) (.agg #[.int .i64 c, .int .i64 d])).run Tryd.prog w = .ok (.bool (!decide (a = c ∧ b = d))) w := by
  rw [run_neq_struct, eqIn_p2]; rfl
set_option maxHeartbeats 2000000 in
set_option maxRecDepth 20000 in
theorem naturalNeeds_any (a : Option Addr) (n cap : Nat) (ps : List P8) (w : World) (hr0 : RdK 2 P8.enc w a n cap ps) (hT : TabOk w) (hT2 : Tab64 w) :
    Calls Tryd.prog 6 #[.slice a n cap] w fun e w' => e = .returned (.bool true) ∧ Ext w w' := by
  go_enter Tryd.func6, Tryd.ntmps6
  go_wp2_with fail
  refine (different_any a n cap ps w hr0).mono ?_
  rintro e w1 ⟨v1, xs, rfl, hown1, hD, _, hx⟩
  obtain ⟨a1, n1, c1, hn1, rfl, hr⟩ := OwnK.rdn Snd.len hown1
  have hl := hr.len
  have hn : n1 ≤ 24 := by rw [hn1]; exact hD.len
  have hck : chkI 256 xs = 0 := hD.chk (by have := hD.len; omega)
  have hnd := fun W (h : RdS W a1 n1 c1 xs) => needed_any a1 n1 c1 xs W h
  have hpr := fun W (h : RdS W a1 n1 c1 xs) => pairs_any a1 n1 c1 xs W h
  have hPL : prL xs = pairL xs := by unfold prL; rw [if_pos hck]
  have hND : needB xs = needTo xs (pairL xs) (pairL xs).length := by unfold needB; rw [hPL]
  unfold RetN at hnd
  unfold RetPr at hpr
  rw [hck] at hnd hpr
  rw [hPL] at hpr
  replace hD := Lib.hid hD
  replace hn1 := Lib.hid hn1
  replace hl := Lib.hid hl
  replace hck := Lib.hid hck
  replace hPL := Lib.hid hPL
  clear hown1
  generalize needB xs = ND at *
  replace hND := Lib.hid hND
  go_wp2_with fail
  refine (hnd _ hr).mono ?_
  rintro e w2 ⟨rfl, hx2⟩
  have hx := hx.trans hx2
  have hr := hr.ext hx2
  clear hx2
  go_wp2_with fail
  refine (hpr _ hr).mono ?_
  rintro e w3 ⟨v3, rfl, hown3, hx3⟩
  obtain ⟨a3, n3, c3, hn3, rfl, hP⟩ := OwnK.rdn P2.len hown3
  have hx := hx.trans hx3
  have hr := hr.ext hx3
  have hn3l : n3 ≤ 600 := by
    have := pairTo_len xs xs.length
    rw [hl.out] at this
    have h2 : (pairL xs).length ≤ n1 * n1 := by unfold pairL; rw [hl.out]; exact this
    have h3 := Nat.mul_le_mul hn hn
    omega
  replace hn3 := Lib.hid hn3
  clear hx3 hown3 hnd hpr
  go_wp2_with fail
  go_loopw [8, 9, 10] (fun sv kv iv wr => ∃ i q : Nat, i ≤ n1 ∧ iv = .int .i64 i ∧ q ≤ n3 ∧ kv = .int .i64 q ∧ Hid (q = (pairTo xs i).length) ∧ sv = .int .u32 (needTo xs (pairL xs) q).toNat ∧ Ext w3 wr) (fun _ _ iv _ => n1 - (intOf iv).toNat)
  case atStart => exact ⟨0, 0, Nat.zero_le _, rfl, Nat.zero_le _, rfl, Lib.hid rfl, rfl, Ext.refl _⟩
  case round =>
    obtain ⟨i, q, hi, rfl, hq, rfl, hqe, rfl, hxr⟩ := hrel
    by_cases hlt : i < n1
    · have hki : (i : Int) < (n1 : Int) := by omega
      have hqe1 : Hid (q = (pairTo xs i ++ rowP xs i (i + 1)).length) := Lib.hid (by rw [rowP_low xs i (i + 1) (Nat.le_refl _), List.append_nil]; exact hqe.out)
      obtain ⟨wo, rfl⟩ : ∃ wo : World, wo = wr := ⟨_, rfl⟩
      go_wp2_with fail
      go_loopw [8, 9, 11] (fun sv kv jv wr => ∃ j q : Nat, i + 1 ≤ j ∧ j ≤ n1 ∧ jv = .int .i64 j ∧ q ≤ n3 ∧ kv = .int .i64 q ∧ Hid (q = (pairTo xs i ++ rowP xs i j).length) ∧ sv = .int .u32 (needTo xs (pairL xs) q).toNat ∧ Ext w3 wr) (fun _ _ jv _ => n1 - (intOf jv).toNat)
      case atStart => exact ⟨i + 1, q, Nat.le_refl _, hlt, by go_num, hq, rfl, hqe1, rfl, hxr⟩
      case round =>
        clear hxr hqe hqe1 hq
        obtain ⟨j, q, hij, hj, rfl, hq, rfl, hqe, rfl, hxr⟩ := hrel
        by_cases hlj : j < n1
        · have hji : (j : Int) < (n1 : Int) := by omega
          obtain ⟨b, off, s, rfl, hs, hb, c0, c1⟩ := (hr.ext hxr).snd hlt
          obtain ⟨b2, off2, t, heq, ht, hb2, p0, p1⟩ := (hr.ext hxr).snd hlj
          cases heq
          have hso := hD.out.ok s (List.mem_of_getElem? hs.out)
          have hto := hD.out.ok t (List.mem_of_getElem? ht.out)
          have hne : s ≠ t := fun e => by
            subst e
            have h1 := List.getElem?_eq_some_iff.1 hs.out
            have h2 := List.getElem?_eq_some_iff.1 ht.out
            obtain ⟨h1l, h1e⟩ := h1
            obtain ⟨h2l, h2e⟩ := h2
            exact List.pairwise_iff_getElem.1 hD.out.nodup i j h1l h2l (by omega) (h1e.trans h2e.symm)
          have hadj := adjB_at hs.out ht.out
          have hdz : diffS s t ≠ 0#32 := fun h => hne (diffS_zero.1 h)
          have hlow := low_one hdz
          have hdf := fun W => diff_any s t W hso hto
          have r0 := fun z : ExtOf wr => z.cell c0
          have r1 := fun z : ExtOf wr => z.cell c1
          have r2 := fun z : ExtOf wr => z.cell p0
          have r3 := fun z : ExtOf wr => z.cell p1
          have hrow := rowP_succ xs i j
          have hns := fun (h : (pairL xs)[q]? = some (i, j)) => needTo_succ h hs.out ht.out
          generalize diffS s t = D at *
          have hsub : IntKind.u32.wrap ((D.toNat : Int) - 1) = ((D - 1#32).toNat : Int) := by
            have hp : D.toNat ≠ 0 := fun h => hdz (BitVec.eq_of_toNat_eq (by simpa using h))
            have h2 : (D - 1#32).toNat = D.toNat - 1 := by have := D.isLt; rw [BitVec.toNat_sub]; simp; omega
            have := D.isLt
            rw [h2, IntKind.wrap_u32]; omega
          generalize hEe : D - 1#32 = E at *
          have hbne := u32_bne0 (D &&& E)
          replace hEe := Lib.hid hEe
          replace hs := Lib.hid hs.out
          replace ht := Lib.hid ht.out
          replace hne := Lib.hid hne
          by_cases hone : cntB D = 1
          · have hadjT : adjB xs i j = true := by rw [hadj]; exact decide_eq_true hone
            have hnx := part_next xs (i := i) (j := j) (by rw [hl.out]; exact hlj) (by omega) hadjT
            rw [← hqe.out] at hnx
            have hql : q < n3 := by rw [hn3.out]; exact (List.getElem?_eq_some_iff.1 hnx).1
            have hqi : (q : Int) < (n3 : Int) := by omega
            rw [if_pos ⟨by omega, hadjT⟩] at hrow
            have hnsu := hns hnx
            have hq2 : Hid (q + 1 = (pairTo xs i ++ rowP xs i (j + 1)).length) := Lib.hid (by rw [hrow, ← List.append_assoc, List.length_append, ← hqe.out]; rfl)
            have hz : D &&& E = 0#32 := hlow.2 hone
            rw [decide_eq_true hz, hz] at hbne
            obtain ⟨b3, o3, x, rfl, hxq, hb3, d0, d1⟩ := (hP.ext hxr).p2 hql
            have ex : x = (i, j) := by have h3 := hxq.out; rw [hnx] at h3; exact (Option.some.inj h3).symm
            subst ex
            simp only at d0 d1
            have hqq : ∀ W : World, (binOp .neq 41 (.agg #[.int .i64 (i : Nat), .int .i64 (j : Nat)]) (.agg #[.int .i64 (i : Nat), .int .i64 (j : Nat)])).run Tryd.prog W = .ok (.bool false) W := fun W => by
              rw [neq_p2]; simp
            have hand : (((D.toNat &&& E.toNat : Nat) : Int) != 0) = false := by rw [and_nat, hz]; rfl
            have hor := or_nat (needTo xs (pairL xs) q) D
            rw [← hnsu] at hor
            replace hnsu := Lib.hid hnsu
            replace hxq := Lib.hid hxq.out
            replace hnx := Lib.hid hnx
            replace hrow := Lib.hid hrow
            replace hz := Lib.hid hz
            generalize needTo xs (pairL xs) q = S at *
            generalize hS2 : needTo xs (pairL xs) (q + 1) = S2 at *
            replace hS2 := Lib.hid hS2
            clear hlow hns hbne
            go_wp2_with fail
            (refine wp_region_qx (by kernel_rfl) (by kernel_rfl) ?_
             repeat (go_big_quiet_step ((go_at_call 32; exact calls_ext (hdf _))))
             refine wpQuiet_nil ?_
             intro wq hw'
             have hxq := ext_of_ex hw'
             clear hw')
            clear r0 r1 r2 r3 hdf
            have d0 := hxq.cellv d0
            have d1 := hxq.cellv d1
            go_wp2_with fail
            (first | exact ⟨⟨j + 1, q + 1, by omega, hlj, by go_num, hql, by go_num, hq2, by rw [hS2.out], hxr.trans hxq⟩, (by simp [intOf]; omega)⟩ | (go_roundw; case rel => exact ⟨j + 1, q + 1, by omega, hlj, by go_num, hql, by go_num, hq2, by rw [hS2.out], hxr.trans hxq⟩; case measure => exact (by simp [intOf]; omega)))
          · rw [if_neg (fun h => hone (by have := h.2; rw [hadj] at this; exact of_decide_eq_true this)), List.append_nil] at hrow
            have hz : ¬ (D &&& E = 0#32) := fun h => hone (hlow.1 h)
            have hand : (((D.toNat &&& E.toNat : Nat) : Int) != 0) = true := by rw [and_nat, u32_bne0]; simpa using hz
            have hq2 : Hid (q = (pairTo xs i ++ rowP xs i (j + 1)).length) := Lib.hid (by rw [hrow]; exact hqe.out)
            replace hrow := Lib.hid hrow
            clear hlow hns hbne
            go_wp2_with fail
            (refine wp_region_qx (by kernel_rfl) (by kernel_rfl) ?_
             repeat (go_big_quiet_step ((go_at_call 32; exact calls_ext (hdf _))))
             refine wpQuiet_nil ?_
             intro wq hw'
             have hxq := ext_of_ex hw'
             clear hw')
            clear r0 r1 r2 r3 hdf
            go_wp2_with fail
            (first | exact ⟨⟨j + 1, q, by omega, hlj, by go_num, hq, rfl, hq2, rfl, hxr.trans hxq⟩, (by simp [intOf]; omega)⟩ | (go_roundw; case rel => exact ⟨j + 1, q, by omega, hlj, by go_num, hq, rfl, hq2, rfl, hxr.trans hxq⟩; case measure => exact (by simp [intOf]; omega)))
        · have hjn : j = n1 := by omega
          have hq2 : Hid (q = (pairTo xs (i + 1)).length) := Lib.hid (by rw [pairTo_succ, hl.out, ← hjn]; exact hqe.out)
          replace hjn := Lib.hid hjn
          go_wp2_with fail
          (first | exact ⟨⟨i + 1, q, hlt, by go_num, hq, rfl, hq2, rfl, hxr⟩, (by simp [intOf]; omega)⟩ | (go_roundw; case rel => exact ⟨i + 1, q, hlt, by go_num, hq, rfl, hq2, rfl, hxr⟩; case measure => exact (by simp [intOf]; omega)))
    · have hin : i = n1 := by omega
      have hqn : q = n3 := by rw [hqe.out, hn3.out, hin]; unfold pairL; rw [hl.out]
      have hfin : needTo xs (pairL xs) q = ND := by rw [hND.out, hqn, ← hn3.out]
      subst hqn
      rw [hfin]
      have hx := hx.trans hxr
      replace hin := Lib.hid hin
      replace hfin := Lib.hid hfin
      clear hqe
      go_wp2_with fail
      refine (works_any _ (hT.ext hx) (hT2.ext hx)).mono ?_
      rintro e wz ⟨rfl, hxz⟩
      go_wp2_with fail
      go_ret
      exact ⟨rfl, (hx).trans hxz⟩
end Go.Proofs.YtbnbfdbliokcaaaDoor
