/-
  AutoOver: the automaton of any sounds, plain; the walk.
-/
import Derived.Test.YtilkemdecenibaaNz
namespace Go.Proofs.Ytilkemdecenibaa
open Go.RowKit Go.Maps
def anyG : Net := (layM (starP anyP none) 0 [[]]).2
def starA0 (k : Nat) : Au := ⟨alph k, [List.replicate k 1, List.replicate k 1], [true, true]⟩
def oneA (k : Nat) : Au := ⟨alph k, [List.replicate 8 0], [true]⟩
theorem any_lay (a : Option Addr) : layM (starP anyP a) 0 [[]] = (2, anyG) := by kernel_rfl
theorem any_net : netSz anyG ≤ 5000 ∧ netOkB anyG.length anyG = true ∧ netSndB anyG = true ∧ 2 < anyG.length := ⟨of_decide_eq_true (by kernel_rfl), by kernel_rfl, by kernel_rfl, of_decide_eq_true (by kernel_rfl)⟩
theorem star_ok (a : Option Addr) : (starP anyP a).allB = true ∧ (starP anyP a).cnt ≤ 40 := ⟨by kernel_rfl, of_decide_eq_true (by kernel_rfl)⟩
theorem star_facts (a : Option Addr) {k : Nat} (h1 : 1 ≤ k) (h8 : k ≤ 8) : refE (wid (starP anyP a)) (alph k) = 0 ∧ BuildAt anyG (alph k) 2 2 ∧ starA0 k = ⟨alph k, (buildN anyG (alph k) 2 (firstB anyG) 2).next, (buildN anyG (alph k) 2 (firstB anyG) 2).fin⟩ ∧ (starA0 k).okB = true ∧ LeastAt (starA0 k) 0 ∧ leastM (starA0 k) 0 = oneA k ∧ (oneA k).okB = true := by
  have : k = 1 ∨ k = 2 ∨ k = 3 ∨ k = 4 ∨ k = 5 ∨ k = 6 ∨ k = 7 ∨ k = 8 := by omega
  rcases this with rfl | rfl | rfl | rfl | rfl | rfl | rfl | rfl
  · exact ⟨by kernel_rfl, buildB_at (by kernel_rfl), by kernel_rfl, by kernel_rfl, leastB_at (by kernel_rfl), by kernel_rfl, by kernel_rfl⟩
  · exact ⟨by kernel_rfl, buildB_at (by kernel_rfl), by kernel_rfl, by kernel_rfl, leastB_at (by kernel_rfl), by kernel_rfl, by kernel_rfl⟩
  · exact ⟨by kernel_rfl, buildB_at (by kernel_rfl), by kernel_rfl, by kernel_rfl, leastB_at (by kernel_rfl), by kernel_rfl, by kernel_rfl⟩
  · exact ⟨by kernel_rfl, buildB_at (by kernel_rfl), by kernel_rfl, by kernel_rfl, leastB_at (by kernel_rfl), by kernel_rfl, by kernel_rfl⟩
  · exact ⟨by kernel_rfl, buildB_at (by kernel_rfl), by kernel_rfl, by kernel_rfl, leastB_at (by kernel_rfl), by kernel_rfl, by kernel_rfl⟩
  · exact ⟨by kernel_rfl, buildB_at (by kernel_rfl), by kernel_rfl, by kernel_rfl, leastB_at (by kernel_rfl), by kernel_rfl, by kernel_rfl⟩
  · exact ⟨by kernel_rfl, buildB_at (by kernel_rfl), by kernel_rfl, by kernel_rfl, leastB_at (by kernel_rfl), by kernel_rfl, by kernel_rfl⟩
  · exact ⟨by kernel_rfl, buildB_at (by kernel_rfl), by kernel_rfl, by kernel_rfl, leastB_at (by kernel_rfl), by kernel_rfl, by kernel_rfl⟩
theorem star_build {k : Nat} (h1 : 1 ≤ k) (h8 : k ≤ 8) {w : World} {a : Option Addr} {sa : Option Addr} {sc : Nat} (hP : RdPt w (starP anyP a)) (hS : RdS w sa k sc (alph k)) : Calls Try.prog 35 #[patV (starP anyP a), .slice sa k sc] w (RetBu (oneA k) w) := by
  obtain ⟨n1, n2, n3, n4⟩ := any_net
  obtain ⟨o1, o2⟩ := star_ok a
  obtain ⟨p0, p1, p2, p3, p4, p5, _⟩ := star_facts a h1 h8
  have := build_any (starP anyP a) o1 o2 sa k sc (alph k) w hP hS p0 anyG 2 (any_lay _) n1 n2 n3 n4 2 0 (by decide) p1 (starA0 k) p2 p3 p4
  rwa [p5] at this
/-! ### How many words -/
theorem cntAcc_one {v : Nat} (hv : v ≤ 9223372036854775808) : ∀ m, cntAcc [v] (List.replicate 8 0) m = min (m * v) 9223372036854775808
  | 0 => by simp [cntAcc]
  | m + 1 => by
    have hg : (List.replicate 8 0).getD m 0 = 0 := by
      rw [List.getD_eq_getElem?_getD, List.getElem?_replicate]
      split <;> rfl
    simp only [cntAcc, hg]
    rw [cntAcc_one hv m]
    show plusM _ v = _
    unfold plusM
    rw [Nat.succ_mul]
    generalize m * v = x
    split <;> omega
theorem cntRow_one (k : Nat) (hk : 1 ≤ k) : ∀ z, cntRow (oneA k) z = [min (k ^ z) 9223372036854775808]
  | 0 => rfl
  | z + 1 => by
    show [cntAcc (cntRow (oneA k) z) (List.replicate 8 0) (alph k).length] = _
    rw [cntRow_one k hk z, cntAcc_one (Nat.min_le_right _ _)]
    have hl : (alph k).length = k := by simp [alph]
    rw [hl]
    congr 1
    rcases Nat.le_total (k ^ z) 9223372036854775808 with h | h
    · rw [Nat.min_eq_left h, Nat.pow_succ, Nat.mul_comm]
    · rw [Nat.min_eq_right h, Nat.min_eq_right (Nat.le_mul_of_pos_left _ hk), Nat.min_eq_right]
      exact Nat.le_trans h (Nat.pow_le_pow_right hk (by omega))
theorem cntM_one (k : Nat) (hk : 1 ≤ k) (z : Nat) : cntM (oneA k) z = min (k ^ z) 9223372036854775808 := by unfold cntM; rw [cntRow_one k hk]; rfl
theorem cntRow_not (k : Nat) : ∀ z, cntRow (notM (oneA k)) z = [0]
  | 0 => rfl
  | z + 1 => by
    show [cntAcc (cntRow (notM (oneA k)) z) (List.replicate 8 0) (alph k).length] = _
    rw [cntRow_not k z, cntAcc_one (Nat.zero_le _)]; simp
theorem cntM_not (k z : Nat) : cntM (notM (oneA k)) z = 0 := by unfold cntM; rw [cntRow_not k]; rfl
/-! ### The walk -/
theorem anyP_one : anyP = oneP ⟨0#32, 0#32⟩ := rfl
theorem not_ok {A : Au} (h : A.okB = true) : (notM A).okB = true := by
  unfold Au.okB at h ⊢
  unfold notM
  simpa using h
theorem pow_up {k i z : Nat} (hk : 1 ≤ k) (h : ¬ k ^ i ≤ 9223372036854775807) (hi : i ≤ z) : ¬ k ^ z ≤ 9223372036854775807 := by
  have := Nat.pow_le_pow_right hk hi
  omega
set_option maxHeartbeats 2000000 in
set_option maxRecDepth 20000 in
theorem autoOver_any (c : Nat) (n : Int) (w : World) (hc : c < 256) : Calls Try.prog 7 #[.int .u8 (c : Int), .int .i64 n] w fun e w' => e = .returned (.bool true) ∧ Ext w w' := by
  obtain ⟨k, hk⟩ : ∃ k, k = 1 + c % 8 := ⟨_, rfl⟩
  have hk1 : 1 ≤ k := by omega
  have hk8 : k ≤ 8 := by omega
  have hok : (oneA k).okB = true := by
    have : k = 1 ∨ k = 2 ∨ k = 3 ∨ k = 4 ∨ k = 5 ∨ k = 6 ∨ k = 7 ∨ k = 8 := by omega
    rcases this with rfl | rfl | rfl | rfl | rfl | rfl | rfl | rfl <;> rfl
  have hmade : (oneA k).madeB = true ∧ (notM (oneA k)).madeB = true := ⟨rfl, rfl⟩
  have e1 : (1 : Int) + (c : Int) % 8 = (k : Int) := by omega
  replace hk := Lib.hid hk
  go_enter Try.func7, Try.ntmps7
  go_wp2_with fail
  refine (sound_any ⟨0#32, 0#32⟩ w).mono ?_
  rintro e w1 ⟨rfl, hx1⟩
  go_wp2_with fail
  refine (star_any _ _ (oneP_rd ⟨0#32, 0#32⟩ _)).mono ?_
  rintro e w2 ⟨bs, rfl, hP, hx2⟩
  go_wp2_with fail
  refine (alphabet_any k hk8 _).mono ?_
  rintro e w3 ⟨v3, rfl, hSo, hx3⟩
  obtain ⟨sa, sn, sc, hsn, rfl, hS⟩ := OwnK.rdn Snd.len hSo
  have hsk : sn = k := by rw [hsn]; simp [alph]
  rw [hsk] at hS
  rw [hsk]
  clear hsn hsk hSo
  have hx := hx1.trans (hx2.trans hx3)
  replace hP := hP.ext hx3
  clear hx1 hx2 hx3
  go_wp2_with fail
  refine (star_build hk1 hk8 hP hS).mono ?_
  rintro e w4 ⟨ba, rfl, hA, hx4⟩
  replace hx := hx.trans hx4
  clear hP hS hx4
  go_wp2_with fail
  refine (states_any _ _ _ hA).mono ?_
  rintro e w5 ⟨rfl, hx5⟩
  replace hx := hx.trans hx5
  replace hA := hA.ext hx5
  clear hx5
  have el : ((oneA k).next.length : Int) = 1 := rfl
  go_wp2_with fail
  refine (not_any _ hmade.1 rfl (by show 1 ≤ 5000; decide) _ _ hA).mono ?_
  rintro e w6 ⟨bn, rfl, hN, hx6⟩
  replace hx := hx.trans hx6
  replace hA := hA.ext hx6
  clear hx6 el
  go_wp2_with fail
  by_cases hz : n < 0 ∨ 32 < n
  · refine (count_range _ hmade.1 _ _ hA n hz).mono ?_
    rintro e w7 ⟨rfl, hx7⟩
    replace hx := hx.trans hx7
    replace hN := hN.ext hx7
    clear hx7
    go_wp2_with fail
    refine (count_range _ hmade.2 _ _ hN n hz).mono ?_
    rintro e w8 ⟨rfl, hx8⟩
    replace hx := hx.trans hx8
    clear hx8
    have ez : (decide (n < 0) || decide (32 < n)) = true := by simpa using hz
    by_cases h0 : n < 0
    · have d0 : decide (n < 0) = true := by simpa using h0
      go_wp2_with fail
      refine (works_any _).mono ?_
      rintro e w9 ⟨rfl, hx9⟩
      go_wp2_with fail
      go_ret
      exact ⟨rfl, hx.trans hx9⟩
    · have d0 : decide (n < 0) = false := by simpa using h0
      have d1 : decide (32 < n) = true := by
        have : 32 < n := by omega
        simpa using this
      go_wp2_with fail
      refine (works_any _).mono ?_
      rintro e w9 ⟨rfl, hx9⟩
      go_wp2_with fail
      go_ret
      exact ⟨rfl, hx.trans hx9⟩
  · obtain ⟨z, rfl⟩ : ∃ z : Nat, n = (z : Int) := ⟨n.toNat, by omega⟩
    have hz32 : z ≤ 32 := by omega
    have hcA := count_any (oneA k) hok 1 rfl (by decide) (by decide) w6 ba hA z hz32
    have hcN := fun W (h : AuAt W bn (notM (oneA k))) => count_any (notM (oneA k)) (not_ok hok) 1 rfl (by decide) (by decide) W bn h z hz32
    rw [cntM_one k hk1] at hcA
    rw [cntM_not] at hcN
    obtain ⟨cv, hcv⟩ : ∃ cv : Nat, cv = if k ^ z ≤ 9223372036854775807 then k ^ z else 0 := ⟨_, rfl⟩
    obtain ⟨ev, hev⟩ : ∃ ev : Nat, ev = if k ^ z ≤ 9223372036854775807 then 0 else 7 := ⟨_, rfl⟩
    have hmin : min (k ^ z) 9223372036854775808 = if k ^ z ≤ 9223372036854775807 then k ^ z else 9223372036854775808 := by split <;> omega
    have h1 : (if min (k ^ z) 9223372036854775808 = 9223372036854775808 then 0 else min (k ^ z) 9223372036854775808) = cv := by rw [hmin, hcv]; split <;> split <;> omega
    have h2 : (if min (k ^ z) 9223372036854775808 = 9223372036854775808 then 7 else 0) = ev := by rw [hmin, hev]; split <;> split <;> omega
    rw [h1, h2] at hcA
    clear h1 h2 hmin
    replace hcv := Lib.hid hcv
    replace hev := Lib.hid hev
    refine hcA.mono ?_
    rintro e w7 ⟨rfl, hx7⟩
    replace hx := hx.trans hx7
    replace hN := hN.ext hx7
    clear hx7 hcA
    have d0 : decide ((z : Int) < 0) = false := by simp
    have d1 : decide ((32 : Int) < (z : Int)) = false := by simp; omega
    go_wp2_with fail
    refine (hcN _ hN).mono ?_
    rintro e w8 ⟨rfl, hx8⟩
    replace hx := hx.trans hx8
    clear hx8 hcN hz
    go_wp2_with fail
    go_loopw [13, 14, 73] (fun wv fv iv wr => ∃ (i wn : Nat) (ft : Bool), i ≤ z ∧ iv = .int .i64 i ∧ wv = .int .u64 wn ∧ fv = .bool ft ∧ ft = decide (k ^ i ≤ 9223372036854775807) ∧ (ft = true → wn = k ^ i) ∧ Ext w8 wr) (fun _ _ iv _ => z - (intOf iv).toNat)
    case atStart => exact ⟨0, 1, true, Nat.zero_le _, rfl, rfl, rfl, by simp, fun _ => by simp, Ext.refl _⟩
    case round =>
      obtain ⟨i, wn, ft, hi, rfl, rfl, rfl, hft, hwn, hxr⟩ := hrel
      by_cases hlt : i < z
      · by_cases hp : k ^ i ≤ 9223372036854775807
        · obtain rfl : ft = true := by rw [hft]; simpa using hp
          replace hwn := hwn rfl
          clear hft
          have hq : ((9223372036854775807 : Int) / (k : Int)) = ((9223372036854775807 / k : Nat) : Int) := by simp
          replace hq := Lib.hid hq
          by_cases hp2 : k ^ (i + 1) ≤ 9223372036854775807
          · have hle : wn ≤ 9223372036854775807 / k := by rw [hwn, Nat.le_div_iff_mul_le (by omega), ← Nat.pow_succ]; exact hp2
            have hmul : wn * k = k ^ (i + 1) := by rw [hwn, Nat.pow_succ]
            replace hp := Lib.hid hp
            replace hwn := Lib.hid hwn
            replace hp2 := Lib.hid hp2
            have d2 : decide ((wn : Int) ≤ (9223372036854775807 : Int) / (k : Int)) = true := by
              rw [hq.out]; exact decide_eq_true (Int.ofNat_le.2 hle)
            obtain ⟨y, hy⟩ : ∃ y, y = wn * k := ⟨_, rfl⟩
            rw [← hy] at hmul
            have hy9 : y ≤ 9223372036854775807 := by rw [hmul]; exact hp2.out
            have e2 : IntKind.u64.wrap ((wn : Int) * (k : Int)) = (y : Int) := by
              rw [← Int.natCast_mul, ← hy, IntKind.wrap_u64]; omega
            replace hy9 := Lib.hid hy9
            replace hmul := Lib.hid hmul
            have hyes : true = true → y = k ^ (i + 1) := fun _ => hmul.out
            replace hyes := Lib.hid hyes
            replace hy := Lib.hid hy
            replace hle := Lib.hid hle
            go_wp2_with fail
            (first | exact ⟨⟨i + 1, y, true, hlt, by go_num, rfl, rfl, by simpa using hp2.out, hyes.out, hxr⟩, (by simp [intOf]; omega)⟩ | (go_roundw; case rel => exact ⟨i + 1, y, true, hlt, by go_num, rfl, rfl, by simpa using hp2.out, hyes.out, hxr⟩; case measure => exact (by simp [intOf]; omega)))
          · have hle : ¬ wn ≤ 9223372036854775807 / k := by rw [hwn, Nat.le_div_iff_mul_le (by omega), ← Nat.pow_succ]; exact hp2
            have d2 : decide ((wn : Int) ≤ (9223372036854775807 : Int) / (k : Int)) = false := by
              rw [hq.out]; exact decide_eq_false fun h => hle (Int.ofNat_le.1 h)
            replace hle := Lib.hid hle
            have hno : false = true → wn = k ^ (i + 1) := fun h => by cases h
            replace hno := Lib.hid hno
            replace hp := Lib.hid hp
            replace hwn := Lib.hid hwn
            replace hp2 := Lib.hid hp2
            go_wp2_with fail
            (first | exact ⟨⟨i + 1, wn, false, hlt, by go_num, rfl, rfl, by simpa using hp2.out, hno.out, hxr⟩, (by simp [intOf]; omega)⟩ | (go_roundw; case rel => exact ⟨i + 1, wn, false, hlt, by go_num, rfl, rfl, by simpa using hp2.out, hno.out, hxr⟩; case measure => exact (by simp [intOf]; omega)))
        · obtain rfl : ft = false := by rw [hft]; simpa using hp
          have hp2 := pow_up hk1 hp (Nat.le_succ i)
          clear hwn hft
          have hno : false = true → wn = k ^ (i + 1) := fun h => by cases h
          replace hno := Lib.hid hno
          replace hp := Lib.hid hp
          replace hp2 := Lib.hid hp2
          go_wp2_with fail
          (first | exact ⟨⟨i + 1, wn, false, hlt, by go_num, rfl, rfl, by simpa using hp2.out, hno.out, hxr⟩, (by simp [intOf]; omega)⟩ | (go_roundw; case rel => exact ⟨i + 1, wn, false, hlt, by go_num, rfl, rfl, by simpa using hp2.out, hno.out, hxr⟩; case measure => exact (by simp [intOf]; omega)))
      · obtain rfl : i = z := by omega
        by_cases hp : k ^ i ≤ 9223372036854775807
        · obtain rfl : ft = true := by rw [hft]; simpa using hp
          replace hwn := hwn rfl
          have hcw : cv = wn := by rw [hcv.out, if_pos hp, hwn]
          have hw9 : wn ≤ 9223372036854775807 := by omega
          subst hcw
          obtain rfl : ev = 0 := by rw [hev.out, if_pos hp]
          clear hft hcv hev hp hwn
          have ew : IntKind.i64.wrap (cv : Int) = (cv : Int) := by rw [IntKind.wrap_i64]; omega
          replace hw9 := Lib.hid hw9
          go_wp2_with fail
          refine (works_any _).mono ?_
          rintro e x1 ⟨rfl, hx1⟩
          go_wp2_with fail
          go_ret
          exact ⟨rfl, (hx.trans hxr).trans hx1⟩
        · obtain rfl : ft = false := by rw [hft]; simpa using hp
          obtain rfl : cv = 0 := by rw [hcv.out, if_neg hp]
          obtain rfl : ev = 7 := by rw [hev.out, if_neg hp]
          clear hft hwn hcv hev hp
          go_wp2_with fail
          refine (works_any _).mono ?_
          rintro e x1 ⟨rfl, hx1⟩
          go_wp2_with fail
          go_ret
          exact ⟨rfl, (hx.trans hxr).trans hx1⟩
end Go.Proofs.Ytilkemdecenibaa
