/-
  slices.symMergeCmpFunc: the third case.
  slices.symMergeCmpFunc: the third case.
  slices.symMergeCmpFunc at correspondences by count, whole.
-/
import Derived.Test.YtkdancoffmhjhaaZb
namespace Go.Proofs.Ytkdancoffmhjhaa
open Go.RowKit Go.Shelf Go.Sort
set_option maxHeartbeats 40000000 in
set_option maxRecDepth 20000 in
theorem symM_lt {w w0 : World} {g n cap : Nat} (hn : n ≤ 60000000) {W : World} {d : Array HCo} (h : SW w w0 g n cap d W) (a m b : Nat) (ham : a < m) (hmb : m < b) (hbn : b ≤ n) (hl : SortedIn TT a m d) (hr : SortedIn TT m b d) (hag : Agr d a m b) (hc0 : m - a ≠ 1) (hc : b - m ≠ 1) (N : Nat) (hN : b - a ≤ N + 1) (ih : ∀ {W : World} {d : Array HCo} (_ : SW w w0 g n cap d W) (a m b : Nat), b - a ≤ N → a < m → m < b → b ≤ n → SortedIn TT a m d → SortedIn TT m b d → Agr d a m b →
    Calls Try.prog 95 #[.slice (some ⟨g, 0, none⟩) n cap, .int .i64 a, .int .i64 m, .int .i64 b, .func (.func 54) #[] #[]] W (MrgRet w w0 g n cap d a b)) (hmm0 : (a + b) / 2 < m) :
    Calls Try.prog 95 #[.slice (some ⟨g, 0, none⟩) n cap, .int .i64 a, .int .i64 m, .int .i64 b, .func (.func 54) #[] #[]] W (MrgRet w w0 g n cap d a b) := by
  have hds := h.ge.2.2
  unfold MrgRet
  obtain ⟨M1, hM1⟩ : ∃ M1, M1 = m - a := ⟨_, rfl⟩
  have eM1 : (m : Int) - (a : Int) = (M1 : Int) := by omega
  have hwM1 : IntKind.i64.wrap (M1 : Int) = M1 := IntWalk.i64_in _ (by omega)
  have hc1 : ¬ M1 = 1 := fun e => hc0 (hM1.symm.trans e)
  clear hc0
  have e1 : ((M1 : Int) == 1) = false := by rw [Bool.eq_false_iff]; intro h; have := beq_iff_eq.1 h; omega
  obtain ⟨M2, hM2⟩ : ∃ M2, M2 = b - m := ⟨_, rfl⟩
  have eM2 : (b : Int) - (m : Int) = (M2 : Int) := by omega
  have hwM2 : IntKind.i64.wrap (M2 : Int) = M2 := IntWalk.i64_in _ (by omega)
  have hM12 : 2 ≤ m - a := by omega
  replace hc1 := Lib.hid hc1
  replace hM1 := Lib.hid hM1
  have hc2 : ¬ M2 = 1 := fun e => hc (hM2.symm.trans e)
  clear hc
  have e2 : ((M2 : Int) == 1) = false := by rw [Bool.eq_false_iff]; intro h; have := beq_iff_eq.1 h; omega
  have hM22 : 2 ≤ b - m := by omega
  obtain ⟨S0, hS0⟩ : ∃ S0, S0 = a + b := ⟨_, rfl⟩
  have eS0 : (a : Int) + (b : Int) = (S0 : Int) := by omega
  have hwS0 : IntKind.i64.wrap (S0 : Int) = S0 := IntWalk.i64_in _ (by omega)
  obtain ⟨mid, hmid⟩ : ∃ mid, mid = S0 / 2 := ⟨_, rfl⟩
  have eMid : (S0 : Int) / 2 = (mid : Int) := by omega
  obtain ⟨N0, hN0⟩ : ∃ N0, N0 = mid + m := ⟨_, rfl⟩
  have eN0 : (mid : Int) + (m : Int) = (N0 : Int) := by omega
  have hwN0 : IntKind.i64.wrap (N0 : Int) = N0 := IntWalk.i64_in _ (by omega)
  obtain ⟨P0, hP0⟩ : ∃ P0, P0 = N0 - 1 := ⟨_, rfl⟩
  have eP0 : (N0 : Int) - 1 = (P0 : Int) := by omega
  have hwP0 : IntKind.i64.wrap (P0 : Int) = P0 := IntWalk.i64_in _ (by omega)
  have hmb2 : a + 1 ≤ mid ∧ mid + 1 ≤ b := by omega
  replace hc2 := Lib.hid hc2
  replace hM2 := Lib.hid hM2
  replace hS0 := Lib.hid hS0
  replace hmid := Lib.hid hmid
  replace hl := Lib.hid hl
  replace hr := Lib.hid hr
  replace hag := Lib.hid hag
  have hmm := mid_of (p := fun x => x < m) hmid.out hS0.out hmm0
  clear hmm0
  have dmm : decide ((mid : Int) < (m : Int)) = true := by simp; omega
  obtain ⟨s0, hs0⟩ : ∃ s0, s0 = N0 - b := ⟨_, rfl⟩
  obtain ⟨rz, hrz⟩ : ∃ rz, rz = mid := ⟨_, rfl⟩
  have hsr : (mid < m ∧ s0 = N0 - b ∧ rz = mid) ∨ (m ≤ mid ∧ s0 = a ∧ rz = m) := .inl ⟨hmm, hs0, hrz⟩
  have es0 : (N0 : Int) - (b : Int) = (s0 : Int) := by omega
  have hws0 : IntKind.i64.wrap (s0 : Int) = s0 := IntWalk.i64_in _ (by omega)
  have hsr3 : a ≤ s0 ∧ s0 ≤ rz := by omega
  replace hN0 := Lib.hid hN0
  replace hP0 := Lib.hid hP0
  replace hsr := Lib.hid hsr
  clear hs0 hrz
  go_enter Try.func95, Try.ntmps95
  go_wp2_with fail
  go_loopw [20, 21] (fun u v wr => ∃ s r : Nat, s0 ≤ s ∧ s ≤ r ∧ r ≤ rz ∧ u = .int .i64 s ∧ v = .int .i64 r ∧ Hid (s0 < s → TT d[P0 - (s - 1)]! d[s - 1]! = false) ∧ Hid (r < rz → TT d[P0 - r]! d[r]! = true) ∧ SW w w0 g n cap d wr) (fun u v _ => (intOf v - intOf u).toNat)
  case atStart => have zS := hsr.out; exact ⟨s0, mid, by omega, by omega, by omega, rfl, rfl, Lib.hid (fun h => by omega), Lib.hid (fun h => by omega), h⟩
  case round =>
    obtain ⟨s, r, hs0, hsr2, hrz, rfl, rfl, hlo, hhi, hs⟩ := hrel
    have zN := hN0.out
    have zP := hP0.out
    have zS := hsr.out
    by_cases hlt : s < r
    · have hlti : (s : Int) < (r : Int) := by omega
      obtain ⟨S, hS⟩ : ∃ S, S = s + r := ⟨_, rfl⟩
      have eS : (s : Int) + (r : Int) = (S : Int) := by omega
      have hwS : IntKind.i64.wrap (S : Int) = S := IntWalk.i64_in _ (by omega)
      obtain ⟨H, hH⟩ : ∃ H, H = S / 2 := ⟨_, rfl⟩
      have eH : (S : Int) / 2 = (H : Int) := by omega
      have hHb : s ≤ H ∧ H < r := by omega
      obtain ⟨Qx, hQx⟩ : ∃ Qx, Qx = P0 - H := ⟨_, rfl⟩
      have eQ : (P0 : Int) - (H : Int) = (Qx : Int) := by omega
      have hwQ : IntKind.i64.wrap (Qx : Int) = Qx := IntWalk.i64_in _ (by omega)
      have hQb : m ≤ Qx ∧ Qx < b := by omega
      have hHa : a ≤ H ∧ H < m := by omega
      have hHn : (H : Int) < (n : Int) := by omega
      have hQn : (Qx : Int) < (n : Int) := by omega
      have hwH : IntKind.i64.wrap ((H : Int) + 1) = (H : Int) + 1 := IntWalk.i64_in _ (by omega)
      have hT := hag.out H Qx hHa.1 hHa.2 hQb.1 hQb.2
      obtain ⟨c0, c1⟩ := (hs).at (i := Qx) (by omega)
      obtain ⟨c2, c3⟩ := (hs).at (i := H) (by omega)
      have r0 := fun z : ExtOf wr => z.cell c0
      have r1 := fun z : ExtOf wr => z.cell c1
      have r2 := fun z : ExtOf wr => z.cell c2
      have r3 := fun z : ExtOf wr => z.cell c3
      have hcm := fun z : ExtOf wr => refl1_ext d[Qx]! d[H]! z.w
      clear zN zP zS
      replace hS := Lib.hid hS
      replace hH := Lib.hid hH
      cases hB : TT d[Qx]! d[H]!
      · have dB : decide (cntC d[Qx]! d[H]! < 0) = false := hT.symm.trans hB
        have hnew : Hid (s0 < H + 1 → TT d[P0 - (H + 1 - 1)]! d[H + 1 - 1]! = false) := Lib.hid fun _ => by rw [Nat.add_sub_cancel, ← hQx]; exact hB
        replace hT := Lib.hid hT
        replace hB := Lib.hid hB
        replace hQx := Lib.hid hQx
        generalize cntC d[Qx]! d[H]! = C at *
        go_wp2_with fail
        refine wp_region_qx (by kernel_rfl) (by kernel_rfl) ?_
        repeat (go_big_quiet_step (exact calls_ext (hcm _)))
        refine wpQuiet_nil ?_
        intro wq hw'
        have hxq := ext_of_ex hw'
        clear hw' r0 r1 r2 r3 hcm
        go_wp2_with fail
        (first | exact ⟨⟨H + 1, r, by omega, by omega, hrz, by go_num, rfl, hnew, hhi, hs.kept hxq⟩, (by simp [intOf]; omega)⟩ | (go_roundw; case rel => exact ⟨H + 1, r, by omega, by omega, hrz, by go_num, rfl, hnew, hhi, hs.kept hxq⟩; case measure => exact (by simp [intOf]; omega)))
      · have dB : decide (cntC d[Qx]! d[H]! < 0) = true := hT.symm.trans hB
        have hnew : Hid (H < rz → TT d[P0 - H]! d[H]! = true) := Lib.hid fun _ => by rw [← hQx]; exact hB
        replace hT := Lib.hid hT
        replace hB := Lib.hid hB
        replace hQx := Lib.hid hQx
        generalize cntC d[Qx]! d[H]! = C at *
        go_wp2_with fail
        refine wp_region_qx (by kernel_rfl) (by kernel_rfl) ?_
        repeat (go_big_quiet_step (exact calls_ext (hcm _)))
        refine wpQuiet_nil ?_
        intro wq hw'
        have hxq := ext_of_ex hw'
        clear hw' r0 r1 r2 r3 hcm
        go_wp2_with fail
        (first | exact ⟨⟨s, H, hs0, by omega, by omega, rfl, rfl, hlo, hnew, hs.kept hxq⟩, (by simp [intOf]; omega)⟩ | (go_roundw; case rel => exact ⟨s, H, hs0, by omega, by omega, rfl, rfl, hlo, hnew, hs.kept hxq⟩; case measure => exact (by simp [intOf]; omega)))
    · obtain rfl : s = r := by omega
      obtain ⟨E, hE⟩ : ∃ E, E = N0 - s := ⟨_, rfl⟩
      have eE : (N0 : Int) - (s : Int) = (E : Int) := by omega
      have hwE : IntKind.i64.wrap (E : Int) = E := IntWalk.i64_in _ (by omega)
      have hcut : Cut TT d a m b mid N0 s := ⟨zN, by omega, by omega, fun h1 h2 => by
        have := hlo.out (by omega)
        rwa [show P0 - (s - 1) = N0 - s by omega] at this, fun h1 h2 => by
        have := hhi.out (by omega)
        rwa [show P0 - s = N0 - s - 1 by omega] at this⟩
      have hEn : N0 - s = E := hE.symm
      have hE3 : E = mid + m - s := by omega
      have hEb : m ≤ E ∧ E ≤ b := by omega
      replace hE3 := Lib.hid hE3
      have hsb : a ≤ s ∧ s ≤ m ∧ s ≤ mid ∧ mid ≤ b ∧ a ≤ mid ∧ a < mid ∧ mid < b := by omega
      replace hcut := Lib.hid hcut
      replace hEn := Lib.hid hEn
      replace hE := Lib.hid hE
      clear zN zP zS
      replace hlo := Lib.hid hlo
      replace hhi := Lib.hid hhi
      by_cases hP : s < m
      · have dP : decide ((s : Int) < (m : Int)) = true := by have zE := hE3.out; simp; omega
        have dP2 : decide ((mid : Int) < (E : Int)) = true := by have zE := hE3.out; simp; omega
        have hPm : s < m := hP
        have hPE : mid < E := by have zE := hE3.out; omega
        by_cases hQ : s < mid
        · have dQ : decide ((m : Int) < (E : Int)) = true := by have zE := hE3.out; simp; omega
          have dQ2 : decide ((s : Int) < (mid : Int)) = true := by have zE := hE3.out; simp; omega
          have hQm : s < mid := hQ
          have hQE : m < E := by have zE := hE3.out; omega
          by_cases hRs : a < s
          · have dR : decide ((a : Int) < (s : Int)) = true := by have zE := hE3.out; simp; omega
            by_cases hSE : E < b
            · have dS : decide ((E : Int) < (b : Int)) = true := by have zE := hE3.out; simp; omega
              have hrt := rot_any hs s m E hPm hQE (by omega) hn (.func (.func 54) #[] #[])
              go_wp2_with fail
              refine hrt.mono ?_
              rintro e w2 ⟨rfl, d1, hd1, hp1, hs1⟩
              clear hrt
              have hp1 : PermIn a b d d1 := permIn_mono d d1 s E a b (by omega) (by omega) (by omega) hp1
              obtain ⟨q1, q2, q3, q4, g1, g2⟩ := halves hcut.out hl.out hr.out hag.out (by rw [hEn.out]; exact hd1)
              rw [hEn.out] at q3 q4 g2
              have hr1 := ih hs1 a s mid (by omega) hRs hQm (by omega) q1 q2 g1
              replace hd1 := Lib.hid hd1
              replace hp1 := Lib.hid hp1
              replace q1 := Lib.hid q1
              replace q2 := Lib.hid q2
              replace q3 := Lib.hid q3
              replace q4 := Lib.hid q4
              replace g1 := Lib.hid g1
              replace g2 := Lib.hid g2
              unfold MrgRet at hr1
              go_wp2_with fail
              refine hr1.mono ?_
              rintro e w3 ⟨rfl, d2, hp2, ho2, hs2⟩
              clear hr1
              replace hd1 := hd1.out
              replace hp1 := hp1.out
              replace q3 := q3.out
              replace q4 := q4.out
              replace g2 := g2.out
              have hkp : ∀ t, mid ≤ t → t < b → d2[t]! = d1[t]! := fun t h _ => hp2.2.1 t (.inr h)
              have u3 : SortedIn TT mid E d2 := SortedIn.ofEq q3 fun t h1 h2 => hkp t h1 (by omega)
              have u4 : SortedIn TT E b d2 := SortedIn.ofEq q4 fun t h1 h2 => hkp t (by omega) h2
              have u5 : Agr d2 mid E b := Agr.ofEq g2 hkp
              clear hkp
              have hr2 := ih hs2 mid E b (by omega) hPE hSE hbn u3 u4 u5
              replace hd1 := Lib.hid hd1
              replace hp1 := Lib.hid hp1
              replace hp2 := Lib.hid hp2
              replace ho2 := Lib.hid ho2
              replace u3 := Lib.hid u3
              replace u4 := Lib.hid u4
              replace u5 := Lib.hid u5
              unfold MrgRet at hr2
              go_wp2_with fail
              all_goals
                refine hr2.mono ?_
                rintro e w4 ⟨rfl, d3, hp3, ho3, hs3⟩
                clear hr2
                replace hd1 := hd1.out
                replace hp1 := hp1.out
                replace hp2 := hp2.out
                replace ho2 := ho2.out
                have hfin := mrg_end (by omega) hcut.out hl.out hr.out (by rw [hEn.out]; exact hd1) hp1 hp2 ho2 hp3 ho3
                replace hfin := Lib.hid hfin
                clear hd1 hp1 hp2 ho2 hp3 ho3 q1 q2 q3 q4 g1 g2 u3 u4 u5
                go_wp2_with fail
                all_goals
                  go_end0
                  exact ⟨rfl, d3, hfin.out.1, hfin.out.2, hs3⟩
            · have dS : decide ((E : Int) < (b : Int)) = false := by have zE := hE3.out; simp; omega
              have hrt := rot_any hs s m E hPm hQE (by omega) hn (.func (.func 54) #[] #[])
              go_wp2_with fail
              refine hrt.mono ?_
              rintro e w2 ⟨rfl, d1, hd1, hp1, hs1⟩
              clear hrt
              have hp1 : PermIn a b d d1 := permIn_mono d d1 s E a b (by omega) (by omega) (by omega) hp1
              obtain ⟨q1, q2, q3, q4, g1, g2⟩ := halves hcut.out hl.out hr.out hag.out (by rw [hEn.out]; exact hd1)
              rw [hEn.out] at q3 q4 g2
              have hr1 := ih hs1 a s mid (by omega) hRs hQm (by omega) q1 q2 g1
              replace hd1 := Lib.hid hd1
              replace hp1 := Lib.hid hp1
              replace q1 := Lib.hid q1
              replace q2 := Lib.hid q2
              replace q3 := Lib.hid q3
              replace q4 := Lib.hid q4
              replace g1 := Lib.hid g1
              replace g2 := Lib.hid g2
              unfold MrgRet at hr1
              go_wp2_with fail
              refine hr1.mono ?_
              rintro e w3 ⟨rfl, d2, hp2, ho2, hs2⟩
              clear hr1
              replace hd1 := hd1.out
              replace hp1 := hp1.out
              replace q3 := q3.out
              replace q4 := q4.out
              replace g2 := g2.out
              have hkp : ∀ t, mid ≤ t → t < b → d2[t]! = d1[t]! := fun t h _ => hp2.2.1 t (.inr h)
              have u3 : SortedIn TT mid E d2 := SortedIn.ofEq q3 fun t h1 h2 => hkp t h1 (by omega)
              have u4 : SortedIn TT E b d2 := SortedIn.ofEq q4 fun t h1 h2 => hkp t (by omega) h2
              have u5 : Agr d2 mid E b := Agr.ofEq g2 hkp
              clear hkp
              obtain ⟨d3, hd3⟩ : ∃ d3, d3 = d2 := ⟨_, rfl⟩
              have hp3 : PermIn mid b d2 d3 := by rw [hd3]; exact permIn_refl _ _ _
              have ho3 : SortedIn TT mid b d3 := by rw [hd3, show b = E by have zE := hE3.out; omega]; exact u3
              have hs3 := hd3 ▸ hs2
              clear hd3
              have hfin := mrg_end (by omega) hcut.out hl.out hr.out (by rw [hEn.out]; exact hd1) hp1 hp2 ho2 hp3 ho3
              replace hfin := Lib.hid hfin
              clear hd1 hp1 hp2 ho2 hp3 ho3 q1 q2 q3 q4 g1 g2 u3 u4 u5
              go_wp2_with fail
              all_goals
                go_end0
                exact ⟨rfl, d3, hfin.out.1, hfin.out.2, hs3⟩
          · have dR : decide ((a : Int) < (s : Int)) = false := by have zE := hE3.out; simp; omega
            by_cases hSE : E < b
            · have dS : decide ((E : Int) < (b : Int)) = true := by have zE := hE3.out; simp; omega
              have hrt := rot_any hs s m E hPm hQE (by omega) hn (.func (.func 54) #[] #[])
              go_wp2_with fail
              refine hrt.mono ?_
              rintro e w2 ⟨rfl, d1, hd1, hp1, hs1⟩
              clear hrt
              have hp1 : PermIn a b d d1 := permIn_mono d d1 s E a b (by omega) (by omega) (by omega) hp1
              obtain ⟨q1, q2, q3, q4, g1, g2⟩ := halves hcut.out hl.out hr.out hag.out (by rw [hEn.out]; exact hd1)
              rw [hEn.out] at q3 q4 g2
              obtain ⟨d2, hd2⟩ : ∃ d2, d2 = d1 := ⟨_, rfl⟩
              have hp2 : PermIn a mid d1 d2 := by rw [hd2]; exact permIn_refl _ _ _
              have ho2 : SortedIn TT a mid d2 := by rw [hd2, show a = s by have zE := hE3.out; omega]; exact q2
              have hs2 := hd2 ▸ hs1
              clear hd2
              have hkp : ∀ t, mid ≤ t → t < b → d2[t]! = d1[t]! := fun t h _ => hp2.2.1 t (.inr h)
              have u3 : SortedIn TT mid E d2 := SortedIn.ofEq q3 fun t h1 h2 => hkp t h1 (by omega)
              have u4 : SortedIn TT E b d2 := SortedIn.ofEq q4 fun t h1 h2 => hkp t (by omega) h2
              have u5 : Agr d2 mid E b := Agr.ofEq g2 hkp
              clear hkp
              have hr2 := ih hs2 mid E b (by omega) hPE hSE hbn u3 u4 u5
              replace hd1 := Lib.hid hd1
              replace hp1 := Lib.hid hp1
              replace hp2 := Lib.hid hp2
              replace ho2 := Lib.hid ho2
              replace u3 := Lib.hid u3
              replace u4 := Lib.hid u4
              replace u5 := Lib.hid u5
              replace q1 := Lib.hid q1
              replace q2 := Lib.hid q2
              replace q3 := Lib.hid q3
              replace q4 := Lib.hid q4
              replace g1 := Lib.hid g1
              replace g2 := Lib.hid g2
              unfold MrgRet at hr2
              go_wp2_with fail
              all_goals
                refine hr2.mono ?_
                rintro e w4 ⟨rfl, d3, hp3, ho3, hs3⟩
                clear hr2
                replace hd1 := hd1.out
                replace hp1 := hp1.out
                replace hp2 := hp2.out
                replace ho2 := ho2.out
                have hfin := mrg_end (by omega) hcut.out hl.out hr.out (by rw [hEn.out]; exact hd1) hp1 hp2 ho2 hp3 ho3
                replace hfin := Lib.hid hfin
                clear hd1 hp1 hp2 ho2 hp3 ho3 q1 q2 q3 q4 g1 g2 u3 u4 u5
                go_wp2_with fail
                all_goals
                  go_end0
                  exact ⟨rfl, d3, hfin.out.1, hfin.out.2, hs3⟩
            · have dS : decide ((E : Int) < (b : Int)) = false := by have zE := hE3.out; simp; omega
              have hrt := rot_any hs s m E hPm hQE (by omega) hn (.func (.func 54) #[] #[])
              go_wp2_with fail
              refine hrt.mono ?_
              rintro e w2 ⟨rfl, d1, hd1, hp1, hs1⟩
              clear hrt
              have hp1 : PermIn a b d d1 := permIn_mono d d1 s E a b (by omega) (by omega) (by omega) hp1
              obtain ⟨q1, q2, q3, q4, g1, g2⟩ := halves hcut.out hl.out hr.out hag.out (by rw [hEn.out]; exact hd1)
              rw [hEn.out] at q3 q4 g2
              obtain ⟨d2, hd2⟩ : ∃ d2, d2 = d1 := ⟨_, rfl⟩
              have hp2 : PermIn a mid d1 d2 := by rw [hd2]; exact permIn_refl _ _ _
              have ho2 : SortedIn TT a mid d2 := by rw [hd2, show a = s by have zE := hE3.out; omega]; exact q2
              have hs2 := hd2 ▸ hs1
              clear hd2
              have hkp : ∀ t, mid ≤ t → t < b → d2[t]! = d1[t]! := fun t h _ => hp2.2.1 t (.inr h)
              have u3 : SortedIn TT mid E d2 := SortedIn.ofEq q3 fun t h1 h2 => hkp t h1 (by omega)
              have u4 : SortedIn TT E b d2 := SortedIn.ofEq q4 fun t h1 h2 => hkp t (by omega) h2
              have u5 : Agr d2 mid E b := Agr.ofEq g2 hkp
              clear hkp
              obtain ⟨d3, hd3⟩ : ∃ d3, d3 = d2 := ⟨_, rfl⟩
              have hp3 : PermIn mid b d2 d3 := by rw [hd3]; exact permIn_refl _ _ _
              have ho3 : SortedIn TT mid b d3 := by rw [hd3, show b = E by have zE := hE3.out; omega]; exact u3
              have hs3 := hd3 ▸ hs2
              clear hd3
              have hfin := mrg_end (by omega) hcut.out hl.out hr.out (by rw [hEn.out]; exact hd1) hp1 hp2 ho2 hp3 ho3
              replace hfin := Lib.hid hfin
              clear hd1 hp1 hp2 ho2 hp3 ho3 q1 q2 q3 q4 g1 g2 u3 u4 u5
              go_wp2_with fail
              all_goals
                go_end0
                exact ⟨rfl, d3, hfin.out.1, hfin.out.2, hs3⟩
        · have dQ : decide ((m : Int) < (E : Int)) = false := by have zE := hE3.out; simp; omega
          have dQ2 : decide ((s : Int) < (mid : Int)) = false := by have zE := hE3.out; simp; omega
          by_cases hRs : a < s
          · have dR : decide ((a : Int) < (s : Int)) = true := by have zE := hE3.out; simp; omega
            by_cases hSE : E < b
            · have dS : decide ((E : Int) < (b : Int)) = true := by have zE := hE3.out; simp; omega
              obtain ⟨d1, rfl⟩ : ∃ d1, d1 = d := ⟨_, rfl⟩
              have hd1 : ∀ t, d1[t]! = rotG d1 s m E t := noturn (by have zE := hE3.out; omega)
              have hp1 : PermIn a b d1 d1 := permIn_refl _ _ _
              have hs1 := hs
              obtain ⟨q1, q2, q3, q4, g1, g2⟩ := halves hcut.out hl.out hr.out hag.out (by rw [hEn.out]; exact hd1)
              rw [hEn.out] at q3 q4 g2
              obtain ⟨d2, hd2⟩ : ∃ d2, d2 = d1 := ⟨_, rfl⟩
              have hp2 : PermIn a mid d1 d2 := by rw [hd2]; exact permIn_refl _ _ _
              have ho2 : SortedIn TT a mid d2 := by rw [hd2, show mid = s by have zE := hE3.out; omega]; exact q1
              have hs2 := hd2 ▸ hs1
              clear hd2
              have hkp : ∀ t, mid ≤ t → t < b → d2[t]! = d1[t]! := fun t h _ => hp2.2.1 t (.inr h)
              have u3 : SortedIn TT mid E d2 := SortedIn.ofEq q3 fun t h1 h2 => hkp t h1 (by omega)
              have u4 : SortedIn TT E b d2 := SortedIn.ofEq q4 fun t h1 h2 => hkp t (by omega) h2
              have u5 : Agr d2 mid E b := Agr.ofEq g2 hkp
              clear hkp
              have hr2 := ih hs2 mid E b (by omega) hPE hSE hbn u3 u4 u5
              replace hd1 := Lib.hid hd1
              replace hp1 := Lib.hid hp1
              replace hp2 := Lib.hid hp2
              replace ho2 := Lib.hid ho2
              replace u3 := Lib.hid u3
              replace u4 := Lib.hid u4
              replace u5 := Lib.hid u5
              replace q1 := Lib.hid q1
              replace q2 := Lib.hid q2
              replace q3 := Lib.hid q3
              replace q4 := Lib.hid q4
              replace g1 := Lib.hid g1
              replace g2 := Lib.hid g2
              unfold MrgRet at hr2
              go_wp2_with fail
              all_goals
                refine hr2.mono ?_
                rintro e w4 ⟨rfl, d3, hp3, ho3, hs3⟩
                clear hr2
                replace hd1 := hd1.out
                replace hp1 := hp1.out
                replace hp2 := hp2.out
                replace ho2 := ho2.out
                have hfin := mrg_end (by omega) hcut.out hl.out hr.out (by rw [hEn.out]; exact hd1) hp1 hp2 ho2 hp3 ho3
                replace hfin := Lib.hid hfin
                clear hd1 hp1 hp2 ho2 hp3 ho3 q1 q2 q3 q4 g1 g2 u3 u4 u5
                go_wp2_with fail
                all_goals
                  go_end0
                  exact ⟨rfl, d3, hfin.out.1, hfin.out.2, hs3⟩
            · have dS : decide ((E : Int) < (b : Int)) = false := by have zE := hE3.out; simp; omega
              obtain ⟨d1, rfl⟩ : ∃ d1, d1 = d := ⟨_, rfl⟩
              have hd1 : ∀ t, d1[t]! = rotG d1 s m E t := noturn (by have zE := hE3.out; omega)
              have hp1 : PermIn a b d1 d1 := permIn_refl _ _ _
              have hs1 := hs
              obtain ⟨q1, q2, q3, q4, g1, g2⟩ := halves hcut.out hl.out hr.out hag.out (by rw [hEn.out]; exact hd1)
              rw [hEn.out] at q3 q4 g2
              obtain ⟨d2, hd2⟩ : ∃ d2, d2 = d1 := ⟨_, rfl⟩
              have hp2 : PermIn a mid d1 d2 := by rw [hd2]; exact permIn_refl _ _ _
              have ho2 : SortedIn TT a mid d2 := by rw [hd2, show mid = s by have zE := hE3.out; omega]; exact q1
              have hs2 := hd2 ▸ hs1
              clear hd2
              have hkp : ∀ t, mid ≤ t → t < b → d2[t]! = d1[t]! := fun t h _ => hp2.2.1 t (.inr h)
              have u3 : SortedIn TT mid E d2 := SortedIn.ofEq q3 fun t h1 h2 => hkp t h1 (by omega)
              have u4 : SortedIn TT E b d2 := SortedIn.ofEq q4 fun t h1 h2 => hkp t (by omega) h2
              have u5 : Agr d2 mid E b := Agr.ofEq g2 hkp
              clear hkp
              obtain ⟨d3, hd3⟩ : ∃ d3, d3 = d2 := ⟨_, rfl⟩
              have hp3 : PermIn mid b d2 d3 := by rw [hd3]; exact permIn_refl _ _ _
              have ho3 : SortedIn TT mid b d3 := by rw [hd3, show b = E by have zE := hE3.out; omega]; exact u3
              have hs3 := hd3 ▸ hs2
              clear hd3
              have hfin := mrg_end (by omega) hcut.out hl.out hr.out (by rw [hEn.out]; exact hd1) hp1 hp2 ho2 hp3 ho3
              replace hfin := Lib.hid hfin
              clear hd1 hp1 hp2 ho2 hp3 ho3 q1 q2 q3 q4 g1 g2 u3 u4 u5
              go_wp2_with fail
              all_goals
                go_end0
                exact ⟨rfl, d3, hfin.out.1, hfin.out.2, hs3⟩
          · have dR : decide ((a : Int) < (s : Int)) = false := by have zE := hE3.out; simp; omega
            by_cases hSE : E < b
            · have dS : decide ((E : Int) < (b : Int)) = true := by have zE := hE3.out; simp; omega
              obtain ⟨d1, rfl⟩ : ∃ d1, d1 = d := ⟨_, rfl⟩
              have hd1 : ∀ t, d1[t]! = rotG d1 s m E t := noturn (by have zE := hE3.out; omega)
              have hp1 : PermIn a b d1 d1 := permIn_refl _ _ _
              have hs1 := hs
              obtain ⟨q1, q2, q3, q4, g1, g2⟩ := halves hcut.out hl.out hr.out hag.out (by rw [hEn.out]; exact hd1)
              rw [hEn.out] at q3 q4 g2
              obtain ⟨d2, hd2⟩ : ∃ d2, d2 = d1 := ⟨_, rfl⟩
              have hp2 : PermIn a mid d1 d2 := by rw [hd2]; exact permIn_refl _ _ _
              have ho2 : SortedIn TT a mid d2 := by rw [hd2, show a = s by have zE := hE3.out; omega]; exact q2
              have hs2 := hd2 ▸ hs1
              clear hd2
              have hkp : ∀ t, mid ≤ t → t < b → d2[t]! = d1[t]! := fun t h _ => hp2.2.1 t (.inr h)
              have u3 : SortedIn TT mid E d2 := SortedIn.ofEq q3 fun t h1 h2 => hkp t h1 (by omega)
              have u4 : SortedIn TT E b d2 := SortedIn.ofEq q4 fun t h1 h2 => hkp t (by omega) h2
              have u5 : Agr d2 mid E b := Agr.ofEq g2 hkp
              clear hkp
              have hr2 := ih hs2 mid E b (by omega) hPE hSE hbn u3 u4 u5
              replace hd1 := Lib.hid hd1
              replace hp1 := Lib.hid hp1
              replace hp2 := Lib.hid hp2
              replace ho2 := Lib.hid ho2
              replace u3 := Lib.hid u3
              replace u4 := Lib.hid u4
              replace u5 := Lib.hid u5
              replace q1 := Lib.hid q1
              replace q2 := Lib.hid q2
              replace q3 := Lib.hid q3
              replace q4 := Lib.hid q4
              replace g1 := Lib.hid g1
              replace g2 := Lib.hid g2
              unfold MrgRet at hr2
              go_wp2_with fail
              all_goals
                refine hr2.mono ?_
                rintro e w4 ⟨rfl, d3, hp3, ho3, hs3⟩
                clear hr2
                replace hd1 := hd1.out
                replace hp1 := hp1.out
                replace hp2 := hp2.out
                replace ho2 := ho2.out
                have hfin := mrg_end (by omega) hcut.out hl.out hr.out (by rw [hEn.out]; exact hd1) hp1 hp2 ho2 hp3 ho3
                replace hfin := Lib.hid hfin
                clear hd1 hp1 hp2 ho2 hp3 ho3 q1 q2 q3 q4 g1 g2 u3 u4 u5
                go_wp2_with fail
                all_goals
                  go_end0
                  exact ⟨rfl, d3, hfin.out.1, hfin.out.2, hs3⟩
            · have dS : decide ((E : Int) < (b : Int)) = false := by have zE := hE3.out; simp; omega
              obtain ⟨d1, rfl⟩ : ∃ d1, d1 = d := ⟨_, rfl⟩
              have hd1 : ∀ t, d1[t]! = rotG d1 s m E t := noturn (by have zE := hE3.out; omega)
              have hp1 : PermIn a b d1 d1 := permIn_refl _ _ _
              have hs1 := hs
              obtain ⟨q1, q2, q3, q4, g1, g2⟩ := halves hcut.out hl.out hr.out hag.out (by rw [hEn.out]; exact hd1)
              rw [hEn.out] at q3 q4 g2
              obtain ⟨d2, hd2⟩ : ∃ d2, d2 = d1 := ⟨_, rfl⟩
              have hp2 : PermIn a mid d1 d2 := by rw [hd2]; exact permIn_refl _ _ _
              have ho2 : SortedIn TT a mid d2 := by rw [hd2, show a = s by have zE := hE3.out; omega]; exact q2
              have hs2 := hd2 ▸ hs1
              clear hd2
              have hkp : ∀ t, mid ≤ t → t < b → d2[t]! = d1[t]! := fun t h _ => hp2.2.1 t (.inr h)
              have u3 : SortedIn TT mid E d2 := SortedIn.ofEq q3 fun t h1 h2 => hkp t h1 (by omega)
              have u4 : SortedIn TT E b d2 := SortedIn.ofEq q4 fun t h1 h2 => hkp t (by omega) h2
              have u5 : Agr d2 mid E b := Agr.ofEq g2 hkp
              clear hkp
              obtain ⟨d3, hd3⟩ : ∃ d3, d3 = d2 := ⟨_, rfl⟩
              have hp3 : PermIn mid b d2 d3 := by rw [hd3]; exact permIn_refl _ _ _
              have ho3 : SortedIn TT mid b d3 := by rw [hd3, show b = E by have zE := hE3.out; omega]; exact u3
              have hs3 := hd3 ▸ hs2
              clear hd3
              have hfin := mrg_end (by omega) hcut.out hl.out hr.out (by rw [hEn.out]; exact hd1) hp1 hp2 ho2 hp3 ho3
              replace hfin := Lib.hid hfin
              clear hd1 hp1 hp2 ho2 hp3 ho3 q1 q2 q3 q4 g1 g2 u3 u4 u5
              go_wp2_with fail
              all_goals
                go_end0
                exact ⟨rfl, d3, hfin.out.1, hfin.out.2, hs3⟩
      · have dP : decide ((s : Int) < (m : Int)) = false := by have zE := hE3.out; simp; omega
        have dP2 : decide ((mid : Int) < (E : Int)) = false := by have zE := hE3.out; simp; omega
        by_cases hQ : s < mid
        · have dQ : decide ((m : Int) < (E : Int)) = true := by have zE := hE3.out; simp; omega
          have dQ2 : decide ((s : Int) < (mid : Int)) = true := by have zE := hE3.out; simp; omega
          have hQm : s < mid := hQ
          have hQE : m < E := by have zE := hE3.out; omega
          by_cases hRs : a < s
          · have dR : decide ((a : Int) < (s : Int)) = true := by have zE := hE3.out; simp; omega
            by_cases hSE : E < b
            · have dS : decide ((E : Int) < (b : Int)) = true := by have zE := hE3.out; simp; omega
              obtain ⟨d1, rfl⟩ : ∃ d1, d1 = d := ⟨_, rfl⟩
              have hd1 : ∀ t, d1[t]! = rotG d1 s m E t := noturn (by have zE := hE3.out; omega)
              have hp1 : PermIn a b d1 d1 := permIn_refl _ _ _
              have hs1 := hs
              obtain ⟨q1, q2, q3, q4, g1, g2⟩ := halves hcut.out hl.out hr.out hag.out (by rw [hEn.out]; exact hd1)
              rw [hEn.out] at q3 q4 g2
              have hr1 := ih hs1 a s mid (by omega) hRs hQm (by omega) q1 q2 g1
              replace hd1 := Lib.hid hd1
              replace hp1 := Lib.hid hp1
              replace q1 := Lib.hid q1
              replace q2 := Lib.hid q2
              replace q3 := Lib.hid q3
              replace q4 := Lib.hid q4
              replace g1 := Lib.hid g1
              replace g2 := Lib.hid g2
              unfold MrgRet at hr1
              go_wp2_with fail
              refine hr1.mono ?_
              rintro e w3 ⟨rfl, d2, hp2, ho2, hs2⟩
              clear hr1
              replace hd1 := hd1.out
              replace hp1 := hp1.out
              replace q3 := q3.out
              replace q4 := q4.out
              replace g2 := g2.out
              have hkp : ∀ t, mid ≤ t → t < b → d2[t]! = d1[t]! := fun t h _ => hp2.2.1 t (.inr h)
              have u3 : SortedIn TT mid E d2 := SortedIn.ofEq q3 fun t h1 h2 => hkp t h1 (by omega)
              have u4 : SortedIn TT E b d2 := SortedIn.ofEq q4 fun t h1 h2 => hkp t (by omega) h2
              have u5 : Agr d2 mid E b := Agr.ofEq g2 hkp
              clear hkp
              obtain ⟨d3, hd3⟩ : ∃ d3, d3 = d2 := ⟨_, rfl⟩
              have hp3 : PermIn mid b d2 d3 := by rw [hd3]; exact permIn_refl _ _ _
              have ho3 : SortedIn TT mid b d3 := by rw [hd3, show mid = E by have zE := hE3.out; omega]; exact u4
              have hs3 := hd3 ▸ hs2
              clear hd3
              have hfin := mrg_end (by omega) hcut.out hl.out hr.out (by rw [hEn.out]; exact hd1) hp1 hp2 ho2 hp3 ho3
              replace hfin := Lib.hid hfin
              clear hd1 hp1 hp2 ho2 hp3 ho3 q1 q2 q3 q4 g1 g2 u3 u4 u5
              go_wp2_with fail
              all_goals
                go_end0
                exact ⟨rfl, d3, hfin.out.1, hfin.out.2, hs3⟩
            · have dS : decide ((E : Int) < (b : Int)) = false := by have zE := hE3.out; simp; omega
              obtain ⟨d1, rfl⟩ : ∃ d1, d1 = d := ⟨_, rfl⟩
              have hd1 : ∀ t, d1[t]! = rotG d1 s m E t := noturn (by have zE := hE3.out; omega)
              have hp1 : PermIn a b d1 d1 := permIn_refl _ _ _
              have hs1 := hs
              obtain ⟨q1, q2, q3, q4, g1, g2⟩ := halves hcut.out hl.out hr.out hag.out (by rw [hEn.out]; exact hd1)
              rw [hEn.out] at q3 q4 g2
              have hr1 := ih hs1 a s mid (by omega) hRs hQm (by omega) q1 q2 g1
              replace hd1 := Lib.hid hd1
              replace hp1 := Lib.hid hp1
              replace q1 := Lib.hid q1
              replace q2 := Lib.hid q2
              replace q3 := Lib.hid q3
              replace q4 := Lib.hid q4
              replace g1 := Lib.hid g1
              replace g2 := Lib.hid g2
              unfold MrgRet at hr1
              go_wp2_with fail
              refine hr1.mono ?_
              rintro e w3 ⟨rfl, d2, hp2, ho2, hs2⟩
              clear hr1
              replace hd1 := hd1.out
              replace hp1 := hp1.out
              replace q3 := q3.out
              replace q4 := q4.out
              replace g2 := g2.out
              have hkp : ∀ t, mid ≤ t → t < b → d2[t]! = d1[t]! := fun t h _ => hp2.2.1 t (.inr h)
              have u3 : SortedIn TT mid E d2 := SortedIn.ofEq q3 fun t h1 h2 => hkp t h1 (by omega)
              have u4 : SortedIn TT E b d2 := SortedIn.ofEq q4 fun t h1 h2 => hkp t (by omega) h2
              have u5 : Agr d2 mid E b := Agr.ofEq g2 hkp
              clear hkp
              obtain ⟨d3, hd3⟩ : ∃ d3, d3 = d2 := ⟨_, rfl⟩
              have hp3 : PermIn mid b d2 d3 := by rw [hd3]; exact permIn_refl _ _ _
              have ho3 : SortedIn TT mid b d3 := by rw [hd3, show mid = E by have zE := hE3.out; omega]; exact u4
              have hs3 := hd3 ▸ hs2
              clear hd3
              have hfin := mrg_end (by omega) hcut.out hl.out hr.out (by rw [hEn.out]; exact hd1) hp1 hp2 ho2 hp3 ho3
              replace hfin := Lib.hid hfin
              clear hd1 hp1 hp2 ho2 hp3 ho3 q1 q2 q3 q4 g1 g2 u3 u4 u5
              go_wp2_with fail
              all_goals
                go_end0
                exact ⟨rfl, d3, hfin.out.1, hfin.out.2, hs3⟩
          · have dR : decide ((a : Int) < (s : Int)) = false := by have zE := hE3.out; simp; omega
            by_cases hSE : E < b
            · have dS : decide ((E : Int) < (b : Int)) = true := by have zE := hE3.out; simp; omega
              obtain ⟨d1, rfl⟩ : ∃ d1, d1 = d := ⟨_, rfl⟩
              have hd1 : ∀ t, d1[t]! = rotG d1 s m E t := noturn (by have zE := hE3.out; omega)
              have hp1 : PermIn a b d1 d1 := permIn_refl _ _ _
              have hs1 := hs
              obtain ⟨q1, q2, q3, q4, g1, g2⟩ := halves hcut.out hl.out hr.out hag.out (by rw [hEn.out]; exact hd1)
              rw [hEn.out] at q3 q4 g2
              obtain ⟨d2, hd2⟩ : ∃ d2, d2 = d1 := ⟨_, rfl⟩
              have hp2 : PermIn a mid d1 d2 := by rw [hd2]; exact permIn_refl _ _ _
              have ho2 : SortedIn TT a mid d2 := by rw [hd2, show a = s by have zE := hE3.out; omega]; exact q2
              have hs2 := hd2 ▸ hs1
              clear hd2
              have hkp : ∀ t, mid ≤ t → t < b → d2[t]! = d1[t]! := fun t h _ => hp2.2.1 t (.inr h)
              have u3 : SortedIn TT mid E d2 := SortedIn.ofEq q3 fun t h1 h2 => hkp t h1 (by omega)
              have u4 : SortedIn TT E b d2 := SortedIn.ofEq q4 fun t h1 h2 => hkp t (by omega) h2
              have u5 : Agr d2 mid E b := Agr.ofEq g2 hkp
              clear hkp
              obtain ⟨d3, hd3⟩ : ∃ d3, d3 = d2 := ⟨_, rfl⟩
              have hp3 : PermIn mid b d2 d3 := by rw [hd3]; exact permIn_refl _ _ _
              have ho3 : SortedIn TT mid b d3 := by rw [hd3, show mid = E by have zE := hE3.out; omega]; exact u4
              have hs3 := hd3 ▸ hs2
              clear hd3
              have hfin := mrg_end (by omega) hcut.out hl.out hr.out (by rw [hEn.out]; exact hd1) hp1 hp2 ho2 hp3 ho3
              replace hfin := Lib.hid hfin
              clear hd1 hp1 hp2 ho2 hp3 ho3 q1 q2 q3 q4 g1 g2 u3 u4 u5
              go_wp2_with fail
              all_goals
                go_end0
                exact ⟨rfl, d3, hfin.out.1, hfin.out.2, hs3⟩
            · have dS : decide ((E : Int) < (b : Int)) = false := by have zE := hE3.out; simp; omega
              obtain ⟨d1, rfl⟩ : ∃ d1, d1 = d := ⟨_, rfl⟩
              have hd1 : ∀ t, d1[t]! = rotG d1 s m E t := noturn (by have zE := hE3.out; omega)
              have hp1 : PermIn a b d1 d1 := permIn_refl _ _ _
              have hs1 := hs
              obtain ⟨q1, q2, q3, q4, g1, g2⟩ := halves hcut.out hl.out hr.out hag.out (by rw [hEn.out]; exact hd1)
              rw [hEn.out] at q3 q4 g2
              obtain ⟨d2, hd2⟩ : ∃ d2, d2 = d1 := ⟨_, rfl⟩
              have hp2 : PermIn a mid d1 d2 := by rw [hd2]; exact permIn_refl _ _ _
              have ho2 : SortedIn TT a mid d2 := by rw [hd2, show a = s by have zE := hE3.out; omega]; exact q2
              have hs2 := hd2 ▸ hs1
              clear hd2
              have hkp : ∀ t, mid ≤ t → t < b → d2[t]! = d1[t]! := fun t h _ => hp2.2.1 t (.inr h)
              have u3 : SortedIn TT mid E d2 := SortedIn.ofEq q3 fun t h1 h2 => hkp t h1 (by omega)
              have u4 : SortedIn TT E b d2 := SortedIn.ofEq q4 fun t h1 h2 => hkp t (by omega) h2
              have u5 : Agr d2 mid E b := Agr.ofEq g2 hkp
              clear hkp
              obtain ⟨d3, hd3⟩ : ∃ d3, d3 = d2 := ⟨_, rfl⟩
              have hp3 : PermIn mid b d2 d3 := by rw [hd3]; exact permIn_refl _ _ _
              have ho3 : SortedIn TT mid b d3 := by rw [hd3, show mid = E by have zE := hE3.out; omega]; exact u4
              have hs3 := hd3 ▸ hs2
              clear hd3
              have hfin := mrg_end (by omega) hcut.out hl.out hr.out (by rw [hEn.out]; exact hd1) hp1 hp2 ho2 hp3 ho3
              replace hfin := Lib.hid hfin
              clear hd1 hp1 hp2 ho2 hp3 ho3 q1 q2 q3 q4 g1 g2 u3 u4 u5
              go_wp2_with fail
              all_goals
                go_end0
                exact ⟨rfl, d3, hfin.out.1, hfin.out.2, hs3⟩
        · have dQ : decide ((m : Int) < (E : Int)) = false := by have zE := hE3.out; simp; omega
          have dQ2 : decide ((s : Int) < (mid : Int)) = false := by have zE := hE3.out; simp; omega
          by_cases hRs : a < s
          · have dR : decide ((a : Int) < (s : Int)) = true := by have zE := hE3.out; simp; omega
            by_cases hSE : E < b
            · have dS : decide ((E : Int) < (b : Int)) = true := by have zE := hE3.out; simp; omega
              obtain ⟨d1, rfl⟩ : ∃ d1, d1 = d := ⟨_, rfl⟩
              have hd1 : ∀ t, d1[t]! = rotG d1 s m E t := noturn (by have zE := hE3.out; omega)
              have hp1 : PermIn a b d1 d1 := permIn_refl _ _ _
              have hs1 := hs
              obtain ⟨q1, q2, q3, q4, g1, g2⟩ := halves hcut.out hl.out hr.out hag.out (by rw [hEn.out]; exact hd1)
              rw [hEn.out] at q3 q4 g2
              obtain ⟨d2, hd2⟩ : ∃ d2, d2 = d1 := ⟨_, rfl⟩
              have hp2 : PermIn a mid d1 d2 := by rw [hd2]; exact permIn_refl _ _ _
              have ho2 : SortedIn TT a mid d2 := by rw [hd2, show mid = s by have zE := hE3.out; omega]; exact q1
              have hs2 := hd2 ▸ hs1
              clear hd2
              have hkp : ∀ t, mid ≤ t → t < b → d2[t]! = d1[t]! := fun t h _ => hp2.2.1 t (.inr h)
              have u3 : SortedIn TT mid E d2 := SortedIn.ofEq q3 fun t h1 h2 => hkp t h1 (by omega)
              have u4 : SortedIn TT E b d2 := SortedIn.ofEq q4 fun t h1 h2 => hkp t (by omega) h2
              have u5 : Agr d2 mid E b := Agr.ofEq g2 hkp
              clear hkp
              obtain ⟨d3, hd3⟩ : ∃ d3, d3 = d2 := ⟨_, rfl⟩
              have hp3 : PermIn mid b d2 d3 := by rw [hd3]; exact permIn_refl _ _ _
              have ho3 : SortedIn TT mid b d3 := by rw [hd3, show mid = E by have zE := hE3.out; omega]; exact u4
              have hs3 := hd3 ▸ hs2
              clear hd3
              have hfin := mrg_end (by omega) hcut.out hl.out hr.out (by rw [hEn.out]; exact hd1) hp1 hp2 ho2 hp3 ho3
              replace hfin := Lib.hid hfin
              clear hd1 hp1 hp2 ho2 hp3 ho3 q1 q2 q3 q4 g1 g2 u3 u4 u5
              go_wp2_with fail
              all_goals
                go_end0
                exact ⟨rfl, d3, hfin.out.1, hfin.out.2, hs3⟩
            · have dS : decide ((E : Int) < (b : Int)) = false := by have zE := hE3.out; simp; omega
              obtain ⟨d1, rfl⟩ : ∃ d1, d1 = d := ⟨_, rfl⟩
              have hd1 : ∀ t, d1[t]! = rotG d1 s m E t := noturn (by have zE := hE3.out; omega)
              have hp1 : PermIn a b d1 d1 := permIn_refl _ _ _
              have hs1 := hs
              obtain ⟨q1, q2, q3, q4, g1, g2⟩ := halves hcut.out hl.out hr.out hag.out (by rw [hEn.out]; exact hd1)
              rw [hEn.out] at q3 q4 g2
              obtain ⟨d2, hd2⟩ : ∃ d2, d2 = d1 := ⟨_, rfl⟩
              have hp2 : PermIn a mid d1 d2 := by rw [hd2]; exact permIn_refl _ _ _
              have ho2 : SortedIn TT a mid d2 := by rw [hd2, show mid = s by have zE := hE3.out; omega]; exact q1
              have hs2 := hd2 ▸ hs1
              clear hd2
              have hkp : ∀ t, mid ≤ t → t < b → d2[t]! = d1[t]! := fun t h _ => hp2.2.1 t (.inr h)
              have u3 : SortedIn TT mid E d2 := SortedIn.ofEq q3 fun t h1 h2 => hkp t h1 (by omega)
              have u4 : SortedIn TT E b d2 := SortedIn.ofEq q4 fun t h1 h2 => hkp t (by omega) h2
              have u5 : Agr d2 mid E b := Agr.ofEq g2 hkp
              clear hkp
              obtain ⟨d3, hd3⟩ : ∃ d3, d3 = d2 := ⟨_, rfl⟩
              have hp3 : PermIn mid b d2 d3 := by rw [hd3]; exact permIn_refl _ _ _
              have ho3 : SortedIn TT mid b d3 := by rw [hd3, show mid = E by have zE := hE3.out; omega]; exact u4
              have hs3 := hd3 ▸ hs2
              clear hd3
              have hfin := mrg_end (by omega) hcut.out hl.out hr.out (by rw [hEn.out]; exact hd1) hp1 hp2 ho2 hp3 ho3
              replace hfin := Lib.hid hfin
              clear hd1 hp1 hp2 ho2 hp3 ho3 q1 q2 q3 q4 g1 g2 u3 u4 u5
              go_wp2_with fail
              all_goals
                go_end0
                exact ⟨rfl, d3, hfin.out.1, hfin.out.2, hs3⟩
          · have dR : decide ((a : Int) < (s : Int)) = false := by have zE := hE3.out; simp; omega
            by_cases hSE : E < b
            · have dS : decide ((E : Int) < (b : Int)) = true := by have zE := hE3.out; simp; omega
              obtain ⟨d1, rfl⟩ : ∃ d1, d1 = d := ⟨_, rfl⟩
              have hd1 : ∀ t, d1[t]! = rotG d1 s m E t := noturn (by have zE := hE3.out; omega)
              have hp1 : PermIn a b d1 d1 := permIn_refl _ _ _
              have hs1 := hs
              obtain ⟨q1, q2, q3, q4, g1, g2⟩ := halves hcut.out hl.out hr.out hag.out (by rw [hEn.out]; exact hd1)
              rw [hEn.out] at q3 q4 g2
              obtain ⟨d2, hd2⟩ : ∃ d2, d2 = d1 := ⟨_, rfl⟩
              have hp2 : PermIn a mid d1 d2 := by rw [hd2]; exact permIn_refl _ _ _
              have ho2 : SortedIn TT a mid d2 := by rw [hd2, show a = s by have zE := hE3.out; omega]; exact q2
              have hs2 := hd2 ▸ hs1
              clear hd2
              have hkp : ∀ t, mid ≤ t → t < b → d2[t]! = d1[t]! := fun t h _ => hp2.2.1 t (.inr h)
              have u3 : SortedIn TT mid E d2 := SortedIn.ofEq q3 fun t h1 h2 => hkp t h1 (by omega)
              have u4 : SortedIn TT E b d2 := SortedIn.ofEq q4 fun t h1 h2 => hkp t (by omega) h2
              have u5 : Agr d2 mid E b := Agr.ofEq g2 hkp
              clear hkp
              obtain ⟨d3, hd3⟩ : ∃ d3, d3 = d2 := ⟨_, rfl⟩
              have hp3 : PermIn mid b d2 d3 := by rw [hd3]; exact permIn_refl _ _ _
              have ho3 : SortedIn TT mid b d3 := by rw [hd3, show mid = E by have zE := hE3.out; omega]; exact u4
              have hs3 := hd3 ▸ hs2
              clear hd3
              have hfin := mrg_end (by omega) hcut.out hl.out hr.out (by rw [hEn.out]; exact hd1) hp1 hp2 ho2 hp3 ho3
              replace hfin := Lib.hid hfin
              clear hd1 hp1 hp2 ho2 hp3 ho3 q1 q2 q3 q4 g1 g2 u3 u4 u5
              go_wp2_with fail
              all_goals
                go_end0
                exact ⟨rfl, d3, hfin.out.1, hfin.out.2, hs3⟩
            · have dS : decide ((E : Int) < (b : Int)) = false := by have zE := hE3.out; simp; omega
              obtain ⟨d1, rfl⟩ : ∃ d1, d1 = d := ⟨_, rfl⟩
              have hd1 : ∀ t, d1[t]! = rotG d1 s m E t := noturn (by have zE := hE3.out; omega)
              have hp1 : PermIn a b d1 d1 := permIn_refl _ _ _
              have hs1 := hs
              obtain ⟨q1, q2, q3, q4, g1, g2⟩ := halves hcut.out hl.out hr.out hag.out (by rw [hEn.out]; exact hd1)
              rw [hEn.out] at q3 q4 g2
              obtain ⟨d2, hd2⟩ : ∃ d2, d2 = d1 := ⟨_, rfl⟩
              have hp2 : PermIn a mid d1 d2 := by rw [hd2]; exact permIn_refl _ _ _
              have ho2 : SortedIn TT a mid d2 := by rw [hd2, show a = s by have zE := hE3.out; omega]; exact q2
              have hs2 := hd2 ▸ hs1
              clear hd2
              have hkp : ∀ t, mid ≤ t → t < b → d2[t]! = d1[t]! := fun t h _ => hp2.2.1 t (.inr h)
              have u3 : SortedIn TT mid E d2 := SortedIn.ofEq q3 fun t h1 h2 => hkp t h1 (by omega)
              have u4 : SortedIn TT E b d2 := SortedIn.ofEq q4 fun t h1 h2 => hkp t (by omega) h2
              have u5 : Agr d2 mid E b := Agr.ofEq g2 hkp
              clear hkp
              obtain ⟨d3, hd3⟩ : ∃ d3, d3 = d2 := ⟨_, rfl⟩
              have hp3 : PermIn mid b d2 d3 := by rw [hd3]; exact permIn_refl _ _ _
              have ho3 : SortedIn TT mid b d3 := by rw [hd3, show mid = E by have zE := hE3.out; omega]; exact u4
              have hs3 := hd3 ▸ hs2
              clear hd3
              have hfin := mrg_end (by omega) hcut.out hl.out hr.out (by rw [hEn.out]; exact hd1) hp1 hp2 ho2 hp3 ho3
              replace hfin := Lib.hid hfin
              clear hd1 hp1 hp2 ho2 hp3 ho3 q1 q2 q3 q4 g1 g2 u3 u4 u5
              go_wp2_with fail
              all_goals
                go_end0
                exact ⟨rfl, d3, hfin.out.1, hfin.out.2, hs3⟩
end Go.Proofs.Ytkdancoffmhjhaa
namespace Go.Proofs.Ytkdancoffmhjhaa
open Go.RowKit Go.Shelf Go.Sort
set_option maxHeartbeats 40000000 in
set_option maxRecDepth 20000 in
theorem symM_ge {w w0 : World} {g n cap : Nat} (hn : n ≤ 60000000) {W : World} {d : Array HCo} (h : SW w w0 g n cap d W) (a m b : Nat) (ham : a < m) (hmb : m < b) (hbn : b ≤ n) (hl : SortedIn TT a m d) (hr : SortedIn TT m b d) (hag : Agr d a m b) (hc0 : m - a ≠ 1) (hc : b - m ≠ 1) (N : Nat) (hN : b - a ≤ N + 1) (ih : ∀ {W : World} {d : Array HCo} (_ : SW w w0 g n cap d W) (a m b : Nat), b - a ≤ N → a < m → m < b → b ≤ n → SortedIn TT a m d → SortedIn TT m b d → Agr d a m b →
    Calls Try.prog 95 #[.slice (some ⟨g, 0, none⟩) n cap, .int .i64 a, .int .i64 m, .int .i64 b, .func (.func 54) #[] #[]] W (MrgRet w w0 g n cap d a b)) (hmm0 : ¬ (a + b) / 2 < m) :
    Calls Try.prog 95 #[.slice (some ⟨g, 0, none⟩) n cap, .int .i64 a, .int .i64 m, .int .i64 b, .func (.func 54) #[] #[]] W (MrgRet w w0 g n cap d a b) := by
  have hds := h.ge.2.2
  unfold MrgRet
  obtain ⟨M1, hM1⟩ : ∃ M1, M1 = m - a := ⟨_, rfl⟩
  have eM1 : (m : Int) - (a : Int) = (M1 : Int) := by omega
  have hwM1 : IntKind.i64.wrap (M1 : Int) = M1 := IntWalk.i64_in _ (by omega)
  have hc1 : ¬ M1 = 1 := fun e => hc0 (hM1.symm.trans e)
  clear hc0
  have e1 : ((M1 : Int) == 1) = false := by rw [Bool.eq_false_iff]; intro h; have := beq_iff_eq.1 h; omega
  obtain ⟨M2, hM2⟩ : ∃ M2, M2 = b - m := ⟨_, rfl⟩
  have eM2 : (b : Int) - (m : Int) = (M2 : Int) := by omega
  have hwM2 : IntKind.i64.wrap (M2 : Int) = M2 := IntWalk.i64_in _ (by omega)
  have hM12 : 2 ≤ m - a := by omega
  replace hc1 := Lib.hid hc1
  replace hM1 := Lib.hid hM1
  have hc2 : ¬ M2 = 1 := fun e => hc (hM2.symm.trans e)
  clear hc
  have e2 : ((M2 : Int) == 1) = false := by rw [Bool.eq_false_iff]; intro h; have := beq_iff_eq.1 h; omega
  have hM22 : 2 ≤ b - m := by omega
  obtain ⟨S0, hS0⟩ : ∃ S0, S0 = a + b := ⟨_, rfl⟩
  have eS0 : (a : Int) + (b : Int) = (S0 : Int) := by omega
  have hwS0 : IntKind.i64.wrap (S0 : Int) = S0 := IntWalk.i64_in _ (by omega)
  obtain ⟨mid, hmid⟩ : ∃ mid, mid = S0 / 2 := ⟨_, rfl⟩
  have eMid : (S0 : Int) / 2 = (mid : Int) := by omega
  obtain ⟨N0, hN0⟩ : ∃ N0, N0 = mid + m := ⟨_, rfl⟩
  have eN0 : (mid : Int) + (m : Int) = (N0 : Int) := by omega
  have hwN0 : IntKind.i64.wrap (N0 : Int) = N0 := IntWalk.i64_in _ (by omega)
  obtain ⟨P0, hP0⟩ : ∃ P0, P0 = N0 - 1 := ⟨_, rfl⟩
  have eP0 : (N0 : Int) - 1 = (P0 : Int) := by omega
  have hwP0 : IntKind.i64.wrap (P0 : Int) = P0 := IntWalk.i64_in _ (by omega)
  have hmb2 : a + 1 ≤ mid ∧ mid + 1 ≤ b := by omega
  replace hc2 := Lib.hid hc2
  replace hM2 := Lib.hid hM2
  replace hS0 := Lib.hid hS0
  replace hmid := Lib.hid hmid
  replace hl := Lib.hid hl
  replace hr := Lib.hid hr
  replace hag := Lib.hid hag
  have hmm := mid_of (p := fun x => ¬ x < m) hmid.out hS0.out hmm0
  clear hmm0
  have dmm : decide ((mid : Int) < (m : Int)) = false := by simp; omega
  obtain ⟨s0, hs0⟩ : ∃ s0, s0 = a := ⟨_, rfl⟩
  obtain ⟨rz, hrz⟩ : ∃ rz, rz = m := ⟨_, rfl⟩
  have hsr : (mid < m ∧ s0 = N0 - b ∧ rz = mid) ∨ (m ≤ mid ∧ s0 = a ∧ rz = m) := .inr ⟨by omega, hs0, hrz⟩
  have hsr3 : a ≤ s0 ∧ s0 ≤ rz := by omega
  replace hN0 := Lib.hid hN0
  replace hP0 := Lib.hid hP0
  replace hsr := Lib.hid hsr
  replace hmm := Lib.hid hmm
  clear hs0 hrz
  go_enter Try.func95, Try.ntmps95
  go_wp2_with fail
  go_loopw [20, 21] (fun u v wr => ∃ s r : Nat, s0 ≤ s ∧ s ≤ r ∧ r ≤ rz ∧ u = .int .i64 s ∧ v = .int .i64 r ∧ Hid (s0 < s → TT d[P0 - (s - 1)]! d[s - 1]! = false) ∧ Hid (r < rz → TT d[P0 - r]! d[r]! = true) ∧ SW w w0 g n cap d wr) (fun u v _ => (intOf v - intOf u).toNat)
  case atStart => have zS := hsr.out; exact ⟨a, m, by omega, by omega, by omega, rfl, rfl, Lib.hid (fun h => by omega), Lib.hid (fun h => by omega), h⟩
  case round =>
    obtain ⟨s, r, hs0, hsr2, hrz, rfl, rfl, hlo, hhi, hs⟩ := hrel
    have zN := hN0.out
    have zP := hP0.out
    have zS := hsr.out
    by_cases hlt : s < r
    · have hlti : (s : Int) < (r : Int) := by omega
      obtain ⟨S, hS⟩ : ∃ S, S = s + r := ⟨_, rfl⟩
      have eS : (s : Int) + (r : Int) = (S : Int) := by omega
      have hwS : IntKind.i64.wrap (S : Int) = S := IntWalk.i64_in _ (by omega)
      obtain ⟨H, hH⟩ : ∃ H, H = S / 2 := ⟨_, rfl⟩
      have eH : (S : Int) / 2 = (H : Int) := by omega
      have hHb : s ≤ H ∧ H < r := by omega
      obtain ⟨Qx, hQx⟩ : ∃ Qx, Qx = P0 - H := ⟨_, rfl⟩
      have eQ : (P0 : Int) - (H : Int) = (Qx : Int) := by omega
      have hwQ : IntKind.i64.wrap (Qx : Int) = Qx := IntWalk.i64_in _ (by omega)
      have hQb : m ≤ Qx ∧ Qx < b := by omega
      have hHa : a ≤ H ∧ H < m := by omega
      have hHn : (H : Int) < (n : Int) := by omega
      have hQn : (Qx : Int) < (n : Int) := by omega
      have hwH : IntKind.i64.wrap ((H : Int) + 1) = (H : Int) + 1 := IntWalk.i64_in _ (by omega)
      have hT := hag.out H Qx hHa.1 hHa.2 hQb.1 hQb.2
      obtain ⟨c0, c1⟩ := (hs).at (i := Qx) (by omega)
      obtain ⟨c2, c3⟩ := (hs).at (i := H) (by omega)
      have r0 := fun z : ExtOf wr => z.cell c0
      have r1 := fun z : ExtOf wr => z.cell c1
      have r2 := fun z : ExtOf wr => z.cell c2
      have r3 := fun z : ExtOf wr => z.cell c3
      have hcm := fun z : ExtOf wr => refl1_ext d[Qx]! d[H]! z.w
      clear zN zP zS
      replace hS := Lib.hid hS
      replace hH := Lib.hid hH
      cases hB : TT d[Qx]! d[H]!
      · have dB : decide (cntC d[Qx]! d[H]! < 0) = false := hT.symm.trans hB
        have hnew : Hid (s0 < H + 1 → TT d[P0 - (H + 1 - 1)]! d[H + 1 - 1]! = false) := Lib.hid fun _ => by rw [Nat.add_sub_cancel, ← hQx]; exact hB
        replace hT := Lib.hid hT
        replace hB := Lib.hid hB
        replace hQx := Lib.hid hQx
        generalize cntC d[Qx]! d[H]! = C at *
        go_wp2_with fail
        refine wp_region_qx (by kernel_rfl) (by kernel_rfl) ?_
        repeat (go_big_quiet_step (exact calls_ext (hcm _)))
        refine wpQuiet_nil ?_
        intro wq hw'
        have hxq := ext_of_ex hw'
        clear hw' r0 r1 r2 r3 hcm
        go_wp2_with fail
        (first | exact ⟨⟨H + 1, r, by omega, by omega, hrz, by go_num, rfl, hnew, hhi, hs.kept hxq⟩, (by simp [intOf]; omega)⟩ | (go_roundw; case rel => exact ⟨H + 1, r, by omega, by omega, hrz, by go_num, rfl, hnew, hhi, hs.kept hxq⟩; case measure => exact (by simp [intOf]; omega)))
      · have dB : decide (cntC d[Qx]! d[H]! < 0) = true := hT.symm.trans hB
        have hnew : Hid (H < rz → TT d[P0 - H]! d[H]! = true) := Lib.hid fun _ => by rw [← hQx]; exact hB
        replace hT := Lib.hid hT
        replace hB := Lib.hid hB
        replace hQx := Lib.hid hQx
        generalize cntC d[Qx]! d[H]! = C at *
        go_wp2_with fail
        refine wp_region_qx (by kernel_rfl) (by kernel_rfl) ?_
        repeat (go_big_quiet_step (exact calls_ext (hcm _)))
        refine wpQuiet_nil ?_
        intro wq hw'
        have hxq := ext_of_ex hw'
        clear hw' r0 r1 r2 r3 hcm
        go_wp2_with fail
        (first | exact ⟨⟨s, H, hs0, by omega, by omega, rfl, rfl, hlo, hnew, hs.kept hxq⟩, (by simp [intOf]; omega)⟩ | (go_roundw; case rel => exact ⟨s, H, hs0, by omega, by omega, rfl, rfl, hlo, hnew, hs.kept hxq⟩; case measure => exact (by simp [intOf]; omega)))
    · obtain rfl : s = r := by omega
      obtain ⟨E, hE⟩ : ∃ E, E = N0 - s := ⟨_, rfl⟩
      have eE : (N0 : Int) - (s : Int) = (E : Int) := by omega
      have hwE : IntKind.i64.wrap (E : Int) = E := IntWalk.i64_in _ (by omega)
      have hcut : Cut TT d a m b mid N0 s := ⟨zN, by omega, by omega, fun h1 h2 => by
        have := hlo.out (by omega)
        rwa [show P0 - (s - 1) = N0 - s by omega] at this, fun h1 h2 => by
        have := hhi.out (by omega)
        rwa [show P0 - s = N0 - s - 1 by omega] at this⟩
      have hEn : N0 - s = E := hE.symm
      have hE3 : E = mid + m - s := by omega
      have hEb : m ≤ E ∧ E ≤ b := by omega
      replace hE3 := Lib.hid hE3
      have hsb : a ≤ s ∧ s ≤ m ∧ s ≤ mid ∧ mid ≤ b ∧ a ≤ mid ∧ a < mid ∧ mid < b := by omega
      replace hcut := Lib.hid hcut
      replace hEn := Lib.hid hEn
      replace hE := Lib.hid hE
      clear zN zP zS
      replace hlo := Lib.hid hlo
      replace hhi := Lib.hid hhi
      by_cases hP : s < m
      · have dP : decide ((s : Int) < (m : Int)) = true := by have zE := hE3.out; simp; omega
        have dP2 : decide ((mid : Int) < (E : Int)) = true := by have zE := hE3.out; simp; omega
        have hPm : s < m := hP
        have hPE : mid < E := by have zE := hE3.out; omega
        by_cases hQ : s < mid
        · have dQ : decide ((m : Int) < (E : Int)) = true := by have zE := hE3.out; simp; omega
          have dQ2 : decide ((s : Int) < (mid : Int)) = true := by have zE := hE3.out; simp; omega
          have hQm : s < mid := hQ
          have hQE : m < E := by have zE := hE3.out; omega
          by_cases hRs : a < s
          · have dR : decide ((a : Int) < (s : Int)) = true := by have zE := hE3.out; simp; omega
            by_cases hSE : E < b
            · have dS : decide ((E : Int) < (b : Int)) = true := by have zE := hE3.out; simp; omega
              have hrt := rot_any hs s m E hPm hQE (by omega) hn (.func (.func 54) #[] #[])
              go_wp2_with fail
              refine hrt.mono ?_
              rintro e w2 ⟨rfl, d1, hd1, hp1, hs1⟩
              clear hrt
              have hp1 : PermIn a b d d1 := permIn_mono d d1 s E a b (by omega) (by omega) (by omega) hp1
              obtain ⟨q1, q2, q3, q4, g1, g2⟩ := halves hcut.out hl.out hr.out hag.out (by rw [hEn.out]; exact hd1)
              rw [hEn.out] at q3 q4 g2
              have hr1 := ih hs1 a s mid (by omega) hRs hQm (by omega) q1 q2 g1
              replace hd1 := Lib.hid hd1
              replace hp1 := Lib.hid hp1
              replace q1 := Lib.hid q1
              replace q2 := Lib.hid q2
              replace q3 := Lib.hid q3
              replace q4 := Lib.hid q4
              replace g1 := Lib.hid g1
              replace g2 := Lib.hid g2
              unfold MrgRet at hr1
              go_wp2_with fail
              refine hr1.mono ?_
              rintro e w3 ⟨rfl, d2, hp2, ho2, hs2⟩
              clear hr1
              replace hd1 := hd1.out
              replace hp1 := hp1.out
              replace q3 := q3.out
              replace q4 := q4.out
              replace g2 := g2.out
              have hkp : ∀ t, mid ≤ t → t < b → d2[t]! = d1[t]! := fun t h _ => hp2.2.1 t (.inr h)
              have u3 : SortedIn TT mid E d2 := SortedIn.ofEq q3 fun t h1 h2 => hkp t h1 (by omega)
              have u4 : SortedIn TT E b d2 := SortedIn.ofEq q4 fun t h1 h2 => hkp t (by omega) h2
              have u5 : Agr d2 mid E b := Agr.ofEq g2 hkp
              clear hkp
              have hr2 := ih hs2 mid E b (by omega) hPE hSE hbn u3 u4 u5
              replace hd1 := Lib.hid hd1
              replace hp1 := Lib.hid hp1
              replace hp2 := Lib.hid hp2
              replace ho2 := Lib.hid ho2
              replace u3 := Lib.hid u3
              replace u4 := Lib.hid u4
              replace u5 := Lib.hid u5
              unfold MrgRet at hr2
              go_wp2_with fail
              all_goals
                refine hr2.mono ?_
                rintro e w4 ⟨rfl, d3, hp3, ho3, hs3⟩
                clear hr2
                replace hd1 := hd1.out
                replace hp1 := hp1.out
                replace hp2 := hp2.out
                replace ho2 := ho2.out
                have hfin := mrg_end (by omega) hcut.out hl.out hr.out (by rw [hEn.out]; exact hd1) hp1 hp2 ho2 hp3 ho3
                replace hfin := Lib.hid hfin
                clear hd1 hp1 hp2 ho2 hp3 ho3 q1 q2 q3 q4 g1 g2 u3 u4 u5
                go_wp2_with fail
                all_goals
                  go_end0
                  exact ⟨rfl, d3, hfin.out.1, hfin.out.2, hs3⟩
            · have dS : decide ((E : Int) < (b : Int)) = false := by have zE := hE3.out; simp; omega
              have hrt := rot_any hs s m E hPm hQE (by omega) hn (.func (.func 54) #[] #[])
              go_wp2_with fail
              refine hrt.mono ?_
              rintro e w2 ⟨rfl, d1, hd1, hp1, hs1⟩
              clear hrt
              have hp1 : PermIn a b d d1 := permIn_mono d d1 s E a b (by omega) (by omega) (by omega) hp1
              obtain ⟨q1, q2, q3, q4, g1, g2⟩ := halves hcut.out hl.out hr.out hag.out (by rw [hEn.out]; exact hd1)
              rw [hEn.out] at q3 q4 g2
              have hr1 := ih hs1 a s mid (by omega) hRs hQm (by omega) q1 q2 g1
              replace hd1 := Lib.hid hd1
              replace hp1 := Lib.hid hp1
              replace q1 := Lib.hid q1
              replace q2 := Lib.hid q2
              replace q3 := Lib.hid q3
              replace q4 := Lib.hid q4
              replace g1 := Lib.hid g1
              replace g2 := Lib.hid g2
              unfold MrgRet at hr1
              go_wp2_with fail
              refine hr1.mono ?_
              rintro e w3 ⟨rfl, d2, hp2, ho2, hs2⟩
              clear hr1
              replace hd1 := hd1.out
              replace hp1 := hp1.out
              replace q3 := q3.out
              replace q4 := q4.out
              replace g2 := g2.out
              have hkp : ∀ t, mid ≤ t → t < b → d2[t]! = d1[t]! := fun t h _ => hp2.2.1 t (.inr h)
              have u3 : SortedIn TT mid E d2 := SortedIn.ofEq q3 fun t h1 h2 => hkp t h1 (by omega)
              have u4 : SortedIn TT E b d2 := SortedIn.ofEq q4 fun t h1 h2 => hkp t (by omega) h2
              have u5 : Agr d2 mid E b := Agr.ofEq g2 hkp
              clear hkp
              obtain ⟨d3, hd3⟩ : ∃ d3, d3 = d2 := ⟨_, rfl⟩
              have hp3 : PermIn mid b d2 d3 := by rw [hd3]; exact permIn_refl _ _ _
              have ho3 : SortedIn TT mid b d3 := by rw [hd3, show b = E by have zE := hE3.out; omega]; exact u3
              have hs3 := hd3 ▸ hs2
              clear hd3
              have hfin := mrg_end (by omega) hcut.out hl.out hr.out (by rw [hEn.out]; exact hd1) hp1 hp2 ho2 hp3 ho3
              replace hfin := Lib.hid hfin
              clear hd1 hp1 hp2 ho2 hp3 ho3 q1 q2 q3 q4 g1 g2 u3 u4 u5
              go_wp2_with fail
              all_goals
                go_end0
                exact ⟨rfl, d3, hfin.out.1, hfin.out.2, hs3⟩
          · have dR : decide ((a : Int) < (s : Int)) = false := by have zE := hE3.out; simp; omega
            by_cases hSE : E < b
            · have dS : decide ((E : Int) < (b : Int)) = true := by have zE := hE3.out; simp; omega
              have hrt := rot_any hs s m E hPm hQE (by omega) hn (.func (.func 54) #[] #[])
              go_wp2_with fail
              refine hrt.mono ?_
              rintro e w2 ⟨rfl, d1, hd1, hp1, hs1⟩
              clear hrt
              have hp1 : PermIn a b d d1 := permIn_mono d d1 s E a b (by omega) (by omega) (by omega) hp1
              obtain ⟨q1, q2, q3, q4, g1, g2⟩ := halves hcut.out hl.out hr.out hag.out (by rw [hEn.out]; exact hd1)
              rw [hEn.out] at q3 q4 g2
              obtain ⟨d2, hd2⟩ : ∃ d2, d2 = d1 := ⟨_, rfl⟩
              have hp2 : PermIn a mid d1 d2 := by rw [hd2]; exact permIn_refl _ _ _
              have ho2 : SortedIn TT a mid d2 := by rw [hd2, show a = s by have zE := hE3.out; omega]; exact q2
              have hs2 := hd2 ▸ hs1
              clear hd2
              have hkp : ∀ t, mid ≤ t → t < b → d2[t]! = d1[t]! := fun t h _ => hp2.2.1 t (.inr h)
              have u3 : SortedIn TT mid E d2 := SortedIn.ofEq q3 fun t h1 h2 => hkp t h1 (by omega)
              have u4 : SortedIn TT E b d2 := SortedIn.ofEq q4 fun t h1 h2 => hkp t (by omega) h2
              have u5 : Agr d2 mid E b := Agr.ofEq g2 hkp
              clear hkp
              have hr2 := ih hs2 mid E b (by omega) hPE hSE hbn u3 u4 u5
              replace hd1 := Lib.hid hd1
              replace hp1 := Lib.hid hp1
              replace hp2 := Lib.hid hp2
              replace ho2 := Lib.hid ho2
              replace u3 := Lib.hid u3
              replace u4 := Lib.hid u4
              replace u5 := Lib.hid u5
              replace q1 := Lib.hid q1
              replace q2 := Lib.hid q2
              replace q3 := Lib.hid q3
              replace q4 := Lib.hid q4
              replace g1 := Lib.hid g1
              replace g2 := Lib.hid g2
              unfold MrgRet at hr2
              go_wp2_with fail
              all_goals
                refine hr2.mono ?_
                rintro e w4 ⟨rfl, d3, hp3, ho3, hs3⟩
                clear hr2
                replace hd1 := hd1.out
                replace hp1 := hp1.out
                replace hp2 := hp2.out
                replace ho2 := ho2.out
                have hfin := mrg_end (by omega) hcut.out hl.out hr.out (by rw [hEn.out]; exact hd1) hp1 hp2 ho2 hp3 ho3
                replace hfin := Lib.hid hfin
                clear hd1 hp1 hp2 ho2 hp3 ho3 q1 q2 q3 q4 g1 g2 u3 u4 u5
                go_wp2_with fail
                all_goals
                  go_end0
                  exact ⟨rfl, d3, hfin.out.1, hfin.out.2, hs3⟩
            · have dS : decide ((E : Int) < (b : Int)) = false := by have zE := hE3.out; simp; omega
              have hrt := rot_any hs s m E hPm hQE (by omega) hn (.func (.func 54) #[] #[])
              go_wp2_with fail
              refine hrt.mono ?_
              rintro e w2 ⟨rfl, d1, hd1, hp1, hs1⟩
              clear hrt
              have hp1 : PermIn a b d d1 := permIn_mono d d1 s E a b (by omega) (by omega) (by omega) hp1
              obtain ⟨q1, q2, q3, q4, g1, g2⟩ := halves hcut.out hl.out hr.out hag.out (by rw [hEn.out]; exact hd1)
              rw [hEn.out] at q3 q4 g2
              obtain ⟨d2, hd2⟩ : ∃ d2, d2 = d1 := ⟨_, rfl⟩
              have hp2 : PermIn a mid d1 d2 := by rw [hd2]; exact permIn_refl _ _ _
              have ho2 : SortedIn TT a mid d2 := by rw [hd2, show a = s by have zE := hE3.out; omega]; exact q2
              have hs2 := hd2 ▸ hs1
              clear hd2
              have hkp : ∀ t, mid ≤ t → t < b → d2[t]! = d1[t]! := fun t h _ => hp2.2.1 t (.inr h)
              have u3 : SortedIn TT mid E d2 := SortedIn.ofEq q3 fun t h1 h2 => hkp t h1 (by omega)
              have u4 : SortedIn TT E b d2 := SortedIn.ofEq q4 fun t h1 h2 => hkp t (by omega) h2
              have u5 : Agr d2 mid E b := Agr.ofEq g2 hkp
              clear hkp
              obtain ⟨d3, hd3⟩ : ∃ d3, d3 = d2 := ⟨_, rfl⟩
              have hp3 : PermIn mid b d2 d3 := by rw [hd3]; exact permIn_refl _ _ _
              have ho3 : SortedIn TT mid b d3 := by rw [hd3, show b = E by have zE := hE3.out; omega]; exact u3
              have hs3 := hd3 ▸ hs2
              clear hd3
              have hfin := mrg_end (by omega) hcut.out hl.out hr.out (by rw [hEn.out]; exact hd1) hp1 hp2 ho2 hp3 ho3
              replace hfin := Lib.hid hfin
              clear hd1 hp1 hp2 ho2 hp3 ho3 q1 q2 q3 q4 g1 g2 u3 u4 u5
              go_wp2_with fail
              all_goals
                go_end0
                exact ⟨rfl, d3, hfin.out.1, hfin.out.2, hs3⟩
        · have dQ : decide ((m : Int) < (E : Int)) = false := by have zE := hE3.out; simp; omega
          have dQ2 : decide ((s : Int) < (mid : Int)) = false := by have zE := hE3.out; simp; omega
          by_cases hRs : a < s
          · have dR : decide ((a : Int) < (s : Int)) = true := by have zE := hE3.out; simp; omega
            by_cases hSE : E < b
            · have dS : decide ((E : Int) < (b : Int)) = true := by have zE := hE3.out; simp; omega
              obtain ⟨d1, rfl⟩ : ∃ d1, d1 = d := ⟨_, rfl⟩
              have hd1 : ∀ t, d1[t]! = rotG d1 s m E t := noturn (by have zE := hE3.out; omega)
              have hp1 : PermIn a b d1 d1 := permIn_refl _ _ _
              have hs1 := hs
              obtain ⟨q1, q2, q3, q4, g1, g2⟩ := halves hcut.out hl.out hr.out hag.out (by rw [hEn.out]; exact hd1)
              rw [hEn.out] at q3 q4 g2
              obtain ⟨d2, hd2⟩ : ∃ d2, d2 = d1 := ⟨_, rfl⟩
              have hp2 : PermIn a mid d1 d2 := by rw [hd2]; exact permIn_refl _ _ _
              have ho2 : SortedIn TT a mid d2 := by rw [hd2, show mid = s by have zE := hE3.out; omega]; exact q1
              have hs2 := hd2 ▸ hs1
              clear hd2
              have hkp : ∀ t, mid ≤ t → t < b → d2[t]! = d1[t]! := fun t h _ => hp2.2.1 t (.inr h)
              have u3 : SortedIn TT mid E d2 := SortedIn.ofEq q3 fun t h1 h2 => hkp t h1 (by omega)
              have u4 : SortedIn TT E b d2 := SortedIn.ofEq q4 fun t h1 h2 => hkp t (by omega) h2
              have u5 : Agr d2 mid E b := Agr.ofEq g2 hkp
              clear hkp
              have hr2 := ih hs2 mid E b (by omega) hPE hSE hbn u3 u4 u5
              replace hd1 := Lib.hid hd1
              replace hp1 := Lib.hid hp1
              replace hp2 := Lib.hid hp2
              replace ho2 := Lib.hid ho2
              replace u3 := Lib.hid u3
              replace u4 := Lib.hid u4
              replace u5 := Lib.hid u5
              replace q1 := Lib.hid q1
              replace q2 := Lib.hid q2
              replace q3 := Lib.hid q3
              replace q4 := Lib.hid q4
              replace g1 := Lib.hid g1
              replace g2 := Lib.hid g2
              unfold MrgRet at hr2
              go_wp2_with fail
              all_goals
                refine hr2.mono ?_
                rintro e w4 ⟨rfl, d3, hp3, ho3, hs3⟩
                clear hr2
                replace hd1 := hd1.out
                replace hp1 := hp1.out
                replace hp2 := hp2.out
                replace ho2 := ho2.out
                have hfin := mrg_end (by omega) hcut.out hl.out hr.out (by rw [hEn.out]; exact hd1) hp1 hp2 ho2 hp3 ho3
                replace hfin := Lib.hid hfin
                clear hd1 hp1 hp2 ho2 hp3 ho3 q1 q2 q3 q4 g1 g2 u3 u4 u5
                go_wp2_with fail
                all_goals
                  go_end0
                  exact ⟨rfl, d3, hfin.out.1, hfin.out.2, hs3⟩
            · have dS : decide ((E : Int) < (b : Int)) = false := by have zE := hE3.out; simp; omega
              obtain ⟨d1, rfl⟩ : ∃ d1, d1 = d := ⟨_, rfl⟩
              have hd1 : ∀ t, d1[t]! = rotG d1 s m E t := noturn (by have zE := hE3.out; omega)
              have hp1 : PermIn a b d1 d1 := permIn_refl _ _ _
              have hs1 := hs
              obtain ⟨q1, q2, q3, q4, g1, g2⟩ := halves hcut.out hl.out hr.out hag.out (by rw [hEn.out]; exact hd1)
              rw [hEn.out] at q3 q4 g2
              obtain ⟨d2, hd2⟩ : ∃ d2, d2 = d1 := ⟨_, rfl⟩
              have hp2 : PermIn a mid d1 d2 := by rw [hd2]; exact permIn_refl _ _ _
              have ho2 : SortedIn TT a mid d2 := by rw [hd2, show mid = s by have zE := hE3.out; omega]; exact q1
              have hs2 := hd2 ▸ hs1
              clear hd2
              have hkp : ∀ t, mid ≤ t → t < b → d2[t]! = d1[t]! := fun t h _ => hp2.2.1 t (.inr h)
              have u3 : SortedIn TT mid E d2 := SortedIn.ofEq q3 fun t h1 h2 => hkp t h1 (by omega)
              have u4 : SortedIn TT E b d2 := SortedIn.ofEq q4 fun t h1 h2 => hkp t (by omega) h2
              have u5 : Agr d2 mid E b := Agr.ofEq g2 hkp
              clear hkp
              obtain ⟨d3, hd3⟩ : ∃ d3, d3 = d2 := ⟨_, rfl⟩
              have hp3 : PermIn mid b d2 d3 := by rw [hd3]; exact permIn_refl _ _ _
              have ho3 : SortedIn TT mid b d3 := by rw [hd3, show b = E by have zE := hE3.out; omega]; exact u3
              have hs3 := hd3 ▸ hs2
              clear hd3
              have hfin := mrg_end (by omega) hcut.out hl.out hr.out (by rw [hEn.out]; exact hd1) hp1 hp2 ho2 hp3 ho3
              replace hfin := Lib.hid hfin
              clear hd1 hp1 hp2 ho2 hp3 ho3 q1 q2 q3 q4 g1 g2 u3 u4 u5
              go_wp2_with fail
              all_goals
                go_end0
                exact ⟨rfl, d3, hfin.out.1, hfin.out.2, hs3⟩
          · have dR : decide ((a : Int) < (s : Int)) = false := by have zE := hE3.out; simp; omega
            by_cases hSE : E < b
            · have dS : decide ((E : Int) < (b : Int)) = true := by have zE := hE3.out; simp; omega
              obtain ⟨d1, rfl⟩ : ∃ d1, d1 = d := ⟨_, rfl⟩
              have hd1 : ∀ t, d1[t]! = rotG d1 s m E t := noturn (by have zE := hE3.out; omega)
              have hp1 : PermIn a b d1 d1 := permIn_refl _ _ _
              have hs1 := hs
              obtain ⟨q1, q2, q3, q4, g1, g2⟩ := halves hcut.out hl.out hr.out hag.out (by rw [hEn.out]; exact hd1)
              rw [hEn.out] at q3 q4 g2
              obtain ⟨d2, hd2⟩ : ∃ d2, d2 = d1 := ⟨_, rfl⟩
              have hp2 : PermIn a mid d1 d2 := by rw [hd2]; exact permIn_refl _ _ _
              have ho2 : SortedIn TT a mid d2 := by rw [hd2, show a = s by have zE := hE3.out; omega]; exact q2
              have hs2 := hd2 ▸ hs1
              clear hd2
              have hkp : ∀ t, mid ≤ t → t < b → d2[t]! = d1[t]! := fun t h _ => hp2.2.1 t (.inr h)
              have u3 : SortedIn TT mid E d2 := SortedIn.ofEq q3 fun t h1 h2 => hkp t h1 (by omega)
              have u4 : SortedIn TT E b d2 := SortedIn.ofEq q4 fun t h1 h2 => hkp t (by omega) h2
              have u5 : Agr d2 mid E b := Agr.ofEq g2 hkp
              clear hkp
              have hr2 := ih hs2 mid E b (by omega) hPE hSE hbn u3 u4 u5
              replace hd1 := Lib.hid hd1
              replace hp1 := Lib.hid hp1
              replace hp2 := Lib.hid hp2
              replace ho2 := Lib.hid ho2
              replace u3 := Lib.hid u3
              replace u4 := Lib.hid u4
              replace u5 := Lib.hid u5
              replace q1 := Lib.hid q1
              replace q2 := Lib.hid q2
              replace q3 := Lib.hid q3
              replace q4 := Lib.hid q4
              replace g1 := Lib.hid g1
              replace g2 := Lib.hid g2
              unfold MrgRet at hr2
              go_wp2_with fail
              all_goals
                refine hr2.mono ?_
                rintro e w4 ⟨rfl, d3, hp3, ho3, hs3⟩
                clear hr2
                replace hd1 := hd1.out
                replace hp1 := hp1.out
                replace hp2 := hp2.out
                replace ho2 := ho2.out
                have hfin := mrg_end (by omega) hcut.out hl.out hr.out (by rw [hEn.out]; exact hd1) hp1 hp2 ho2 hp3 ho3
                replace hfin := Lib.hid hfin
                clear hd1 hp1 hp2 ho2 hp3 ho3 q1 q2 q3 q4 g1 g2 u3 u4 u5
                go_wp2_with fail
                all_goals
                  go_end0
                  exact ⟨rfl, d3, hfin.out.1, hfin.out.2, hs3⟩
            · have dS : decide ((E : Int) < (b : Int)) = false := by have zE := hE3.out; simp; omega
              obtain ⟨d1, rfl⟩ : ∃ d1, d1 = d := ⟨_, rfl⟩
              have hd1 : ∀ t, d1[t]! = rotG d1 s m E t := noturn (by have zE := hE3.out; omega)
              have hp1 : PermIn a b d1 d1 := permIn_refl _ _ _
              have hs1 := hs
              obtain ⟨q1, q2, q3, q4, g1, g2⟩ := halves hcut.out hl.out hr.out hag.out (by rw [hEn.out]; exact hd1)
              rw [hEn.out] at q3 q4 g2
              obtain ⟨d2, hd2⟩ : ∃ d2, d2 = d1 := ⟨_, rfl⟩
              have hp2 : PermIn a mid d1 d2 := by rw [hd2]; exact permIn_refl _ _ _
              have ho2 : SortedIn TT a mid d2 := by rw [hd2, show a = s by have zE := hE3.out; omega]; exact q2
              have hs2 := hd2 ▸ hs1
              clear hd2
              have hkp : ∀ t, mid ≤ t → t < b → d2[t]! = d1[t]! := fun t h _ => hp2.2.1 t (.inr h)
              have u3 : SortedIn TT mid E d2 := SortedIn.ofEq q3 fun t h1 h2 => hkp t h1 (by omega)
              have u4 : SortedIn TT E b d2 := SortedIn.ofEq q4 fun t h1 h2 => hkp t (by omega) h2
              have u5 : Agr d2 mid E b := Agr.ofEq g2 hkp
              clear hkp
              obtain ⟨d3, hd3⟩ : ∃ d3, d3 = d2 := ⟨_, rfl⟩
              have hp3 : PermIn mid b d2 d3 := by rw [hd3]; exact permIn_refl _ _ _
              have ho3 : SortedIn TT mid b d3 := by rw [hd3, show b = E by have zE := hE3.out; omega]; exact u3
              have hs3 := hd3 ▸ hs2
              clear hd3
              have hfin := mrg_end (by omega) hcut.out hl.out hr.out (by rw [hEn.out]; exact hd1) hp1 hp2 ho2 hp3 ho3
              replace hfin := Lib.hid hfin
              clear hd1 hp1 hp2 ho2 hp3 ho3 q1 q2 q3 q4 g1 g2 u3 u4 u5
              go_wp2_with fail
              all_goals
                go_end0
                exact ⟨rfl, d3, hfin.out.1, hfin.out.2, hs3⟩
      · have dP : decide ((s : Int) < (m : Int)) = false := by have zE := hE3.out; simp; omega
        have dP2 : decide ((mid : Int) < (E : Int)) = false := by have zE := hE3.out; simp; omega
        by_cases hQ : s < mid
        · have dQ : decide ((m : Int) < (E : Int)) = true := by have zE := hE3.out; simp; omega
          have dQ2 : decide ((s : Int) < (mid : Int)) = true := by have zE := hE3.out; simp; omega
          have hQm : s < mid := hQ
          have hQE : m < E := by have zE := hE3.out; omega
          by_cases hRs : a < s
          · have dR : decide ((a : Int) < (s : Int)) = true := by have zE := hE3.out; simp; omega
            by_cases hSE : E < b
            · have dS : decide ((E : Int) < (b : Int)) = true := by have zE := hE3.out; simp; omega
              obtain ⟨d1, rfl⟩ : ∃ d1, d1 = d := ⟨_, rfl⟩
              have hd1 : ∀ t, d1[t]! = rotG d1 s m E t := noturn (by have zE := hE3.out; omega)
              have hp1 : PermIn a b d1 d1 := permIn_refl _ _ _
              have hs1 := hs
              obtain ⟨q1, q2, q3, q4, g1, g2⟩ := halves hcut.out hl.out hr.out hag.out (by rw [hEn.out]; exact hd1)
              rw [hEn.out] at q3 q4 g2
              have hr1 := ih hs1 a s mid (by omega) hRs hQm (by omega) q1 q2 g1
              replace hd1 := Lib.hid hd1
              replace hp1 := Lib.hid hp1
              replace q1 := Lib.hid q1
              replace q2 := Lib.hid q2
              replace q3 := Lib.hid q3
              replace q4 := Lib.hid q4
              replace g1 := Lib.hid g1
              replace g2 := Lib.hid g2
              unfold MrgRet at hr1
              go_wp2_with fail
              refine hr1.mono ?_
              rintro e w3 ⟨rfl, d2, hp2, ho2, hs2⟩
              clear hr1
              replace hd1 := hd1.out
              replace hp1 := hp1.out
              replace q3 := q3.out
              replace q4 := q4.out
              replace g2 := g2.out
              have hkp : ∀ t, mid ≤ t → t < b → d2[t]! = d1[t]! := fun t h _ => hp2.2.1 t (.inr h)
              have u3 : SortedIn TT mid E d2 := SortedIn.ofEq q3 fun t h1 h2 => hkp t h1 (by omega)
              have u4 : SortedIn TT E b d2 := SortedIn.ofEq q4 fun t h1 h2 => hkp t (by omega) h2
              have u5 : Agr d2 mid E b := Agr.ofEq g2 hkp
              clear hkp
              obtain ⟨d3, hd3⟩ : ∃ d3, d3 = d2 := ⟨_, rfl⟩
              have hp3 : PermIn mid b d2 d3 := by rw [hd3]; exact permIn_refl _ _ _
              have ho3 : SortedIn TT mid b d3 := by rw [hd3, show mid = E by have zE := hE3.out; omega]; exact u4
              have hs3 := hd3 ▸ hs2
              clear hd3
              have hfin := mrg_end (by omega) hcut.out hl.out hr.out (by rw [hEn.out]; exact hd1) hp1 hp2 ho2 hp3 ho3
              replace hfin := Lib.hid hfin
              clear hd1 hp1 hp2 ho2 hp3 ho3 q1 q2 q3 q4 g1 g2 u3 u4 u5
              go_wp2_with fail
              all_goals
                go_end0
                exact ⟨rfl, d3, hfin.out.1, hfin.out.2, hs3⟩
            · have dS : decide ((E : Int) < (b : Int)) = false := by have zE := hE3.out; simp; omega
              obtain ⟨d1, rfl⟩ : ∃ d1, d1 = d := ⟨_, rfl⟩
              have hd1 : ∀ t, d1[t]! = rotG d1 s m E t := noturn (by have zE := hE3.out; omega)
              have hp1 : PermIn a b d1 d1 := permIn_refl _ _ _
              have hs1 := hs
              obtain ⟨q1, q2, q3, q4, g1, g2⟩ := halves hcut.out hl.out hr.out hag.out (by rw [hEn.out]; exact hd1)
              rw [hEn.out] at q3 q4 g2
              have hr1 := ih hs1 a s mid (by omega) hRs hQm (by omega) q1 q2 g1
              replace hd1 := Lib.hid hd1
              replace hp1 := Lib.hid hp1
              replace q1 := Lib.hid q1
              replace q2 := Lib.hid q2
              replace q3 := Lib.hid q3
              replace q4 := Lib.hid q4
              replace g1 := Lib.hid g1
              replace g2 := Lib.hid g2
              unfold MrgRet at hr1
              go_wp2_with fail
              refine hr1.mono ?_
              rintro e w3 ⟨rfl, d2, hp2, ho2, hs2⟩
              clear hr1
              replace hd1 := hd1.out
              replace hp1 := hp1.out
              replace q3 := q3.out
              replace q4 := q4.out
              replace g2 := g2.out
              have hkp : ∀ t, mid ≤ t → t < b → d2[t]! = d1[t]! := fun t h _ => hp2.2.1 t (.inr h)
              have u3 : SortedIn TT mid E d2 := SortedIn.ofEq q3 fun t h1 h2 => hkp t h1 (by omega)
              have u4 : SortedIn TT E b d2 := SortedIn.ofEq q4 fun t h1 h2 => hkp t (by omega) h2
              have u5 : Agr d2 mid E b := Agr.ofEq g2 hkp
              clear hkp
              obtain ⟨d3, hd3⟩ : ∃ d3, d3 = d2 := ⟨_, rfl⟩
              have hp3 : PermIn mid b d2 d3 := by rw [hd3]; exact permIn_refl _ _ _
              have ho3 : SortedIn TT mid b d3 := by rw [hd3, show mid = E by have zE := hE3.out; omega]; exact u4
              have hs3 := hd3 ▸ hs2
              clear hd3
              have hfin := mrg_end (by omega) hcut.out hl.out hr.out (by rw [hEn.out]; exact hd1) hp1 hp2 ho2 hp3 ho3
              replace hfin := Lib.hid hfin
              clear hd1 hp1 hp2 ho2 hp3 ho3 q1 q2 q3 q4 g1 g2 u3 u4 u5
              go_wp2_with fail
              all_goals
                go_end0
                exact ⟨rfl, d3, hfin.out.1, hfin.out.2, hs3⟩
          · have dR : decide ((a : Int) < (s : Int)) = false := by have zE := hE3.out; simp; omega
            by_cases hSE : E < b
            · have dS : decide ((E : Int) < (b : Int)) = true := by have zE := hE3.out; simp; omega
              obtain ⟨d1, rfl⟩ : ∃ d1, d1 = d := ⟨_, rfl⟩
              have hd1 : ∀ t, d1[t]! = rotG d1 s m E t := noturn (by have zE := hE3.out; omega)
              have hp1 : PermIn a b d1 d1 := permIn_refl _ _ _
              have hs1 := hs
              obtain ⟨q1, q2, q3, q4, g1, g2⟩ := halves hcut.out hl.out hr.out hag.out (by rw [hEn.out]; exact hd1)
              rw [hEn.out] at q3 q4 g2
              obtain ⟨d2, hd2⟩ : ∃ d2, d2 = d1 := ⟨_, rfl⟩
              have hp2 : PermIn a mid d1 d2 := by rw [hd2]; exact permIn_refl _ _ _
              have ho2 : SortedIn TT a mid d2 := by rw [hd2, show a = s by have zE := hE3.out; omega]; exact q2
              have hs2 := hd2 ▸ hs1
              clear hd2
              have hkp : ∀ t, mid ≤ t → t < b → d2[t]! = d1[t]! := fun t h _ => hp2.2.1 t (.inr h)
              have u3 : SortedIn TT mid E d2 := SortedIn.ofEq q3 fun t h1 h2 => hkp t h1 (by omega)
              have u4 : SortedIn TT E b d2 := SortedIn.ofEq q4 fun t h1 h2 => hkp t (by omega) h2
              have u5 : Agr d2 mid E b := Agr.ofEq g2 hkp
              clear hkp
              obtain ⟨d3, hd3⟩ : ∃ d3, d3 = d2 := ⟨_, rfl⟩
              have hp3 : PermIn mid b d2 d3 := by rw [hd3]; exact permIn_refl _ _ _
              have ho3 : SortedIn TT mid b d3 := by rw [hd3, show mid = E by have zE := hE3.out; omega]; exact u4
              have hs3 := hd3 ▸ hs2
              clear hd3
              have hfin := mrg_end (by omega) hcut.out hl.out hr.out (by rw [hEn.out]; exact hd1) hp1 hp2 ho2 hp3 ho3
              replace hfin := Lib.hid hfin
              clear hd1 hp1 hp2 ho2 hp3 ho3 q1 q2 q3 q4 g1 g2 u3 u4 u5
              go_wp2_with fail
              all_goals
                go_end0
                exact ⟨rfl, d3, hfin.out.1, hfin.out.2, hs3⟩
            · have dS : decide ((E : Int) < (b : Int)) = false := by have zE := hE3.out; simp; omega
              obtain ⟨d1, rfl⟩ : ∃ d1, d1 = d := ⟨_, rfl⟩
              have hd1 : ∀ t, d1[t]! = rotG d1 s m E t := noturn (by have zE := hE3.out; omega)
              have hp1 : PermIn a b d1 d1 := permIn_refl _ _ _
              have hs1 := hs
              obtain ⟨q1, q2, q3, q4, g1, g2⟩ := halves hcut.out hl.out hr.out hag.out (by rw [hEn.out]; exact hd1)
              rw [hEn.out] at q3 q4 g2
              obtain ⟨d2, hd2⟩ : ∃ d2, d2 = d1 := ⟨_, rfl⟩
              have hp2 : PermIn a mid d1 d2 := by rw [hd2]; exact permIn_refl _ _ _
              have ho2 : SortedIn TT a mid d2 := by rw [hd2, show a = s by have zE := hE3.out; omega]; exact q2
              have hs2 := hd2 ▸ hs1
              clear hd2
              have hkp : ∀ t, mid ≤ t → t < b → d2[t]! = d1[t]! := fun t h _ => hp2.2.1 t (.inr h)
              have u3 : SortedIn TT mid E d2 := SortedIn.ofEq q3 fun t h1 h2 => hkp t h1 (by omega)
              have u4 : SortedIn TT E b d2 := SortedIn.ofEq q4 fun t h1 h2 => hkp t (by omega) h2
              have u5 : Agr d2 mid E b := Agr.ofEq g2 hkp
              clear hkp
              obtain ⟨d3, hd3⟩ : ∃ d3, d3 = d2 := ⟨_, rfl⟩
              have hp3 : PermIn mid b d2 d3 := by rw [hd3]; exact permIn_refl _ _ _
              have ho3 : SortedIn TT mid b d3 := by rw [hd3, show mid = E by have zE := hE3.out; omega]; exact u4
              have hs3 := hd3 ▸ hs2
              clear hd3
              have hfin := mrg_end (by omega) hcut.out hl.out hr.out (by rw [hEn.out]; exact hd1) hp1 hp2 ho2 hp3 ho3
              replace hfin := Lib.hid hfin
              clear hd1 hp1 hp2 ho2 hp3 ho3 q1 q2 q3 q4 g1 g2 u3 u4 u5
              go_wp2_with fail
              all_goals
                go_end0
                exact ⟨rfl, d3, hfin.out.1, hfin.out.2, hs3⟩
        · have dQ : decide ((m : Int) < (E : Int)) = false := by have zE := hE3.out; simp; omega
          have dQ2 : decide ((s : Int) < (mid : Int)) = false := by have zE := hE3.out; simp; omega
          by_cases hRs : a < s
          · have dR : decide ((a : Int) < (s : Int)) = true := by have zE := hE3.out; simp; omega
            by_cases hSE : E < b
            · have dS : decide ((E : Int) < (b : Int)) = true := by have zE := hE3.out; simp; omega
              obtain ⟨d1, rfl⟩ : ∃ d1, d1 = d := ⟨_, rfl⟩
              have hd1 : ∀ t, d1[t]! = rotG d1 s m E t := noturn (by have zE := hE3.out; omega)
              have hp1 : PermIn a b d1 d1 := permIn_refl _ _ _
              have hs1 := hs
              obtain ⟨q1, q2, q3, q4, g1, g2⟩ := halves hcut.out hl.out hr.out hag.out (by rw [hEn.out]; exact hd1)
              rw [hEn.out] at q3 q4 g2
              obtain ⟨d2, hd2⟩ : ∃ d2, d2 = d1 := ⟨_, rfl⟩
              have hp2 : PermIn a mid d1 d2 := by rw [hd2]; exact permIn_refl _ _ _
              have ho2 : SortedIn TT a mid d2 := by rw [hd2, show mid = s by have zE := hE3.out; omega]; exact q1
              have hs2 := hd2 ▸ hs1
              clear hd2
              have hkp : ∀ t, mid ≤ t → t < b → d2[t]! = d1[t]! := fun t h _ => hp2.2.1 t (.inr h)
              have u3 : SortedIn TT mid E d2 := SortedIn.ofEq q3 fun t h1 h2 => hkp t h1 (by omega)
              have u4 : SortedIn TT E b d2 := SortedIn.ofEq q4 fun t h1 h2 => hkp t (by omega) h2
              have u5 : Agr d2 mid E b := Agr.ofEq g2 hkp
              clear hkp
              obtain ⟨d3, hd3⟩ : ∃ d3, d3 = d2 := ⟨_, rfl⟩
              have hp3 : PermIn mid b d2 d3 := by rw [hd3]; exact permIn_refl _ _ _
              have ho3 : SortedIn TT mid b d3 := by rw [hd3, show mid = E by have zE := hE3.out; omega]; exact u4
              have hs3 := hd3 ▸ hs2
              clear hd3
              have hfin := mrg_end (by omega) hcut.out hl.out hr.out (by rw [hEn.out]; exact hd1) hp1 hp2 ho2 hp3 ho3
              replace hfin := Lib.hid hfin
              clear hd1 hp1 hp2 ho2 hp3 ho3 q1 q2 q3 q4 g1 g2 u3 u4 u5
              go_wp2_with fail
              all_goals
                go_end0
                exact ⟨rfl, d3, hfin.out.1, hfin.out.2, hs3⟩
            · have dS : decide ((E : Int) < (b : Int)) = false := by have zE := hE3.out; simp; omega
              obtain ⟨d1, rfl⟩ : ∃ d1, d1 = d := ⟨_, rfl⟩
              have hd1 : ∀ t, d1[t]! = rotG d1 s m E t := noturn (by have zE := hE3.out; omega)
              have hp1 : PermIn a b d1 d1 := permIn_refl _ _ _
              have hs1 := hs
              obtain ⟨q1, q2, q3, q4, g1, g2⟩ := halves hcut.out hl.out hr.out hag.out (by rw [hEn.out]; exact hd1)
              rw [hEn.out] at q3 q4 g2
              obtain ⟨d2, hd2⟩ : ∃ d2, d2 = d1 := ⟨_, rfl⟩
              have hp2 : PermIn a mid d1 d2 := by rw [hd2]; exact permIn_refl _ _ _
              have ho2 : SortedIn TT a mid d2 := by rw [hd2, show mid = s by have zE := hE3.out; omega]; exact q1
              have hs2 := hd2 ▸ hs1
              clear hd2
              have hkp : ∀ t, mid ≤ t → t < b → d2[t]! = d1[t]! := fun t h _ => hp2.2.1 t (.inr h)
              have u3 : SortedIn TT mid E d2 := SortedIn.ofEq q3 fun t h1 h2 => hkp t h1 (by omega)
              have u4 : SortedIn TT E b d2 := SortedIn.ofEq q4 fun t h1 h2 => hkp t (by omega) h2
              have u5 : Agr d2 mid E b := Agr.ofEq g2 hkp
              clear hkp
              obtain ⟨d3, hd3⟩ : ∃ d3, d3 = d2 := ⟨_, rfl⟩
              have hp3 : PermIn mid b d2 d3 := by rw [hd3]; exact permIn_refl _ _ _
              have ho3 : SortedIn TT mid b d3 := by rw [hd3, show mid = E by have zE := hE3.out; omega]; exact u4
              have hs3 := hd3 ▸ hs2
              clear hd3
              have hfin := mrg_end (by omega) hcut.out hl.out hr.out (by rw [hEn.out]; exact hd1) hp1 hp2 ho2 hp3 ho3
              replace hfin := Lib.hid hfin
              clear hd1 hp1 hp2 ho2 hp3 ho3 q1 q2 q3 q4 g1 g2 u3 u4 u5
              go_wp2_with fail
              all_goals
                go_end0
                exact ⟨rfl, d3, hfin.out.1, hfin.out.2, hs3⟩
          · have dR : decide ((a : Int) < (s : Int)) = false := by have zE := hE3.out; simp; omega
            by_cases hSE : E < b
            · have dS : decide ((E : Int) < (b : Int)) = true := by have zE := hE3.out; simp; omega
              obtain ⟨d1, rfl⟩ : ∃ d1, d1 = d := ⟨_, rfl⟩
              have hd1 : ∀ t, d1[t]! = rotG d1 s m E t := noturn (by have zE := hE3.out; omega)
              have hp1 : PermIn a b d1 d1 := permIn_refl _ _ _
              have hs1 := hs
              obtain ⟨q1, q2, q3, q4, g1, g2⟩ := halves hcut.out hl.out hr.out hag.out (by rw [hEn.out]; exact hd1)
              rw [hEn.out] at q3 q4 g2
              obtain ⟨d2, hd2⟩ : ∃ d2, d2 = d1 := ⟨_, rfl⟩
              have hp2 : PermIn a mid d1 d2 := by rw [hd2]; exact permIn_refl _ _ _
              have ho2 : SortedIn TT a mid d2 := by rw [hd2, show a = s by have zE := hE3.out; omega]; exact q2
              have hs2 := hd2 ▸ hs1
              clear hd2
              have hkp : ∀ t, mid ≤ t → t < b → d2[t]! = d1[t]! := fun t h _ => hp2.2.1 t (.inr h)
              have u3 : SortedIn TT mid E d2 := SortedIn.ofEq q3 fun t h1 h2 => hkp t h1 (by omega)
              have u4 : SortedIn TT E b d2 := SortedIn.ofEq q4 fun t h1 h2 => hkp t (by omega) h2
              have u5 : Agr d2 mid E b := Agr.ofEq g2 hkp
              clear hkp
              obtain ⟨d3, hd3⟩ : ∃ d3, d3 = d2 := ⟨_, rfl⟩
              have hp3 : PermIn mid b d2 d3 := by rw [hd3]; exact permIn_refl _ _ _
              have ho3 : SortedIn TT mid b d3 := by rw [hd3, show mid = E by have zE := hE3.out; omega]; exact u4
              have hs3 := hd3 ▸ hs2
              clear hd3
              have hfin := mrg_end (by omega) hcut.out hl.out hr.out (by rw [hEn.out]; exact hd1) hp1 hp2 ho2 hp3 ho3
              replace hfin := Lib.hid hfin
              clear hd1 hp1 hp2 ho2 hp3 ho3 q1 q2 q3 q4 g1 g2 u3 u4 u5
              go_wp2_with fail
              all_goals
                go_end0
                exact ⟨rfl, d3, hfin.out.1, hfin.out.2, hs3⟩
            · have dS : decide ((E : Int) < (b : Int)) = false := by have zE := hE3.out; simp; omega
              obtain ⟨d1, rfl⟩ : ∃ d1, d1 = d := ⟨_, rfl⟩
              have hd1 : ∀ t, d1[t]! = rotG d1 s m E t := noturn (by have zE := hE3.out; omega)
              have hp1 : PermIn a b d1 d1 := permIn_refl _ _ _
              have hs1 := hs
              obtain ⟨q1, q2, q3, q4, g1, g2⟩ := halves hcut.out hl.out hr.out hag.out (by rw [hEn.out]; exact hd1)
              rw [hEn.out] at q3 q4 g2
              obtain ⟨d2, hd2⟩ : ∃ d2, d2 = d1 := ⟨_, rfl⟩
              have hp2 : PermIn a mid d1 d2 := by rw [hd2]; exact permIn_refl _ _ _
              have ho2 : SortedIn TT a mid d2 := by rw [hd2, show a = s by have zE := hE3.out; omega]; exact q2
              have hs2 := hd2 ▸ hs1
              clear hd2
              have hkp : ∀ t, mid ≤ t → t < b → d2[t]! = d1[t]! := fun t h _ => hp2.2.1 t (.inr h)
              have u3 : SortedIn TT mid E d2 := SortedIn.ofEq q3 fun t h1 h2 => hkp t h1 (by omega)
              have u4 : SortedIn TT E b d2 := SortedIn.ofEq q4 fun t h1 h2 => hkp t (by omega) h2
              have u5 : Agr d2 mid E b := Agr.ofEq g2 hkp
              clear hkp
              obtain ⟨d3, hd3⟩ : ∃ d3, d3 = d2 := ⟨_, rfl⟩
              have hp3 : PermIn mid b d2 d3 := by rw [hd3]; exact permIn_refl _ _ _
              have ho3 : SortedIn TT mid b d3 := by rw [hd3, show mid = E by have zE := hE3.out; omega]; exact u4
              have hs3 := hd3 ▸ hs2
              clear hd3
              have hfin := mrg_end (by omega) hcut.out hl.out hr.out (by rw [hEn.out]; exact hd1) hp1 hp2 ho2 hp3 ho3
              replace hfin := Lib.hid hfin
              clear hd1 hp1 hp2 ho2 hp3 ho3 q1 q2 q3 q4 g1 g2 u3 u4 u5
              go_wp2_with fail
              all_goals
                go_end0
                exact ⟨rfl, d3, hfin.out.1, hfin.out.2, hs3⟩
end Go.Proofs.Ytkdancoffmhjhaa
namespace Go.Proofs.Ytkdancoffmhjhaa
open Go.RowKit Go.Shelf Go.Sort
theorem symM_any {w w0 : World} {g n cap : Nat} (hn : n ≤ 60000000) : ∀ (N : Nat) {W : World} {d : Array HCo} (_ : SW w w0 g n cap d W) (a m b : Nat), b - a ≤ N → a < m → m < b → b ≤ n → SortedIn TT a m d → SortedIn TT m b d → Agr d a m b →
    Calls Try.prog 95 #[.slice (some ⟨g, 0, none⟩) n cap, .int .i64 a, .int .i64 m, .int .i64 b, .func (.func 54) #[] #[]] W (MrgRet w w0 g n cap d a b) := by
  intro N
  induction N with
  | zero => intro W d h a m b h1 h2 h3; omega
  | succ N ih =>
    intro W d h a m b hN ham hmb hbn hl hr hag
    by_cases hc1 : m - a = 1
    · exact symM_one hn h a m b ham hmb hbn hl hr hag hc1
    · by_cases hc2 : b - m = 1
      · exact symM_two hn h a m b ham hmb hbn hl hr hag hc1 hc2
      · by_cases hmm : (a + b) / 2 < m
        · exact symM_lt hn h a m b ham hmb hbn hl hr hag hc1 hc2 N hN ih hmm
        · exact symM_ge hn h a m b ham hmb hbn hl hr hag hc1 hc2 N hN ih hmm
end Go.Proofs.Ytkdancoffmhjhaa
