/-
  slices.symMergeCmpFunc at correspondences by count.
-/
import Derived.Test.YtkdancoffmhjhaaZp
namespace Go.Proofs.Ytkdancoffmhjhaa
open Go.RowKit Go.Shelf Go.Sort
abbrev TT : HCo → HCo → Bool := ltOf (fun x y : HCo => cmpT (kp x) (kp y))
abbrev LL : HCo → HCo → Bool := ltOf cntC
theorem swo_TT : SWO TT := swo_pre cmpT_tot kp
/-- The order of counts says what the whole order says, of a later one and an earlier one. -/
def Agr (d : Array HCo) (a m b : Nat) : Prop := ∀ p q, a ≤ p → p < m → m ≤ q → q < b → TT d[q]! d[p]! = LL d[q]! d[p]!
def MrgRet (w w0 : World) (g n cap : Nat) (d : Array HCo) (a b : Nat) (e : Ending) (W' : World) : Prop :=
  e = .returned (.tuple #[]) ∧ ∃ d' : Array HCo, PermIn a b d d' ∧ SortedIn TT a b d' ∧ SW w w0 g n cap d' W'
/-- What lies behind the turn. -/
theorem halves {d d1 : Array HCo} {a m b mid n s : Nat} (hc : Cut TT d a m b mid n s) (hl : SortedIn TT a m d) (hr : SortedIn TT m b d) (ha : Agr d a m b) (hd : ∀ t, d1[t]! = rotG d s m (n - s) t) :
    SortedIn TT a s d1 ∧ SortedIn TT s mid d1 ∧ SortedIn TT mid (n - s) d1 ∧ SortedIn TT (n - s) b d1 ∧ Agr d1 a s mid ∧ Agr d1 mid (n - s) b := by
  obtain ⟨hmn, ⟨l1, l2, l3, l4⟩, ⟨e1, e2, e3, e4⟩, _, _⟩ := hc
  have o : ∀ t, t < s ∨ n - s ≤ t → d1[t]! = d[t]! := fun t h => by rw [hd, rotG_out d h]
  have lo : ∀ t, s ≤ t → t < mid → d1[t]! = d[m + (t - s)]! := fun t h1 h2 => by rw [hd, rotG_low d h1 (by omega) (by omega)]
  have hi : ∀ t, mid ≤ t → t < n - s → d1[t]! = d[t - (n - s - m)]! := fun t h1 h2 => by rw [hd, rotG_high d (by omega) h2 (by omega)]
  refine ⟨fun p q h1 h2 h3 => ?_, fun p q h1 h2 h3 => ?_, fun p q h1 h2 h3 => ?_, fun p q h1 h2 h3 => ?_, fun p q h1 h2 h3 h4 => ?_, fun p q h1 h2 h3 h4 => ?_⟩
  · rw [o p (by omega), o q (by omega)]; exact hl p q h1 h2 (by omega)
  · rw [lo p h1 (by omega), lo q (by omega) h3]; exact hr _ _ (by omega) (by omega) (by omega)
  · rw [hi p h1 (by omega), hi q (by omega) h3]; exact hl _ _ (by omega) (by omega) (by omega)
  · rw [o p (by omega), o q (by omega)]; exact hr p q (by omega) h2 h3
  · rw [o p (by omega), lo q h3 h4]; exact ha _ _ h1 (by omega) (by omega) (by omega)
  · rw [hi p h1 h2, o q (by omega)]; exact ha _ _ (by omega) (by omega) (by omega) h4
theorem SortedIn.ofEq {d d' : Array HCo} {a b : Nat} (h : SortedIn TT a b d) (he : ∀ t, a ≤ t → t < b → d'[t]! = d[t]!) : SortedIn TT a b d' := fun p q h1 h2 h3 => by
  rw [he p h1 (by omega), he q (by omega) h3]; exact h p q h1 h2 h3
theorem Agr.ofEq {d d' : Array HCo} {a m b : Nat} (h : Agr d a m b) (he : ∀ t, a ≤ t → t < b → d'[t]! = d[t]!) : Agr d' a m b := fun p q h1 h2 h3 h4 => by
  rw [he p h1 (by omega), he q (by omega) h4]; exact h p q h1 h2 h3 h4
/-- The end: both halves sorted. -/
theorem mrg_end {d d1 d2 d3 : Array HCo} {a m b mid n s : Nat} (hb : b ≤ d.size) (hc : Cut TT d a m b mid n s) (hl : SortedIn TT a m d) (hr : SortedIn TT m b d) (hd : ∀ t, d1[t]! = rotG d s m (n - s) t) (h1 : PermIn a b d d1)
    (h2 : PermIn a mid d1 d2) (s2 : SortedIn TT a mid d2) (h3 : PermIn mid b d2 d3) (s3 : SortedIn TT mid b d3) : PermIn a b d d3 ∧ SortedIn TT a b d3 := by
  have hx := hc.cross swo_TT hl hr hd
  obtain ⟨_, ⟨l1, l2, l3, l4⟩, ⟨e1, e2, e3, e4⟩, _, _⟩ := hc
  have z1 : d1.size = d.size := h1.1
  have z2 : d2.size = d1.size := h2.1
  have p2 : PermIn a b d1 d2 := permIn_mono d1 d2 a mid a b (Nat.le_refl _) e2 (by omega) h2
  have p3 : PermIn a b d2 d3 := permIn_mono d2 d3 mid b a b e1 (Nat.le_refl _) (by omega) h3
  have lo3 : ∀ t, a ≤ t → t < mid → d3[t]! = d2[t]! := fun t _ h => h3.2.1 t (.inl h)
  have hi2 : ∀ t, mid ≤ t → d2[t]! = d1[t]! := fun t h => h2.2.1 t (.inr h)
  refine ⟨permIn_trans _ _ _ a b (permIn_trans _ _ _ a b h1 p2) p3, sorted_join (SortedIn.ofEq s2 lo3) s3 fun x y q1 q2 q3 q4 => ?_⟩
  rw [lo3 x q1 q2]
  refine permIn_all d1 d2 a mid (fun u => TT d3[y]! u = false) (by omega) h2 (fun x' r1 r2 => ?_) x q1 q2
  refine permIn_all d2 d3 mid b (fun v => TT v d1[x']! = false) (by omega) h3 (fun y' r3 r4 => ?_) y q3 q4
  rw [hi2 y' r3]
  exact hx x' y' r1 r2 r3 r4
theorem cnt_TT (x y : HCo) : decide (cntC x y < 0) = LL x y := rfl
theorem refl1_ext (x y : HCo) (w : World) : Calls Try.prog 54 #[coV x, coV y] w fun e w' => e = .returned (.int .i64 (cntC x y)) ∧ Ext w w' := (refl1_any x y w).mono fun _ _ h => ⟨h.1, h.2.ext⟩
theorem noturn {d : Array HCo} {s m E : Nat} (h : m = s ∨ E = m) : ∀ t, d[t]! = rotG d s m E t := fun t => by
  by_cases h1 : t < s ∨ E ≤ t
  · rw [rotG_out d h1]
  · rcases h with h | h
    · rw [rotG_low d (by omega) (by omega) (by omega), h]
      congr 1; omega
    · rw [rotG_high d (by omega) (by omega) (by omega)]
      congr 1; omega
theorem mid_of {p : Nat → Prop} {mid S0 a b : Nat} (h1 : mid = S0 / 2) (h2 : S0 = a + b) (h : p ((a + b) / 2)) : p mid := by rw [h1, h2]; exact h
set_option maxHeartbeats 40000000 in
set_option maxRecDepth 20000 in
theorem symM_one {w w0 : World} {g n cap : Nat} (hn : n ≤ 60000000) {W : World} {d : Array HCo} (h : SW w w0 g n cap d W) (a m b : Nat) (ham : a < m) (hmb : m < b) (hbn : b ≤ n) (hl : SortedIn TT a m d) (hr : SortedIn TT m b d) (hag : Agr d a m b) (hc : m - a = 1) :
    Calls Try.prog 95 #[.slice (some ⟨g, 0, none⟩) n cap, .int .i64 a, .int .i64 m, .int .i64 b, .func (.func 54) #[] #[]] W (MrgRet w w0 g n cap d a b) := by
  have hds := h.ge.2.2
  unfold MrgRet
  obtain ⟨M1, hM1⟩ : ∃ M1, M1 = m - a := ⟨_, rfl⟩
  have eM1 : (m : Int) - (a : Int) = (M1 : Int) := by omega
  have hwM1 : IntKind.i64.wrap (M1 : Int) = M1 := IntWalk.i64_in _ (by omega)
  have hc1 : M1 = 1 := hM1.trans hc
  clear hc
  have e1 : ((M1 : Int) == 1) = true := beq_iff_eq.2 (by omega)
  have hma : m = a + 1 := by omega
  replace hc1 := Lib.hid hc1
  replace hM1 := Lib.hid hM1
  replace hl := Lib.hid hl
  replace hr := Lib.hid hr
  replace hag := Lib.hid hag
  replace hma := Lib.hid hma
  skip
  go_enter Try.func95, Try.ntmps95
  go_wp2_with fail
  go_loopw [10, 11] (fun u v wr => ∃ i j : Nat, m ≤ i ∧ i ≤ j ∧ j ≤ b ∧ u = .int .i64 i ∧ v = .int .i64 j ∧ Hid (∀ q, m ≤ q → q < i → TT d[q]! d[a]! = true) ∧ Hid (∀ q, j ≤ q → q < b → TT d[q]! d[a]! = false) ∧ SW w w0 g n cap d wr) (fun u v _ => (intOf v - intOf u).toNat)
  case atStart => exact ⟨m, b, Nat.le_refl _, by omega, Nat.le_refl _, rfl, rfl, Lib.hid (fun q h1 h2 => by omega), Lib.hid (fun q h1 h2 => by omega), h⟩
  case round =>
    obtain ⟨i, j, hi, hij, hj, rfl, rfl, hlo, hhi, hs⟩ := hrel
    by_cases hlt : i < j
    · have hlti : (i : Int) < (j : Int) := by omega
      obtain ⟨S, hS⟩ : ∃ S, S = i + j := ⟨_, rfl⟩
      have eS : (i : Int) + (j : Int) = (S : Int) := by omega
      have hwS : IntKind.i64.wrap (S : Int) = S := IntWalk.i64_in _ (by omega)
      obtain ⟨H, hH⟩ : ∃ H, H = S / 2 := ⟨_, rfl⟩
      have eH : (S : Int) / 2 = (H : Int) := by omega
      have hHb : i ≤ H ∧ H < j := by omega
      have hHn : (H : Int) < (n : Int) := by omega
      have han : (a : Int) < (n : Int) := by omega
      have hwH : IntKind.i64.wrap ((H : Int) + 1) = (H : Int) + 1 := IntWalk.i64_in _ (by omega)
      have hT := hag.out a H (Nat.le_refl _) ham (by omega) (by omega)
      obtain ⟨c0, c1⟩ := (hs).at (i := H) (by omega)
      obtain ⟨c2, c3⟩ := (hs).at (i := a) (by omega)
      have r0 := fun z : ExtOf wr => z.cell c0
      have r1 := fun z : ExtOf wr => z.cell c1
      have r2 := fun z : ExtOf wr => z.cell c2
      have r3 := fun z : ExtOf wr => z.cell c3
      have hcm := fun z : ExtOf wr => refl1_ext d[H]! d[a]! z.w
      replace hS := Lib.hid hS
      replace hH := Lib.hid hH
      cases hB : TT d[H]! d[a]!
      · have dB : decide (cntC d[H]! d[a]! < 0) = false := hT.symm.trans hB
        have hnew : Hid (∀ q, H ≤ q → q < b → TT d[q]! d[a]! = false) := Lib.hid fun q h1 h2 => by
          by_cases e : q = H
          · rw [e]; exact hB
          · exact swo_TT.ntrans _ _ _ (hr.out H q (by omega) (by omega) h2) hB
        replace hT := Lib.hid hT
        replace hB := Lib.hid hB
        generalize cntC d[H]! d[a]! = C at *
        go_wp2_with fail
        refine wp_region_qx (by kernel_rfl) (by kernel_rfl) ?_
        repeat (go_big_quiet_step (exact calls_ext (hcm _)))
        refine wpQuiet_nil ?_
        intro wq hw'
        have hxq := ext_of_ex hw'
        clear hw' r0 r1 r2 r3 hcm
        go_wp2_with fail
        (first | exact ⟨⟨i, H, hi, by omega, by omega, rfl, rfl, hlo, hnew, hs.kept hxq⟩, (by simp [intOf]; omega)⟩ | (go_roundw; case rel => exact ⟨i, H, hi, by omega, by omega, rfl, rfl, hlo, hnew, hs.kept hxq⟩; case measure => exact (by simp [intOf]; omega)))
      · have dB : decide (cntC d[H]! d[a]! < 0) = true := hT.symm.trans hB
        have hnew : Hid (∀ q, m ≤ q → q < H + 1 → TT d[q]! d[a]! = true) := Lib.hid fun q h1 h2 => by
          by_cases e : q = H
          · rw [e]; exact hB
          · cases hq : TT d[q]! d[a]!
            · have := swo_TT.ntrans _ _ _ (hr.out q H h1 (by omega) (by omega)) hq
              rw [this] at hB; cases hB
            · rfl
        replace hT := Lib.hid hT
        replace hB := Lib.hid hB
        generalize cntC d[H]! d[a]! = C at *
        go_wp2_with fail
        refine wp_region_qx (by kernel_rfl) (by kernel_rfl) ?_
        repeat (go_big_quiet_step (exact calls_ext (hcm _)))
        refine wpQuiet_nil ?_
        intro wq hw'
        have hxq := ext_of_ex hw'
        clear hw' r0 r1 r2 r3 hcm
        go_wp2_with fail
        (first | exact ⟨⟨H + 1, j, by omega, by omega, hj, by go_num, rfl, hnew, hhi, hs.kept hxq⟩, (by simp [intOf]; omega)⟩ | (go_roundw; case rel => exact ⟨H + 1, j, by omega, by omega, hj, by go_num, rfl, hnew, hhi, hs.kept hxq⟩; case measure => exact (by simp [intOf]; omega)))
    · obtain rfl : i = j := by omega
      obtain ⟨I1, hI1⟩ : ∃ I1, I1 = i - 1 := ⟨_, rfl⟩
      have eI1 : (i : Int) - 1 = (I1 : Int) := by omega
      have hwI1 : IntKind.i64.wrap (I1 : Int) = I1 := IntWalk.i64_in _ (by omega)
      have hIb : a ≤ I1 ∧ I1 + 1 = i := by have := hma.out; omega
      replace hI1 := Lib.hid hI1
      go_wp2_with fail
      go_loopw [13] (fun u wq => ∃ (k : Nat) (dk : Array HCo), a ≤ k ∧ k ≤ I1 ∧ u = .int .i64 k ∧ Hid (MovU d dk a k) ∧ Hid (PermIn a b d dk) ∧ SW w w0 g n cap dk wq) (fun u _ => I1 - (intOf u).toNat)
      case atStart => exact ⟨a, d, Nat.le_refl _, hIb.1, rfl, Lib.hid (MovU.start d a), Lib.hid (permIn_refl _ _ _), hs⟩
      case round =>
        obtain ⟨k, dk, hak, hkI, rfl, hmv, hper, hsk⟩ := hrel
        have hdk := hsk.ge.2.2
        by_cases hkl : k < I1
        · have hkli : (k : Int) < (I1 : Int) := by omega
          obtain ⟨K, hK⟩ : ∃ K, K = k + 1 := ⟨_, rfl⟩
          have eK : (k : Int) + 1 = (K : Int) := by omega
          have hwK : IntKind.i64.wrap (K : Int) = K := IntWalk.i64_in _ (by omega)
          have hkn : (k : Int) < (n : Int) := by omega
          have hKn : (K : Int) < (n : Int) := by omega
          have hnw := (hsk.swp (i := k) (j := K) (by omega) (by omega)).kept ((Ext.refl _).drew)
          have hmv2 : Hid (MovU d (Sort.swp dk k K) a K) := Lib.hid (by rw [hK]; exact hmv.out.step hak (by omega))
          have hper2 : Hid (PermIn a b d (Sort.swp dk k K)) := Lib.hid (permIn_trans _ _ _ a b hper.out (swp_permIn dk a b k K hak (by omega) (by omega) (by omega) (by omega)))
          obtain ⟨c0, c1⟩ := hsk.at (i := k) (by omega)
          obtain ⟨c2, c3⟩ := hsk.at (i := K) (by omega)
          have hf0 := fun i => hsk.free i
          have hKI : K ≤ I1 := by omega
          have hKk : k < K := by omega
          replace hK := Lib.hid hK
          replace hnw := Lib.hid hnw
          generalize dk[k]! = yA at *
          generalize dk[K]! = yC at *
          go_wp2_with fail
          go_region
          go_wp2_with fail
          (first | exact ⟨⟨K, _, by omega, by omega, by go_num, hmv2, hper2, hnw.out⟩, (by simp [intOf]; omega)⟩ | (go_roundw; case rel => exact ⟨K, _, by omega, by omega, by go_num, hmv2, hper2, hnw.out⟩; case measure => exact (by simp [intOf]; omega)))
        · obtain rfl : k = I1 := by omega
          have hfin : SortedIn TT a b dk := merge_left swo_TT (by have := hr.out; rwa [hma.out] at this) hIb.1 (by omega) (fun q h1 h2 => hlo.out q (by have := hma.out; omega) (by omega)) (fun q h1 h2 => hhi.out q (by omega) h2) hmv.out
          replace hfin := Lib.hid hfin
          go_wp2_with fail
          refine bodyPost_ret (results_none rfl _ _ _) rfl ?_
          exact ⟨rfl, dk, hper.out, hfin.out, hsk⟩
set_option maxHeartbeats 40000000 in
set_option maxRecDepth 20000 in
theorem symM_two {w w0 : World} {g n cap : Nat} (hn : n ≤ 60000000) {W : World} {d : Array HCo} (h : SW w w0 g n cap d W) (a m b : Nat) (ham : a < m) (hmb : m < b) (hbn : b ≤ n) (hl : SortedIn TT a m d) (hr : SortedIn TT m b d) (hag : Agr d a m b) (hc0 : m - a ≠ 1) (hc : b - m = 1) :
    Calls Try.prog 95 #[.slice (some ⟨g, 0, none⟩) n cap, .int .i64 a, .int .i64 m, .int .i64 b, .func (.func 54) #[] #[]] W (MrgRet w w0 g n cap d a b) := by
  have hds := h.ge.2.2
  unfold MrgRet
  obtain ⟨M1, hM1⟩ : ∃ M1, M1 = m - a := ⟨_, rfl⟩
  have eM1 : (m : Int) - (a : Int) = (M1 : Int) := by omega
  have hwM1 : IntKind.i64.wrap (M1 : Int) = M1 := IntWalk.i64_in _ (by omega)
  have hc1 : ¬ M1 = 1 := fun e => hc0 (hM1.symm.trans e)
  clear hc0
  have e1 : ((M1 : Int) == 1) = false := by rw [Bool.eq_false_iff]; intro h; have := beq_iff_eq.1 h; omega
  obtain ⟨M2, hM2⟩ : ∃ M2, M2 = b - m := ⟨_, rfl⟩
  have eM2 : (b : Int) - (m : Int) = (M2 : Int) := by omega
  have hwM2 : IntKind.i64.wrap (M2 : Int) = M2 := IntWalk.i64_in _ (by omega)
  have hM12 : 2 ≤ m - a := by omega
  replace hc1 := Lib.hid hc1
  replace hM1 := Lib.hid hM1
  have hc2 : M2 = 1 := hM2.trans hc
  clear hc
  have e2 : ((M2 : Int) == 1) = true := beq_iff_eq.2 (by omega)
  have hbm : b = m + 1 := by omega
  replace hc2 := Lib.hid hc2
  replace hM2 := Lib.hid hM2
  replace hl := Lib.hid hl
  replace hr := Lib.hid hr
  replace hag := Lib.hid hag
  replace hbm := Lib.hid hbm
  skip
  go_enter Try.func95, Try.ntmps95
  go_wp2_with fail
  go_loopw [14, 15] (fun u v wr => ∃ i j : Nat, a ≤ i ∧ i ≤ j ∧ j ≤ m ∧ u = .int .i64 i ∧ v = .int .i64 j ∧ Hid (∀ p, a ≤ p → p < i → TT d[m]! d[p]! = false) ∧ Hid (∀ p, j ≤ p → p < m → TT d[m]! d[p]! = true) ∧ SW w w0 g n cap d wr) (fun u v _ => (intOf v - intOf u).toNat)
  case atStart => exact ⟨a, m, Nat.le_refl _, by omega, Nat.le_refl _, rfl, rfl, Lib.hid (fun q h1 h2 => by omega), Lib.hid (fun q h1 h2 => by omega), h⟩
  case round =>
    obtain ⟨i, j, hi, hij, hj, rfl, rfl, hlo, hhi, hs⟩ := hrel
    by_cases hlt : i < j
    · have hlti : (i : Int) < (j : Int) := by omega
      obtain ⟨S, hS⟩ : ∃ S, S = i + j := ⟨_, rfl⟩
      have eS : (i : Int) + (j : Int) = (S : Int) := by omega
      have hwS : IntKind.i64.wrap (S : Int) = S := IntWalk.i64_in _ (by omega)
      obtain ⟨H, hH⟩ : ∃ H, H = S / 2 := ⟨_, rfl⟩
      have eH : (S : Int) / 2 = (H : Int) := by omega
      have hHb : i ≤ H ∧ H < j := by omega
      have hHn : (H : Int) < (n : Int) := by omega
      have hmn : (m : Int) < (n : Int) := by omega
      have hwH : IntKind.i64.wrap ((H : Int) + 1) = (H : Int) + 1 := IntWalk.i64_in _ (by omega)
      have hT := hag.out H m (by omega) (by omega) (Nat.le_refl _) hmb
      obtain ⟨c0, c1⟩ := (hs).at (i := m) (by omega)
      obtain ⟨c2, c3⟩ := (hs).at (i := H) (by omega)
      have r0 := fun z : ExtOf wr => z.cell c0
      have r1 := fun z : ExtOf wr => z.cell c1
      have r2 := fun z : ExtOf wr => z.cell c2
      have r3 := fun z : ExtOf wr => z.cell c3
      have hcm := fun z : ExtOf wr => refl1_ext d[m]! d[H]! z.w
      replace hS := Lib.hid hS
      replace hH := Lib.hid hH
      cases hB : TT d[m]! d[H]!
      · have dB : decide (cntC d[m]! d[H]! < 0) = false := hT.symm.trans hB
        have hnew : Hid (∀ p, a ≤ p → p < H + 1 → TT d[m]! d[p]! = false) := Lib.hid fun p h1 h2 => by
          by_cases e : p = H
          · rw [e]; exact hB
          · exact swo_TT.ntrans _ _ _ hB (hl.out p H h1 (by omega) (by omega))
        replace hT := Lib.hid hT
        replace hB := Lib.hid hB
        generalize cntC d[m]! d[H]! = C at *
        go_wp2_with fail
        refine wp_region_qx (by kernel_rfl) (by kernel_rfl) ?_
        repeat (go_big_quiet_step (exact calls_ext (hcm _)))
        refine wpQuiet_nil ?_
        intro wq hw'
        have hxq := ext_of_ex hw'
        clear hw' r0 r1 r2 r3 hcm
        go_wp2_with fail
        (first | exact ⟨⟨H + 1, j, by omega, by omega, hj, by go_num, rfl, hnew, hhi, hs.kept hxq⟩, (by simp [intOf]; omega)⟩ | (go_roundw; case rel => exact ⟨H + 1, j, by omega, by omega, hj, by go_num, rfl, hnew, hhi, hs.kept hxq⟩; case measure => exact (by simp [intOf]; omega)))
      · have dB : decide (cntC d[m]! d[H]! < 0) = true := hT.symm.trans hB
        have hnew : Hid (∀ p, H ≤ p → p < m → TT d[m]! d[p]! = true) := Lib.hid fun p h1 h2 => by
          by_cases e : p = H
          · rw [e]; exact hB
          · cases hq : TT d[m]! d[p]!
            · have := swo_TT.ntrans _ _ _ hq (hl.out H p (by omega) (by omega) h2)
              rw [this] at hB; cases hB
            · rfl
        replace hT := Lib.hid hT
        replace hB := Lib.hid hB
        generalize cntC d[m]! d[H]! = C at *
        go_wp2_with fail
        refine wp_region_qx (by kernel_rfl) (by kernel_rfl) ?_
        repeat (go_big_quiet_step (exact calls_ext (hcm _)))
        refine wpQuiet_nil ?_
        intro wq hw'
        have hxq := ext_of_ex hw'
        clear hw' r0 r1 r2 r3 hcm
        go_wp2_with fail
        (first | exact ⟨⟨i, H, hi, by omega, by omega, rfl, rfl, hlo, hnew, hs.kept hxq⟩, (by simp [intOf]; omega)⟩ | (go_roundw; case rel => exact ⟨i, H, hi, by omega, by omega, rfl, rfl, hlo, hnew, hs.kept hxq⟩; case measure => exact (by simp [intOf]; omega)))
    · obtain rfl : i = j := by omega
      go_wp2_with fail
      go_loopw [17] (fun u wq => ∃ (k : Nat) (dk : Array HCo), i ≤ k ∧ k ≤ m ∧ u = .int .i64 k ∧ Hid (MovD d dk m k) ∧ Hid (PermIn a b d dk) ∧ SW w w0 g n cap dk wq) (fun u _ => (intOf u).toNat)
      case atStart => exact ⟨m, d, hj, Nat.le_refl _, rfl, Lib.hid (MovD.start d m), Lib.hid (permIn_refl _ _ _), hs⟩
      case round =>
        obtain ⟨k, dk, hik, hkm, rfl, hmv, hper, hsk⟩ := hrel
        have hdk := hsk.ge.2.2
        by_cases hkl : i < k
        · have hkli : (i : Int) < (k : Int) := by omega
          obtain ⟨K, hK⟩ : ∃ K, k = K + 1 := ⟨k - 1, by omega⟩
          have eK : (k : Int) - 1 = (K : Int) := by omega
          have hwK : IntKind.i64.wrap (K : Int) = K := IntWalk.i64_in _ (by omega)
          have hkn : (k : Int) < (n : Int) := by omega
          have hKn : (K : Int) < (n : Int) := by omega
          have hnw := (hsk.swp (i := k) (j := K) (by omega) (by omega)).kept ((Ext.refl _).drew)
          have hmv2 : Hid (MovD d (Sort.swp dk k K) m K) := Lib.hid (by have := hmv.out; rw [hK] at this ⊢; exact this.step (by omega) (by omega))
          have hper2 : Hid (PermIn a b d (Sort.swp dk k K)) := Lib.hid (permIn_trans _ _ _ a b hper.out (swp_permIn dk a b k K (by omega) (by omega) (by omega) (by omega) (by omega)))
          obtain ⟨c0, c1⟩ := hsk.at (i := k) (by omega)
          obtain ⟨c2, c3⟩ := hsk.at (i := K) (by omega)
          have hf0 := fun i => hsk.free i
          have hKI : i ≤ K ∧ K ≤ m := by omega
          have hKk : K < k := by omega
          replace hK := Lib.hid hK
          replace hnw := Lib.hid hnw
          generalize dk[k]! = yA at *
          generalize dk[K]! = yC at *
          go_wp2_with fail
          go_region
          go_wp2_with fail
          (first | exact ⟨⟨K, _, by omega, by omega, by go_num, hmv2, hper2, hnw.out⟩, (by simp [intOf]; omega)⟩ | (go_roundw; case rel => exact ⟨K, _, by omega, by omega, by go_num, hmv2, hper2, hnw.out⟩; case measure => exact (by simp [intOf]; omega)))
        · obtain rfl : k = i := by omega
          have hfin : SortedIn TT a b dk := by rw [hbm.out]; exact merge_right swo_TT hl.out hi hj hlo.out hhi.out hmv.out
          replace hfin := Lib.hid hfin
          go_wp2_with fail
          refine bodyPost_ret (results_none rfl _ _ _) rfl ?_
          exact ⟨rfl, dk, hper.out, hfin.out, hsk⟩
end Go.Proofs.Ytkdancoffmhjhaa
