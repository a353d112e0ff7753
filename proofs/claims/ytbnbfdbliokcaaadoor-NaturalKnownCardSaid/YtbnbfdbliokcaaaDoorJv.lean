/-
  Lists compared; the reference's Count.
-/
import Derived.Test.YtbnbfdbliokcaaaDoorJu
namespace Go.Proofs.YtbnbfdbliokcaaaDoor
open Go.RowKit
set_option maxHeartbeats 1000000 in
theorem requal_any (a : Option Addr) (n cap : Nat) (xs : List Int) (b : Option Addr) (m cap2 : Nat) (ys : List Int) (w : World) (hr : RdI w a n cap xs) (hs : RdI w b m cap2 ys) :
    Calls Tryd.prog 68 #[.slice a n cap, .slice b m cap2] w fun e w' => e = .returned (.bool (decide (xs = ys))) ∧ Ext w w' := by
  have hl := hr.len
  have hl2 := hs.len
  have hmax : n ≤ 9223372036854775807 := by have := hr.le; have := hr.most; unfold maxLen at this; omega
  have hmax2 : m ≤ 9223372036854775807 := by have := hs.le; have := hs.most; unfold maxLen at this; omega
  by_cases hnm : n = m
  · have hd : ((n : Int) != (m : Int)) = false := by simp [hnm]
    subst hnm
    replace hl := Lib.hid hl
    replace hl2 := Lib.hid hl2
    go_enter Tryd.func68, Tryd.ntmps68
    go_wp2_with fail
    go_loopw [5] (fun i wr => ∃ j : Nat, j ≤ n ∧ i = .int .i64 j ∧ Ext w wr ∧ Hid (xs.take j = ys.take j)) (fun i _ => n - (intOf i).toNat)
    case atStart => exact ⟨0, Nat.zero_le _, rfl, Ext.refl _, rfl⟩
    case round =>
      obtain ⟨j, hj, rfl, hx, hall⟩ := hrel
      by_cases hlt : j < n
      · obtain ⟨b1, o1, c, rfl, hc, hb1, p0⟩ := (hr.ext hx).i64 hlt
        obtain ⟨b2, o2, d, rfl, hd2, hb2, q0⟩ := (hs.ext hx).i64 hlt
        have r0 := fun z : ExtOf wr => z.cell p0
        have r3 := fun z : ExtOf wr => z.cell q0
        by_cases hcd : c = d
        · have hdd : (c != d) = false := by simpa using hcd
          have hnew := Lib.hid (eq_succ hall.out hc.out (by rw [hcd]; exact hd2.out))
          replace hcd := Lib.hid hcd
          go_wp2_with fail
          (refine wp_region_qx (by kernel_rfl) (by kernel_rfl) ?_
           repeat (go_big_quiet_step (fail))
           refine wpQuiet_nil ?_
           intro wq hw'
           have hxq := ext_of_ex hw'
           clear hw')
          go_wp2_with fail
          (first | exact ⟨⟨j + 1, by omega, by go_num, hx.trans hxq, hnew⟩, (by simp [intOf]; omega)⟩ | (go_roundw; case rel => exact ⟨j + 1, by omega, by go_num, hx.trans hxq, hnew⟩; case measure => exact (by simp [intOf]; omega)))
        · have hdd : (c != d) = true := by simpa using hcd
          have hne := Lib.hid (ne_at hc.out hd2.out hcd)
          replace hcd := Lib.hid hcd
          go_wp2_with fail
          (refine wp_region_qx (by kernel_rfl) (by kernel_rfl) ?_
           repeat (go_big_quiet_step (fail))
           refine wpQuiet_nil ?_
           intro wq hw'
           have hxq := ext_of_ex hw'
           clear hw')
          go_wp2_with fail
          go_ret
          exact ⟨ret_bool (by simpa using hne.out), hx.trans hxq⟩
      · have heq := Lib.hid (eq_end hl.out hl2.out hlt hall.out)
        go_wp2_with fail
        go_ret
        exact ⟨ret_bool (by simpa using heq.out), hx⟩
  · have hd : ((n : Int) != (m : Int)) = true := by simp; omega
    have hne := Lib.hid (ne_len hl hl2 hnm)
    replace hl := Lib.hid hl
    replace hl2 := Lib.hid hl2
    go_enter Tryd.func68, Tryd.ntmps68
    go_wp2_with fail
    go_ret
    exact ⟨ret_bool (by simpa using hne.out), Ext.refl _⟩
set_option maxHeartbeats 1000000 in
theorem lequal_any (a : Option Addr) (n cap : Nat) (xs : List Int) (b : Option Addr) (m cap2 : Nat) (ys : List Int) (w : World) (hr : RdI w a n cap xs) (hs : RdI w b m cap2 ys) :
    Calls Tryd.prog 21 #[.slice a n cap, .slice b m cap2] w fun e w' => e = .returned (.bool (decide (xs = ys))) ∧ Ext w w' := by
  have hl := hr.len
  have hl2 := hs.len
  have hmax : n ≤ 9223372036854775807 := by have := hr.le; have := hr.most; unfold maxLen at this; omega
  have hmax2 : m ≤ 9223372036854775807 := by have := hs.le; have := hs.most; unfold maxLen at this; omega
  by_cases hnm : n = m
  · have hd : ((n : Int) != (m : Int)) = false := by simp [hnm]
    subst hnm
    replace hl := Lib.hid hl
    replace hl2 := Lib.hid hl2
    go_enter Tryd.func21, Tryd.ntmps21
    go_wp2_with fail
    go_loopw [5] (fun i wr => ∃ j : Nat, j ≤ n ∧ i = .int .i64 j ∧ Ext w wr ∧ Hid (xs.take j = ys.take j)) (fun i _ => n - (intOf i).toNat)
    case atStart => exact ⟨0, Nat.zero_le _, rfl, Ext.refl _, rfl⟩
    case round =>
      obtain ⟨j, hj, rfl, hx, hall⟩ := hrel
      by_cases hlt : j < n
      · obtain ⟨b1, o1, c, rfl, hc, hb1, p0⟩ := (hr.ext hx).i64 hlt
        obtain ⟨b2, o2, d, rfl, hd2, hb2, q0⟩ := (hs.ext hx).i64 hlt
        have r0 := fun z : ExtOf wr => z.cell p0
        have r3 := fun z : ExtOf wr => z.cell q0
        by_cases hcd : c = d
        · have hdd : (c != d) = false := by simpa using hcd
          have hnew := Lib.hid (eq_succ hall.out hc.out (by rw [hcd]; exact hd2.out))
          replace hcd := Lib.hid hcd
          go_wp2_with fail
          (refine wp_region_qx (by kernel_rfl) (by kernel_rfl) ?_
           repeat (go_big_quiet_step (fail))
           refine wpQuiet_nil ?_
           intro wq hw'
           have hxq := ext_of_ex hw'
           clear hw')
          go_wp2_with fail
          (first | exact ⟨⟨j + 1, by omega, by go_num, hx.trans hxq, hnew⟩, (by simp [intOf]; omega)⟩ | (go_roundw; case rel => exact ⟨j + 1, by omega, by go_num, hx.trans hxq, hnew⟩; case measure => exact (by simp [intOf]; omega)))
        · have hdd : (c != d) = true := by simpa using hcd
          have hne := Lib.hid (ne_at hc.out hd2.out hcd)
          replace hcd := Lib.hid hcd
          go_wp2_with fail
          (refine wp_region_qx (by kernel_rfl) (by kernel_rfl) ?_
           repeat (go_big_quiet_step (fail))
           refine wpQuiet_nil ?_
           intro wq hw'
           have hxq := ext_of_ex hw'
           clear hw')
          go_wp2_with fail
          go_ret
          exact ⟨ret_bool (by simpa using hne.out), hx.trans hxq⟩
      · have heq := Lib.hid (eq_end hl.out hl2.out hlt hall.out)
        go_wp2_with fail
        go_ret
        exact ⟨ret_bool (by simpa using heq.out), hx⟩
  · have hd : ((n : Int) != (m : Int)) = true := by simp; omega
    have hne := Lib.hid (ne_len hl hl2 hnm)
    replace hl := Lib.hid hl
    replace hl2 := Lib.hid hl2
    go_enter Tryd.func21, Tryd.ntmps21
    go_wp2_with fail
    go_ret
    exact ⟨ret_bool (by simpa using hne.out), Ext.refl _⟩
set_option maxHeartbeats 1000000 in
theorem lsame_any (a : Option Addr) (n cap : Nat) (xs : List Snd) (b : Option Addr) (m cap2 : Nat) (ys : List Snd) (w : World) (hr : RdS w a n cap xs) (hs : RdS w b m cap2 ys) :
    Calls Tryd.prog 22 #[.slice a n cap, .slice b m cap2] w fun e w' => e = .returned (.bool (decide (xs = ys))) ∧ Ext w w' := by
  have he := neq_snd
  have hl := hr.len
  have hl2 := hs.len
  have hmax : n ≤ 9223372036854775807 := by have := hr.le; have := hr.most; unfold maxLen at this; omega
  have hmax2 : m ≤ 9223372036854775807 := by have := hs.le; have := hs.most; unfold maxLen at this; omega
  by_cases hnm : n = m
  · have hd : ((n : Int) != (m : Int)) = false := by simp [hnm]
    subst hnm
    replace hl := Lib.hid hl
    replace hl2 := Lib.hid hl2
    go_enter Tryd.func22, Tryd.ntmps22
    go_wp2_with fail
    go_loopw [5] (fun i wr => ∃ j : Nat, j ≤ n ∧ i = .int .i64 j ∧ Ext w wr ∧ Hid (xs.take j = ys.take j)) (fun i _ => n - (intOf i).toNat)
    case atStart => exact ⟨0, Nat.zero_le _, rfl, Ext.refl _, rfl⟩
    case round =>
      obtain ⟨j, hj, rfl, hx, hall⟩ := hrel
      by_cases hlt : j < n
      · obtain ⟨b1, o1, c, rfl, hc, hb1, p0, p1⟩ := (hr.ext hx).snd hlt
        obtain ⟨b2, o2, d, rfl, hd2, hb2, q0, q1⟩ := (hs.ext hx).snd hlt
        have r0 := fun z : ExtOf wr => z.cell p0
        have r1 := fun z : ExtOf wr => z.cell p1
        have r2 := fun z : ExtOf wr => z.cell q0
        have r3 := fun z : ExtOf wr => z.cell q1
        by_cases hcd : c = d
        · have hdd : decide (c = d) = true := by simpa using hcd
          have hnew := Lib.hid (eq_succ hall.out hc.out (by rw [hcd]; exact hd2.out))
          replace hcd := Lib.hid hcd
          go_wp2_with fail
          (refine wp_region_qx (by kernel_rfl) (by kernel_rfl) ?_
           repeat (go_big_quiet_step (fail))
           refine wpQuiet_nil ?_
           intro wq hw'
           have hxq := ext_of_ex hw'
           clear hw')
          go_wp2_with fail
          (first | exact ⟨⟨j + 1, by omega, by go_num, hx.trans hxq, hnew⟩, (by simp [intOf]; omega)⟩ | (go_roundw; case rel => exact ⟨j + 1, by omega, by go_num, hx.trans hxq, hnew⟩; case measure => exact (by simp [intOf]; omega)))
        · have hdd : decide (c = d) = false := by simpa using hcd
          have hne := Lib.hid (ne_at hc.out hd2.out hcd)
          replace hcd := Lib.hid hcd
          go_wp2_with fail
          (refine wp_region_qx (by kernel_rfl) (by kernel_rfl) ?_
           repeat (go_big_quiet_step (fail))
           refine wpQuiet_nil ?_
           intro wq hw'
           have hxq := ext_of_ex hw'
           clear hw')
          go_wp2_with fail
          go_ret
          exact ⟨ret_bool (by simpa using hne.out), hx.trans hxq⟩
      · have heq := Lib.hid (eq_end hl.out hl2.out hlt hall.out)
        go_wp2_with fail
        go_ret
        exact ⟨ret_bool (by simpa using heq.out), hx⟩
  · have hd : ((n : Int) != (m : Int)) = true := by simp; omega
    have hne := Lib.hid (ne_len hl hl2 hnm)
    replace hl := Lib.hid hl
    replace hl2 := Lib.hid hl2
    go_enter Tryd.func22, Tryd.ntmps22
    go_wp2_with fail
    go_ret
    exact ⟨ret_bool (by simpa using hne.out), Ext.refl _⟩
/-! ### Count of the reference -/
theorem bit_i64 (p i : Nat) (hp : p < 2147483648) : bits .and .i64 ((p : Int) / 2 ^ i) 1 = if p.testBit i then 1 else 0 := by
  have e1 : (p : Int) / 2 ^ i = ((p / 2 ^ i : Nat) : Int) := by norm_cast
  have hle : p / 2 ^ i ≤ p := Nat.div_le_self _ _
  rw [e1, show (1 : Int) = ((1 : Nat) : Int) from rfl, and_i64 _ _ (by omega) (by omega), Nat.and_one_is_mod]
  unfold Nat.testBit
  rw [Nat.shiftRight_eq_div_pow]
  rw [Nat.and_comm, Nat.and_one_is_mod]
  rcases Nat.mod_two_eq_zero_or_one (p / 2 ^ i) with h | h <;> rw [h] <;> rfl
theorem info_row : (Tryd.prog.info? 28).map (fun i => (i.zero, i.size, i.bytes)) = some (some (.slice none 0 0), 1, 24) := by kernel_rfl
/-- What stands of the different classes behind q parts. -/
structure Fnd (xs : List Snd) (q : Nat) (F : List (List Int)) : Prop where
  mem : ∀ L, L ∈ F ↔ L ∈ (clsL xs).take q
  len : F.length = dif (clsL xs) q
theorem Fnd.zero (xs : List Snd) : Fnd xs 0 [] := ⟨fun L => by simp, rfl⟩
theorem Fnd.old {xs : List Snd} {q : Nat} {F : List (List Int)} (h : Fnd xs q F) {L : List Int} (hL : (clsL xs)[q]? = some L) (hm : L ∈ F) : Fnd xs (q + 1) F := by
  refine ⟨fun M => ?_, ?_⟩
  · rw [h.mem, take_succ_at hL, List.mem_append]
    constructor
    · exact .inl
    · rintro (h1 | h1)
      · exact h1
      · simp at h1; subst h1; exact (h.mem _).1 hm
  · rw [dif_succ hL, if_pos ((h.mem L).1 hm), h.len]
theorem Fnd.new {xs : List Snd} {q : Nat} {F : List (List Int)} (h : Fnd xs q F) {L : List Int} (hL : (clsL xs)[q]? = some L) (hm : L ∉ F) : Fnd xs (q + 1) (F ++ [L]) := by
  refine ⟨fun M => ?_, ?_⟩
  · rw [List.mem_append, h.mem, take_succ_at hL, List.mem_append]
  · rw [dif_succ hL, if_neg (fun e => hm ((h.mem L).2 e)), List.length_append, h.len]; rfl
set_option maxHeartbeats 2000000 in
set_option maxRecDepth 20000 in
theorem rcount_any (a : Option Addr) (n cap : Nat) (xs : List Snd) (w : World) (hr : RdS w a n cap xs) :
    Calls Tryd.prog 30 #[.slice a n cap] w (RetCn xs w) := by
  have hl := hr.len
  have hck := rcheck_any 12 a n cap xs w hr
  by_cases hc : chkI 12 xs = 0
  · obtain ⟨hn, hok, _⟩ := chkI_zero hc
    rw [hl] at hn
    have hV : cntV xs = (countN xs : Nat) := by unfold cntV; rw [if_pos hc]
    rw [hc] at hck
    obtain ⟨N, hN⟩ : ∃ N, N = 2 ^ n := ⟨_, rfl⟩
    have hNi : (2 : Int) ^ n = (N : Int) := by rw [hN]; simp
    have hN1 : 1 ≤ N := by rw [hN]; exact Nat.two_pow_pos n
    have hN2 : N ≤ 4096 := by rw [hN]; exact Nat.le_trans (Nat.pow_le_pow_right (by decide) hn) (by decide)
    have hNw := wrap_nat N (by omega)
    replace hc := Lib.hid hc
    replace hok := Lib.hid hok
    replace hl := Lib.hid hl
    replace hV := Lib.hid hV
    replace hN := Lib.hid hN
    go_enter Tryd.func30, Tryd.ntmps30
    go_wp2_with fail
    refine hck.mono ?_
    rintro e w1 ⟨rfl, hx1⟩
    clear hck
    go_wp2_with fail
    go_loopw [5, 6] (fun fv i wr => ∃ (p q : Nat) (F : List (List Int)), Hid (p = q + 1) ∧ p ≤ N ∧ i = .int .i64 p ∧ Hid (Fnd xs q F) ∧ OwnRs w1.heap.size 28 3 wr fv F ∧ Ext w1 wr) (fun _ i _ => N - (intOf i).toNat)
    case atStart => exact ⟨1, 0, [], Lib.hid rfl, hN1, rfl, Lib.hid (Fnd.zero xs), OwnRs.nil _ _ _ _, Ext.refl _⟩
    case round =>
      obtain ⟨p, q, F, hpq, hq, rfl, hF, hown, hx⟩ := hrel
      by_cases hlt : p < N
      · have hp0 : p ≠ 0 := by have := hpq.out; omega
        have hp2 : p < 2 ^ xs.length := by rw [hl.out, ← hN.out]; exact hlt
        have hqi : (p : Int) < (N : Int) := by omega
        have hclm : (clsL xs)[q]? = some (memL xs (condP xs p)) := by
          have h1 := hpq.out
          rw [h1] at hp2 ⊢
          exact clsL_at hp2
        have hcok := condP_ok hok.out hp0 hp2
        have hsne := partS_ne hp0 hp2
        replace hp0 := Lib.hid hp0
        replace hp2 := Lib.hid hp2
        replace hclm := Lib.hid hclm
        replace hsne := Lib.hid hsne
        obtain ⟨wo, rfl⟩ : ∃ wo : World, wo = wr := ⟨_, rfl⟩
        go_wp2_with fail
        go_loopw [7, 8] (fun sv i wr => ∃ j : Nat, j ≤ n ∧ i = .int .i64 j ∧ OwnS wo.heap.size 27 wr sv (partTo xs p j) ∧ Ext wo wr) (fun _ i _ => n - (intOf i).toNat)
        case atStart => exact ⟨0, Nat.zero_le _, rfl, OwnK.nil _ _ _, Ext.refl _⟩
        case round =>
          obtain ⟨j, hj, rfl, hos, hxj⟩ := hrel
          have hxw := hx1.trans (hx.trans hxj)
          by_cases hlj : j < n
          · have hji : (j : Int) < (n : Int) := by omega
            obtain ⟨b, off, s, rfl, hsj, hb, p0, p1⟩ := (hr.ext hxw).snd hlj
            have hsu := partTo_succ (p := p) hsj.out
            have hlen := partTo_len xs p j
            have hbit := bit_i64 p j (by omega)
            replace hsj := Lib.hid hsj.out
            cases htb : p.testBit j
            · rw [htb, if_neg (by simp)] at hsu
              rw [htb, if_neg (by simp)] at hbit
              rw [← hsu] at hos
              replace hsu := Lib.hid hsu
              replace htb := Lib.hid htb
              go_wp2_with fail
              (first | exact ⟨⟨j + 1, by omega, by go_num, hos, hxj⟩, (by simp [intOf]; omega)⟩ | (go_roundw; case rel => exact ⟨j + 1, by omega, by go_num, hos, hxj⟩; case measure => exact (by simp [intOf]; omega)))
            · rw [htb, if_pos rfl] at hsu
              rw [htb, if_pos rfl] at hbit
              replace hsu := Lib.hid hsu
              replace htb := Lib.hid htb
              go_wp2_with (at_builtin; refine wp_app1 wo wr s rfl _ _ 22 rfl 27 Tryd.underlying22 info_snd rfl (by decide) _ _ rfl hos hxj (by first | rfl | (rw [World.size_alloc]; rfl)) (Snd.len _) (Snd.one _) (by omega) (by unfold maxLen; omega) ?_; intro v5 w5 o5 x5 hgA)
              (first | exact ⟨⟨j + 1, by omega, by go_num, by rw [hsu.out]; exact o5, x5⟩, (by simp [intOf]; omega)⟩ | (go_roundw; case rel => exact ⟨j + 1, by omega, by go_num, by rw [hsu.out]; exact o5, x5⟩; case measure => exact (by simp [intOf]; omega)))
          · have hjn : j = n := by omega
            have hpart : partTo xs p j = partS xs p := by unfold partS; rw [hl.out, hjn]
            rw [hpart] at hos
            have hpl := partTo_len xs p n
            have hpl : (partS xs p).length ≤ 12 := by
              have : partS xs p = partTo xs p n := by unfold partS; rw [hl.out]
              rw [this]; omega
            have hpp : 0 < (partS xs p).length := List.length_pos_iff.2 hsne.out
            have hcm := fun (a2 : Option Addr) (n2 c2 : Nat) W (h : RdS W a2 n2 c2 (partS xs p)) (h2 : 0 < n2) => rcommon_any a2 n2 c2 (partS xs p) W h h2 fun x hx => by obtain ⟨i, h1, _⟩ := mem_partS.1 hx; exact hok.out x (List.mem_of_getElem? h1)
            have hmem := fun W (h : RdS W a n cap xs) => rmembers_any a n cap xs (condP xs p) W h (by omega) hok.out hcok
            unfold RetI at hmem
            unfold condP at hmem hclm
            have hlenF := hF.out.len
            have hdl := dif_le (clsL xs) q
            have hFl : F.length ≤ 4096 := by have := hpq.out; omega
            generalize comS (partS xs p) = C at *
            obtain ⟨a2, n2, c2, hn2, rfl, hr2⟩ := OwnK.rdn Snd.len hos
            have hn2p : 0 < n2 := by omega
            have hcm := fun W (h : RdS W a2 n2 c2 (partS xs p)) => hcm a2 n2 c2 W h hn2p
            generalize partS xs p = PS at *
            generalize memL xs C = L at *
            replace hpart := Lib.hid hpart
            replace hjn := Lib.hid hjn
            replace hn2 := Lib.hid hn2
            replace hlenF := Lib.hid hlenF
            replace hdl := Lib.hid hdl
            clear hos hpl hpp
            go_wp2_with fail
            refine (hcm _ hr2).mono ?_
            rintro e w3 ⟨rfl, hx3⟩
            clear hcm
            have hxw := hxw.trans hx3
            have hxj := hxj.trans hx3
            go_wp2_with fail
            refine (hmem _ (hr.ext hxw)).mono ?_
            rintro e w4 ⟨v4, rfl, hownL, hx4⟩
            clear hmem
            have hxw := hxw.trans hx4
            have hx14 := hx.trans (hxj.trans hx4)
            have hown4 := (hown.kept hxj).kept hx4
            have hownL := OwnK.base hownL (show w1.heap.size ≤ w3.heap.size from (hx.trans hxj).le)
            obtain ⟨aL, nL, cL, hnL, rfl, hrL⟩ := OwnK.rdn I64.len hownL
            obtain ⟨aF, nF, cF, hnF, rfl, hmF, hatF⟩ := hown4.at
            have hmF : nF ≤ 9223372036854775807 := by unfold maxLen at hmF; omega
            replace hnL := Lib.hid hnL
            replace hnF := Lib.hid hnF
            clear hx hxj hx3 hx4 hown
            go_wp2_with fail
            go_loopw [10, 11] (fun kv i wr => ∃ (j : Nat) (kb : Bool), j ≤ nF ∧ i = .int .i64 j ∧ kv = .bool kb ∧ Hid (kb = true → L ∈ F) ∧ Hid (kb = false → ∀ (i : Nat) (y : List Int), i < j → F[i]? = some y → decide (y ≠ L) = true) ∧ Ext w4 wr) (fun _ i _ => nF - (intOf i).toNat)
            case atStart => exact ⟨0, false, Nat.zero_le _, rfl, rfl, Lib.hid (fun h => by cases h), Lib.hid (fun _ i y h => absurd h (Nat.not_lt_zero _)), Ext.refl _⟩
            case round =>
              obtain ⟨g, kb, hg, rfl, rfl, hk1, hk2, hxg⟩ := hrel
              cases kb
              · by_cases hlg : g < nF
                · have hgi : (g : Int) < (nF : Int) := by omega
                  obtain ⟨bF, oF, ar, nr, cr, y, rfl, hyF, hbF, hcF, hrF⟩ := hatF g hlg
                  have hcF := hxg.cellv hcF
                  have hcall := requal_any ar nr cr y aL nL cL L wr (hrF.ext hxg) (hrL.ext hxg)
                  by_cases he : y = L
                  · have hd : decide (y = L) = true := by simpa using he
                    rw [hd] at hcall
                    have hm : Hid (L ∈ F) := Lib.hid (he ▸ List.mem_of_getElem? hyF.out)
                    replace he := Lib.hid he
                    clear hd
                    go_wp2_with fail
                    refine hcall.mono ?_
                    rintro e w5 ⟨rfl, hx5⟩
                    clear hcall
                    go_wp2_with fail
                    (first | exact ⟨⟨g + 1, true, by omega, by go_num, rfl, Lib.hid (fun _ => hm.out), Lib.hid (fun h => by cases h), hxg.trans hx5⟩, (by simp [intOf]; omega)⟩ | (go_roundw; case rel => exact ⟨g + 1, true, by omega, by go_num, rfl, Lib.hid (fun _ => hm.out), Lib.hid (fun h => by cases h), hxg.trans hx5⟩; case measure => exact (by simp [intOf]; omega)))
                  · have hd : decide (y = L) = false := by simpa using he
                    rw [hd] at hcall
                    have hk3 := Lib.hid (all_succ (p := fun y => decide (y ≠ L)) (hk2.out rfl) hyF.out (by simpa using he))
                    replace he := Lib.hid he
                    clear hd
                    go_wp2_with fail
                    refine hcall.mono ?_
                    rintro e w5 ⟨rfl, hx5⟩
                    clear hcall
                    go_wp2_with fail
                    (first | exact ⟨⟨g + 1, false, by omega, by go_num, rfl, Lib.hid (fun h => by cases h), Lib.hid (fun _ => hk3.out), hxg.trans hx5⟩, (by simp [intOf]; omega)⟩ | (go_roundw; case rel => exact ⟨g + 1, false, by omega, by go_num, rfl, Lib.hid (fun h => by cases h), Lib.hid (fun _ => hk3.out), hxg.trans hx5⟩; case measure => exact (by simp [intOf]; omega)))
                · have hnm : L ∉ F := fun hm => by
                    obtain ⟨i, hi⟩ := List.getElem?_of_mem hm
                    have := hk2.out rfl i L (by have := (List.getElem?_eq_some_iff.1 hi).1; have := hnF.out; omega) hi
                    simp at this
                  have hF2 := Lib.hid (Fnd.new hF.out hclm.out hnm)
                  replace hnm := Lib.hid hnm
                  go_wp2_with (at_builtin; refine wp_appRow w1 wr aL nL cL L rfl _ _ 91 rfl 28 3 Tryd.underlying91 info_row (by decide) (.slice aF nF cF) F rfl (hown4.kept hxg) (hx14.trans hxg) rfl (hownL.kept hxg) (by omega) ?_; intro v6 w6 o6 x6)
                  (first | exact ⟨⟨p + 1, q + 1, F ++ [L], Lib.hid (by have := hpq.out; omega), by omega, by go_num, hF2, o6, x6⟩, (by simp [intOf]; omega)⟩ | (go_roundw; case rel => exact ⟨p + 1, q + 1, F ++ [L], Lib.hid (by have := hpq.out; omega), by omega, by go_num, hF2, o6, x6⟩; case measure => exact (by simp [intOf]; omega)))
              · have hF2 := Lib.hid (Fnd.old hF.out hclm.out (hk1.out rfl))
                by_cases hlg : g < nF
                · have hgi : (g : Int) < (nF : Int) := by omega
                  go_wp2_with fail
                  (first | exact ⟨⟨p + 1, q + 1, F, Lib.hid (by have := hpq.out; omega), by omega, by go_num, hF2, hown4.kept hxg, hx14.trans hxg⟩, (by simp [intOf]; omega)⟩ | (go_roundw; case rel => exact ⟨p + 1, q + 1, F, Lib.hid (by have := hpq.out; omega), by omega, by go_num, hF2, hown4.kept hxg, hx14.trans hxg⟩; case measure => exact (by simp [intOf]; omega)))
                · go_wp2_with fail
                  (first | exact ⟨⟨p + 1, q + 1, F, Lib.hid (by have := hpq.out; omega), by omega, by go_num, hF2, hown4.kept hxg, hx14.trans hxg⟩, (by simp [intOf]; omega)⟩ | (go_roundw; case rel => exact ⟨p + 1, q + 1, F, Lib.hid (by have := hpq.out; omega), by omega, by go_num, hF2, hown4.kept hxg, hx14.trans hxg⟩; case measure => exact (by simp [intOf]; omega)))
      · have hpN : p = N := by omega
        obtain ⟨aF, nF, cF, hnF, rfl, hmF, hatF⟩ := hown.at
        have hmF : nF ≤ 9223372036854775807 := by unfold maxLen at hmF; omega
        have hfin : Hid (cntV xs = (nF : Nat)) := Lib.hid (by
          rw [hV.out, hnF, hF.out.len]; unfold countN
          rw [hl.out, ← hN.out, show N - 1 = q by have := hpq.out; omega])
        replace hpN := Lib.hid hpN
        replace hnF := Lib.hid hnF
        go_wp2_with fail
        go_ret2
        exact ⟨by rw [hfin.out, hc.out]; rfl, hx1.trans hx⟩
  · have hV : cntV xs = 0 := by unfold cntV; rw [if_neg hc]
    have hd : (chkI 12 xs != 0) = true := by simpa using hc
    unfold RetCn
    rw [hV]
    generalize chkI 12 xs = E at *
    replace hc := Lib.hid hc
    replace hV := Lib.hid hV
    go_enter Tryd.func30, Tryd.ntmps30
    go_wp2_with fail
    refine hck.mono ?_
    rintro e w1 ⟨rfl, hx1⟩
    clear hck
    go_wp2_with fail
    go_ret2
    exact ⟨rfl, hx1⟩
end Go.Proofs.YtbnbfdbliokcaaaDoor
