/-
  NaturalCloses, walked.
-/
import Derived.Test.YtbnbfdbliokcaaaDoorJD
namespace Go.Proofs.YtbnbfdbliokcaaaDoor
open Go.RowKit
def maskB (n : Nat) : BitVec 32 := BitVec.ofNat 32 (2 ^ n - 1)
theorem maskB_val {n : Nat} (hn : n ≤ 24) : ((2 : Int) ^ n - 1) % 4294967296 = ((maskB n).toNat : Int) := by
  have h1 : 2 ^ n ≤ 2 ^ 24 := Nat.pow_le_pow_right (by decide) hn
  have h0 : 1 ≤ 2 ^ n := Nat.one_le_two_pow
  have h2 : ((2 ^ n : Nat) : Int) = (2 : Int) ^ n := by simp
  unfold maskB
  rw [BitVec.toNat_ofNat, ← h2]
  omega
theorem maskB_bit {z : BitVec 32} {n i : Nat} (h : (z &&& maskB n).getLsbD i = true) : i < n ∧ z.getLsbD i = true := by
  rw [BitVec.getLsbD_and, Bool.and_eq_true] at h
  refine ⟨?_, h.1⟩
  have h2 := h.2
  unfold maskB at h2
  rw [BitVec.getLsbD_ofNat, Nat.testBit_two_pow_sub_one, Bool.and_eq_true] at h2
  exact of_decide_eq_true h2.2
theorem bit_of_ne {D : BitVec 32} (hD : D ≠ 0#32) : ∃ i, D.getLsbD i = true := by
  false_or_by_contra
  rename_i hn
  apply hD
  apply BitVec.eq_of_getLsbD_eq
  intro i hi
  cases e : D.getLsbD i with
  | false => simp
  | true => exact absurd ⟨i, e⟩ hn
set_option maxHeartbeats 4000000 in
set_option maxRecDepth 20000 in
theorem naturalCloses_any (a : Option Addr) (n cap : Nat) (ps : List P8) (z1 z2 : BitVec 32) (w : World) (hr0 : RdK 2 P8.enc w a n cap ps) (hT : TabOk w) (hT2 : Tab64 w) :
    Calls Tryd.prog 10 #[.slice a n cap, .int .u32 z1.toNat, .int .u32 z2.toNat] w fun e w' => e = .returned (.bool true) ∧ Ext w w' := by
  go_enter Tryd.func10, Tryd.ntmps10
  go_wp2_with fail
  refine (different_any a n cap ps w hr0).mono ?_
  rintro e w1 ⟨v1, xs, rfl, hown1, hD, _, hx⟩
  obtain ⟨a1, n1, c1, hn1, rfl, hr⟩ := OwnK.rdn Snd.len hown1
  have hl := hr.len
  have hn : n1 ≤ 24 := by rw [hn1]; exact hD.len
  have hck : chkI 256 xs = 0 := hD.chk (by have := hD.len; omega)
  replace hD := Lib.hid hD
  replace hn1 := Lib.hid hn1
  replace hl := Lib.hid hl
  replace hck := Lib.hid hck
  clear hown1
  by_cases h0 : n1 = 0
  · subst h0
    go_wp2_with fail
    refine (works_any _ (hT.ext hx) (hT2.ext hx)).mono ?_
    rintro e wz ⟨rfl, hxz⟩
    go_wp2_with fail
    go_ret
    exact ⟨rfl, (hx).trans hxz⟩
  · have h0d : ((n1 : Int) == 0) = false := by rw [Bool.eq_false_iff]; intro h; have := beq_iff_eq.1 h; omega
    have hand : bits .and .u32 (z1.toNat : Int) (((2 : Int) ^ n1 - 1) % 4294967296) = ((z1 &&& maskB n1).toNat : Int) := by rw [maskB_val hn]; exact bits_and_u32 z1 (maskB n1)
    have hbits : z1 &&& maskB n1 ≠ 0#32 → ∃ i, i < xs.length ∧ (z1 &&& maskB n1).getLsbD i = true := fun h => by
      obtain ⟨i, hi⟩ := bit_of_ne h
      exact ⟨i, by rw [hl.out]; exact (maskB_bit hi).1, hi⟩
    generalize z1 &&& maskB n1 = B at *
    have hxne : xs ≠ [] := fun e => h0 (by rw [hn1.out, e]; rfl)
    have hXs := partB_mem (xs := xs) (B := B) (k := n1) (by rw [hl.out]; exact Nat.le_refl _)
    have hXne : partB xs B n1 ≠ [] := by have := partB_ne (B := B) hxne; rwa [hl.out] at this
    have hYs := partB_mem (xs := xs) (B := B ||| z2) (k := n1) (by rw [hl.out]; exact Nat.le_refl _)
    have hYne : partB xs (B ||| z2) n1 ≠ [] := by have := partB_ne (B := B ||| z2) hxne; rwa [hl.out] at this
    have hXY : B ≠ 0#32 → ∀ x ∈ partB xs B n1, x ∈ partB xs (B ||| z2) n1 := fun h => by
      have := partB_or (C := z2) (hbits h)
      rwa [hl.out] at this
    have hpX := fun W (h : RdS W a1 n1 c1 xs) => part_any a1 n1 c1 xs B W h hn
    have hpY := fun W (h : RdS W a1 n1 c1 xs) => part_any a1 n1 c1 xs (B ||| z2) W h hn
    have hor := or_nat B z2
    generalize partB xs B n1 = X at *
    generalize partB xs (B ||| z2) n1 = Y at *
    generalize B ||| z2 = BC at *
    have hXE := closE_of hck.out hXne hXs
    have hYE := closE_of hck.out hYne hYs
    have hXc := (cl_good hXE).1
    have hXl := (cl_good hXE).2
    have hYc := (cl_good hYE).1
    have hYl := (cl_good hYE).2
    have hCok : (comS X).ok = true := comS_ok hXne fun x hx => hD.out.ok x (hXs x hx)
    have hGok : (comS Y).ok = true := comS_ok hYne fun x hx => hD.out.ok x (hYs x hx)
    have hKne : clsS xs (comS X) ≠ [] := fun e => by
      cases X with
      | nil => exact hXne rfl
      | cons x l => have := sub_cls hXs x (List.mem_cons_self ..); rw [e] at this; cases this
    have hKs : ∀ s ∈ clsS xs (comS X), s ∈ xs := fun s hs => (mem_cls.1 hs).1
    have hKE := closE_of hck.out hKne hKs
    have hKc := (cl_good hKE).1
    have hKl := (cl_good hKE).2
    rw [com_cls hXne hXs] at hKc hKl
    have hjust := just_cls hck.out hXne hXs
    have hsel : selE xs (comS X) = 0 := by unfold selE; rw [if_pos hck.out, if_pos hCok]
    have hselL : selL xs (comS X) = memL xs (comS X) := by unfold selL; rw [if_pos hsel]
    have hclX := fun W aX nX cX (h : RdS W a1 n1 c1 xs) (h2 : RdS W aX nX cX X) => closure_any a1 n1 c1 xs aX nX cX X W h h2
    have hclY := fun W aX nX cX (h : RdS W a1 n1 c1 xs) (h2 : RdS W aX nX cX Y) => closure_any a1 n1 c1 xs aX nX cX Y W h h2
    have hclK := fun W aX nX cX (h : RdS W a1 n1 c1 xs) (h2 : RdS W aX nX cX (clsS xs (comS X))) => closure_any a1 n1 c1 xs aX nX cX _ W h h2
    have hisK := fun W aX nX cX (h : RdS W a1 n1 c1 xs) (h2 : RdS W aX nX cX (clsS xs (comS X))) => is_any a1 n1 c1 xs aX nX cX _ W h h2
    have hslK := fun W (h : RdS W a1 n1 c1 xs) => select_any a1 n1 c1 xs (comS X) W h
    unfold RetC at hclX hclY hclK
    unfold RetIs at hisK
    unfold RetSl at hslK
    rw [hXc, hXl, hXE] at hclX
    rw [hYc, hYl, hYE] at hclY
    rw [hKc, hKl, hKE] at hclK
    rw [hjust, hKE] at hisK
    rw [hsel, hselL] at hslK
    have hatX := fun W b m c (h : RdS W a1 n1 c1 xs) (h2 : RdI W b m c (memL xs (comS X))) => at_any a1 n1 c1 xs b m c (memN xs (comS X) xs.length) W h (by rw [← memL_N]; exact h2) hn (memN_sorted _ _ _) (fun k hk => by have := memN_lt _ _ _ k hk; rwa [hl.out] at this)
    have hatY := fun W b m c (h : RdS W a1 n1 c1 xs) (h2 : RdI W b m c (memL xs (comS Y))) => at_any a1 n1 c1 xs b m c (memN xs (comS Y) xs.length) W h (by rw [← memL_N]; exact h2) hn (memN_sorted _ _ _) (fun k hk => by have := memN_lt _ _ _ k hk; rwa [hl.out] at this)
    simp only [memN_cls] at hatX hatY
    have hsatX : ∀ x ∈ X, satB x (comS X) = true := fun x hx => sat_com hx
    have hsatK : B ≠ 0#32 → ∀ s ∈ clsS xs (comS X), satB s (comS Y) = true := fun h s hs => com_anti hXne (hXY h) (mem_cls.1 hs).2
    have hlenK : B ≠ 0#32 → (clsS xs (comS X)).length ≤ (clsS xs (comS Y)).length := fun h => by
      unfold clsS
      rw [← List.countP_eq_length_filter, ← List.countP_eq_length_filter]
      exact List.countP_mono_left fun s _ hs => com_anti hXne (hXY h) hs
    have hXok : ∀ x ∈ X, x.ok = true := fun x hx => hD.out.ok x (hXs x hx)
    have hKok : ∀ x ∈ clsS xs (comS X), x.ok = true := fun x hx => hD.out.ok x (hKs x hx)
    clear hXE hYE hXc hXl hYc hYl hKE hKc hKl hjust hsel hselL hXne hYne hXs hYs hXY hKne hKs hbits hxne
    generalize memL xs (comS X) = ML at *
    generalize memL xs (comS Y) = MG at *
    generalize clsS xs (comS X) = K at *
    generalize clsS xs (comS Y) = KG at *
    generalize comS X = C at *
    generalize comS Y = G at *
    replace hsatX := Lib.hid hsatX
    replace hsatK := Lib.hid hsatK
    replace hlenK := Lib.hid hlenK
    replace hXok := Lib.hid hXok
    replace hKok := Lib.hid hKok
    go_wp2_with fail
    refine (hpX _ hr).mono ?_
    rintro e w2 ⟨v2, rfl, hown2, hx2⟩
    obtain ⟨aX, nX, cX, hnX, rfl, hX⟩ := OwnK.rdn Snd.len hown2
    have hx := hx.trans hx2
    have hr := hr.ext hx2
    replace hnX := Lib.hid hnX
    clear hx2 hown2
    go_wp2_with fail
    refine (hclX _ _ _ _ hr hX).mono ?_
    rintro e w3 ⟨v3, rfl, hown3, hx3⟩
    obtain ⟨aM, nM, cM, hnM, rfl, hM⟩ := OwnK.rdn I64.len hown3
    replace hnM := Lib.hid hnM
    have hxA := hx3.trans (Ext.alloc1 w3 (.cells #[.int .u32 C.p.toNat, .int .u32 C.m.toNat] 27))
    have hM := hM.ext (Ext.alloc1 w3 (.cells #[.int .u32 C.p.toNat, .int .u32 C.m.toNat] 27))
    have qC := SndB.new w3 C
    have hx := hx.trans hxA
    have hr := hr.ext hxA
    clear hown3 hxA hx3
    go_wp2_with fail
    generalize w3.heap.size = gC at *
    generalize (w3.alloc (.cells #[.int .u32 C.p.toNat, .int .u32 C.m.toNat] 27)) = wA at *
    refine (hpY _ hr).mono ?_
    rintro e w4 ⟨v4, rfl, hown4, hx4⟩
    obtain ⟨aY, nY, cY, hnY, rfl, hY⟩ := OwnK.rdn Snd.len hown4
    have hx := hx.trans hx4
    have hr := hr.ext hx4
    have hM := hM.ext hx4
    have qC := qC.ext hx4
    replace hnY := Lib.hid hnY
    clear hx4 hown4
    go_wp2_with fail
    refine (hclY _ _ _ _ hr hY).mono ?_
    rintro e w5 ⟨v5, rfl, hown5, hx5⟩
    obtain ⟨aN, nN, cN, hnN, rfl, hN⟩ := OwnK.rdn I64.len hown5
    replace hnN := Lib.hid hnN
    have hxA := hx5.trans (Ext.alloc1 w5 (.cells #[.int .u32 G.p.toNat, .int .u32 G.m.toNat] 27))
    have hN := hN.ext (Ext.alloc1 w5 (.cells #[.int .u32 G.p.toNat, .int .u32 G.m.toNat] 27))
    have qG := SndB.new w5 G
    have hx := hx.trans hxA
    have hr := hr.ext hxA
    have hM := hM.ext hxA
    have qC := qC.ext hxA
    clear hown5 hxA hx5 hY
    go_wp2_with fail
    generalize w5.heap.size = gG at *
    generalize (w5.alloc (.cells #[.int .u32 G.p.toNat, .int .u32 G.m.toNat] 27)) = wB at *
    refine (hatX _ _ _ _ hr hM).mono ?_
    rintro e w6 ⟨v6, rfl, hown6, hx6⟩
    obtain ⟨aK, nK, cK, hnK, rfl, hK⟩ := OwnK.rdn Snd.len hown6
    replace hnK := Lib.hid hnK
    have hx := hx.trans hx6
    have hr := hr.ext hx6
    have hM := hM.ext hx6
    have hN := hN.ext hx6
    have qC := qC.ext hx6
    have qG := qG.ext hx6
    clear hx6 hown6
    go_wp2_with fail
    refine (hatY _ _ _ _ hr hN).mono ?_
    rintro e w7 ⟨v7, rfl, hown7, hx7⟩
    obtain ⟨aL, nL, cL, hnL, rfl, hL⟩ := OwnK.rdn Snd.len hown7
    replace hnL := Lib.hid hnL
    have hx := hx.trans hx7
    have hr := hr.ext hx7
    have hM := hM.ext hx7
    have hK := hK.ext hx7
    have qC := qC.ext hx7
    have qG := qG.ext hx7
    clear hx7 hown7 hN hL
    go_wp2_with fail
    refine (hclK _ _ _ _ hr hK).mono ?_
    rintro e w8 ⟨v8, rfl, hown8, hx8⟩
    obtain ⟨aQ, nQ, cQ, hnQ, rfl, hQ⟩ := OwnK.rdn I64.len hown8
    replace hnQ := Lib.hid hnQ
    have hxA := hx8.trans (Ext.alloc1 w8 (.cells #[.int .u32 C.p.toNat, .int .u32 C.m.toNat] 27))
    have hQ := hQ.ext (Ext.alloc1 w8 (.cells #[.int .u32 C.p.toNat, .int .u32 C.m.toNat] 27))
    have qD := SndB.new w8 C
    have hx := hx.trans hxA
    have hr := hr.ext hxA
    have hM := hM.ext hxA
    have hK := hK.ext hxA
    have qC := qC.ext hxA
    have qG := qG.ext hxA
    clear hown8 hxA hx8
    go_wp2_with fail
    generalize w8.heap.size = gD at *
    generalize (w8.alloc (.cells #[.int .u32 C.p.toNat, .int .u32 C.m.toNat] 27)) = wC at *
    refine (hisK _ _ _ _ hr hK).mono ?_
    rintro e w9 ⟨rfl, hx9⟩
    have hx := hx.trans hx9
    have hr := hr.ext hx9
    have hM := hM.ext hx9
    have hK := hK.ext hx9
    have hQ := hQ.ext hx9
    have qC := qC.ext hx9
    have qD := qD.ext hx9
    have qG := qG.ext hx9
    clear hx9
    obtain ⟨k0, k1⟩ := qC.cells
    go_wp2_with fail
    refine (hslK _ hr).mono ?_
    rintro e wD ⟨vS, rfl, hownS, hxS⟩
    obtain ⟨aS, nS, cS, hnS, rfl, hS⟩ := OwnK.rdn I64.len hownS
    replace hnS := Lib.hid hnS
    have hx := hx.trans hxS
    have hr := hr.ext hxS
    have hM := hM.ext hxS
    have hK := hK.ext hxS
    have hQ := hQ.ext hxS
    have qC := qC.ext hxS
    have qD := qD.ext hxS
    have qG := qG.ext hxS
    clear hxS hownS k0 k1
    obtain ⟨k0, k1⟩ := qC.cells
    obtain ⟨m0, m1⟩ := qD.cells
    have hnq : ∀ W : World, (binOp .neq 27 (sndV C) (sndV C)).run Tryd.prog W = .ok (.bool false) W := fun W => by
      have h := neq_snd C C W
      rw [decide_eq_true rfl] at h; exact h
    have heq1 := lequal_any aQ nQ cQ ML aM nM cM ML _ hQ hM
    rw [decide_eq_true rfl] at heq1
    go_wp2_with fail
    refine heq1.mono ?_
    rintro e wE ⟨rfl, hxE⟩
    have hx := hx.trans hxE
    have hr := hr.ext hxE
    have hM := hM.ext hxE
    have hK := hK.ext hxE
    have hS := hS.ext hxE
    have qC := qC.ext hxE
    have qG := qG.ext hxE
    clear hxE heq1 hQ qD m0 m1 k0 k1 hnq
    have heq2 := lequal_any aS nS cS ML aM nM cM ML _ hS hM
    rw [decide_eq_true rfl] at heq2
    go_wp2_with fail
    refine heq2.mono ?_
    rintro e wF ⟨rfl, hxF⟩
    have hx := hx.trans hxF
    have hr := hr.ext hxF
    have hK := hK.ext hxF
    have qC := qC.ext hxF
    have qG := qG.ext hxF
    clear hxF heq2 hS hM
    go_wp2_with fail
    refine (hpX _ hr).mono ?_
    rintro e wH ⟨vP, rfl, hownP, hxP⟩
    obtain ⟨aP, nP, cP, hnP, rfl, hP⟩ := OwnK.rdn Snd.len hownP
    replace hnP := Lib.hid hnP
    have hx := hx.trans hxP
    have hK := hK.ext hxP
    have qC := qC.ext hxP
    have qG := qG.ext hxP
    clear hxP hownP hr hpX hpY hclX hclY hclK hisK hslK hatX hatY
    go_wp2_with fail
    have hPm : nP ≤ 9223372036854775807 := by have := hP.le; have := hP.most; unfold maxLen at this; omega
    have hKm : nK ≤ 9223372036854775807 := by have := hK.le; have := hK.most; unfold maxLen at this; omega
    go_loopw [26] (fun iv wr => ∃ i : Nat, i ≤ nP ∧ iv = .int .i64 i ∧ Ext wH wr) (fun iv _ => nP - (intOf iv).toNat)
    case atStart => exact ⟨0, Nat.zero_le _, rfl, Ext.refl _⟩
    case round =>
      obtain ⟨i, hi, rfl, hxr⟩ := hrel
      obtain ⟨k0, k1⟩ := (qC.ext hxr).cells
      by_cases hlt : i < nP
      · have hki : (i : Int) < (nP : Int) := by omega
        obtain ⟨b, off, s, rfl, hs, hb, c0, c1⟩ := (hP.ext hxr).snd hlt
        have hsm := List.mem_of_getElem? hs.out
        have hst := fun W => sat_any s C W (hXok.out s hsm) hCok
        rw [hsatX.out s hsm] at hst
        have r0 := fun z : ExtOf wr => z.cell c0
        have r1 := fun z : ExtOf wr => z.cell c1
        have r2 := fun z : ExtOf wr => z.cell k0
        have r3 := fun z : ExtOf wr => z.cell k1
        replace hs := Lib.hid hs.out
        replace hsm := Lib.hid hsm
        go_wp2_with fail
        (refine wp_region_qx (by kernel_rfl) (by kernel_rfl) ?_
         repeat (go_big_quiet_step ((go_at_call 40; exact calls_ext (hst _))))
         refine wpQuiet_nil ?_
         intro wq hw'
         have hxq := ext_of_ex hw'
         clear hw')
        clear r0 r1 r2 r3 hst
        go_wp2_with fail
        (first | exact ⟨⟨i + 1, hlt, by go_num, hxr.trans hxq⟩, (by simp [intOf]; omega)⟩ | (go_roundw; case rel => exact ⟨i + 1, hlt, by go_num, hxr.trans hxq⟩; case measure => exact (by simp [intOf]; omega)))
      · have hx := hx.trans hxr
        have hK := hK.ext hxr
        have qG := qG.ext hxr
        have hin := Lib.hid (show i = nP by omega)
        clear hxr k0 k1
        rename World => wI
        go_wp2_with fail
        go_loopw [27] (fun iv wr => ∃ i : Nat, i ≤ nK ∧ iv = .int .i64 i ∧ Ext wI wr) (fun iv _ => nK - (intOf iv).toNat)
        case atStart => exact ⟨0, Nat.zero_le _, rfl, Ext.refl _⟩
        case round =>
          clear hi hin hlt
          obtain ⟨j, hj, rfl, hxr⟩ := hrel
          have hxf := hx.trans hxr
          by_cases hlt : j < nK
          · have hkj : (j : Int) < (nK : Int) := by omega
            by_cases hB : B = 0#32
            · have hb0 : ((B.toNat : Int) != 0) = false := by rw [u32_bne0, decide_eq_true hB]; rfl
              have hb1 : ((B.toNat : Int) == 0) = true := by rw [hB]; rfl
              replace hB := Lib.hid hB
              go_wp2_with fail
              refine (works_any _ (hT.ext hxf) (hT2.ext hxf)).mono ?_
              rintro e wz ⟨rfl, hxz⟩
              go_wp2_with fail
              go_ret
              exact ⟨rfl, (hxf).trans hxz⟩
            · have hb0 : ((B.toNat : Int) != 0) = true := by rw [u32_bne0, decide_eq_false hB]; rfl
              obtain ⟨k0, k1⟩ := (qG.ext hxr).cells
              obtain ⟨b, off, s, rfl, hs, hb, c0, c1⟩ := (hK.ext hxr).snd hlt
              have hsm := List.mem_of_getElem? hs.out
              have hst := fun W => sat_any s G W (hKok.out s hsm) hGok
              rw [hsatK.out hB s hsm] at hst
              have r0 := fun z : ExtOf wr => z.cell c0
              have r1 := fun z : ExtOf wr => z.cell c1
              have r2 := fun z : ExtOf wr => z.cell k0
              have r3 := fun z : ExtOf wr => z.cell k1
              replace hs := Lib.hid hs.out
              replace hsm := Lib.hid hsm
              replace hB := Lib.hid hB
              go_wp2_with fail
              (refine wp_region_qx (by kernel_rfl) (by kernel_rfl) ?_
               repeat (go_big_quiet_step ((go_at_call 40; exact calls_ext (hst _))))
               refine wpQuiet_nil ?_
               intro wq hw'
               have hxq := ext_of_ex hw'
               clear hw')
              clear r0 r1 r2 r3 hst
              go_wp2_with fail
              (first | exact ⟨⟨j + 1, hlt, by go_num, hxr.trans hxq⟩, (by simp [intOf]; omega)⟩ | (go_roundw; case rel => exact ⟨j + 1, hlt, by go_num, hxr.trans hxq⟩; case measure => exact (by simp [intOf]; omega)))
          · have hjn := Lib.hid (show j = nK by omega)
            by_cases hB : B = 0#32
            · have hb1 : ((B.toNat : Int) == 0) = true := by rw [hB]; rfl
              replace hB := Lib.hid hB
              go_wp2_with fail
              refine (works_any _ (hT.ext hxf) (hT2.ext hxf)).mono ?_
              rintro e wz ⟨rfl, hxz⟩
              go_wp2_with fail
              go_ret
              exact ⟨rfl, (hxf).trans hxz⟩
            · have hb1 : ((B.toNat : Int) == 0) = false := by
                rw [Bool.eq_false_iff]; intro h; exact hB (BitVec.eq_of_toNat_eq (by have := beq_iff_eq.1 h; simp; omega))
              have hlK := hlenK.out hB
              rw [← hnK.out, ← hnL.out] at hlK
              have hlK2 : (nK : Int) ≤ (nL : Int) := by omega
              replace hB := Lib.hid hB
              go_wp2_with fail
              refine (works_any _ (hT.ext hxf) (hT2.ext hxf)).mono ?_
              rintro e wz ⟨rfl, hxz⟩
              go_wp2_with fail
              go_ret
              exact ⟨rfl, (hxf).trans hxz⟩
end Go.Proofs.YtbnbfdbliokcaaaDoor
