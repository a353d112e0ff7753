/-
  The law CorrRows: the walk.
-/
import Derived.Test.YtkdancoffmhjhaaEh
namespace Go.Proofs.Ytkdancoffmhjhaa
open Go.RowKit Go.Shelf
theorem cellsE_zero {fs : List HF} {cs : List HI} (h : cellsE fs cs = 0) : chkM (wordsOf fs) cs = 0 ∧ cellsL fs cs = cs.map (fun c => rowF fs (rowM (wordsOf fs) c.x)) := by
  refine ⟨?_, by unfold cellsL; rw [if_pos h]⟩
  unfold cellsE at h
  split at h
  · rename_i h1; exact absurd h h1
  · exact h
theorem atOf_le (fs : List HF) (C : List (List Int)) (f : HF) (i k : Nat) : atOf fs C f i k ≤ k := by
  unfold atOf; split
  · exact cntG_le _ _ _
  · exact Nat.zero_le _
set_option maxHeartbeats 4000000 in
set_option maxRecDepth 20000 in
theorem corrRows_any (g : ByteArray) (a : Option Addr) (n cap : Nat) (fs : List HF) (b : Option Addr) (m cap2 : Nat) (cs : List HI) (w : World) (hr : RdF w a n cap fs) (hs : RdN2 w b m cap2 cs) :
    Calls Try.prog 14 #[.agg #[.string g, .slice a n cap], .slice b m cap2] w fun e w' => e = .returned (.bool true) ∧ Ext w w' := by
  have hmax : n ≤ 9223372036854775807 := by have := hr.rd.le; have := hr.rd.most; unfold maxLen at this; omega
  have q0 : (w.alloc (.cells #[.string g, .slice a n cap] 60)).cell? ⟨w.heap.size, 0, none⟩ = some (.string g) := by go_simp
  have q1 : (w.alloc (.cells #[.string g, .slice a n cap] 60)).cell? ⟨w.heap.size, 1, none⟩ = some (.slice a n cap) := by go_simp
  have hxB : Ext w (w.alloc (.cells #[.string g, .slice a n cap] 60)) := (by repeat (first | exact Ext.refl _ | refine Ext.drew ?_ | refine Ext.drewN ?_ _ | refine Ext.alloc ?_ _))
  have hl := hr.rd.len
  have hl2 := hs.rd.len
  by_cases h70 : n ≤ 70
  · have d70 : decide ((70 : Int) < (n : Int)) = false := by simp; omega
    have hA := fun W (z : Ext w W) => cells_any g a n cap fs b m cap2 cs W (hr.ext z) (hs.ext z)
    unfold CellsRet at hA
    by_cases hE : cellsE fs cs = 0
    · have hxl : ∀ y ∈ wordsOf fs, y.x.length = y.n := fun y hy => by
        obtain ⟨f, hf, rfl⟩ := List.mem_map.1 hy
        exact (hr.ok f (List.mem_filter.1 hf).1).len
      obtain ⟨hM, hL⟩ := cellsE_zero hE
      have hrow := fun (i k : Nat) (f : HF) (c : HI) (h1 : fs[i]? = some f) (h2 : cs[k]? = some c) => row_at hxl hM h1 h2
      have hend := fun (i : Nat) (f : HF) (h1 : fs[i]? = some f) (h2 : f.has = true) => row_end hxl hM h1 h2
      obtain ⟨_, _, _, hm256⟩ := chkM_zero hxl hM
      rw [hl2] at hm256
      rw [hE] at hA
      obtain ⟨C, hC⟩ : ∃ C, C = cs.map HI.x := ⟨_, rfl⟩
      rw [← hC] at hrow hend
      replace hrow := Lib.hid hrow
      replace hend := Lib.hid hend
      replace hL := Lib.hid hL
      replace hC := Lib.hid hC
      replace hl := Lib.hid hl
      replace hl2 := Lib.hid hl2
      replace hE := Lib.hid hE
      replace hM := Lib.hid hM
      clear hxl
      have hecl := neq_cl
      have hes := eql_snd
      have hns := neq_snd
      go_enter Try.func14, Try.ntmps14
      go_wp2_with fail
      generalize (w.alloc (.cells #[.string g, .slice a n cap] 60)) = wB at *
      refine (hA _ hxB).mono ?_
      rintro e w1 ⟨v1, hs1, rfl, ho1, hk1, hx1⟩
      obtain ⟨a1, n1, c1, hn1, rfl, hr1⟩ := OwnK.rdn HW.len ho1.own
      have hR1 : RdHW w1 a1 n1 c1 hs1 := ⟨hr1, fun h hh => OwnK.rdv Cl.len (ho1.ok h hh)⟩
      have hnm : n1 = m := by
        have h1 := congrArg List.length hk1
        rw [hL.out, List.length_map, List.length_map, hl2.out] at h1; omega
      subst hnm
      have hrow2 : ∀ (k : Nat) (y : HW), hs1[k]? = some y → ∃ c, cs[k]? = some c ∧ y.x = rowF fs (rowM (wordsOf fs) c.x) := fun k y hy => by
        have h1 : (hs1.map HW.x)[k]? = some y.x := by rw [List.getElem?_map, hy]; rfl
        rw [hk1, hL.out, List.getElem?_map] at h1
        cases hc : cs[k]? with
        | none => rw [hc] at h1; cases h1
        | some c => rw [hc] at h1; exact ⟨c, rfl, (Option.some.inj h1).symm⟩
      have hxw1 := hxB.trans hx1
      have s1 := hx1.cellv q1
      have hl0 := cell_lt s1
      simp only at hl0
      have hmm : ((n1 : Int) != (n1 : Int)) = false := by simp
      replace hrow2 := Lib.hid hrow2
      replace hk1 := Lib.hid hk1
      replace hn1 := Lib.hid hn1
      clear hA ho1 hr1 q0 q1
      go_wp2_with fail
      go_loopw [7] (fun i wr => ∃ j : Nat, j ≤ n ∧ i = .int .i64 j ∧ Ext w1 wr) (fun i _ => n - (intOf i).toNat)
      case atStart => exact ⟨0, Nat.zero_le _, rfl, Ext.refl _⟩
      case round =>
        obtain ⟨i, hi, rfl, hxr⟩ := hrel
        have s2 := hxr.cellv s1
        by_cases hin : i < n
        · have hii : (i : Int) < (n : Int) := by omega
          obtain ⟨b1, o1, ⟨fh, fa, fn, fc, fx⟩, rfl, hf, hb1, hc0, hc1, hcf⟩ := (hr.ext (hxw1.trans hxr)).at hin
          simp only at hc0 hc1 hcf
          have hfmax : fn ≤ 9223372036854775807 := by have := hcf.le; have := hcf.most; unfold maxLen at this; omega
          obtain ⟨f, hff⟩ : ∃ f, f = (⟨fh, fa, fn, fc, fx⟩ : HF) := ⟨_, rfl⟩
          rw [← hff] at hf
          have hfh : f.has = fh := by rw [hff]
          have hfn : f.n = fn := by rw [hff]
          have hfx : f.x = fx := by rw [hff]
          have hat0 : atOf fs C f i 0 = 0 := by unfold atOf; split <;> simp [cntG]
          replace hff := Lib.hid hff
          replace hat0 := Lib.hid hat0
          obtain ⟨wo, rfl⟩ : ∃ wo : World, wo = wr := ⟨_, rfl⟩
          go_wp2_with fail
          go_loopw [8, 9] (fun at' k wr => ∃ k' : Nat, k' ≤ n1 ∧ k = .int .i64 k' ∧ at' = .int .i64 (atOf fs C f i k') ∧ Ext wo wr) (fun _ k _ => n1 - (intOf k).toNat)
          case atStart => exact ⟨0, Nat.zero_le _, rfl, by rw [hat0.out]; rfl, Ext.refl _⟩
          case round =>
            obtain ⟨k, hk, rfl, rfl, hx4⟩ := hrel
            have hale := atOf_le fs C f i k
            have t1 := hx4.cellv s2
            have tc0 := hx4.cellv hc0
            have tc1 := hx4.cellv hc1
            by_cases hkn : k < n1
            · have hki : (k : Int) < (n1 : Int) := by omega
              obtain ⟨b3, o3, ⟨ya, yn, yc, yx⟩, rfl, hy, hb3, p0, hcy⟩ := (hR1.ext (hxr.trans hx4)).at hkn
              simp only at p0 hcy
              obtain ⟨c, hc, hyx⟩ := hrow2.out k _ hy.out
              simp only at hyx
              obtain ⟨r1, r2, r3⟩ := hrow.out i k f c hf.out hc
              rw [← hyx] at r1 r2 r3
              have hyn : yn = n := by rw [← hcy.len, r1, hl.out]
              subst hyn
              obtain ⟨b5, o5, x, rfl, hxx, hb5, x0, x1, x2⟩ := hcy.cl hin
              have hcC : C[k]? = some c.x := by rw [hC.out, List.getElem?_map, hc]; rfl
              have hsu := cntG_succ hcC (rk fs i)
              have u0 := fun z : ExtOf wr => z.cell p0
              have u1 := fun z : ExtOf wr => z.cell t1
              have hnn : ((yn : Int) != (yn : Int)) = false := by simp
              replace hyx := Lib.hid hyx
              replace r1 := Lib.hid r1
              cases fh
              · have hxn : x = noC := Option.some.inj (hxx.out.symm.trans (r2 hfh))
                subst hxn
                have hnew : atOf fs C f i (k + 1) = atOf fs C f i k := by unfold atOf; rw [if_neg (by rw [hfh]; simp), if_neg (by rw [hfh]; simp)]
                have hne : (!decide (noC = noC)) = false := by simp
                have hecl2 := fun W => neq_cl noC noC W
                rw [hne] at hecl2
                replace hnew := Lib.hid hnew
                replace r2 := Lib.hid r2
                replace r3 := Lib.hid r3
                replace hsu := Lib.hid hsu
                clear hecl hes hns
                simp only [noC] at x0 x1 x2 hecl2
                generalize atOf fs C f i k = A at *
                go_wp2_with fail
                refine wp_region_qx (by kernel_rfl) (by kernel_rfl) ?_
                repeat (go_big_quiet_step (fail))
                refine wpQuiet_nil ?_
                intro wq hw'
                have hxq := ext_of_ex hw'
                clear hw'
                have p0 := hxq.cellv p0
                have t1 := hxq.cellv t1
                have tc0 := hxq.cellv tc0
                have tc1 := hxq.cellv tc1
                have x0 := hxq.cellv x0
                have x1 := hxq.cellv x1
                have x2 := hxq.cellv x2
                have l1 := cell_lt t1
                have l2 := cell_lt tc0
                simp only at l1 l2
                clear u0 u1
                go_wp2_with fail
                (first | exact ⟨⟨k + 1, by omega, by go_num, by rw [hnew.out], (hx4.trans hxq).alloc _⟩, (by simp [intOf]; omega)⟩ | (go_roundw; case rel => exact ⟨k + 1, by omega, by go_num, by rw [hnew.out], (hx4.trans hxq).alloc _⟩; case measure => exact (by simp [intOf]; omega)))
              · rcases r3 hfh with ⟨e1, e2⟩ | ⟨e1, e2, s, e3, e4⟩
                · have hxn : x = ⟨1, ⟨0#32, 0#32⟩⟩ := Option.some.inj (hxx.out.symm.trans e2)
                  subst hxn
                  have hnew : atOf fs C f i (k + 1) = atOf fs C f i k := by unfold atOf; rw [if_pos hfh, if_pos hfh, hsu, if_pos e1]; rfl
                  have hes2 := fun W => eql_snd nulSnd nulSnd W
                  rw [decide_eq_true rfl] at hes2
                  simp only [nulSnd] at hes2
                  replace hnew := Lib.hid hnew
                  replace r2 := Lib.hid r2
                  replace r3 := Lib.hid r3
                  replace hsu := Lib.hid hsu
                  replace e1 := Lib.hid e1
                  replace e2 := Lib.hid e2
                  clear hecl hes hns
                  simp only at x0 x1 x2
                  generalize atOf fs C f i k = A at *
                  go_wp2_with fail
                  refine wp_region_qx (by kernel_rfl) (by kernel_rfl) ?_
                  repeat (go_big_quiet_step (fail))
                  refine wpQuiet_nil ?_
                  intro wq hw'
                  have hxq := ext_of_ex hw'
                  clear hw'
                  have p0 := hxq.cellv p0
                  have t1 := hxq.cellv t1
                  have tc0 := hxq.cellv tc0
                  have tc1 := hxq.cellv tc1
                  have x0 := hxq.cellv x0
                  have x1 := hxq.cellv x1
                  have x2 := hxq.cellv x2
                  have l1 := cell_lt t1
                  have l2 := cell_lt tc0
                  simp only at l1 l2
                  clear u0 u1
                  go_wp2_with fail
                  (first | exact ⟨⟨k + 1, by omega, by go_num, by rw [hnew.out], (hx4.trans hxq).alloc _⟩, (by simp [intOf]; omega)⟩ | (go_roundw; case rel => exact ⟨k + 1, by omega, by go_num, by rw [hnew.out], (hx4.trans hxq).alloc _⟩; case measure => exact (by simp [intOf]; omega)))
                · have hxn : x = ⟨2, s⟩ := Option.some.inj (hxx.out.symm.trans e4)
                  subst hxn
                  have hA0 : atOf fs C f i k = cntG (C.take k) (rk fs i) := by unfold atOf; rw [if_pos hfh]
                  have hnew : atOf fs C f i (k + 1) = atOf fs C f i k + 1 := by unfold atOf; rw [if_pos hfh, if_pos hfh, hsu, if_neg e1]
                  rw [← hA0] at e2 e3
                  rw [hfx] at e3
                  rw [hfn] at e2
                  obtain ⟨b6, o6, s', rfl, hs', hb6, g0, g1⟩ := (hcf.ext hx4).snd e2
                  obtain rfl : s = s' := Option.some.inj (e3.symm.trans hs')
                  have hns2 := fun W => neq_snd s s W
                  have hnd : (!decide (s = s)) = false := by simp
                  rw [hnd] at hns2
                  replace hnew := Lib.hid hnew
                  replace hA0 := Lib.hid hA0
                  replace r2 := Lib.hid r2
                  replace r3 := Lib.hid r3
                  replace hsu := Lib.hid hsu
                  replace e1 := Lib.hid e1
                  replace e3 := Lib.hid e3
                  replace e4 := Lib.hid e4
                  clear hecl hes hns hs'
                  simp only at x0 x1 x2
                  generalize atOf fs C f i k = A at *
                  have dA : decide ((fn : Int) ≤ (A : Int)) = false := by simp; omega
                  have dA2 : (A : Int) < (fn : Int) := by omega
                  have dA3 : decide (fn ≤ A) = false := by simp; omega
                  have dA4 : ¬ fn ≤ A := by omega
                  have hwA : IntKind.i64.wrap ((A : Int) + 1) = (A : Int) + 1 := IntWalk.i64_in _ (by omega)
                  go_wp2_with fail
                  refine wp_region_qx (by kernel_rfl) (by kernel_rfl) ?_
                  repeat (go_big_quiet_step (fail))
                  refine wpQuiet_nil ?_
                  intro wq hw'
                  have hxq := ext_of_ex hw'
                  clear hw'
                  have p0 := hxq.cellv p0
                  have t1 := hxq.cellv t1
                  have tc0 := hxq.cellv tc0
                  have tc1 := hxq.cellv tc1
                  have x0 := hxq.cellv x0
                  have x1 := hxq.cellv x1
                  have x2 := hxq.cellv x2
                  have l1 := cell_lt t1
                  have l2 := cell_lt tc0
                  simp only at l1 l2
                  clear u0 u1
                  have g0 := hxq.cellv g0
                  have g1 := hxq.cellv g1
                  have z0 : (wq.alloc (.cells #[.int .i64 2, .int .u32 s.p.toNat, .int .u32 s.m.toNat] 39)).cell? ⟨wq.heap.size, 0, none⟩ = some (.int .i64 2) := by go_simp
                  have z1 : (wq.alloc (.cells #[.int .i64 2, .int .u32 s.p.toNat, .int .u32 s.m.toNat] 39)).cell? ⟨wq.heap.size, 1, none⟩ = some (.int .u32 s.p.toNat) := by go_simp
                  have z2 : (wq.alloc (.cells #[.int .i64 2, .int .u32 s.p.toNat, .int .u32 s.m.toNat] 39)).cell? ⟨wq.heap.size, 2, none⟩ = some (.int .u32 s.m.toNat) := by go_simp
                  have hxD : Ext wq (wq.alloc (.cells #[.int .i64 2, .int .u32 s.p.toNat, .int .u32 s.m.toNat] 39)) := Ext.alloc1 _ _
                  have y1 := hxD.cellv t1
                  have yc1 := hxD.cellv tc1
                  have y0 := hxD.cellv g0
                  have y2 := hxD.cellv g1
                  have hxD2 := (hx4.trans hxq).trans hxD
                  go_wp2_with fail
                  generalize (wq.alloc (.cells #[.int .i64 2, .int .u32 s.p.toNat, .int .u32 s.m.toNat] 39)) = wD at *
                  clear t1 tc0 tc1 g0 g1 x0 x1 x2 p0
                  have r0 := fun z : ExtOf wD => z.cell z0
                  have r1 := fun z : ExtOf wD => z.cell z1
                  have r2 := fun z : ExtOf wD => z.cell z2
                  have r3 := fun z : ExtOf wD => z.cell y1
                  have r4 := fun z : ExtOf wD => z.cell yc1
                  have r5 := fun z : ExtOf wD => z.cell y0
                  have r6 := fun z : ExtOf wD => z.cell y2
                  refine wp_region_qx (by kernel_rfl) (by kernel_rfl) ?_
                  repeat (go_big_quiet_step (fail))
                  refine wpQuiet_nil ?_
                  intro wk hw'
                  have hxk := ext_of_ex hw'
                  clear hw' r0 r1 r2 r3 r4 r5 r6
                  go_wp2_with fail
                  (first | exact ⟨⟨k + 1, by omega, by go_num, by rw [hnew.out]; go_num, hxD2.trans hxk⟩, (by simp [intOf]; omega)⟩ | (go_roundw; case rel => exact ⟨k + 1, by omega, by go_num, by rw [hnew.out]; go_num, hxD2.trans hxk⟩; case measure => exact (by simp [intOf]; omega)))
            · obtain rfl : k = n1 := by omega
              have hxw := hxr.trans hx4
              cases fh
              · go_wp2_with fail
                (first | exact ⟨⟨i + 1, by omega, by go_num, hxw⟩, (by simp [intOf]; omega)⟩ | (go_roundw; case rel => exact ⟨i + 1, by omega, by go_num, hxw⟩; case measure => exact (by simp [intOf]; omega)))
              · have hA : atOf fs C f i k = fn := by
                  unfold atOf
                  rw [if_pos hfh, List.take_of_length_le (by rw [hC.out, List.length_map, hl2.out]; exact Nat.le_refl _), hend.out i f hf.out hfh, hfn]
                rw [hA]
                have dn : ((fn : Int) != (fn : Int)) = false := by simp
                replace hA := Lib.hid hA
                go_wp2_with fail
                (first | exact ⟨⟨i + 1, by omega, by go_num, hxw⟩, (by simp [intOf]; omega)⟩ | (go_roundw; case rel => exact ⟨i + 1, by omega, by go_num, hxw⟩; case measure => exact (by simp [intOf]; omega)))
        · have hxw := hxw1.trans hxr
          go_wp2_with fail
          refine (works_any _).mono ?_
          rintro e wz ⟨rfl, hxz⟩
          go_wp2_with fail
          go_ret
          exact ⟨rfl, (by repeat (first | exact Ext.refl _ | assumption | refine Ext.drew ?_ | refine Ext.drewN ?_ _ | refine Ext.alloc ?_ _ | refine Ext.trans ?_ (by assumption)))⟩
    · have hb0 : (cellsE fs cs != 0) = true := by simpa using hE
      have hL : cellsL fs cs = [] := by unfold cellsL; rw [if_neg hE]
      rw [hL] at hA
      generalize cellsE fs cs = E at *
      replace hE := Lib.hid hE
      replace hL := Lib.hid hL
      replace hl := Lib.hid hl
      replace hl2 := Lib.hid hl2
      go_enter Try.func14, Try.ntmps14
      go_wp2_with fail
      generalize (w.alloc (.cells #[.string g, .slice a n cap] 60)) = wB at *
      refine (hA _ hxB).mono ?_
      rintro e w1 ⟨v1, hs1, rfl, ho1, hk1, hx1⟩
      obtain ⟨a1, n1, c1, hn1, rfl, hr1⟩ := OwnK.rdn HW.len ho1.own
      have hn0 : n1 = 0 := by rw [hn1, List.map_eq_nil_iff.1 hk1]; rfl
      subst hn0
      have hxw1 := hxB.trans hx1
      replace hn1 := Lib.hid hn1
      replace hk1 := Lib.hid hk1
      clear hA ho1 hr1 q0 q1
      go_wp2_with fail
      refine (works_any _).mono ?_
      rintro e wz ⟨rfl, hxz⟩
      go_wp2_with fail
      go_ret
      exact ⟨rfl, (by repeat (first | exact Ext.refl _ | assumption | refine Ext.drew ?_ | refine Ext.drewN ?_ _ | refine Ext.alloc ?_ _ | refine Ext.trans ?_ (by assumption)))⟩
  · have d70 : decide ((70 : Int) < (n : Int)) = true := by simp; omega
    replace hl := Lib.hid hl
    replace hl2 := Lib.hid hl2
    go_enter Try.func14, Try.ntmps14
    go_wp2_with fail
    refine (works_any _).mono ?_
    rintro e wz ⟨rfl, hxz⟩
    go_wp2_with fail
    go_ret
    exact ⟨rfl, (by repeat (first | exact Ext.refl _ | assumption | refine Ext.drew ?_ | refine Ext.drewN ?_ _ | refine Ext.alloc ?_ _ | refine Ext.trans ?_ (by assumption)))⟩
end Go.Proofs.Ytkdancoffmhjhaa
