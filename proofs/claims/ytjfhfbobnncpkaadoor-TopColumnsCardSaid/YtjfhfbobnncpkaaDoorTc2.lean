/-
  The law TopColumns: the walk.
-/
import Derived.Test.YtjfhfbobnncpkaaDoorT9
namespace Go.Proofs.YtjfhfbobnncpkaaDoor
open Go.RowKit
/-- The rows that are collected. -/
def RowsI (N i : Nat) (A : List (List Cl)) : Prop := (∀ r ∈ A, r.length = N ∧ r.all Cl.ok = true) ∧ A.length ≤ 256 * i ∧ (0 < i → N ≤ 64)
set_option maxHeartbeats 8000000 in
set_option maxRecDepth 100000 in
theorem topColumns_any (la : Option Addr) (ln lc : Nat) (es : List HE) (ac : Option Addr) (nc cc : Nat) (ws : List Int) (gp : Int) (w : World) (hr : RdE w la ln lc es) (hc : RdI w ac nc cc ws) (hbd : ∀ y ∈ es, y.n ≤ 4398046511104) (hT : TabOk w) (hS : StepsOk w) :
    Calls Tryd.prog 3 #[.slice la ln lc, .agg #[.slice ac nc cc, .int .i64 gp]] w fun e w' => e = .returned (.bool true) ∧ Ext w w' := by
  have hl := hr.rd.len
  have hle := hr.rd.le
  replace hl := Lib.hid hl
  have hxb : Ext w (w.alloc (.cells #[.slice ac nc cc, .int .i64 gp] 25)) := (by repeat (first | exact Ext.refl _ | refine Ext.drew ?_ | refine Ext.drewN ?_ _ | refine Ext.alloc ?_ _))
  by_cases h6 : 6 < ln
  · have d6 : decide ((6 : Int) < (ln : Int)) = true := by simp; omega
    go_enter Tryd.func3, Tryd.ntmps3
    go_wp2_with fail
    refine (works20_any _).mono ?_
    rintro e wz ⟨rfl, hxz⟩
    go_wp2_with fail
    go_ret
    exact ⟨rfl, hxb.trans hxz⟩
  · have d6 : decide ((6 : Int) < (ln : Int)) = false := by simp; omega
    by_cases h0 : ln = 0
    · subst h0
      go_enter Tryd.func3, Tryd.ntmps3
      go_wp2_with fail
      refine (works20_any _).mono ?_
      rintro e wz ⟨rfl, hxz⟩
      go_wp2_with fail
      go_ret
      exact ⟨rfl, hxb.trans hxz⟩
    · have d0 : ((ln : Int) == 0) = false := by simp; omega
      have hlpos : 0 < ln := by omega
      have hlnb : (ln : Int) ≤ 6 := by omega
      obtain ⟨b, off, ⟨g0, a0, N, cap0, fs0⟩, rfl, hy0, hbl, _, c0, hrF0⟩ := hr.at hlpos
      simp only at c0 hrF0
      rw [Nat.zero_mul, Nat.add_zero] at c0
      have hN := hbd _ (List.mem_of_getElem? hy0.out)
      simp only at hN
      have hNi : (N : Int) ≤ 4398046511104 := by omega
      have q0 : (w.alloc (.cells #[.slice ac nc cc, .int .i64 gp] 25)).cell? ⟨w.heap.size, 0, none⟩ = some (.slice ac nc cc) := by go_simp
      have q1 : (w.alloc (.cells #[.slice ac nc cc, .int .i64 gp] 25)).cell? ⟨w.heap.size, 1, none⟩ = some (.int .i64 gp) := by go_simp
      have hmk := fun W => run_mkI N hN W
      have c0' := hxb.cellv c0
      replace h0 := Lib.hid h0
      replace hbd := Lib.hid hbd
      replace hy0 := Lib.hid hy0.out
      go_enter Tryd.func3, Tryd.ntmps3
      go_wp2_with fail
      have hown0 := made_ownI (w.alloc (.cells #[.slice ac nc cc, .int .i64 gp] 25)) N hN
      rw [Nat.mul_one] at hown0
      have hxs := Ext.alloc1 (w.alloc (.cells #[.slice ac nc cc, .int .i64 gp] 25)) (.cells (madeCells #[.int .i64 0] N) 3)
      have hSz : (w.alloc (.cells #[.slice ac nc cc, .int .i64 gp] 25)).heap.size = w.heap.size + 1 := by simp
      rw [← hSz]
      generalize (w.alloc (.cells #[.slice ac nc cc, .int .i64 gp] 25)) = wb at *
      clear c0' hmk hSz
      generalize hSd : wb.heap.size = S at *
      generalize (wb.alloc (.cells (madeCells #[.int .i64 0] N) 3)) = ws0 at *
      have hSle : wb.heap.size ≤ S := by rw [hSd]; exact Nat.le_refl _
      replace hSd := Lib.hid hSd
      go_loopw [5, 7] (fun av iv wr => ∃ (i : Nat) (gs : List HW) (zs : List Int), iv = .int .i64 i ∧ i ≤ ln ∧ AllI wb wr av gs ∧ SndI S wr S N zs ∧ Hid (CntI N 0 (fun _ => 0) (fun k => (cntS (gs.map HW.x) k : Int)) zs) ∧ Hid (RowsI N i (gs.map HW.x))) (fun _ iv _ => ln - (intOf iv).toNat)
      case atStart => exact ⟨0, [], _, rfl, Nat.zero_le _, ⟨hxs, OwnK.nil _ _ _, fun y hy => by cases hy⟩, hown0, Lib.hid (fun j hj => by simp [hj, cntS]), Lib.hid ⟨(fun r hr => by cases hr), Nat.zero_le _, fun h => absurd h (Nat.lt_irrefl _)⟩⟩
      case round =>
        clear hown0 hxs
        obtain ⟨i, gs, zs, rfl, hi, hA, hZ, hcnt, hrows⟩ := hrel
        have hxw := hxb.trans hA.ext
        have k0 := hA.ext.cellv q0
        have k1 := hA.ext.cellv q1
        by_cases hlt : i < ln
        · obtain ⟨b', off', ⟨g, a, n, cap, fs⟩, heq, hy, _, E0, E1, hrFw⟩ := hr.at hlt
          cases heq
          simp only at E0 E1 hrFw
          have e0 := hxw.cellv E0
          have e1 := hxw.cellv E1
          have hrF := hrFw.ext hxw
          have hlewr := hA.ext.le
          have hli : (i : Int) < (ln : Int) := by omega
          have hyb := hbd.out _ (List.mem_of_getElem? hy.out)
          simp only at hyb
          replace hy := Lib.hid hy.out
          by_cases hnN : n = N
          · subst hnN
            have hal := fun W (hW : Ext wr W) => taligned_any g a n cap fs ac nc cc ws gp W (hrF.ext hW) ((hc.ext hxw).ext hW) ((hT.ext hxw).ext hW) ((hS.ext hxw).ext hW)
            have hlen := hrF.rd.len
            replace hlen := Lib.hid hlen
            go_wp2_with fail
            go_region_held3 (fun w' => Ext wr w' ∧ w'.cell? ⟨b, off + i * 2, none⟩ = some (.string g) ∧ w'.cell? ⟨b, off + i * 2 + 1, none⟩ = some (.slice a n cap) ∧ w'.cell? ⟨w.heap.size, 0, none⟩ = some (.slice ac nc cc) ∧ w'.cell? ⟨w.heap.size, 1, none⟩ = some (.int .i64 gp))
              ((go_split_ands; refine (fun (h : Ext wr _) => And.intro h (And.intro (h.cellv e0) (And.intro (h.cellv e1) (And.intro (h.cellv k0) (h.cellv k1))))) ?_; first | exact (Ext.refl _).drew | exact hE1))
              ((go_at_call 5; refine (hal _ (Ext.refl _).drew).mono ?_; rintro e wq ⟨v2, b2, hs2, rfl, himp, hxq⟩; have hE1 : Ext wr wq := Ext.trans ((Ext.refl _).drew) hxq))
            clear hal
            cases b2 with
            | false =>
              go_wp2_with fail
              refine (works20_any _).mono ?_
              rintro e wz ⟨rfl, hxz⟩
              go_wp2_with fail
              go_ret
              exact ⟨rfl, (hxw.trans hE1).trans hxz⟩
            | true =>
              obtain ⟨hO2, hG2⟩ := himp rfl
              obtain ⟨a2, n2, c2, hn2, rfl, hrd2⟩ := OwnK.rdn HW.len hO2.own
              have hgl : gs.length ≤ 256 * i := by have := hrows.out.2.1; rwa [List.length_map] at this
              have hl2 : n2 ≤ 256 := by have := hG2.len; rw [List.length_map] at this; omega
              have hA1 := hA.kept hE1
              have hZ1 := hZ.kept hE1
              replace hn2 := Lib.hid hn2
              clear himp hA hZ
              go_wp2_with (at_builtin; refine wp_appN wb wq hs2 rfl _ _ 27 rfl 43 Tryd.underlying27 info_hw rfl (by decide) _ _ rfl hA1.own hA1.ext a2 n2 c2 rfl hrd2 HW.len HW.one (by omega) (by unfold maxLen; omega) ?_; intro v5 w10 o5 x5 hgA)
              have hA2 : AllI wb w10 v5 (gs ++ hs2) := ⟨x5, o5, fun y hy => by
                rcases List.mem_append.1 hy with h1 | h1
                · exact own_otherT (hA1.ok y h1) hA1.own hgA (by decide)
                · exact own_otherT (OwnK.base (hO2.ok y h1) hlewr) hA1.own hgA (by decide)⟩
              have hZ2 : SndI S w10 S n zs := own_otherT hZ1 hA1.own hgA (by decide)
              have hcnt2 : Hid (CntI n 0 (fun k => (cntS ((gs ++ hs2).map HW.x) k : Int)) (fun k => (cntS (gs.map HW.x) k : Int)) zs) := Lib.hid (fun j hj => by rw [if_neg (Nat.not_lt_zero _)]; have := hcnt.out j hj; rwa [if_neg (Nat.not_lt_zero _)] at this)
              have hrows2 : Hid (RowsI n (i + 1) ((gs ++ hs2).map HW.x)) := Lib.hid ⟨fun r hr => by
                rw [List.map_append] at hr
                rcases List.mem_append.1 hr with h1 | h1
                · exact hrows.out.1 r h1
                · have := hG2.row r h1
                  rw [hlen.out] at this; exact this, by
                rw [List.map_append, List.length_append, List.length_map, List.length_map, ← hn2.out]; omega, fun _ => by
                have := hG2.small; rw [hlen.out] at this; exact this⟩
              have hcf : ∀ (k : Nat) (f : HF), fs[k]? = some f → (cntS ((gs ++ hs2).map HW.x) k : Int) = (cntS (gs.map HW.x) k : Int) + (f.n : Int) ∧ f.n ≤ 256 := fun k f hf => by
                rw [List.map_append, cntS_app, hG2.cnt k f hf]
                have h1 := hG2.cnt k f hf
                have h2 := cntS_le (hs2.map HW.x) k
                rw [List.length_map] at h2
                exact ⟨by omega, by rw [← h1]; have := hn2.out; omega⟩
              have hc0 : ∀ k, (cntS (gs.map HW.x) k : Int) ≤ 100000 := fun k => by
                have := cntS_le (gs.map HW.x) k; rw [List.length_map] at this; omega
              have hrF2 := hrFw.ext (hxb.trans x5)
              have e2 := (hxb.trans x5).cellv E1
              obtain ⟨F, hF⟩ : ∃ F : Nat → Int, F = fun k => (cntS ((gs ++ hs2).map HW.x) k : Int) := ⟨_, rfl⟩
              obtain ⟨G, hG⟩ : ∃ G : Nat → Int, G = fun k => (cntS (gs.map HW.x) k : Int) := ⟨_, rfl⟩
              rw [← hF, ← hG] at hcnt2
              have hcf2 : ∀ (k : Nat) (f : HF), fs[k]? = some f → F k = G k + (f.n : Int) ∧ f.n ≤ 256 ∧ 0 ≤ G k ∧ G k ≤ 100000 := fun k f hf => by
                rw [hF, hG]
                exact ⟨(hcf k f hf).1, (hcf k f hf).2, Int.natCast_nonneg _, hc0 k⟩
              replace hF := Lib.hid hF
              replace hG := Lib.hid hG
              replace hcf2 := Lib.hid hcf2
              clear hA1 hZ1 hcnt hrows o5 hgA hrd2 hO2 hG2 x5 hcf hc0 hE1 e0 e1 k0 k1 hrF hn2
              go_loopw [10] (fun kv wr2 => ∃ (k : Nat) (zs2 : List Int), kv = .int .i64 k ∧ k ≤ n ∧ AllI wb wr2 v5 (gs ++ hs2) ∧ SndI S wr2 S n zs2 ∧ Hid (CntI n k F G zs2)) (fun kv _ => n - (intOf kv).toNat)
              case atStart => exact ⟨0, zs, rfl, Nat.zero_le _, hA2, hZ2, hcnt2⟩
              case round =>
                clear hA2 hZ2 hcnt2
                obtain ⟨k, zs2, rfl, hk, hA, hZ, hcnt⟩ := hrel
                by_cases hkn : k < n
                · obtain ⟨bf, of, ⟨fh, fa, fn, fc, fx⟩, rfl, hf, _, _, f1, _⟩ := (hrFw.ext (hxb.trans hA.ext)).at hkn
                  simp only at f1
                  obtain ⟨hFk, hfn, hg0, hg1⟩ := hcf2.out k _ hf.out
                  simp only at hFk hfn
                  have e2 := (hxb.trans hA.ext).cellv E1
                  have hzk := hcnt.out k hkn
                  rw [if_neg (Nat.lt_irrefl _)] at hzk
                  have z0 := own_at I64.len hZ hzk (j := 0) rfl
                  rw [Nat.mul_one, Nat.add_zero] at z0
                  have hfz := own_free hZ k
                  have hcs := hcnt.out.set hkn
                  have hZs := OwnI.set' hZ k (F k)
                  have hAs := hA.set hZ hSle k (.int .i64 (F k))
                  have hki : (k : Int) < (n : Int) := by omega
                  obtain ⟨gk, hgk⟩ : ∃ x, x = G k := ⟨_, rfl⟩
                  obtain ⟨fk, hfk⟩ : ∃ x, x = F k := ⟨_, rfl⟩
                  rw [← hgk] at z0 hg0 hg1 hFk
                  rw [← hfk] at hcs hZs hAs hFk
                  subst hFk
                  replace hgk := Lib.hid hgk
                  replace hfk := Lib.hid hfk
                  replace hcs := Lib.hid hcs
                  replace hzk := Lib.hid hzk
                  replace hf := Lib.hid hf.out
                  go_wp2_with fail
                  go_region
                  go_wp2_with fail
                  refine ⟨⟨k + 1, _, by go_num, hkn, hAs.kept (Ext.refl _).drew, hZs.kept (Ext.refl _).drew, hcs⟩, ?_⟩
                  simp only [intOf]
                  omega
                · obtain rfl : k = n := by omega
                  have hfin : Hid (CntI k 0 (fun _ => 0) (fun k => (cntS ((gs ++ hs2).map HW.x) k : Int)) zs2) := Lib.hid (by have := hcnt.out.done (fun _ => 0); rwa [hF.out] at this)
                  go_wp2_with fail
                  (first | exact ⟨⟨i + 1, gs ++ hs2, zs2, by go_num, hlt, hA, hZ, hfin, hrows2⟩, (by simp [intOf]; omega)⟩ | (go_roundw; case rel => exact ⟨i + 1, gs ++ hs2, zs2, by go_num, hlt, hA, hZ, hfin, hrows2⟩; case measure => exact (by simp [intOf]; omega)))
          · have dn : ((n : Int) != (N : Int)) = true := by simp; omega
            replace hnN := Lib.hid hnN
            go_wp2_with fail
            refine (works20_any _).mono ?_
            rintro e wz ⟨rfl, hxz⟩
            go_wp2_with fail
            go_ret
            exact ⟨rfl, hxw.trans hxz⟩
        · obtain rfl : i = ln := by omega
          obtain ⟨a2, n2, c2, hn2, rfl, hrd2⟩ := OwnK.rdn HW.len hA.own
          have hgl : gs.length ≤ 256 * i := by have := hrows.out.2.1; rwa [List.length_map] at this
          have hrh : RdHW wr a2 n2 c2 gs := ⟨hrd2, fun y hy => OwnK.rdc Cl.len (hA.ok y hy)⟩
          have hcol := collect_any a2 n2 c2 gs wr hrh (by omega)
          have hN64 := hrows.out.2.2 (by omega)
          have hgn : ∀ y ∈ gs, y.x.length = y.n := fun y hy => (hrh.ok y hy).len
          have hA4 : (gs.map HW.x).length ≤ 4096 := by rw [List.length_map]; omega
          have hE0 := col_chk hN64 hA4 hrows.out.1 rfl hgn
          have hK0 : (gs.map HW.co1).map kp = (gs.map HW.x).map one1 := by rw [List.map_map, List.map_map]; rfl
          rw [hE0, hK0] at hcol
          have hga : (gs.map HW.x).length = n2 := by rw [List.length_map, hn2]
          obtain ⟨A, hAd⟩ : ∃ A, A = gs.map HW.x := ⟨_, rfl⟩
          rw [← hAd] at hcol hga hA4 hrows hcnt
          have hxr := hA.ext
          replace hAd := Lib.hid hAd
          replace hn2 := Lib.hid hn2
          replace hga := Lib.hid hga
          clear hE0 hK0 hgn hrh hrd2 hA
          go_wp2_with fail
          refine hcol.mono ?_
          rintro e w3 (⟨hbad, _⟩ | ⟨_, L, hL, v3, hs, rfl, hO3, hk3, hx3⟩)
          · exact absurd rfl hbad
          · have hS0 := sumE_T hA4 hL
            rw [hS0]
            rw [if_pos hS0] at hk3
            obtain ⟨a3, n3, c3, hn3, rfl, hr3⟩ := hO3.rd
            obtain ⟨hE3, hC3, hX3, hP3⟩ := col_facts hN64 hA4 hrows.out.1 hL hk3 (fun y hy => (hr3.ok y hy).len)
            have htot := total_any a3 n3 c3 hs w3 hr3
            rw [hE3, if_pos rfl, hC3, hga.out] at htot
            have hZ3 := hZ.kept hx3
            have hxw3 := hxw.trans hx3
            have hO3' : ColX w3 _ hs := ⟨OwnK.base hO3.own (Nat.zero_le _), hr3.ok⟩
            have hlen3 : hs.length ≤ 4096 := by
              have h1 := sumT_len hL
              rw [← hk3, List.length_map, List.length_map] at h1; omega
            replace hlen3 := Lib.hid hlen3
            replace hn3 := Lib.hid hn3
            replace hP3 := Lib.hid hP3
            replace hX3 := Lib.hid hX3
            clear hcol hS0 hE3 hC3 hr3 hO3 hZ hk3 hL
            go_wp2_with fail
            refine htot.mono ?_
            rintro e w4 ⟨rfl, hx4⟩
            have hZ4 := hZ3.kept hx4
            have hO4 := hO3'.kept hx4
            have hxw4 := hxw3.trans hx4
            clear htot hZ3 hO3' hxw3 hx3 hx4
            go_wp2_with fail
            obtain ⟨H, hH⟩ : ∃ H : Nat → Nat → Int, H = fun t k => (cntS A k : Int) - sumP (sndB k) ((hs.take t).map kp) := ⟨_, rfl⟩
            have hH0 : ∀ k, H 0 k = (cntS A k : Int) := fun k => by rw [hH]; simp [sumP]
            have hHn : ∀ k, H n3 k = 0 := fun k => by
              rw [hH]
              show (cntS A k : Int) - sumP (sndB k) ((hs.take n3).map kp) = 0
              rw [hn3.out, List.take_length, hP3.out k]; omega
            have hHs : ∀ (t : Nat) (y : HCo) (k : Nat), hs[t]? = some y → H (t + 1) k = H t k - if sndB k y.x = true then y.cnt else 0 := fun t y k hy => by
              rw [hH]
              show (cntS A k : Int) - sumP (sndB k) ((hs.take (t + 1)).map kp) = (cntS A k : Int) - sumP (sndB k) ((hs.take t).map kp) - _
              rw [take_succ_at hy, List.map_append, List.map_cons, List.map_nil, sumP_snoc]
              show _ = _ - if sndB k (kp y).1 = true then (kp y).2 else 0
              omega
            have hHb : ∀ t k, -100000000 ≤ H t k ∧ H t k ≤ 100000000 := fun t k => by
              rw [hH]
              show -100000000 ≤ (cntS A k : Int) - sumP (sndB k) ((hs.take t).map kp) ∧ (cntS A k : Int) - sumP (sndB k) ((hs.take t).map kp) ≤ 100000000
              have h1 := cntS_le A k
              have h2 := sumP_bd (sndB k) (M := 4096) (by omega) ((hs.take t).map kp) (fun x hx => by
                obtain ⟨y, hy, rfl⟩ := List.mem_map.1 hx
                have := hX3.out y (List.mem_of_mem_take hy)
                exact ⟨by show (0 : Int) ≤ y.cnt; omega, this.2.2⟩)
              have h3 : ((hs.take t).map kp).length ≤ 4096 := by
                rw [List.length_map, List.length_take]
                have := hlen3.out; omega
              have h4 : (4096 : Int) * ((hs.take t).map kp).length ≤ 4096 * 4096 := by omega
              omega
            have hcnt4 : Hid (CntI N 0 (fun _ => 0) (H 0) zs) := Lib.hid (fun j hj => by have := hcnt.out j hj; rw [if_neg (Nat.not_lt_zero _)] at this ⊢; rw [this, hH0])
            replace hH := Lib.hid hH
            replace hH0 := Lib.hid hH0
            replace hHn := Lib.hid hHn
            replace hHs := Lib.hid hHs
            replace hHb := Lib.hid hHb
            clear hcnt hrows hP3 k0 k1 hxr
            have hSw : w.heap.size ≤ S := by rw [← hSd.out]; exact hxb.le
            have hn3i : n3 ≤ 4096 := by have := hlen3.out; have := hn3.out; omega
            go_loopw [15] (fun tv wr => ∃ (t : Nat) (zs : List Int), tv = .int .i64 t ∧ t ≤ n3 ∧ Ext w wr ∧ ColX wr (.slice a3 n3 c3) hs ∧ SndI S wr S N zs ∧ Hid (CntI N 0 (fun _ => 0) (H t) zs)) (fun tv _ => n3 - (intOf tv).toNat)
            case atStart => exact ⟨0, zs, rfl, Nat.zero_le _, hxw4, hO4, hZ4, hcnt4⟩
            case round =>
              clear hxw4 hO4 hZ4 hcnt4
              obtain ⟨t, zs, rfl, ht, hxw4, hO4, hZ4, hcnt4⟩ := hrel
              by_cases htn : t < n3
              · obtain ⟨y, hy⟩ : ∃ y, hs[t]? = some y := ⟨_, List.getElem?_eq_getElem (by rw [← hn3.out]; exact htn)⟩
                have hstep := fun k => hHs.out t y k hy
                obtain ⟨hyn, hy1, hy2⟩ := hX3.out y (List.mem_of_getElem? hy)
                have hti : (t : Int) < (n3 : Int) := by omega
                have hcnt5 : Hid (CntI N 0 (H (t + 1)) (H t) zs) := Lib.hid (fun j hj => by have := hcnt4.out j hj; rwa [if_neg (Nat.not_lt_zero _)] at this ⊢)
                replace hstep := Lib.hid hstep
                replace hy := Lib.hid hy
                replace hyn := Lib.hid hyn
                go_wp2_with fail
                go_loopw [16] (fun kv wr => ∃ (k : Nat) (zs : List Int), kv = .int .i64 k ∧ k ≤ N ∧ Ext w wr ∧ ColX wr (.slice a3 n3 c3) hs ∧ SndI S wr S N zs ∧ Hid (CntI N k (H (t + 1)) (H t) zs)) (fun kv _ => N - (intOf kv).toNat)
                case atStart => exact ⟨0, zs, rfl, Nat.zero_le _, hxw4, hO4, hZ4, hcnt5⟩
                case round =>
                  clear hxw4 hO4 hZ4 hcnt4 hcnt5
                  obtain ⟨k, zs, rfl, hk, hxw4, hO4, hZ4, hcnt4⟩ := hrel
                  by_cases hkn : k < N
                  · have hrh : RdH wr a3 n3 c3 hs := ⟨OwnK.rdc HCo.len hO4.own, hO4.ok⟩
                    obtain ⟨by3, oy3, y', rfl, hy', _, c5, c6, hrc⟩ := hrh.at htn
                    have hyy : y' = y := Option.some.inj (hy'.out.symm.trans hy.out)
                    subst hyy
                    obtain ⟨ya, yn, yc, ycnt, yx⟩ := y'
                    simp only at c5 c6 hrc hy1 hy2
                    have hyn' : yn = N := hyn.out
                    subst hyn'
                    obtain ⟨bc, oc, cl, rfl, hcl, _, c7, _, _⟩ := hrc.cl hkn
                    have hki : (k : Int) < (yn : Int) := by omega
                    have hsk := hstep.out k
                    have hgd : sndB k yx = decide (cl.kind = 2) := by
                      unfold sndB
                      rw [List.getD_eq_getElem?_getD, hcl.out]; rfl
                    simp only at hsk
                    rw [hgd] at hsk
                    have hzk := hcnt4.out k hkn
                    rw [if_neg (Nat.lt_irrefl _)] at hzk
                    have z0 := own_at I64.len hZ4 hzk (j := 0) rfl
                    rw [Nat.mul_one, Nat.add_zero] at z0
                    have hfz := own_free hZ4 k
                    obtain ⟨hb1, hb2⟩ := hHb.out t k
                    by_cases hc2 : cl.kind = 2
                    · have dc : (cl.kind == 2) = true := by simpa using hc2
                      rw [hc2, if_pos (by decide)] at hsk
                      have hcs := hcnt4.out.set hkn
                      have hZs := OwnI.set' hZ4 k (H (t + 1) k)
                      have hxs := ext_set hxw4 hSw k (.int .i64 (H (t + 1) k))
                      have hOs := hO4.set hZ4 k (.int .i64 (H (t + 1) k))
                      obtain ⟨gk, hgk⟩ : ∃ x, x = H t k := ⟨_, rfl⟩
                      obtain ⟨fk, hfk⟩ : ∃ x, x = H (t + 1) k := ⟨_, rfl⟩
                      rw [← hgk] at z0 hb1 hb2 hsk
                      rw [← hfk] at hcs hZs hxs hOs hsk
                      subst hsk
                      replace hgk := Lib.hid hgk
                      replace hfk := Lib.hid hfk
                      replace hcs := Lib.hid hcs
                      replace hzk := Lib.hid hzk
                      replace hgd := Lib.hid hgd
                      replace hc2 := Lib.hid hc2
                      replace hcl := Lib.hid hcl.out
                      replace hy' := Lib.hid hy'.out
                      go_wp2_with fail
                      go_region
                      go_wp2_with fail
                      refine ⟨⟨k + 1, _, by go_num, hkn, hxs.trans (Ext.refl _).drew, hOs.kept (Ext.refl _).drew, hZs.kept (Ext.refl _).drew, hcs⟩, ?_⟩
                      simp only [intOf]
                      omega
                    · have dc : (cl.kind == 2) = false := by simpa using hc2
                      rw [if_neg (by simpa using hc2), Int.sub_zero] at hsk
                      have hcs := Lib.hid (hcnt4.out.skip hsk)
                      replace hsk := Lib.hid hsk
                      replace hzk := Lib.hid hzk
                      replace hgd := Lib.hid hgd
                      replace hc2 := Lib.hid hc2
                      replace hcl := Lib.hid hcl.out
                      replace hy' := Lib.hid hy'.out
                      go_wp2_with fail
                      (first | exact ⟨⟨k + 1, zs, by go_num, hkn, hxw4, hO4, hZ4, hcs⟩, (by simp [intOf]; omega)⟩ | (go_roundw; case rel => exact ⟨k + 1, zs, by go_num, hkn, hxw4, hO4, hZ4, hcs⟩; case measure => exact (by simp [intOf]; omega)))
                  · obtain rfl : k = N := by omega
                    have hcs := Lib.hid (hcnt4.out.done (fun _ => 0))
                    go_wp2_with fail
                    (first | exact ⟨⟨t + 1, zs, by go_num, htn, hxw4, hO4, hZ4, hcs⟩, (by simp [intOf]; omega)⟩ | (go_roundw; case rel => exact ⟨t + 1, zs, by go_num, htn, hxw4, hO4, hZ4, hcs⟩; case measure => exact (by simp [intOf]; omega)))
              · obtain rfl : t = n3 := by omega
                have hz0 : Hid (∀ j, j < N → zs[j]? = some 0) := Lib.hid (fun j hj => by have := hcnt4.out j hj; rw [if_neg (Nat.not_lt_zero _), hHn.out j] at this; exact this)
                obtain ⟨w5, rfl⟩ : ∃ wo : World, wo = wr := ⟨_, rfl⟩
                go_wp2_with fail
                go_loopw [17] (fun kv wr => ∃ k : Nat, kv = .int .i64 k ∧ k ≤ N ∧ Ext w5 wr) (fun kv _ => N - (intOf kv).toNat)
                case atStart => exact ⟨0, rfl, Nat.zero_le _, Ext.refl _⟩
                case round =>
                  obtain ⟨k, rfl, hk, hx5⟩ := hrel
                  by_cases hkn : k < N
                  · have z0 := hx5.cellv (own_at I64.len hZ4 (hz0.out k hkn) (j := 0) rfl)
                    rw [Nat.mul_one, Nat.add_zero] at z0
                    have hki : (k : Int) < (N : Int) := by omega
                    go_wp2_with fail
                    (first | exact ⟨⟨k + 1, by go_num, hkn, hx5⟩, (by simp [intOf]; omega)⟩ | (go_roundw; case rel => exact ⟨k + 1, by go_num, hkn, hx5⟩; case measure => exact (by simp [intOf]; omega)))
                  · obtain rfl : k = N := by omega
                    go_wp2_with fail
                    refine (works20_any _).mono ?_
                    rintro e wz ⟨rfl, hxz⟩
                    go_wp2_with fail
                    go_ret
                    exact ⟨rfl, (hxw4.trans hx5).trans hxz⟩
end Go.Proofs.YtjfhfbobnncpkaaDoor
