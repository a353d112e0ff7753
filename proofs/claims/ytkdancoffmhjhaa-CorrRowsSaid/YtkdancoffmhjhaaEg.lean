/-
  The reference's Cells: the walk.
-/
import Derived.Test.YtkdancoffmhjhaaEe
namespace Go.Proofs.Ytkdancoffmhjhaa
open Go.RowKit
/-- What stands in a row while it is filled, form after form. -/
def RowQ (fs : List HF) (row : List Cl) (k : Nat) (cl : List Cl) : Prop := cl.length = fs.length ∧ ∀ (i : Nat) (f : HF), fs[i]? = some f → cl[i]? = some (if f.has = true ∧ i < k then row.getD (rk fs i) noC else noC)
theorem RowQ.start (fs : List HF) (row : List Cl) {n : Nat} (hn : fs.length = n) : RowQ fs row 0 (List.replicate n noC) := ⟨by rw [List.length_replicate, hn], fun i f hf => by
  rw [List.getElem?_replicate, if_pos (by have := (List.getElem?_eq_some_iff.1 hf).1; omega), if_neg (fun h => absurd h.2 (Nat.not_lt_zero _))]⟩
theorem RowQ.skip {fs : List HF} {row cl : List Cl} {i : Nat} {f : HF} (h : RowQ fs row i cl) (hf : fs[i]? = some f) (hh : f.has = false) : RowQ fs row (i + 1) cl := by
  refine ⟨h.1, fun j g hg => ?_⟩
  rw [h.2 j g hg]
  by_cases e : j = i
  · subst e
    have hgf : g = f := Option.some.inj (hg.symm.trans hf)
    subst hgf
    rw [if_neg (fun h => by rw [hh] at h; cases h.1), if_neg (fun h => by rw [hh] at h; cases h.1)]
  · by_cases hj : g.has = true ∧ j < i
    · rw [if_pos hj, if_pos ⟨hj.1, by omega⟩]
    · rw [if_neg hj, if_neg (fun h => hj ⟨h.1, by omega⟩)]
theorem RowQ.set {fs : List HF} {row cl : List Cl} {i : Nat} {f : HF} {c : Cl} (h : RowQ fs row i cl) (hf : fs[i]? = some f) (hh : f.has = true) (hc : row[rk fs i]? = some c) : RowQ fs row (i + 1) (cl.set i c) := by
  refine ⟨by rw [List.length_set, h.1], fun j g hg => ?_⟩
  rw [List.getElem?_set]
  by_cases e : i = j
  · subst e
    have hgf : g = f := Option.some.inj (hg.symm.trans hf)
    subst hgf
    rw [if_pos rfl, if_pos (by rw [h.1]; exact (List.getElem?_eq_some_iff.1 hf).1), if_pos ⟨hh, by omega⟩, List.getD_eq_getElem?_getD, hc]; rfl
  · rw [if_neg e, h.2 j g hg]
    by_cases hj : g.has = true ∧ j < i
    · rw [if_pos hj, if_pos ⟨hj.1, by omega⟩]
    · rw [if_neg hj, if_neg (fun h => hj ⟨h.1, by omega⟩)]
theorem RowQ.done {fs : List HF} {row cl : List Cl} (h : RowQ fs row fs.length cl) : cl = rowF fs row := by
  apply List.ext_getElem?
  intro i
  rw [rowF_at]
  cases hf : fs[i]? with
  | none => rw [Option.map_none, List.getElem?_eq_none]; rw [h.1]; exact List.getElem?_eq_none_iff.1 hf
  | some f =>
    rw [h.2 i f hf, Option.map_some]
    by_cases hh : f.has = true
    · rw [if_pos hh, if_pos ⟨hh, (List.getElem?_eq_some_iff.1 hf).1⟩]
    · rw [if_neg hh, if_neg (fun h => hh h.1)]
set_option maxHeartbeats 4000000 in
set_option maxRecDepth 20000 in
theorem rcells_any (g : ByteArray) (a : Option Addr) (n cap : Nat) (fs : List HF) (b : Option Addr) (m cap2 : Nat) (cs : List HI) (w : World) (hr : RdF w a n cap fs) (hs : RdN2 w b m cap2 cs) :
    Calls Try.prog 35 #[.agg #[.string g, .slice a n cap], .slice b m cap2] w (CellsRet fs cs w) := by
  have hl := hr.rd.len
  have hl2 := hs.rd.len
  have hmax : n ≤ 9223372036854775807 := by have := hr.rd.le; have := hr.rd.most; unfold maxLen at this; omega
  have hmax2 : m ≤ 9223372036854775807 := by have := hs.rd.le; have := hs.rd.most; unfold maxLen at this; omega
  have q1 : (w.alloc (.cells #[.string g, .slice a n cap] 60)).cell? ⟨w.heap.size, 1, none⟩ = some (.slice a n cap) := by go_simp
  have hxB : Ext w (w.alloc (.cells #[.string g, .slice a n cap] 60)) := (by repeat (first | exact Ext.refl _ | refine Ext.drew ?_ | refine Ext.drewN ?_ _ | refine Ext.alloc ?_ _))
  by_cases h64 : n ≤ 64
  · have d64 : decide ((64 : Int) < (n : Int)) = false := by simp; omega
    have hmk : ∀ W : World, (Instr.makeSlice 29 (.int .i64 (n : Int)) (.int .i64 (n : Int))).run Try.prog W = .ok (.slice (some ⟨W.heap.size, 0, none⟩) n n) (W.alloc (.cells (madeCells #[.int .i64 0, .int .u32 0, .int .u32 0] (n * 3)) 39)) := fun W => run_mk (P := Try.prog) 29 Try.underlying29 info_cl n (by omega) (by decide) W
    have hown0 : ∀ W : World, OwnC W.heap.size 39 (W.alloc (.cells (madeCells #[.int .i64 0, .int .u32 0, .int .u32 0] (n * 3)) 39)) (.slice (some ⟨W.heap.size, 0, none⟩) n n) (List.replicate n noC) := fun W => made_own Cl.len (by decide) W 39 #[.int .i64 0, .int .u32 0, .int .u32 0] noC rfl n (by omega)
    replace hown0 := Lib.hid hown0
    replace hl := Lib.hid hl
    replace hl2 := Lib.hid hl2
    go_enter Try.func35, Try.ntmps35
    go_wp2_with fail
    generalize (w.alloc (.cells #[.string g, .slice a n cap] 60)) = wB at *
    go_loopw [6, 7] (fun vl i wr => ∃ (j : Nat) (ls : List HS), j ≤ n ∧ i = .int .i64 j ∧ OwnK 1 HS.enc wB.heap.size 66 wr vl ls ∧ Hid (ls = wordsOf (fs.take j)) ∧ Hid (ls.length ≤ j) ∧ Hid (F0 fs j) ∧ Ext wB wr) (fun _ i _ => n - (intOf i).toNat)
    case atStart => exact ⟨0, [], Nat.zero_le _, rfl, OwnK.nil _ _ _, Lib.hid rfl, Lib.hid (Nat.le_refl _), Lib.hid (fun i f hi => absurd hi (Nat.not_lt_zero _)), Ext.refl _⟩
    case round =>
      obtain ⟨j, ls, hj, rfl, hol, hls, hll, hf0, hx⟩ := hrel
      have hq1 := hx.cellv q1
      by_cases hlt : j < n
      · have hji : (j : Int) < (n : Int) := by omega
        obtain ⟨b1, o1, ⟨fh, fa, fn, fc, fx⟩, rfl, hf, hb1, hc0, hc1, hcf⟩ := (hr.ext (hxB.trans hx)).at hlt
        simp only at hc0 hc1 hcf
        have hfmax : fn ≤ 9223372036854775807 := by have := hcf.le; have := hcf.most; unfold maxLen at this; omega
        have hsu := wordsOf_succ hf.out
        cases fh
        · by_cases hfn : 0 < fn
          · have d1 : decide ((0 : Int) < (fn : Int)) = true := by simp; omega
            have hE : cellsE fs cs = 2 := by
              have := formE_bad (by rw [hl.out]; omega) hf.out rfl hfn
              unfold cellsE; rw [this, if_pos (by decide)]
            have hL : cellsL fs cs = [] := by unfold cellsL; rw [hE, if_neg (by decide)]
            replace hE := Lib.hid hE
            replace hL := Lib.hid hL
            replace hsu := Lib.hid hsu
            go_wp2_with fail
            go_ret2
            exact cellsRet_err hE.out hL.out (hxB.trans hx)
          · have hfn0 : fn = 0 := by omega
            subst hfn0
            rw [if_neg (by simp)] at hsu
            have hls2 : Hid (ls = wordsOf (fs.take (j + 1))) := Lib.hid (by rw [hsu, List.append_nil]; exact hls.out)
            have hf2 := Lib.hid (hf0.out.succ hf.out (.inr rfl))
            replace hsu := Lib.hid hsu
            go_wp2_with fail
            (first | exact ⟨⟨j + 1, ls, by omega, by go_num, hol, hls2, Lib.hid (by have := hll.out; omega), hf2, hx⟩, (by simp [intOf]; omega)⟩ | (go_roundw; case rel => exact ⟨j + 1, ls, by omega, by go_num, hol, hls2, Lib.hid (by have := hll.out; omega), hf2, hx⟩; case measure => exact (by simp [intOf]; omega)))
        · rw [if_pos rfl] at hsu
          have hls2 : Hid (ls ++ [(⟨fa, fn, fc, fx⟩ : HS)] = wordsOf (fs.take (j + 1))) := Lib.hid (by rw [hsu, ← hls.out]; rfl)
          have hf2 := Lib.hid (hf0.out.succ hf.out (.inl rfl))
          have hl1 := hll.out
          replace hsu := Lib.hid hsu
          go_wp2_with (at_builtin; refine wp_app1 wB wr (⟨fa, fn, fc, fx⟩ : HS) rfl _ _ 93 rfl 66 Try.underlying93 info_hs rfl (by decide) _ _ rfl hol hx rfl (HS.len _) (HS.one _) (by omega) (by unfold maxLen; omega) ?_; intro v4 w4 ho4 hx4 hg4)
          (first | exact ⟨⟨j + 1, _, by omega, by go_num, ho4, hls2, Lib.hid (by rw [List.length_append]; simp; omega), hf2, hx4⟩, (by simp [intOf]; omega)⟩ | (go_roundw; case rel => exact ⟨j + 1, _, by omega, by go_num, ho4, hls2, Lib.hid (by rw [List.length_append]; simp; omega), hf2, hx4⟩; case measure => exact (by simp [intOf]; omega)))
      · obtain rfl : j = n := by omega
        have hls2 : ls = wordsOf fs := by rw [hls.out, List.take_of_length_le (by rw [hl.out]; exact Nat.le_refl _)]
        subst hls2
        have hF0 : formE fs = 0 := formE_ok (by rw [hl.out]; omega) fun i f hi => hf0.out i f (by have := (List.getElem?_eq_some_iff.1 hi).1; rw [hl.out] at this; exact this) hi
        have hE : cellsE fs cs = chkM (wordsOf fs) cs := by unfold cellsE; rw [hF0, if_neg (by decide)]
        obtain ⟨al, nl, cl0, hnl, rfl, hrl⟩ := OwnK.rdn HS.len hol
        have hRW : RdW wr al nl cl0 (wordsOf fs) := ⟨hrl, fun h hh => by
          obtain ⟨f, hf, rfl⟩ := List.mem_map.1 hh
          exact (hr.ok f (List.mem_filter.1 hf).1).ext (hxB.trans hx)⟩
        have hmc := rmCheck_any al nl cl0 (wordsOf fs) b m cap2 cs wr hRW (hs.ext (hxB.trans hx))
        have hlen8 : ∀ y ∈ wordsOf fs, y.x.length = y.n := fun y hy => (hRW.ok y hy).len
        replace hnl := Lib.hid hnl
        replace hF0 := Lib.hid hF0
        by_cases h0 : chkM (wordsOf fs) cs = 0
        · obtain ⟨hal, hn8, h32, hm⟩ := chkM_zero hlen8 h0
          rw [hl2.out] at hm
          have hL : cellsL fs cs = cs.map (fun c => rowF fs (rowM (wordsOf fs) c.x)) := by unfold cellsL; rw [hE, if_pos h0]
          have hent : ∀ (q : Nat) (c : HI) (k : Nat) (y : HS), cs[q]? = some c → (wordsOf fs)[k]? = some y → c.x.length = nl ∧ (c.x.getD k (-1) = -1 ∨ (0 ≤ c.x.getD k (-1) ∧ c.x.getD k (-1) < y.n)) := fun q c k y h1 h2 => by
            obtain ⟨h3, h4⟩ := al_at hal (j := q) (c := c.x) (by rw [List.getElem?_map, h1]; rfl) h2
            refine ⟨by rw [h3, hnl.out], ?_⟩
            rcases h4 with h4 | ⟨h4, h5⟩
            · exact .inl h4
            · exact .inr ⟨by omega, by omega⟩
          rw [← hnl.out] at hn8
          rw [h0] at hmc
          replace hE := Lib.hid (hE.trans h0)
          replace h0 := Lib.hid h0
          replace hL := Lib.hid hL
          replace hent := Lib.hid hent
          clear hal h32 hlen8 hrl hol hls hll
          go_wp2_with fail
          refine hmc.mono ?_
          rintro e w2 ⟨rfl, hx2⟩
          have hxw2 := (hxB.trans hx).trans hx2
          have hq2 := hx2.cellv hq1
          have hRW2 := hRW.ext hx2
          clear hmc hRW q1 hq1
          go_wp2_with fail
          go_loopw [9, 10] (fun v i wr => ∃ (q : Nat) (hh : List HW), q ≤ m ∧ i = .int .i64 q ∧ OwnHW w2.heap.size wr v hh ∧ Hid (hh.map HW.x = (cs.take q).map (fun c => rowF fs (rowM (wordsOf fs) c.x))) ∧ Hid (hh.length = q) ∧ Ext w2 wr) (fun _ i _ => m - (intOf i).toNat)
          case atStart => exact ⟨0, [], Nat.zero_le _, rfl, OwnHW.nil _ _, Lib.hid rfl, Lib.hid rfl, Ext.refl _⟩
          case round =>
            obtain ⟨q, hh, hq, rfl, howh, hkh, hlh, hx3⟩ := hrel
            by_cases hqn : q < m
            · have hqi : (q : Int) < (m : Int) := by omega
              obtain ⟨b3, o3, ⟨ya, yn, yc, yx⟩, rfl, hy, hb3, p0, hcy⟩ := (hs.ext (hxw2.trans hx3)).at hqn
              simp only at p0 hcy
              have hyl := hcy.len
              have hsu := Lib.hid (take_succ_at hy.out)
              have hq3 := hx3.cellv hq2
              have hownc := hown0.out wr
              have hxC : Ext wr (wr.alloc (.cells (madeCells #[.int .i64 0, .int .u32 0, .int .u32 0] (j * 3)) 39)) := Ext.alloc1 _ _
              obtain ⟨wo, rfl⟩ : ∃ wo : World, wo = wr := ⟨_, rfl⟩
              have hGe : wo.heap.size ≤ wo.heap.size := Nat.le_refl _
              replace hyl := Lib.hid hyl
              go_wp2_with fail
              generalize (wo.alloc (.cells (madeCells #[.int .i64 0, .int .u32 0, .int .u32 0] (j * 3)) 39)) = wC at *
              go_loopw [12, 13] (fun nn i wr => ∃ (k : Nat) (cl : List Cl), k ≤ j ∧ i = .int .i64 k ∧ nn = .int .i64 (rk fs k) ∧ OwnC wo.heap.size 39 wr (.slice (some ⟨wo.heap.size, 0, none⟩) j j) cl ∧ Hid (RowQ fs (rowM (wordsOf fs) yx) k cl) ∧ Ext wo wr) (fun _ i _ => j - (intOf i).toNat)
              case atStart => exact ⟨0, _, Nat.zero_le _, rfl, rfl, hownc, Lib.hid (RowQ.start fs _ hl.out), hxC⟩
              case round =>
                obtain ⟨k, cl, hk, rfl, rfl, howc, hrp, hx4⟩ := hrel
                by_cases hkn2 : k < j
                · have hki : (k : Int) < (j : Int) := by omega
                  have hq4 := hx4.cellv hq3
                  have hp4 := hx4.cellv p0
                  obtain ⟨b1, o1, ⟨fh, fa, fn, fc, fx⟩, rfl, hf, hb1, hc0, hc1, hcf⟩ := (hr.ext ((hxw2.trans hx3).trans hx4)).at hkn2
                  simp only at hc0 hc1 hcf
                  have hrs := rk_succ hf.out
                  have hrle := rk_le fs k
                  cases fh
                  · have hrp2 := Lib.hid (hrp.out.skip hf.out rfl)
                    rw [if_neg (by simp), Nat.add_zero] at hrs
                    replace hrs := Lib.hid hrs
                    generalize hZ : rk fs k = Z at *
                    replace hZ := Lib.hid hZ
                    go_wp2_with fail
                    (first | exact ⟨⟨k + 1, cl, by omega, by go_num, by rw [hrs.out]; rfl, howc, hrp2, hx4⟩, (by simp [intOf]; omega)⟩ | (go_roundw; case rel => exact ⟨k + 1, cl, by omega, by go_num, by rw [hrs.out]; rfl, howc, hrp2, hx4⟩; case measure => exact (by simp [intOf]; omega)))
                  · rw [if_pos rfl] at hrs
                    have hwat := wordsOf_at hf.out rfl
                    have hrl := rk_lt hf.out rfl
                    rw [← hnl.out] at hrl
                    obtain ⟨hyn, hxr⟩ := hent.out q _ (rk fs k) _ hy.out hwat
                    simp only at hyn hxr
                    have hynl : yn = nl := hyl.out.symm.trans hyn
                    obtain ⟨b2, o2, x, rfl, hxx, hb2, p1⟩ := (hcy.ext hx4).i64 (i := rk fs k) (by omega)
                    have hxg : yx.getD (rk fs k) (-1) = x := by rw [List.getD_eq_getElem?_getD, hxx.out]; rfl
                    rw [hxg] at hxr
                    have hrow : (rowM (wordsOf fs) yx)[rk fs k]? = some (cellOf fx x) := by
                      unfold rowM
                      rw [List.getElem?_map, (List.getElem?_zip_eq_some (z := (_, x))).2 ⟨hwat, hxx.out⟩]; rfl
                    have hrp2 := Lib.hid (hrp.out.set hf.out rfl hrow)
                    have hset := OwnC.set howc hkn2 (cellOf fx x)
                    obtain ⟨f0, f1, f2⟩ := OwnC.frz howc
                    obtain ⟨_, _, _, he, _, _, z0, z1, z2⟩ := (OwnK.rdc Cl.len howc).cl hkn2
                    cases he
                    simp only [Nat.zero_add] at z0 z1 z2
                    have hx5 : Ext wo (((wr.setCell ⟨wo.heap.size, k * 3, none⟩ (.int .i64 (cellOf fx x).kind)).setCell ⟨wo.heap.size, k * 3 + 1, none⟩ (.int .u32 (cellOf fx x).s.p.toNat)).setCell ⟨wo.heap.size, k * 3 + 2, none⟩ (.int .u32 (cellOf fx x).s.m.toNat)) := ((hx4.setCell (p := ⟨wo.heap.size, k * 3, none⟩) hGe _).setCell (p := ⟨wo.heap.size, k * 3 + 1, none⟩) hGe _).setCell (p := ⟨wo.heap.size, k * 3 + 2, none⟩) hGe _
                    have hkl : (rk fs k : Int) < (yn : Int) := by omega
                    have hkl2 : (rk fs k : Int) < (nl : Int) := by omega
                    by_cases h1 : x = -1
                    · have d1 : decide (x < 0) = true := by simp; omega
                      have hv : cellOf fx x = ⟨1, ⟨0#32, 0#32⟩⟩ := by unfold cellOf; rw [if_pos h1]
                      rw [hv] at hset hrp2 hx5
                      simp only at hset hx5
                      replace hrs := Lib.hid hrs
                      replace h1 := Lib.hid h1
                      replace hxr := Lib.hid hxr
                      replace hxg := Lib.hid hxg
                      replace hynl := Lib.hid hynl
                      replace hv := Lib.hid hv
                      replace hwat := Lib.hid hwat
                      replace hrow := Lib.hid hrow
                      generalize hZ : rk fs k = Z at *
                      replace hZ := Lib.hid hZ
                      go_wp2_with fail
                      (first | exact ⟨⟨k + 1, _, by omega, by go_num, by rw [hrs.out]; go_num, hset, hrp2, hx5⟩, (by simp [intOf]; omega)⟩ | (go_roundw; case rel => exact ⟨k + 1, _, by omega, by go_num, by rw [hrs.out]; go_num, hset, hrp2, hx5⟩; case measure => exact (by simp [intOf]; omega)))
                    · obtain ⟨h2, h3⟩ := hxr.resolve_left h1
                      obtain ⟨i, rfl⟩ : ∃ i : Nat, x = i := ⟨x.toNat, by omega⟩
                      have hin : i < fn := by simp only [HF.hs] at h3; omega
                      have d1 : decide ((i : Int) < 0) = false := by simp
                      obtain ⟨b6, o6, s, rfl, hsn, hb6, s0, s1⟩ := hcf.snd hin
                      have hv : cellOf fx i = ⟨2, s⟩ := by unfold cellOf; rw [if_neg h1, Int.toNat_natCast, List.getD_eq_getElem?_getD, hsn]; rfl
                      rw [hv] at hrp2
                      clear hset hx5 f0 f1 f2
                      obtain ⟨b7, o7, y7, rfl, hy7, hb7, t0, _⟩ := (hRW2.ext (hx3.trans hx4)).at hrl
                      obtain rfl : _ = y7 := Option.some.inj (hwat.symm.trans hy7.out)
                      simp only [HF.hs] at t0
                      have hini : (i : Int) < (fn : Int) := by omega
                      replace hrs := Lib.hid hrs
                      replace h1 := Lib.hid h1
                      replace hxr := Lib.hid hxr
                      replace hxg := Lib.hid hxg
                      replace hynl := Lib.hid hynl
                      replace hv := Lib.hid hv
                      replace hwat := Lib.hid hwat
                      replace hrow := Lib.hid hrow
                      replace hsn := Lib.hid hsn
                      generalize hZ : rk fs k = Z at *
                      replace hZ := Lib.hid hZ
                      have r0 := fun z : ExtOf wr => z.cell t0
                      have r1 := fun z : ExtOf wr => z.cell hp4
                      have r2 := fun z : ExtOf wr => z.cell p1
                      have r3 := fun z : ExtOf wr => z.cell s0
                      have r4 := fun z : ExtOf wr => z.cell s1
                      go_wp2_with fail
                      refine wp_region_qxt 17 (by kernel_rfl) (by kernel_rfl) ?_
                      simp only [List.take_succ_cons, List.take_zero, List.drop_succ_cons, List.drop_zero]
                      repeat (go_big_quiet_step (fail))
                      refine wpQuiet_nil ?_
                      intro wq hw'
                      have hxq := ext_of_ex hw'
                      clear hw' r0 r1 r2 r3 r4
                      have hset := OwnC.set (howc.kept hxq) hkn2 (⟨2, s⟩ : Cl)
                      obtain ⟨f0, f1, f2⟩ := OwnC.frz (howc.kept hxq)
                      have hx5 : Ext wo (((wq.setCell ⟨wo.heap.size, k * 3, none⟩ (.int .i64 (2 : Int))).setCell ⟨wo.heap.size, k * 3 + 1, none⟩ (.int .u32 s.p.toNat)).setCell ⟨wo.heap.size, k * 3 + 2, none⟩ (.int .u32 s.m.toNat)) := (((hx4.trans hxq).setCell (p := ⟨wo.heap.size, k * 3, none⟩) hGe _).setCell (p := ⟨wo.heap.size, k * 3 + 1, none⟩) hGe _).setCell (p := ⟨wo.heap.size, k * 3 + 2, none⟩) hGe _
                      have z0 := hxq.cellv z0
                      have z1 := hxq.cellv z1
                      have z2 := hxq.cellv z2
                      go_wp2_with fail
                      (first | exact ⟨⟨k + 1, _, by omega, by go_num, by rw [hrs.out]; go_num, hset, hrp2, hx5⟩, (by simp [intOf]; omega)⟩ | (go_roundw; case rel => exact ⟨k + 1, _, by omega, by go_num, by rw [hrs.out]; go_num, hset, hrp2, hx5⟩; case measure => exact (by simp [intOf]; omega)))
                · obtain rfl : k = j := by omega
                  have hq4 := hx4.cellv hq3
                  have hdone : cl = rowF fs (rowM (wordsOf fs) yx) := by
                    have := hrp.out
                    rw [← hl.out] at this; exact this.done
                  subst hdone
                  have howw := howh.kept hx4
                  have hxw := hx3.trans hx4
                  go_wp2_with (at_builtin; refine wp_app1 w2 wr (⟨some ⟨wo.heap.size, 0, none⟩, k, k, rowF fs (rowM (wordsOf fs) yx)⟩ : HW) rfl _ _ 22 rfl 29 Try.underlying22 info_hw rfl (by decide) _ _ rfl howw.own hxw rfl (HW.len _) (HW.one _) (by rw [hlh.out]; omega) (by rw [hlh.out]; unfold maxLen; omega) ?_; intro v6 w6 ho6 hx6 hg6)
                  have hsA := Ext.alloc1 wr (.cells #[.slice (some ⟨wo.heap.size, 0, none⟩) k k] 29)
                  have hb6 := OwnK.blk' (howw.own.kept hsA)
                  have hnew : OwnHW w2.heap.size w6 v6 (hh ++ [⟨some ⟨wo.heap.size, 0, none⟩, k, k, rowF fs (rowM (wordsOf fs) yx)⟩]) := ⟨ho6, fun u hu => by
                    rcases List.mem_append.1 hu with h | h
                    · exact ((howw.ok u h).kept hsA).other hg6 hb6 (by decide)
                    · rw [List.mem_singleton.1 h]; exact (OwnK.base (howc.kept hsA) hx3.le).other hg6 hb6 (by decide)⟩
                  have hk2 : Hid ((hh ++ [(⟨some ⟨wo.heap.size, 0, none⟩, k, k, rowF fs (rowM (wordsOf fs) yx)⟩ : HW)]).map HW.x = (cs.take (q + 1)).map (fun c => rowF fs (rowM (wordsOf fs) c.x))) := Lib.hid (by rw [hsu.out, List.map_append, List.map_append, hkh.out]; rfl)
                  have hln2 : Hid ((hh ++ [(⟨some ⟨wo.heap.size, 0, none⟩, k, k, rowF fs (rowM (wordsOf fs) yx)⟩ : HW)]).length = q + 1) := Lib.hid (by rw [List.length_append, hlh.out]; rfl)
                  (first | exact ⟨⟨q + 1, _, by omega, by go_num, hnew, hk2, hln2, hx6⟩, (by simp [intOf]; omega)⟩ | (go_roundw; case rel => exact ⟨q + 1, _, by omega, by go_num, hnew, hk2, hln2, hx6⟩; case measure => exact (by simp [intOf]; omega)))
            · obtain rfl : q = m := by omega
              have hfin : hh.map HW.x = cellsL fs cs := by
                rw [hkh.out, List.take_of_length_le (by rw [hl2.out]; exact Nat.le_refl _), hL.out]
              replace hfin := Lib.hid hfin
              go_wp2_with fail
              go_ret2
              exact ⟨_, hh, by rw [hE.out]; rfl, OwnHW.base howh hxw2.le, hfin.out, hxw2.trans hx3⟩
        · have hb0 : (chkM (wordsOf fs) cs != 0) = true := by simpa using h0
          have hL : cellsL fs cs = [] := by unfold cellsL; rw [hE, if_neg h0]
          generalize chkM (wordsOf fs) cs = E at *
          replace hE := Lib.hid hE
          replace hL := Lib.hid hL
          replace h0 := Lib.hid h0
          clear hlen8 hRW hrl hol hls hll
          go_wp2_with fail
          refine hmc.mono ?_
          rintro e w2 ⟨rfl, hx2⟩
          clear hmc
          go_wp2_with fail
          go_ret2
          exact cellsRet_err hE.out hL.out ((hxB.trans hx).trans hx2)
  · have d64 : decide ((64 : Int) < (n : Int)) = true := by simp; omega
    have hE : cellsE fs cs = 12 := by
      have : formE fs = 12 := by unfold formE; rw [if_pos (by rw [hl]; omega)]
      unfold cellsE; rw [this, if_pos (by decide)]
    have hL : cellsL fs cs = [] := by unfold cellsL; rw [hE, if_neg (by decide)]
    replace hE := Lib.hid hE
    replace hL := Lib.hid hL
    replace h64 := Lib.hid h64
    replace hl := Lib.hid hl
    replace hl2 := Lib.hid hl2
    go_enter Try.func35, Try.ntmps35
    go_wp2_with fail
    go_ret2
    exact cellsRet_err hE.out hL.out hxB
end Go.Proofs.Ytkdancoffmhjhaa
