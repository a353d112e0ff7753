/-
  proto.Cands.
  The reference's Cands.
-/
import Derived.Test.YtdloabjnjnjacaaDoorCp
import Derived.Test.YtdloabjnjnjacaaDoorSs
namespace Go.Proofs.YtdloabjnjnjacaaDoor
open Go.RowKit
def CandRet (l : List HCo) (w : World) (e : Ending) (w' : World) : Prop :=
  ∃ v L, e = .returned (.tuple #[v, .int .i64 (chkE [l])]) ∧ OwnS w.heap.size 38 w' v L ∧ (chkE [l] = 0 → SrtOf cmpS L (candL l)) ∧ (chkE [l] ≠ 0 → L = []) ∧ Ext w w'
theorem compactS_nil (cap : Nat) (w : World) : Calls Tryd.prog 70 #[.slice none 0 cap] w fun e w' => e = .returned (.slice none 0 cap) ∧ w' = w := by
  go_enter Tryd.func70, Tryd.ntmps70
  go_wp2_with fail
  go_ret
  exact ⟨rfl, rfl⟩
set_option maxHeartbeats 4000000 in
set_option maxRecDepth 20000 in
theorem pcands_any (a : Option Addr) (m cap : Nat) (l : List HCo) (w : World) (hr : RdH w a m cap l) : Calls Tryd.prog 31 #[.slice a m cap] w (CandRet l w) := by
  have htot := total_any a m cap l w hr
  have hl := hr.rd.len
  have hmm := len_int' hr.rd
  unfold CandRet
  by_cases h0 : chkE [l] = 0
  · obtain ⟨hlen, hwide⟩ := chkE_wide h0
    have hw2 : ∀ y ∈ l, y.x.length ≤ 64 := fun y hy => by rw [(hr.ok y hy).len]; exact hwide y hy
    have hcl := candL_len hw2
    have hfull : candL (l.take m) = candL l := by rw [List.take_of_length_le (by omega)]
    rw [h0] at htot
    rw [if_pos rfl] at htot
    rw [h0]
    have hm4 : m ≤ 4096 := by omega
    generalize sumC l = tot at *
    replace hl := Lib.hid hl
    replace hcl := Lib.hid hcl
    replace hfull := Lib.hid hfull
    replace h0 := Lib.hid h0
    clear hlen hwide hw2
    go_enter Tryd.func31, Tryd.ntmps31
    go_wp2_with fail
    refine htot.mono ?_
    rintro e w1 ⟨rfl, hx1⟩
    clear htot
    go_wp2_with fail
    go_loopw [6, 8, 21] (fun v _ i wr => ∃ (j : Nat) (xs : List Snd), j ≤ m ∧ i = .int .i64 j ∧ OwnS w1.heap.size 38 wr v xs ∧ Hid (xs = candL (l.take j)) ∧ Ext w1 wr) (fun _ _ i _ => m - (intOf i).toNat)
    case atStart => exact ⟨0, [], Nat.zero_le _, rfl, OwnK.nil _ _ _, Lib.hid (by simp [candL]), Ext.refl _⟩
    case round =>
      obtain ⟨j, xs, hj, rfl, hown, hxs, hxr⟩ := hrel
      by_cases hlt : j < m
      · obtain ⟨b, off, ⟨ya, yn, yc, ycnt, yx⟩, rfl, hy, hb, hc0, hc1, hcy⟩ := (hr.ext hx1).at hlt
        simp only at hc0 hc1 hcy
        replace hc0 := hxr.cellv hc0
        replace hc1 := hxr.cellv hc1
        have hxl := hcl.out j
        rw [← hxs.out] at hxl
        have hys := Lib.hid (candL_succ hy.out)
        have hylen := Lib.hid hcy.len
        have hyn := len_int' hcy
        have hjm : (j : Int) < (m : Int) := by omega
        go_wp2_with fail
        have hxa : Ext w1 (wr.alloc (.cells #[.slice ya yn yc, .int .i64 ycnt] 98)) := hxr.alloc _
        have hra : Ext wr (wr.alloc (.cells #[.slice ya yn yc, .int .i64 ycnt] 98)) := Ext.alloc1 _ _
        have howna := hown.kept hra
        have hyl64 : yn ≤ 64 := by
          have := hcl.out (j + 1)
          have hq := (chkE_wide h0.out).2 _ (List.mem_of_getElem? hy.out)
          exact hq
        generalize (wr.alloc (.cells #[.slice ya yn yc, .int .i64 ycnt] 98)) = wA at *
        clear hown hra hc0 hc1
        go_loopw [6, 10, 28] (fun v _ i wi => ∃ (q : Nat) (zs : List Snd), q ≤ yn ∧ i = .int .i64 q ∧ OwnS w1.heap.size 38 wi v zs ∧ Hid (zs = candL (l.take j) ++ sndC (yx.take q)) ∧ Ext w1 wi) (fun _ _ i _ => yn - (intOf i).toNat)
        case atStart => exact ⟨0, xs, Nat.zero_le _, rfl, howna, Lib.hid (by rw [hxs.out]; simp [sndC]), hxa⟩
        clear howna
        case round =>
          obtain ⟨q, zs, hq, rfl, hown, hzs, hxi⟩ := hrel
          by_cases hqn : q < yn
          · obtain ⟨bc, oc, c, rfl, hc, hbc, p0, p1, p2⟩ := (hcy.ext hxi).cl hqn
            have hqi : (q : Int) < (yn : Int) := by omega
            have hzl : zs.length ≤ 64 * j + 64 := by
              rw [hzs.out, List.length_append]
              have h1 := hcl.out j
              have h2 := sndC_len (yx.take q)
              rw [List.length_take] at h2
              omega
            have hsc := Lib.hid (sndC_succ hc.out)
            by_cases hk2 : c.kind = 2
            · have hd : (c.kind == 2) = true := by simpa using hk2
              have hzs2 : Hid (zs ++ [c.s] = candL (l.take j) ++ sndC (yx.take (q + 1))) := Lib.hid (by rw [hsc.out, hzs.out, if_pos hk2, List.append_assoc])
              replace hk2 := Lib.hid hk2
              go_wp2_with (at_builtin; refine wp_app1 w1 (wr.alloc (.cells #[.int .i64 c.kind, .int .u32 c.s.p.toNat, .int .u32 c.s.m.toNat] 40)) c.s rfl _ _ 22 rfl 38 Tryd.underlying22 info_snd rfl (by decide) _ _ rfl (hown.kept (Ext.alloc1 _ _)) (hxi.alloc _) (by first | rfl | (rw [World.size_alloc]; rfl)) rfl (Snd.one c.s) (by omega) (by unfold maxLen; omega) ?_; intro v' w2 hown1 hx2 _)
              (first | exact ⟨⟨q + 1, zs ++ [c.s], by omega, by go_num, hown1, hzs2, hx2⟩, (by simp [intOf]; omega)⟩ | (go_roundw; case rel => exact ⟨q + 1, zs ++ [c.s], by omega, by go_num, hown1, hzs2, hx2⟩; case measure => exact (by simp [intOf]; omega)))
            · have hd : (c.kind == 2) = false := by simpa using hk2
              have hzs2 : Hid (zs = candL (l.take j) ++ sndC (yx.take (q + 1))) := Lib.hid (by rw [hsc.out, hzs.out, if_neg hk2, List.append_nil])
              replace hk2 := Lib.hid hk2
              go_wp2_with fail
              (first | exact ⟨⟨q + 1, zs, by omega, by go_num, hown.kept (Ext.alloc1 _ _), hzs2, hxi.alloc _⟩, (by simp [intOf]; omega)⟩ | (go_roundw; case rel => exact ⟨q + 1, zs, by omega, by go_num, hown.kept (Ext.alloc1 _ _), hzs2, hxi.alloc _⟩; case measure => exact (by simp [intOf]; omega)))
          · have hfin : Hid (zs = candL (l.take (j + 1))) := Lib.hid (by
              rw [hys.out, hzs.out, List.take_of_length_le (l := yx) (by rw [hylen.out]; omega)])
            go_wp2_with fail
            (first | exact ⟨⟨j + 1, zs, by omega, by go_num, hown, hfin, hxi⟩, (by simp [intOf]; omega)⟩ | (go_roundw; case rel => exact ⟨j + 1, zs, by omega, by go_num, hown, hfin, hxi⟩; case measure => exact (by simp [intOf]; omega)))
      · obtain rfl : m = j := by omega
        have hxw := hx1.trans hxr
        rcases hown.2 with ⟨rfl, he⟩ | ⟨g, gc, _, rfl, _⟩
        · have hxe : xs = [] := List.eq_nil_of_length_eq_zero he
          have hc0 : candL l = [] := by rw [← hfull.out, ← hxs.out, hxe]
          replace hc0 := Lib.hid hc0
          clear hown he hxe
          go_wp2_with fail
          refine (sortS_none _ _ _ _).mono ?_
          rintro e w2 ⟨rfl, rfl⟩
          go_wp2_with fail
          refine (compactS_nil _ _).mono ?_
          rintro e w2 ⟨rfl, rfl⟩
          go_wp2_with fail
          go_ret2
          exact ⟨_, [], rfl, OwnK.nil _ _ _, fun _ => by rw [hc0.out]; exact SrtOf.nil, fun _ => rfl, hxw⟩
        · have hxl : xs.length ≤ 60000000 := by have := hcl.out m; rw [← hxs.out] at this; omega
          have hxl2 := hown.1
          obtain ⟨n5, hn5⟩ : ∃ n5, n5 = xs.length := ⟨_, rfl⟩
          rw [← hn5] at hown
          rw [← hn5]
          have hsrt := sortS_any hxr hown (by omega)
          replace hn5 := Lib.hid hn5
          go_wp2_with fail
          refine hsrt.mono ?_
          rintro e w2 ⟨rfl, hx2, ts, hperm, hsor, hown2⟩
          have hcmp := compactS_any hx2 hown2 (by have := hn5.out; omega)
          replace hsor := Lib.hid hsor
          replace hperm := Lib.hid hperm
          go_wp2_with fail
          refine hcmp.mono ?_
          rintro e w3 ⟨m3, rfl, hown3, hx3⟩
          go_wp2_with fail
          go_ret2
          exact ⟨_, _, rfl, OwnK.base hown3 hx1.le, fun _ => by rw [← hfull.out, ← hxs.out]; exact comp_srt hperm.out (hsor.out.imp fun {x y} h => by omega), fun h => absurd rfl h, hx1.trans hx3⟩
  · rw [if_neg h0] at htot
    generalize chkE [l] = er at *
    have hd : (er != 0) = true := by simpa using h0
    replace h0 := Lib.hid h0
    replace hl := Lib.hid hl
    go_enter Tryd.func31, Tryd.ntmps31
    go_wp2_with fail
    refine htot.mono ?_
    rintro e w1 ⟨rfl, hx1⟩
    go_wp2_with fail
    go_ret2
    exact ⟨_, [], rfl, OwnK.nil _ _ _, fun h => absurd h h0.out, fun _ => rfl, hx1⟩
end Go.Proofs.YtdloabjnjnjacaaDoor
namespace Go.Proofs.YtdloabjnjnjacaaDoor
open Go.RowKit
theorem srt_len {L xs : List Snd} (h : SrtOf cmpS L xs) : L.length ≤ xs.length := by
  obtain ⟨hp, hm⟩ := h
  have hn : L.Nodup := hp.imp fun {x y} h e => by subst e; have := cmpS_tot.self x; omega
  have : ∀ {l m : List Snd}, l.Nodup → (∀ a ∈ l, a ∈ m) → l.length ≤ m.length := by
    intro l
    induction l with
    | nil => intro m _ _; exact Nat.zero_le _
    | cons a l ih =>
      intro m hn h
      obtain ⟨h1, h2⟩ := List.nodup_cons.1 hn
      have ha := h a (List.mem_cons_self ..)
      have := ih (m := m.erase a) h2 fun b hb => (List.mem_erase_of_ne (fun e => h1 (by rw [← e]; exact hb))).2 (h b (List.mem_cons_of_mem _ hb))
      rw [List.length_erase_of_mem ha] at this
      have hp : 0 < m.length := List.length_pos_of_mem ha
      rw [List.length_cons]; omega
  exact this hn fun s hs => (hm s).1 hs
theorem chkE_nil (l : List HCo) : chkE [l, []] = chkE [l] := by
  unfold chkE
  have e1 : [l, ([] : List HCo)].any manyB = [l].any manyB := by simp [manyB]
  have e2 : [l, ([] : List HCo)].flatten = [l].flatten := by simp
  rw [e1, e2]
set_option maxHeartbeats 8000000 in
set_option maxRecDepth 100000 in
theorem rcands_any (a : Option Addr) (m cap : Nat) (l : List HCo) (w : World) (hr : RdH w a m cap l) : Calls Tryd.prog 32 #[.slice a m cap] w (CandRet l w) := by
  have hchk := rcheck_any2 a m cap l none 0 0 [] w hr ⟨RdK.nilS w, fun y hy => by cases hy⟩
  rw [chkE_nil] at hchk
  have hl := hr.rd.len
  have hmm := len_int' hr.rd
  unfold CandRet
  by_cases h0 : chkE [l] = 0
  · obtain ⟨hlen, hwide⟩ := chkE_wide h0
    have hw2 : ∀ y ∈ l, y.x.length ≤ 64 := fun y hy => by rw [(hr.ok y hy).len]; exact hwide y hy
    have hcl := candL_len hw2
    have hfull : candL (l.take m) = candL l := by rw [List.take_of_length_le (by omega)]
    rw [h0] at hchk
    rw [h0]
    have hm4 : m ≤ 4096 := by omega
    replace hl := Lib.hid hl
    replace hcl := Lib.hid hcl
    replace hfull := Lib.hid hfull
    replace hwide := Lib.hid hwide
    replace h0 := Lib.hid h0
    have heq := eql_snd
    clear hlen hw2
    go_enter Tryd.func32, Tryd.ntmps32
    go_wp2_with fail
    refine hchk.mono ?_
    rintro e w1 ⟨rfl, hx1⟩
    clear hchk
    go_wp2_with fail
    go_loopw [5, 6, 7, 8, 9, 10] (fun v i _ _ _ _ wr => ∃ (j : Nat) (L : List Snd), j ≤ m ∧ i = .int .i64 j ∧ OwnS w1.heap.size 38 wr v L ∧ Hid (SrtOf cmpS L (candL (l.take j))) ∧ Ext w1 wr) (fun _ i _ _ _ _ _ => m - (intOf i).toNat)
    case atStart => exact ⟨0, [], Nat.zero_le _, rfl, OwnK.nil _ _ _, Lib.hid (by simp [candL]; exact SrtOf.nil), Ext.refl _⟩
    case round =>
      obtain ⟨j, L, hj, rfl, hown, hL, hxr⟩ := hrel
      by_cases hlt : j < m
      · obtain ⟨b, off, ⟨ya, yn, yc, ycnt, yx⟩, rfl, hy, hb, hc0, hc1, hcy⟩ := (hr.ext hx1).at hlt
        simp only at hc0 hc1 hcy
        have hys := Lib.hid (candL_succ hy.out)
        have hylen := Lib.hid hcy.len
        have hyn := len_int' hcy
        have hyl64 : yn ≤ 64 := hwide.out _ (List.mem_of_getElem? hy.out)
        have hjm : (j : Int) < (m : Int) := by omega
        go_wp2_with fail
        obtain ⟨wo, hwo⟩ : ∃ wo : World, wo = wr := ⟨_, rfl⟩
        clear hwo
        go_loopw [5, 7, 8, 9, 10] (fun v i _ _ _ wi => ∃ (q : Nat) (L : List Snd), q ≤ yn ∧ i = .int .i64 q ∧ OwnS w1.heap.size 38 wi v L ∧ Hid (SrtOf cmpS L (candL (l.take j) ++ sndC (yx.take q))) ∧ Ext w1 wi) (fun _ i _ _ _ _ => yn - (intOf i).toNat)
        case atStart => exact ⟨0, L, Nat.zero_le _, rfl, hown, Lib.hid (by have := hL.out; simpa [sndC] using this), hxr⟩
        clear hown hL hxr
        case round =>
          obtain ⟨q, L, hq, rfl, hown, hL, hxi⟩ := hrel
          have hh0 := hxi.cellv hc0
          by_cases hqn : q < yn
          · obtain ⟨bc, oc, c, rfl, hc, hbc, p0, p1, p2⟩ := (hcy.ext hxi).cl hqn
            have hqi : (q : Int) < (yn : Int) := by omega
            have hLl : L.length ≤ 262208 := by
              have h1 := srt_len hL.out
              rw [List.length_append] at h1
              have h2 := hcl.out j
              have h3 := sndC_len (yx.take q)
              rw [List.length_take] at h3
              omega
            have hsc := Lib.hid (sndC_succ hc.out)
            by_cases hk2 : c.kind = 2
            · have hd : (c.kind != 2) = false := by simpa using hk2
              have hxs2 : Hid (candL (l.take j) ++ sndC (yx.take (q + 1)) = (candL (l.take j) ++ sndC (yx.take q)) ++ [c.s]) := Lib.hid (by rw [hsc.out, if_pos hk2, List.append_assoc])
              replace hk2 := Lib.hid hk2
              obtain ⟨aL, nL, cL, eL, rfl, hrL⟩ := OwnK.rdn Snd.len hown
              have hnL : nL ≤ 262208 := by omega
              replace eL := Lib.hid eL
              have hncL := hrL.le
              clear hown
              go_wp2_with fail
              have bx0 : (wr.alloc (.cells #[.int .u32 c.s.p.toNat, .int .u32 c.s.m.toNat] 38)).cell? ⟨wr.heap.size, 0, none⟩ = some (.int .u32 c.s.p.toNat) := by go_simp
              have bx1 : (wr.alloc (.cells #[.int .u32 c.s.p.toNat, .int .u32 c.s.m.toNat] 38)).cell? ⟨wr.heap.size, 1, none⟩ = some (.int .u32 c.s.m.toNat) := by go_simp
              have hrLB := hrL.ext (Ext.alloc1 wr (.cells #[.int .u32 c.s.p.toNat, .int .u32 c.s.m.toNat] 38))
              have hxB : Ext w1 (wr.alloc (.cells #[.int .u32 c.s.p.toNat, .int .u32 c.s.m.toNat] 38)) := hxi.alloc _
              generalize (wr.alloc (.cells #[.int .u32 c.s.p.toNat, .int .u32 c.s.m.toNat] 38)) = wB at *
              generalize wr.heap.size = Bx at *
              clear hrL hxi hh0 p0 p1 p2
              go_loopw [9, 10] (fun v i wz => ∃ k : Nat, k ≤ nL ∧ i = .int .i64 k ∧ OwnS wB.heap.size 38 wz v (L.take k) ∧ Hid (∀ (i : Nat) (x : Snd), i < k → L[i]? = some x → cmpS x c.s < 0) ∧ Ext wB wz) (fun _ i _ => nL - (intOf i).toNat)
              case atStart => exact ⟨0, Nat.zero_le _, rfl, OwnK.nil _ _ _, Lib.hid (fun i x h => absurd h (Nat.not_lt_zero _)), Ext.refl _⟩
              case round =>
                obtain ⟨k, hk, rfl, hown9, hlo, hxz⟩ := hrel
                have hrLz := hrLB.ext hxz
                have by0 := hxz.cellv bx0
                have by1 := hxz.cellv bx1
                have hBz : Bx < wr.heap.size := cell_lt by0
                have Hlen : Hid ((L.take k).length = k) := Lib.hid (by rw [List.length_take, ← eL.out]; omega)
                by_cases hkn : k < nL
                · have hki : (k : Int) < (nL : Int) := by omega
                  obtain ⟨bL, oL, x, rfl, hxk, hbL, c0, c1⟩ := hrLz.snd hkn
                  have r0 := fun z : ExtOf wr => z.cell c0
                  have r1 := fun z : ExtOf wr => z.cell c1
                  have r2 := fun z : ExtOf wr => z.cell by0
                  have r3 := fun z : ExtOf wr => z.cell by1
                  by_cases hcl0 : cmpS x c.s < 0
                  · have hd9 : decide (cmpS x c.s < 0) = true := by simpa using hcl0
                    have hlo2 : Hid (∀ (i : Nat) (y : Snd), i < k + 1 → L[i]? = some y → cmpS y c.s < 0) := Lib.hid (fun i y hi hy => by
                      by_cases e : i = k
                      · subst e; rw [hxk.out] at hy; cases hy; exact hcl0
                      · exact hlo.out i y (by omega) hy)
                    have hsucc := Lib.hid (take_succ_at hxk.out)
                    replace hcl0 := Lib.hid hcl0
                    go_wp2_with fail
                    (refine wp_region_qx (by kernel_rfl) (by kernel_rfl) ?_
                     repeat (go_big_quiet_step ((go_at_call 72; exact calls_ext (rorder_any _ _ _))))
                     refine wpQuiet_nil ?_
                     intro wq hw'
                     have hxq := ext_of_ex hw'
                     clear hw')
                    have e0 := hxq.cellv c0
                    have e1 := hxq.cellv c1
                    clear r0 r1 r2 r3 by0 by1 c0 c1
                    go_wp2_with (at_builtin; refine wp_app1 wB wq x rfl _ _ 22 rfl 38 Tryd.underlying22 info_snd rfl (by decide) _ _ rfl (hown9.kept hxq) (hxz.trans hxq) rfl rfl (Snd.one x) (by rw [Hlen.out]; omega) (by rw [Hlen.out]; unfold maxLen; omega) ?_; intro v' w2 hown1 hx2 _)
                    (first | exact ⟨⟨k + 1, by omega, by go_num, by rw [hsucc.out]; exact hown1, hlo2, hx2⟩, (by simp [intOf]; omega)⟩ | (go_roundw; case rel => exact ⟨k + 1, by omega, by go_num, by rw [hsucc.out]; exact hown1, hlo2, hx2⟩; case measure => exact (by simp [intOf]; omega)))
                  · have hd9 : decide (cmpS x c.s < 0) = false := by simpa using hcl0
                    have hhi : Hid (∀ y, L[k]? = some y → 0 ≤ cmpS y c.s) := Lib.hid (fun y hy => by rw [hxk.out] at hy; cases hy; omega)
                    replace hcl0 := Lib.hid hcl0
                    go_wp2_with fail
                    (refine wp_region_qx (by kernel_rfl) (by kernel_rfl) ?_
                     repeat (go_big_quiet_step ((go_at_call 72; exact calls_ext (rorder_any _ _ _))))
                     refine wpQuiet_nil ?_
                     intro wq hw'
                     have hxq := ext_of_ex hw'
                     clear hw')
                    have e0 := hxq.cellv by0
                    have e1 := hxq.cellv by1
                    have hBq : Bx < wq.heap.size := cell_lt e0
                    have hown9q := hown9.kept hxq
                    have hxBq := hxz.trans hxq
                    clear r0 r1 r2 r3 by0 by1 c0 c1 hown9 hxq
                    go_wp2_with (at_builtin; refine wp_app1 wB wq c.s rfl _ _ 22 rfl 38 Tryd.underlying22 info_snd rfl (by decide) _ _ rfl hown9q hxBq rfl rfl (Snd.one c.s) (by rw [Hlen.out]; omega) (by rw [Hlen.out]; unfold maxLen; omega) ?_; intro v18 w18 hown18 hx18 _)
                    have hrL18 := hrLB.ext hx18
                    have cy0 := hx18.cellv bx0
                    have cy1 := hx18.cellv bx1
                    have hB18 : Bx < w18.heap.size := cell_lt cy0
                    clear hown9q hxBq
                    obtain ⟨_, _, x2, he2, hxk2, _, d0, d1⟩ := hrL18.snd hkn
                    cases he2
                    obtain rfl : x = x2 := by have := hxk2.out; rw [hxk.out] at this; exact Option.some.inj this
                    have r0 := fun z : ExtOf w18 => z.cell d0
                    have r1 := fun z : ExtOf w18 => z.cell d1
                    have r2 := fun z : ExtOf w18 => z.cell cy0
                    have r3 := fun z : ExtOf w18 => z.cell cy1
                    by_cases hxe : x = c.s
                    · have hde : decide (x = c.s) = true := by simpa using hxe
                      replace hxe := Lib.hid hxe
                      have hsl := fun w => run_sub_l (P := Tryd.prog) elem_snds size_snds (some ⟨bL, oL, Option.none⟩) nL cL (k + 1) (by omega) w
                      have hrd := hrL18.sub (l := k + 1) (m := nL) (by omega) (Nat.le_refl _)
                      rw [List.take_of_length_le (l := L) (by rw [eL.out]; exact Nat.le_refl _)] at hrd
                      skip
                      have hnew := Lib.hid (SrtOf.ins cmpS_tot hL.out hlo.out hhi.out (.inr ⟨rfl, by rw [hxk.out, hxe.out]⟩))
                      rw [← hxs2.out] at hnew
                      have hlen2 : Hid ((L.take k ++ [c.s]).length ≤ 262209) := Lib.hid (by rw [List.length_append, List.length_take]; simp; omega)
                      go_wp2_with fail
                      (refine wp_region_qx (by kernel_rfl) (by kernel_rfl) ?_
                       repeat (go_big_quiet_step (fail))
                       refine wpQuiet_nil ?_
                       intro wq hw'
                       have hxq := ext_of_ex hw'
                       clear hw')
                      go_wp2_with (at_builtin; refine wp_appN wB wq (L.drop (k + 1)) rfl _ _ 22 rfl 38 Tryd.underlying22 info_snd rfl (by decide) _ _ rfl (hown18.kept hxq) (hx18.trans hxq) _ _ _ rfl (hrd.ext hxq) Snd.len Snd.one (by have := hlen2.out; omega) (by have := hlen2.out; unfold maxLen; omega) ?_; intro v21 w21 hown21 hx21 _)
                      (first | exact ⟨⟨q + 1, _, by omega, by go_num, OwnK.base hown21 (Ext.le hxB), hnew, hxB.trans hx21⟩, (by simp [intOf]; omega)⟩ | (go_roundw; case rel => exact ⟨q + 1, _, by omega, by go_num, OwnK.base hown21 (Ext.le hxB), hnew, hxB.trans hx21⟩; case measure => exact (by simp [intOf]; omega)))
                    · have hde : decide (x = c.s) = false := by simpa using hxe
                      replace hxe := Lib.hid hxe
                      have hsl := fun w => run_sub_l (P := Tryd.prog) elem_snds size_snds (some ⟨bL, oL, Option.none⟩) nL cL (k) (by omega) w
                      have hrd := hrL18.sub (l := k) (m := nL) (by omega) (Nat.le_refl _)
                      rw [List.take_of_length_le (l := L) (by rw [eL.out]; exact Nat.le_refl _)] at hrd
                      skip
                      have hnew := Lib.hid (SrtOf.ins cmpS_tot hL.out hlo.out hhi.out (.inl ⟨rfl, fun y hy => by rw [hxk.out] at hy; cases hy; exact hxe.out⟩))
                      rw [← hxs2.out] at hnew
                      have hlen2 : Hid ((L.take k ++ [c.s]).length ≤ 262209) := Lib.hid (by rw [List.length_append, List.length_take]; simp; omega)
                      go_wp2_with fail
                      (refine wp_region_qx (by kernel_rfl) (by kernel_rfl) ?_
                       repeat (go_big_quiet_step (fail))
                       refine wpQuiet_nil ?_
                       intro wq hw'
                       have hxq := ext_of_ex hw'
                       clear hw')
                      go_wp2_with (at_builtin; refine wp_appN wB wq (L.drop (k)) rfl _ _ 22 rfl 38 Tryd.underlying22 info_snd rfl (by decide) _ _ rfl (hown18.kept hxq) (hx18.trans hxq) _ _ _ rfl (hrd.ext hxq) Snd.len Snd.one (by have := hlen2.out; omega) (by have := hlen2.out; unfold maxLen; omega) ?_; intro v21 w21 hown21 hx21 _)
                      (first | exact ⟨⟨q + 1, _, by omega, by go_num, OwnK.base hown21 (Ext.le hxB), hnew, hxB.trans hx21⟩, (by simp [intOf]; omega)⟩ | (go_roundw; case rel => exact ⟨q + 1, _, by omega, by go_num, OwnK.base hown21 (Ext.le hxB), hnew, hxB.trans hx21⟩; case measure => exact (by simp [intOf]; omega)))
                · obtain rfl : nL = k := by omega
                  have hhi : Hid (∀ y, L[nL]? = some y → 0 ≤ cmpS y c.s) := Lib.hid (fun y hy => by
                    have := (List.getElem?_eq_some_iff.1 hy).1; have := eL.out; omega)
                  have hno : Hid (∀ y, L[nL]? = some y → y ≠ c.s) := Lib.hid (fun y hy => by
                    have := (List.getElem?_eq_some_iff.1 hy).1; have := eL.out; omega)
                  obtain ⟨k, hkk⟩ : ∃ k, k = nL := ⟨_, rfl⟩
                  go_wp2_with fail
                  (refine wp_region_qx (by kernel_rfl) (by kernel_rfl) ?_
                   repeat (go_big_quiet_step (fail))
                   refine wpQuiet_nil ?_
                   intro wq hw'
                   have hxq := ext_of_ex hw'
                   clear hw')
                  have e0 := hxq.cellv by0
                  have e1 := hxq.cellv by1
                  have hBq : Bx < wq.heap.size := cell_lt e0
                  have hown9q := hown9.kept hxq
                  have hxBq := hxz.trans hxq
                  clear by0 by1 hown9 hxq
                  rw [← hkk] at hown9q hhi hlo hno Hlen
                  have hkb : k ≤ 262208 := by omega
                  replace hkk := Lib.hid hkk
                  go_wp2_with (at_builtin; refine wp_app1 wB wq c.s rfl _ _ 22 rfl 38 Tryd.underlying22 info_snd rfl (by decide) _ _ rfl hown9q hxBq rfl rfl (Snd.one c.s) (by rw [Hlen.out]; omega) (by rw [Hlen.out]; unfold maxLen; omega) ?_; intro v18 w18 hown18 hx18 _)
                  have hrL18 := hrLB.ext hx18
                  have cy0 := hx18.cellv bx0
                  have cy1 := hx18.cellv bx1
                  have hB18 : Bx < w18.heap.size := cell_lt cy0
                  clear hown9q hxBq
                  have hsl := fun w => run_sub_l (P := Tryd.prog) elem_snds size_snds (aL) nL cL (nL) (by omega) w
                  have hrd := hrL18.sub (l := nL) (m := nL) (by omega) (Nat.le_refl _)
                  rw [List.take_of_length_le (l := L) (by rw [eL.out]; exact Nat.le_refl _)] at hrd
                  rw [Nat.sub_self] at hrd
                  have hnew := Lib.hid (SrtOf.ins cmpS_tot hL.out hlo.out hhi.out (.inl ⟨hkk.out.symm, hno.out⟩))
                  rw [← hxs2.out] at hnew
                  have hlen2 : Hid ((L.take k ++ [c.s]).length ≤ 262209) := Lib.hid (by rw [List.length_append, List.length_take]; simp; omega)
                  go_wp2_with fail
                  (refine wp_region_qx (by kernel_rfl) (by kernel_rfl) ?_
                   repeat (go_big_quiet_step (fail))
                   refine wpQuiet_nil ?_
                   intro wq hw'
                   have hxq := ext_of_ex hw'
                   clear hw')
                  go_wp2_with (at_builtin; refine wp_appN wB wq (L.drop (nL)) rfl _ _ 22 rfl 38 Tryd.underlying22 info_snd rfl (by decide) _ _ rfl (hown18.kept hxq) (hx18.trans hxq) _ _ _ rfl (hrd.ext hxq) Snd.len Snd.one (by have := hlen2.out; omega) (by have := hlen2.out; unfold maxLen; omega) ?_; intro v21 w21 hown21 hx21 _)
                  (first | exact ⟨⟨q + 1, _, by omega, by go_num, OwnK.base hown21 (Ext.le hxB), hnew, hxB.trans hx21⟩, (by simp [intOf]; omega)⟩ | (go_roundw; case rel => exact ⟨q + 1, _, by omega, by go_num, OwnK.base hown21 (Ext.le hxB), hnew, hxB.trans hx21⟩; case measure => exact (by simp [intOf]; omega)))
            · have hd : (c.kind != 2) = true := by simpa using hk2
              have hL2 : Hid (SrtOf cmpS L (candL (l.take j) ++ sndC (yx.take (q + 1)))) := Lib.hid (by rw [hsc.out, if_neg hk2, List.append_nil]; exact hL.out)
              replace hk2 := Lib.hid hk2
              go_wp2_with fail
              (first | exact ⟨⟨q + 1, L, by omega, by go_num, hown, hL2, hxi⟩, (by simp [intOf]; omega)⟩ | (go_roundw; case rel => exact ⟨q + 1, L, by omega, by go_num, hown, hL2, hxi⟩; case measure => exact (by simp [intOf]; omega)))
          · have hfin : Hid (SrtOf cmpS L (candL (l.take (j + 1)))) := Lib.hid (by
              have := hL.out
              rw [List.take_of_length_le (l := yx) (by rw [hylen.out]; omega)] at this
              rw [hys.out]; exact this)
            go_wp2_with fail
            (first | exact ⟨⟨j + 1, L, by omega, by go_num, hown, hfin, hxi⟩, (by simp [intOf]; omega)⟩ | (go_roundw; case rel => exact ⟨j + 1, L, by omega, by go_num, hown, hfin, hxi⟩; case measure => exact (by simp [intOf]; omega)))
      · obtain rfl : m = j := by omega
        have hxw := hx1.trans hxr
        go_wp2_with fail
        go_ret2
        exact ⟨_, L, rfl, OwnK.base hown hx1.le, fun _ => by rw [← hfull.out]; exact hL.out, fun h => absurd rfl h, hxw⟩
  · generalize chkE [l] = er at *
    have hd : (er != 0) = true := by simpa using h0
    replace h0 := Lib.hid h0
    replace hl := Lib.hid hl
    go_enter Tryd.func32, Tryd.ntmps32
    go_wp2_with fail
    refine hchk.mono ?_
    rintro e w1 ⟨rfl, hx1⟩
    go_wp2_with fail
    go_ret2
    exact ⟨_, [], rfl, OwnK.nil _ _ _, fun h => absurd h h0.out, fun _ => rfl, hx1⟩
end Go.Proofs.YtdloabjnjnjacaaDoor
