/-
  together: the walk.
-/
import Derived.Test.YtilkemdecenibaaNc
import Derived.BigRegion
import Derived.Test.YtilkemdecenibaaBf
namespace Go.Proofs.Ytilkemdecenibaa
open Go.RowKit Go.Maps
theorem and1_any (x y : Bool) (w : World) : Calls Try.prog 74 #[.bool x, .bool y] w fun e w' => e = .returned (.bool (x && y)) ∧ Ext w w' := by
  cases x
  · go_enter Try.func74, Try.ntmps74
    go_wp2_with fail
    go_ret
    exact ⟨rfl, Ext.refl _⟩
  · go_enter Try.func74, Try.ntmps74
    go_wp2_with fail
    go_ret
    exact ⟨rfl, Ext.refl _⟩
theorem differ1_any (x y : Bool) (w : World) : Calls Try.prog 75 #[.bool x, .bool y] w fun e w' => e = .returned (.bool (x != y)) ∧ Ext w w' := by
  cases x <;> cases y
  all_goals
    go_enter Try.func75, Try.ntmps75
    go_wp2_with fail
    go_ret
    exact ⟨rfl, Ext.refl _⟩
set_option maxHeartbeats 4000000 in
set_option maxRecDepth 20000 in
theorem togD_any (A B : Au) (hAok : A.okB = true) (hBok : B.okB = true) (hsnd : A.snd = B.snd) (NA NB : Nat) (hNA : A.next.length = NA) (hNB : B.next.length = NB) (hA0 : 0 < NA) (hB0 : 0 < NB) (hmul : NA * NB ≤ 4096)
    (N J : Nat) (hN5 : N ≤ 5000) (hT : TogAt A B (fun x y => x != y) N) (D : Au) (hD : D = ⟨A.snd, (togN A B (fun x y => x != y) N).next, (togN A B (fun x y => x != y) N).fin⟩) (hDok : D.okB = true) (hJ : LeastAt D J) (w : World) (ba bb : Nat) (hA : AuAt w ba A) (hB : AuAt w bb B) :
    Calls Try.prog 73 #[.pointer (some ⟨ba, 0, none⟩), .pointer (some ⟨bb, 0, none⟩), .func (.func 75) #[] #[]] w (RetBu (leastM D J) w) := by
  have hma := fun W (hW : Ext w W) => made_any A W ba (hA.ext hW)
  have hmb := fun W (hW : Ext w W) => made_any B W bb (hB.ext hW)
  rw [show A.madeB = true by unfold Au.madeB; simp [hNA, hA0]] at hma
  rw [show B.madeB = true by unfold Au.madeB; simp [hNB, hB0]] at hmb
  obtain ⟨hs8, hfa, hra⟩ := Au.ok_at hAok
  obtain ⟨_, hfb, hrb⟩ := Au.ok_at hBok
  have hokp := togN_ok hAok hBok hsnd (by rw [hNA]; exact hA0) (by rw [hNB]; exact hB0) (fun x y => x != y)
  obtain ⟨sa, sc, na, nc, fa, fc, hbox, hS, hX, hF⟩ := hA
  obtain ⟨sb, sd, nb, nd, fb, fd, hboxb, hSb, hXb, hFb⟩ := hB
  rw [hfa, hNA] at hbox hF
  rw [hNA] at hX hra hokp
  rw [hfb, hNB] at hboxb hFb
  rw [hNB] at hXb hrb hokp
  rw [← hsnd] at hboxb hSb hrb
  obtain ⟨n, hn⟩ : ∃ n, A.snd.length = n := ⟨_, rfl⟩
  rw [hn] at hbox hS hra hs8 hboxb hSb hrb
  have q0 : w.cell? ⟨ba, 0, none⟩ = some (.slice sa n sc) := by simp [World.cell?, hbox]
  have q1 : w.cell? ⟨ba, 1, none⟩ = some (.slice na NA nc) := by simp [World.cell?, hbox]
  have q2 : w.cell? ⟨ba, 2, none⟩ = some (.slice fa NA fc) := by simp [World.cell?, hbox]
  have p0 : w.cell? ⟨bb, 0, none⟩ = some (.slice sb n sd) := by simp [World.cell?, hboxb]
  have p1 : w.cell? ⟨bb, 1, none⟩ = some (.slice nb NB nd) := by simp [World.cell?, hboxb]
  have p2 : w.cell? ⟨bb, 2, none⟩ = some (.slice fb NB fd) := by simp [World.cell?, hboxb]
  have hequ := fun W (hW : Ext w W) => seq_any sa sb n sc n sd A.snd A.snd W (hS.ext hW) (hSb.ext hW)
  simp only [decide_true] at hequ
  have hmi : IntKind.i64.wrap ((NA : Int) * (NB : Int)) = (NA : Int) * (NB : Int) := by
    have h0 : (0 : Int) ≤ (NA : Int) * (NB : Int) := Int.mul_nonneg (by omega) (by omega)
    have h1 : (NA : Int) * (NB : Int) ≤ 4096 := by exact_mod_cast hmul
    exact IntWalk.i64_in _ (by omega)
  have hmd : decide ((4096 : Int) < (NA : Int) * (NB : Int)) = false := by
    have h1 : (NA : Int) * (NB : Int) ≤ 4096 := by exact_mod_cast hmul
    simp; omega
  have hNA5 : NA ≤ 4096 := Nat.le_trans (Nat.le_mul_of_pos_right NA hB0) hmul
  have hNB5 : NB ≤ 4096 := Nat.le_trans (Nat.le_mul_of_pos_left NB hA0) hmul
  obtain ⟨xa, xo, rfl, _, _⟩ := hX.pos hA0
  obtain ⟨xb, xp, rfl, _, _⟩ := hXb.pos hB0
  obtain ⟨ga, go, rfl, _, _⟩ := hF.pos hA0
  obtain ⟨gb, gp, rfl, _, _⟩ := hFb.pos hB0
  have hmm := @run_makeMap Try.prog
  have hX' := Lib.hid hX
  have hXb' := Lib.hid hXb
  have hF' := Lib.hid hF
  have hFb' := Lib.hid hFb
  have hS' := Lib.hid hS
  replace hsnd := Lib.hid hsnd
  replace hNA := Lib.hid hNA
  replace hNB := Lib.hid hNB
  replace hfa := Lib.hid hfa
  replace hfb := Lib.hid hfb
  replace hra := Lib.hid hra
  replace hrb := Lib.hid hrb
  replace hn := Lib.hid hn
  replace hokp := Lib.hid hokp
  replace hT := Lib.hid hT
  replace hD := Lib.hid hD
  replace hDok := Lib.hid hDok
  replace hJ := Lib.hid hJ
  replace hmul := Lib.hid hmul
  replace hAok := Lib.hid hAok
  replace hBok := Lib.hid hBok
  clear hbox hboxb hX hXb hF hFb hS hSb
  go_enter Try.func73, Try.ntmps73
  go_wp2_with fail
  refine (hma _ (Ext.refl _)).mono ?_
  rintro e w1 ⟨rfl, hx1⟩
  have hmb1 := hmb w1 hx1
  clear hma hmb
  go_wp2_with fail
  refine hmb1.mono ?_
  rintro e w2 ⟨rfl, hx2⟩
  have hxw := hx1.trans hx2
  have k0 := hxw.cellv q0
  have m0 := hxw.cellv p0
  have e0 := fun X : ExtOf w2 => X.cell k0
  have e1 := fun X : ExtOf w2 => X.cell m0
  have hequ2 := fun X : ExtOf w2 => hequ X.w (hxw.trans X.h)
  clear hmb1 hequ
  go_wp2_with fail
  (refine wp_region_qx (by kernel_rfl) (by kernel_rfl) ?_
   repeat (go_big_quiet_step ((go_at_call 50; exact calls_ext (hequ2 _))))
   refine wpQuiet_nil ?_
   intro wq hw'
   have hxq := ext_of_ex hw'
   clear hw')
  have hxw3 := hxw.trans hxq
  have k1 := hxw3.cellv q1
  have m1 := hxw3.cellv p1
  clear hequ2 e0 e1 k0 m0 hx1 hx2 hxq hxw
  generalize wq = w3 at *
  have e0 := fun X : ExtOf w3 => X.cell k1
  have e1 := fun X : ExtOf w3 => X.cell m1
  go_wp2_with fail
  (refine wp_region_qx (by kernel_rfl) (by kernel_rfl) ?_
   repeat (go_big_quiet_step (fail))
   refine wpQuiet_nil ?_
   intro wq hw'
   have hxq := ext_of_ex hw'
   clear hw')
  have hxw4 := hxw3.trans hxq
  clear e0 e1 k1 m1 hxq hxw3
  generalize wq = w4 at *
  have k0 := hxw4.cellv q0
  have hM0 := MapK.made w4 Try.prog 166 3 klP
  have hkey0 := keyP ⟨(0, 0), by decide⟩
  have hBl := cell_lt k0
  go_wp2_with (refine wp_mapInsert rfl _ _ _ 167 rfl 166 3 keyed_p2 Try.underlying167 klP_inj klP_lit rfl hM0 (by unfold maxLen; omega) _ _ _ rfl rfl hkey0 (plainElem_int (H := Unit) Try.underlying3 (wf_nat 0 (by omega))) ?_; intro w5 hM5 hg5 _; have hx5 : Ext w4 w5 := (Ext.alloc1 w4 (.map #[] 0)).grown hg5 (fun q e => by cases e; exact Nat.le_refl _); have k05 := hx5.cellv k0; have hBl5 := cell_lt k05)
  obtain ⟨w7, hw7⟩ : ∃ X, X = ((w5.alloc (.cells #[.int .i64 0, .int .i64 0] 166)).alloc (.cells #[.slice sa n sc, .slice none 0 0, .slice none 0 0] 68)) := ⟨_, rfl⟩
  have hI7 : TogI w4.heap.size (w5.heap.size + 1) w7 (.slice (some ⟨w5.heap.size, 0, none⟩) 1 1) (.slice none 0 0) (.slice none 0 0) (.slice sa n sc) [(0, 0)] [] [] := by
    have hlt := lit_own P2.len w5 166 [((0, 0) : Nat × Nat)] #[.int .i64 0, .int .i64 0] rfl (n := 1) rfl (by decide)
    have hbx := World.alloc_heap_new (w5.alloc (.cells #[.int .i64 0, .int .i64 0] 166)) (.cells #[.slice sa n sc, .slice none 0 0, .slice none 0 0] 68)
    rw [World.size_alloc] at hbx
    rw [hw7]
    exact ⟨hbx, OwnK.nil _ _ _, OwnK.nil _ _ _, (hlt.base hx5.le).kept (Ext.alloc1 _ _)⟩
  have hx57 : Ext w5 w7 := by rw [hw7]; exact (Ext.alloc1 _ _).alloc _
  have hM7 := hM5.kept hx57
  have hx7 := hx5.trans hx57
  have hBaw : w4.heap.size ≤ w5.heap.size + 1 := by have := hx5.le; omega
  rw [← hw7]
  replace hw7 := Lib.hid hw7
  clear hM0 hM5 hg5 hx5 k05 hBl5 hBl k0 hx57 hmm
  obtain ⟨Bm, hBm⟩ : ∃ B, B = w4.heap.size := ⟨_, rfl⟩
  rw [← hBm] at hM7 ⊢
  have hBmw : w4.heap.size ≤ Bm := by omega
  replace hBm := Lib.hid hBm
  generalize w5.heap.size + 1 = Ba at *
  generalize w5.heap.size = Ss at *
  obtain ⟨TN, hTN⟩ : ∃ f, f = togN A B (fun x y => x != y) := ⟨_, rfl⟩
  have hT0 : (TN 0).ps = [(0, 0)] ∧ (TN 0).next = [] ∧ (TN 0).fin = [] := by rw [hTN]; exact ⟨rfl, rfl, rfl⟩
  have hTs : ∀ i, TN (i + 1) = ⟨(rowP (pairsAt A B ((TN i).ps.getD i (0, 0))) (TN i).ps).2, (TN i).next ++ [(rowP (pairsAt A B ((TN i).ps.getD i (0, 0))) (TN i).ps).1], (TN i).fin ++ [(fun x y => x != y) (A.fin.getD ((TN i).ps.getD i (0, 0)).1 false) (B.fin.getD ((TN i).ps.getD i (0, 0)).2 false)]⟩ := fun i => by rw [hTN]; rfl
  have hTl : (TN N).ps.length = N ∧ ∀ i, i < N → i < (TN i).ps.length := by rw [hTN]; exact hT.out
  have hTp : ∀ i, i ≤ N → (TN i).ps.length ≤ N := fun i hi => by rw [← hTl.1]; rw [hTN]; exact (togN_pre A B (fun x y => x != y) hi).length_le
  have hTne : ∀ i, (TN i).ps ≠ [] := fun i => by rw [hTN]; exact togN_ne _ _ _ i
  have hTnl : ∀ i, (TN i).next.length = i ∧ (TN i).fin.length = i := fun i => by rw [hTN]; exact togN_next _ _ _ i
  have hTok : ∀ i, ∀ p ∈ (TN i).ps, p.1 < NA ∧ p.2 < NB := fun i => by rw [hTN]; exact hokp.out i
  rw [← hTN] at hD
  replace hTN := Lib.hid hTN
  replace hT0 := Lib.hid hT0
  replace hTs := Lib.hid hTs
  replace hTl := Lib.hid hTl
  replace hTp := Lib.hid hTp
  replace hTne := Lib.hid hTne
  replace hTnl := Lib.hid hTnl
  replace hTok := Lib.hid hTok
  have hI8 : TogI w4.heap.size Ba w7 (.slice (some ⟨Ss, 0, none⟩) 1 1) (.slice none 0 0) (.slice none 0 0) (.slice sa n sc) (TN 0).ps (TN 0).next (TN 0).fin := by rw [hT0.out.1, hT0.out.2.1, hT0.out.2.2]; exact hI7
  have hM8 : MapK Try.prog 166 3 klP w7 Bm (TN 0).ps.length (fP (TN 0).ps) := by
    rw [hT0.out.1]
    have e : fP [(0, 0)] = fun z => if z = ⟨(0, 0), by decide⟩ then some (.int .i64 0) else none := by
      funext z
      unfold fP
      by_cases h : z = ⟨(0, 0), by decide⟩
      · subst h; rfl
      · rw [if_neg h, if_neg (fun hm => h (Subtype.ext (by simpa using hm)))]
    rw [e]; exact hM7
  clear hI7 hM7
  go_loopw [9, 11] (fun cv iv wr => ∃ (i : Nat) (nv fv : Value), i ≤ N ∧ iv = .int .i64 i ∧ TogI w4.heap.size Ba wr cv nv fv (.slice sa n sc) (TN i).ps (TN i).next (TN i).fin ∧ Hid (MapK Try.prog 166 3 klP wr Bm (TN i).ps.length (fP (TN i).ps)) ∧ Ext w4 wr) (fun _ iv _ => N - (intOf iv).toNat)
  case atStart => exact ⟨0, _, _, Nat.zero_le _, rfl, hI8, Lib.hid hM8, hx7⟩
  case round =>
    clear hI8 hM8 hx7
    obtain ⟨i, nv, fv, hi, rfl, hI, hM, hx⟩ := hrel
    obtain ⟨csa, csn, csc, hcsn, rfl, _⟩ := OwnK.rdn P2.len hI.own
    obtain ⟨Sb, rfl⟩ := own_some hI.own (hTne.out i)
    by_cases hlt : i < N
    · have hi1 := hTl.out.2 i hlt
      have hcl : i < csn := by omega
      have hcl5 : csn ≤ 5000 := by have := hTp.out i hi; omega
      replace hcsn := Lib.hid hcsn
      obtain ⟨⟨px, py⟩, hpp⟩ : ∃ c, (TN i).ps[i]? = some c := ⟨_, List.getElem?_eq_getElem hi1⟩
      obtain ⟨hpx, hpy⟩ := hTok.out i (px, py) (List.mem_of_getElem? hpp)
      simp only at hpx hpy
      have hgd : (TN i).ps.getD i (0, 0) = (px, py) := by rw [List.getD_eq_getElem?_getD, hpp]; rfl
      have hsu := hTs.out i
      rw [hgd] at hsu
      have c0 := own_at P2.len hI.own hpp (j := 0) rfl
      have c1 := own_at P2.len hI.own hpp (j := 1) rfl
      rw [Nat.add_zero] at c0
      obtain ⟨PL, hPL⟩ : ∃ l, l = pairsAt A B (px, py) := ⟨_, rfl⟩
      obtain ⟨ra, hra2⟩ : ∃ r, A.next[px]? = some r := ⟨_, List.getElem?_eq_getElem (by rw [hNA.out]; exact hpx)⟩
      obtain ⟨rb, hrb2⟩ : ∃ r, B.next[py]? = some r := ⟨_, List.getElem?_eq_getElem (by rw [hNB.out]; exact hpy)⟩
      have hPLl : PL.length = n := by rw [hPL]; unfold pairsAt; rw [List.length_map, List.length_range]; exact hn.out
      have hPLa : ∀ k, k < n → PL[k]? = some (ra.getD k 0, rb.getD k 0) := fun k hk => by
        rw [hPL]; unfold pairsAt
        rw [List.getElem?_map, List.getElem?_range (by rw [hn.out]; exact hk)]
        show some ((A.next.getD px []).getD k 0, (B.next.getD py []).getD k 0) = _
        rw [List.getD_eq_getElem?_getD (l := A.next), hra2, List.getD_eq_getElem?_getD (l := B.next), hrb2]; rfl
      rw [← hPL] at hsu
      obtain ⟨RB, hRB⟩ : ∃ f : Nat → List Nat × List (Nat × Nat), f = fun k => rowP (PL.take k) (TN i).ps := ⟨_, rfl⟩
      have hR0 : RB 0 = ([], (TN i).ps) := by rw [hRB]; rfl
      have hRn : rowP PL (TN i).ps = RB n := by rw [hRB]; simp only; rw [List.take_of_length_le (by rw [hPLl]; exact Nat.le_refl _)]
      have hRs : ∀ k q, PL[k]? = some q → RB (k + 1) = ((RB k).1 ++ [(putP (RB k).2 q).1], (putP (RB k).2 q).2) := fun k s h => by rw [hRB]; simp only; rw [take_succ_at h, rowP_snoc]
      have hRl : ∀ k, (RB k).2.length ≤ N := fun k => by
        have h1 := (rowP_take_pre PL k (TN i).ps).length_le
        have h2 := hTp.out (i + 1) hlt
        rw [hsu] at h2
        rw [hRB]; simp only at h2 ⊢; omega
      have hRk : ∀ k, k ≤ n → (RB k).1.length = k := fun k hk => by rw [hRB]; simp only; rw [rowP_len, List.length_take, hPLl]; omega
      rw [hRn] at hsu
      replace hpp := Lib.hid hpp
      replace hgd := Lib.hid hgd
      replace hsu := Lib.hid hsu
      replace hPL := Lib.hid hPL
      replace hPLl := Lib.hid hPLl
      replace hPLa := Lib.hid hPLa
      replace hra2 := Lib.hid hra2
      replace hrb2 := Lib.hid hrb2
      replace hRB := Lib.hid hRB
      replace hR0 := Lib.hid hR0
      replace hRn := Lib.hid hRn
      replace hRs := Lib.hid hRs
      replace hRl := Lib.hid hRl
      replace hRk := Lib.hid hRk
      have e0 := fun X : ExtOf wr => X.cell c0
      have e1 := fun X : ExtOf wr => X.cell c1
      go_wp2_with fail
      (refine wp_region_qx (by kernel_rfl) (by kernel_rfl) ?_
       repeat (go_big_quiet_step (fail))
       refine wpQuiet_nil ?_
       intro wq hw'
       have hxq := ext_of_ex hw'
       clear hw')
      have hIq := hI.kept hxq
      have hMq := hM.out.kept hxq
      have hxx := hx.trans hxq
      clear hI hM hx c0 c1 e0 e1 hxq
      generalize wr = wold at *
      have hxa : Ext wq (wq.alloc (.cells (rowCells []) 101)) := Ext.alloc1 _ _
      have hI1 := hIq.kept hxa
      have hM1 := hMq.kept hxa
      have hx1 := hxx.trans hxa
      have hr1 := RowB.new wq []
      have hM2 : Hid (MapK Try.prog 166 3 klP (wq.alloc (.cells (rowCells []) 101)) Bm (RB 0).2.length (fP (RB 0).2)) := Lib.hid (by rw [hR0.out]; exact hM1)
      have hI2 : TogI w4.heap.size Ba (wq.alloc (.cells (rowCells []) 101)) (.slice (some ⟨Sb, 0, none⟩) csn csc) nv fv (.slice sa n sc) (RB 0).2 (TN i).next (TN i).fin := by rw [hR0.out]; exact hI1
      have hnB : nv.ownBlock ≠ some wq.heap.size := fun e => by have := (own_lt hIq.nxt e).2; omega
      have hr01 : RowB (wq.alloc (.cells (rowCells []) 101)) wq.heap.size (RB 0).1 := by rw [hR0.out]; exact hr1
      have hwr := hxx.le
      have k0 := hxx.cellv (hxw4.cellv q0)
      have hbq := cell_lt (hxx.cellv (hxw4.cellv q0))
      go_wp2_with fail
      change TogI _ _ (wq.alloc (.cells #[.int .i64 0, .int .i64 0, .int .i64 0, .int .i64 0, .int .i64 0, .int .i64 0, .int .i64 0, .int .i64 0] 101)) _ _ _ _ _ _ _ at hI2
      change Ext w4 (wq.alloc (.cells #[.int .i64 0, .int .i64 0, .int .i64 0, .int .i64 0, .int .i64 0, .int .i64 0, .int .i64 0, .int .i64 0] 101)) at hx1
      change RowB (wq.alloc (.cells #[.int .i64 0, .int .i64 0, .int .i64 0, .int .i64 0, .int .i64 0, .int .i64 0, .int .i64 0, .int .i64 0] 101)) _ _ at hr01
      replace hM2 : Hid (MapK Try.prog 166 3 klP (wq.alloc (.cells #[.int .i64 0, .int .i64 0, .int .i64 0, .int .i64 0, .int .i64 0, .int .i64 0, .int .i64 0, .int .i64 0] 101)) Bm (RB 0).2.length (fP (RB 0).2)) := hM2
      clear hIq hMq hxx hxa hI1 hM1 hr1 k0 hbq
      generalize wq.alloc (.cells #[.int .i64 0, .int .i64 0, .int .i64 0, .int .i64 0, .int .i64 0, .int .i64 0, .int .i64 0, .int .i64 0] 101) = w8 at *
      generalize wq.heap.size = Bt at *
      go_loopw [9, 81] (fun cv kv wr => ∃ k : Nat, k ≤ n ∧ kv = .int .i64 k ∧ TogI w4.heap.size Ba wr cv nv fv (.slice sa n sc) (RB k).2 (TN i).next (TN i).fin ∧ Hid (MapK Try.prog 166 3 klP wr Bm (RB k).2.length (fP (RB k).2)) ∧ RowB wr Bt (RB k).1 ∧ Ext w4 wr) (fun _ kv _ => n - (intOf kv).toNat)
      case atStart => exact ⟨0, Nat.zero_le _, rfl, hI2, hM2, hr01, hx1⟩
      case round =>
        clear hI2 hM2 hr01 hx1
        obtain ⟨k, hk, rfl, hI, hM, hrb', hx⟩ := hrel
        obtain ⟨cva, csn2, csc2, hcsn2, rfl, _⟩ := OwnK.rdn P2.len hI.own
        by_cases hlk : k < n
        · have hc5 : csn2 ≤ 5000 := by have := hRl.out k; omega
          obtain ⟨u, hu⟩ : ∃ u, u = ra.getD k 0 := ⟨_, rfl⟩
          obtain ⟨v, hv⟩ : ∃ v, v = rb.getD k 0 := ⟨_, rfl⟩
          have hPk := hPLa.out k hlk
          rw [← hu, ← hv] at hPk
          have huN := hra.out px ra hra2.out k hlk
          have hvN := hrb.out py rb hrb2.out k hlk
          rw [← hu] at huN
          rw [← hv] at hvN
          have hxw5 := hxw4.trans hx
          have k1 := hxw5.cellv q1
          have m1 := hxw5.cellv p1
          obtain ⟨_, _, r2, e, hr2, hrbl, hrc⟩ := (hX'.out.ext hxw5).get hpx
          cases e
          obtain rfl : r2 = ra := by have := hr2.out; rw [hra2.out] at this; exact (Option.some.inj this).symm
          have cu := hrc k _ (RE.at r2 (by omega))
          rw [← hu] at cu
          obtain ⟨_, _, r3, e, hr3, hrbl3, hrc3⟩ := (hXb'.out.ext hxw5).get hpy
          cases e
          obtain rfl : r3 = rb := by have := hr3.out; rw [hrb2.out] at this; exact (Option.some.inj this).symm
          have cv := hrc3 k _ (RE.at r3 (by omega))
          rw [← hv] at cv
          clear hrc hrc3 hr2 hr3
          obtain ⟨xk, hxk1⟩ : ∃ x : K2, x.1 = (u, v) := ⟨⟨(u, v), by omega, by omega⟩, rfl⟩
          have hkb : keyOf Try.prog 166 (.agg #[.int .i64 (u : Int), .int .i64 (v : Int)]) = some (klP xk) := by have := keyP xk; rw [hxk1] at this; exact this
          replace hxk1 := Lib.hid hxk1
          have hRk1 := hRs.out k (u, v) hPk
          have hRkl := hRk.out k hk
          have hxs : Ext wr (wr.alloc (.cells #[.int .i64 (u : Int), .int .i64 (v : Int)] 166)).drew := (Ext.alloc1 _ _).drew
          have hbx : (wr.alloc (.cells #[.int .i64 (u : Int), .int .i64 (v : Int)] 166)).drew.heap[wr.heap.size]? = some (.cells #[.int .i64 (u : Int), .int .i64 (v : Int)] 166 (0, 0)) := World.alloc_heap_new wr _
          have hBmk : Bm ≠ wr.heap.size := Nat.ne_of_lt (MapK.lt hM.out)
          have hI1 := Lib.hid (hI.kept hxs)
          have hM1 := hM.out.kept hxs
          have hr1 := RowB.ext hrb' hxs
          have hx1 := hx.trans hxs
          have hkN : (k : Int) < (n : Int) := by omega
          replace hu := Lib.hid hu
          replace hv := Lib.hid hv
          replace hPk := Lib.hid hPk
          replace hRk1 := Lib.hid hRk1
          replace hRkl := Lib.hid hRkl
          replace hcsn2 := Lib.hid hcsn2
          have hbk := cell_lt k1
          have hbm := cell_lt m1
          clear hI hM hrb'
          go_wp2_with fail
          go_region
          generalize (wr.alloc (.cells #[.int .i64 (u : Int), .int .i64 (v : Int)] 166)).drew = wq at *
          generalize wr.heap.size = Bk at *
          have d0 : wq.cell? ⟨Bk, 0, none⟩ = some (.int .i64 (u : Int)) := by simp [World.cell?, hbx]
          have d1 : wq.cell? ⟨Bk, 1, none⟩ = some (.int .i64 (v : Int)) := by simp [World.cell?, hbx]
          have hc8 := hr1.at (i := k) (by omega)
          have hf8 := hr1.free k
          have hsz2 : (RB k).2.length < maxLen := by rw [← hcsn2.out]; unfold maxLen; omega
          clear hbx k1 m1 cu cv hx hxs hbk hbm
          by_cases hmem : (u, v) ∈ (RB k).2
          · obtain ⟨ix, hix⟩ : ∃ ix, ix = (RB k).2.idxOf (u, v) := ⟨_, rfl⟩
            have hput : putP (RB k).2 (u, v) = (ix, (RB k).2) := by unfold putP; rw [if_pos hmem, hix]
            have hRe := hRk1.out
            rw [hput] at hRe
            have hval : ((fP (RB k).2 xk).getD (.int .i64 0)).value = .int .i64 (ix : Int) := by unfold fP; rw [hxk1.out, if_pos hmem, hix]; rfl
            have hsome : (fP (RB k).2 xk).isSome = true := by unfold fP; rw [hxk1.out, if_pos hmem]; rfl
            replace hput := Lib.hid hput
            replace hix := Lib.hid hix
            replace hmem := Lib.hid hmem
            replace hRe := Lib.hid hRe
            go_wp2_with (at_lookup; refine wp_mapLookOk rfl _ _ 167 rfl 166 3 keyed_p2 Try.underlying167 (zeroI _) (plainElem_int (H := Unit) Try.underlying3 (by decide)) rfl hM1 _ _ rfl hkb _ hval _ hsome ?_)
            have hrp := hr1.put (v := ix) hRkl.out (by omega)
            have e1 : (RB k).1 ++ [ix] = (RB (k + 1)).1 := by rw [hRe.out]
            have e2 : (RB k).2 = (RB (k + 1)).2 := by rw [hRe.out]
            rw [e1] at hrp
            have hI2 : TogI w4.heap.size Ba (World.setCell wq ⟨Bt, k, none⟩ (.int .i64 (ix : Int))) (.slice cva csn2 csc2) nv fv (.slice sa n sc) (RB (k + 1)).2 (TN i).next (TN i).fin := by rw [← e2]; exact hI1.out.setTo hr1 hnB k _
            have hM2 : Hid (MapK Try.prog 166 3 klP (wq.setCell ⟨Bt, k, none⟩ (.int .i64 (ix : Int))) Bm (RB (k + 1)).2.length (fP (RB (k + 1)).2)) := Lib.hid (by rw [← e2]; exact hM1.setOff hr1 _ _)
            (first | exact ⟨⟨k + 1, hlk, by go_num, hI2, hM2, hrp, ext_set hx1 hwr k _⟩, (by simp [intOf]; omega)⟩ | (go_roundw; case rel => exact ⟨k + 1, hlk, by go_num, hI2, hM2, hrp, ext_set hx1 hwr k _⟩; case measure => exact (by simp [intOf]; omega)))
          · have hput : putP (RB k).2 (u, v) = (csn2, (RB k).2 ++ [(u, v)]) := by unfold putP; rw [if_neg hmem, hcsn2.out]
            have hRe := hRk1.out
            rw [hput] at hRe
            have hfs := fP_snoc (RB k).2 xk (by rw [hxk1.out]; exact hmem)
            rw [hxk1.out, ← hcsn2.out] at hfs
            have hval : ((fP (RB k).2 xk).getD (.int .i64 0)).value = .int .i64 0 := by unfold fP; rw [hxk1.out, if_neg hmem]; rfl
            have hsome : (fP (RB k).2 xk).isSome = false := by unfold fP; rw [hxk1.out, if_neg hmem]; rfl
            replace hput := Lib.hid hput
            replace hmem := Lib.hid hmem
            replace hRe := Lib.hid hRe
            replace hfs := Lib.hid hfs
            go_wp2_with (first
              | (at_lookup; refine wp_mapLookOk rfl _ _ 167 rfl 166 3 keyed_p2 Try.underlying167 (zeroI _) (plainElem_int (H := Unit) Try.underlying3 (by decide)) rfl hM1 _ _ rfl hkb _ hval _ hsome ?_)
              | (at_mapUpdate; refine wp_mapStore rfl _ _ _ 167 rfl 166 3 keyed_p2 Try.underlying167 klP_inj klP_lit rfl hM1 hsz2 _ _ _ rfl rfl hkb (plainElem_int (H := Unit) Try.underlying3 (wf_nat csn2 (by omega))) ?_; intro w6 hM6 hg6 _; have hI6 := TogI.beside hI1.out hg6 (fun r e => by cases e; exact hM1.obj); have hrq6 := RowB.beside hr1 hg6 (fun r e => by cases e; exact hM1.obj); have hx6 := hx1.grown hg6 (fun q e => by cases e; exact hBmw); have hown6 := Lib.hid hI6.own; have d06 := gb_cell hg6 d0 (by intro e; exact hBmk (Option.some.inj e)); have d16 := gb_cell hg6 d1 (by intro e; exact hBmk (Option.some.inj e)))
              | (at_builtin; refine wp_app1 w4 _ ((u, v) : Nat × Nat) rfl _ _ 168 rfl 166 Try.underlying168 info_p2 rfl (by decide) _ _ rfl hown6.out hx6 rfl (P2.len _) (P2.one _) (by rw [← hcsn2.out]; omega) (by rw [← hcsn2.out]; unfold maxLen; omega) ?_; intro v5 w10 o5 x5 hgA; have hI10 := Lib.hid (hI6.push (Ext.alloc1 _ _) o5 hgA); have hM10 := Lib.hid (hI6.mapPush (Ext.alloc1 _ _) hgA hM6); have hr10 : RowB w10 Bt (RB k).1 := (blk_otherT (hrq6.ext (Ext.alloc1 _ _)) (hI6.own.kept (Ext.alloc1 _ _)) hgA (by decide)); have hc10 := hr10.at (i := k) (by omega); have hf10 := hr10.free k; clear hc8 hf8))
            have hrp := hr10.put (v := csn2) hRkl.out (by omega)
            have e1 : (RB k).1 ++ [csn2] = (RB (k + 1)).1 := by rw [hRe.out]
            have e2 : (RB k).2 ++ [(u, v)] = (RB (k + 1)).2 := by rw [hRe.out]
            rw [e1] at hrp
            have hI11 := hI10.out.setTo hr10 hnB k (.int .i64 (csn2 : Int))
            rw [e2] at hI11
            have hM2 : Hid (MapK Try.prog 166 3 klP (w10.setCell ⟨Bt, k, none⟩ (.int .i64 (csn2 : Int))) Bm (RB (k + 1)).2.length (fP (RB (k + 1)).2)) := Lib.hid (by
              rw [← e2, ← hfs.out, List.length_append]
              exact hM10.out.setOff hr10 _ _)
            (first | exact ⟨⟨k + 1, hlk, by go_num, hI11, hM2, hrp, ext_set x5 hwr k _⟩, (by simp [intOf]; omega)⟩ | (go_roundw; case rel => exact ⟨k + 1, hlk, by go_num, hI11, hM2, hrp, ext_set x5 hwr k _⟩; case measure => exact (by simp [intOf]; omega)))
        · obtain rfl : k = n := by omega
          have c5 : csn2 ≤ 5000 := by have := hRl.out k; omega
          replace hcsn2 := Lib.hid hcsn2
          obtain ⟨l0, l1, l2, l3, l4⟩ := hI.cells
          obtain ⟨nva, nvn, nvc, hnvn, rfl, _⟩ := OwnK.rdn RE.len hI.nxt
          have hnl := (hTnl.out i).1
          obtain ⟨rr, hrr⟩ : ∃ r, r = (RB k).1 := ⟨_, rfl⟩
          rw [← hrr] at hrb'
          have r0 := hrb'.at (i := 0) (by decide)
          have r1 := hrb'.at (i := 1) (by decide)
          have r2 := hrb'.at (i := 2) (by decide)
          have r3 := hrb'.at (i := 3) (by decide)
          have r4 := hrb'.at (i := 4) (by decide)
          have r5 := hrb'.at (i := 5) (by decide)
          have r6 := hrb'.at (i := 6) (by decide)
          have r7 := hrb'.at (i := 7) (by decide)
          have hlk2 := OwnK.rdc RE.len (lit_own RE.len wr 101 [rr] (rowCells rr) rfl (n := 1) rfl (by decide))
          have hxl2 : Ext wr (wr.alloc (.cells (rowCells rr) 101)).drew := (Ext.alloc1 _ _).drew
          have hlk3 := hlk2.ext ((Ext.refl _).drew)
          have happ : ∀ (v5 : Value) (w5 : World), OwnK 8 RE.enc w4.heap.size 101 w5 v5 ((TN i).next ++ [rr]) → (wr.alloc (.cells (rowCells rr) 101)).drew.grownBy w5 (Value.slice nva nvn nvc).ownBlock →
              w5.cell? ⟨Ba, 1, none⟩ = some (.slice nva nvn nvc) ∧ w5.frozen? ⟨Ba, 1, none⟩ = false ∧ TogI w4.heap.size Ba (w5.setCell ⟨Ba, 1, none⟩ v5) (.slice cva csn2 csc2) v5 fv (.slice sa k sc) (RB k).2 ((TN i).next ++ [rr]) (TN i).fin ∧ MapK Try.prog 166 3 klP (w5.setCell ⟨Ba, 1, none⟩ v5) Bm (RB k).2.length (fP (RB k).2) ∧ Ext w4 (w5.setCell ⟨Ba, 1, none⟩ v5) := fun v5 w5 o5 g5 => by
            obtain ⟨h1, h2, h3⟩ := hI.putNext hxl2 o5 g5
            exact ⟨h2, h3, h1, hI.mapNext hxl2 g5 hM.out _, ext_set (Ext.grown (hx.trans hxl2) g5 fun j hj => (own_lt (hI.nxt.kept hxl2) hj).1) hBaw _ _⟩
          replace happ := Lib.hid happ
          have hnx := Lib.hid (hI.nxt.kept hxl2)
          have hbw := hx.le
          replace hrr := Lib.hid hrr
          replace hnvn := Lib.hid hnvn
          replace hnl := Lib.hid hnl
          go_wp2_with fail
          go_region_law ((refine step_app1 w4.heap.size _ rr rfl _ _ 65 rfl 101 Try.underlying65 info_row rfl (by decide) RE.len RE.one (.slice nva nvn nvc) (TN i).next rfl hnx.out ⟨wr.heap.size, 0, none⟩ rfl hlk3 (by rw [hnl.out]; omega) (by decide) (by have := hbw; simp; omega) ?_; intro v5 w5 o5 g5 n5; obtain ⟨a5, m5, c5b, hm5, rfl, _⟩ := OwnK.rdn RE.len o5; replace hm5 := Lib.hid hm5; obtain ⟨s0, s1, s2, s3, s4⟩ := happ.out _ w5 o5 g5))
          all_goals (
            clear r0 r1 r2 r3 r4 r5 r6 r7 l0 l1 l2 l3 l4 s0 s1 happ o5 g5 n5
            generalize (w5.setCell ⟨Ba, 1, none⟩ (.slice a5 m5 c5b)) = wa at *
            have hxwa := hxw4.trans s4
            have k2 := hxwa.cellv q2
            have m2 := hxwa.cellv p2
            obtain ⟨_, _, bx, e, hbx, _, hfc⟩ := (hF'.out.ext hxwa).get hpx
            cases e
            have fx := hfc 0 _ rfl
            rw [Nat.mul_one, Nat.add_zero] at fx
            obtain ⟨_, _, by', e, hby, _, hfc2⟩ := (hFb'.out.ext hxwa).get hpy
            cases e
            have fy := hfc2 0 _ rfl
            rw [Nat.mul_one, Nat.add_zero] at fy
            clear hfc hfc2
            obtain ⟨bv, hbv⟩ : ∃ b : Bool, b = (fun x y => x != y) bx by' := ⟨_, rfl⟩
            have hcall : ∀ W, Calls Try.prog 75 #[.bool bx, .bool by'] W fun e w' => e = .returned (.bool bv) ∧ Ext W w' := fun W => by rw [hbv]; exact differ1_any bx by' W
            obtain ⟨l0, l1, l2, l3, l4⟩ := s2.cells
            obtain ⟨fva, fvn, fvc, hfvn, rfl, _⟩ := OwnK.rdn BE.len s2.ends
            have hfl := (hTnl.out i).2
            have happ2 : ∀ (W : World), Ext wa W → ∀ (v5 : Value) (w5 : World), OwnK 1 BE.enc w4.heap.size 4 w5 v5 ((TN i).fin ++ [bv]) → (W.alloc (.cells #[.bool bv] 4)).grownBy w5 (Value.slice fva fvn fvc).ownBlock →
                w5.cell? ⟨Ba, 2, none⟩ = some (.slice fva fvn fvc) ∧ w5.frozen? ⟨Ba, 2, none⟩ = false ∧ TogI w4.heap.size Ba (w5.setCell ⟨Ba, 2, none⟩ v5) (.slice cva csn2 csc2) (.slice a5 m5 c5b) v5 (.slice sa k sc) (RB k).2 ((TN i).next ++ [rr]) ((TN i).fin ++ [bv]) ∧ MapK Try.prog 166 3 klP (w5.setCell ⟨Ba, 2, none⟩ v5) Bm (RB k).2.length (fP (RB k).2) ∧ Ext w4 (w5.setCell ⟨Ba, 2, none⟩ v5) := fun W hW v5 w5 o5 g5 => by
              have hxl := hW.alloc (.cells #[.bool bv] 4)
              obtain ⟨h1, h2, h3⟩ := s2.putEnd hxl o5 g5
              exact ⟨h2, h3, h1, s2.mapEnd hxl g5 s3 _, ext_set (Ext.grown (s4.trans hxl) g5 fun j hj => (own_lt (s2.ends.kept hxl) hj).1) hBaw _ _⟩
            have hlit : ∀ W : World, RdK 1 BE.enc (W.alloc (.cells #[.bool bv] 4)) (some ⟨W.heap.size, 0, none⟩) 1 1 [bv] := fun W => OwnK.rdc BE.len (lit_own BE.len W 4 [bv] #[.bool bv] rfl (n := 1) rfl (by decide))
            replace happ2 := Lib.hid happ2
            replace hlit := Lib.hid hlit
            have hnx2 := Lib.hid s2.ends
            have hbw2 := s4.le
            replace hbv := Lib.hid hbv
            replace hfvn := Lib.hid hfvn
            replace hfl := Lib.hid hfl
            replace hbx := Lib.hid hbx.out
            replace hby := Lib.hid hby.out
            go_wp2_with fail
            have hS0 : (fun W' : World => W'.cell? ⟨Ba, 2, none⟩ = some (.slice fva fvn fvc) ∧ W'.cell? ⟨ba, 2, none⟩ = some (.slice (some ⟨ga, go, none⟩) NA fc) ∧ W'.cell? ⟨ga, go + px, none⟩ = some (.bool bx) ∧ W'.cell? ⟨bb, 2, none⟩ = some (.slice (some ⟨gb, gp, none⟩) NB fd) ∧ W'.cell? ⟨gb, gp + py, none⟩ = some (.bool by')) wa.drew := ⟨l2, k2, fx, m2, fy⟩
            refine wp_region_F (fun W' : World => W'.cell? ⟨Ba, 2, none⟩ = some (.slice fva fvn fvc) ∧ W'.cell? ⟨ba, 2, none⟩ = some (.slice (some ⟨ga, go, none⟩) NA fc) ∧ W'.cell? ⟨ga, go + px, none⟩ = some (.bool bx) ∧ W'.cell? ⟨bb, 2, none⟩ = some (.slice (some ⟨gb, gp, none⟩) NB fd) ∧ W'.cell? ⟨gb, gp + py, none⟩ = some (.bool by')) [0, 1, 2, 3, 4, 5, 6, 7, 8, 9, 10, 11, 12, 13, 14, 15, 16, 17, 18, 19] (by kernel_rfl) ?_
            show wpF _ _ _ _ _ _ 26 _ _ _
            refine wpF_take (i := 0) (v := .pointer (some ⟨Ba, 0, none⟩)) rfl (by kernel_rfl) (by kernel_rfl) (by kernel_rfl) (by kernel_rfl) (fun _ _ _ h => h) (.inl ⟨rfl, fun W' hW' => ?_⟩) hS0 ?_
            · obtain ⟨u1, u2, u3, u4, u5⟩ := hW'
              go_simp
            refine wpF_take (i := 1) (v := .pointer (some ⟨Ba, 0, none⟩)) rfl (by kernel_rfl) (by kernel_rfl) (by kernel_rfl) (by kernel_rfl) (fun _ _ _ h => h) (.inl ⟨rfl, fun W' hW' => ?_⟩) hS0 ?_
            · obtain ⟨u1, u2, u3, u4, u5⟩ := hW'
              go_simp
            refine wpF_take (i := 2) (v := .pointer (some ⟨Ba, 0, none⟩)) rfl (by kernel_rfl) (by kernel_rfl) (by kernel_rfl) (by kernel_rfl) (fun _ _ _ h => h) (.inl ⟨rfl, fun W' hW' => ?_⟩) hS0 ?_
            · obtain ⟨u1, u2, u3, u4, u5⟩ := hW'
              go_simp
            refine wpF_take (i := 3) (v := .pointer (some ⟨Ba, 2, none⟩)) rfl (by kernel_rfl) (by kernel_rfl) (by kernel_rfl) (by kernel_rfl) (fun _ _ _ h => h) (.inl ⟨rfl, fun W' hW' => ?_⟩) hS0 ?_
            · obtain ⟨u1, u2, u3, u4, u5⟩ := hW'
              go_simp
            refine wpF_take (i := 4) (v := .slice fva fvn fvc) rfl (by kernel_rfl) (by kernel_rfl) (by kernel_rfl) (by kernel_rfl) (fun _ _ _ h => h) (.inl ⟨rfl, fun W' hW' => ?_⟩) hS0 ?_
            · obtain ⟨u1, u2, u3, u4, u5⟩ := hW'
              go_simp
            refine wpF_take (i := 5) (v := .func (.func 75) #[] #[]) rfl (by kernel_rfl) (by kernel_rfl) (by kernel_rfl) (by kernel_rfl) (fun _ _ _ h => h) (.inl ⟨rfl, fun W' hW' => ?_⟩) hS0 ?_
            · obtain ⟨u1, u2, u3, u4, u5⟩ := hW'
              go_simp
            refine wpF_take (i := 6) (v := .pointer (some ⟨ba, 0, none⟩)) rfl (by kernel_rfl) (by kernel_rfl) (by kernel_rfl) (by kernel_rfl) (fun _ _ _ h => h) (.inl ⟨rfl, fun W' hW' => ?_⟩) hS0 ?_
            · obtain ⟨u1, u2, u3, u4, u5⟩ := hW'
              go_simp
            refine wpF_take (i := 7) (v := .pointer (some ⟨ba, 0, none⟩)) rfl (by kernel_rfl) (by kernel_rfl) (by kernel_rfl) (by kernel_rfl) (fun _ _ _ h => h) (.inl ⟨rfl, fun W' hW' => ?_⟩) hS0 ?_
            · obtain ⟨u1, u2, u3, u4, u5⟩ := hW'
              go_simp
            refine wpF_take (i := 8) (v := .pointer (some ⟨ba, 2, none⟩)) rfl (by kernel_rfl) (by kernel_rfl) (by kernel_rfl) (by kernel_rfl) (fun _ _ _ h => h) (.inl ⟨rfl, fun W' hW' => ?_⟩) hS0 ?_
            · obtain ⟨u1, u2, u3, u4, u5⟩ := hW'
              go_simp
            refine wpF_take (i := 9) (v := .slice (some ⟨ga, go, none⟩) NA fc) rfl (by kernel_rfl) (by kernel_rfl) (by kernel_rfl) (by kernel_rfl) (fun _ _ _ h => h) (.inl ⟨rfl, fun W' hW' => ?_⟩) hS0 ?_
            · obtain ⟨u1, u2, u3, u4, u5⟩ := hW'
              go_simp
            refine wpF_take (i := 10) (v := .int .i64 (px : Int)) rfl (by kernel_rfl) (by kernel_rfl) (by kernel_rfl) (by kernel_rfl) (fun _ _ _ h => h) (.inl ⟨rfl, fun W' hW' => ?_⟩) hS0 ?_
            · obtain ⟨u1, u2, u3, u4, u5⟩ := hW'
              go_simp
            refine wpF_take (i := 11) (v := .pointer (some ⟨ga, go + px, none⟩)) rfl (by kernel_rfl) (by kernel_rfl) (by kernel_rfl) (by kernel_rfl) (fun _ _ _ h => h) (.inl ⟨rfl, fun W' hW' => ?_⟩) hS0 ?_
            · obtain ⟨u1, u2, u3, u4, u5⟩ := hW'
              go_simp
            refine wpF_take (i := 12) (v := .bool bx) rfl (by kernel_rfl) (by kernel_rfl) (by kernel_rfl) (by kernel_rfl) (fun _ _ _ h => h) (.inl ⟨rfl, fun W' hW' => ?_⟩) hS0 ?_
            · obtain ⟨u1, u2, u3, u4, u5⟩ := hW'
              go_simp
            refine wpF_take (i := 13) (v := .pointer (some ⟨bb, 0, none⟩)) rfl (by kernel_rfl) (by kernel_rfl) (by kernel_rfl) (by kernel_rfl) (fun _ _ _ h => h) (.inl ⟨rfl, fun W' hW' => ?_⟩) hS0 ?_
            · obtain ⟨u1, u2, u3, u4, u5⟩ := hW'
              go_simp
            refine wpF_take (i := 14) (v := .pointer (some ⟨bb, 0, none⟩)) rfl (by kernel_rfl) (by kernel_rfl) (by kernel_rfl) (by kernel_rfl) (fun _ _ _ h => h) (.inl ⟨rfl, fun W' hW' => ?_⟩) hS0 ?_
            · obtain ⟨u1, u2, u3, u4, u5⟩ := hW'
              go_simp
            refine wpF_take (i := 15) (v := .pointer (some ⟨bb, 2, none⟩)) rfl (by kernel_rfl) (by kernel_rfl) (by kernel_rfl) (by kernel_rfl) (fun _ _ _ h => h) (.inl ⟨rfl, fun W' hW' => ?_⟩) hS0 ?_
            · obtain ⟨u1, u2, u3, u4, u5⟩ := hW'
              go_simp
            refine wpF_take (i := 16) (v := .slice (some ⟨gb, gp, none⟩) NB fd) rfl (by kernel_rfl) (by kernel_rfl) (by kernel_rfl) (by kernel_rfl) (fun _ _ _ h => h) (.inl ⟨rfl, fun W' hW' => ?_⟩) hS0 ?_
            · obtain ⟨u1, u2, u3, u4, u5⟩ := hW'
              go_simp
            refine wpF_take (i := 17) (v := .int .i64 (py : Int)) rfl (by kernel_rfl) (by kernel_rfl) (by kernel_rfl) (by kernel_rfl) (fun _ _ _ h => h) (.inl ⟨rfl, fun W' hW' => ?_⟩) hS0 ?_
            · obtain ⟨u1, u2, u3, u4, u5⟩ := hW'
              go_simp
            refine wpF_take (i := 18) (v := .pointer (some ⟨gb, gp + py, none⟩)) rfl (by kernel_rfl) (by kernel_rfl) (by kernel_rfl) (by kernel_rfl) (fun _ _ _ h => h) (.inl ⟨rfl, fun W' hW' => ?_⟩) hS0 ?_
            · obtain ⟨u1, u2, u3, u4, u5⟩ := hW'
              go_simp
            refine wpF_take (i := 19) (v := .bool by') rfl (by kernel_rfl) (by kernel_rfl) (by kernel_rfl) (by kernel_rfl) (fun _ _ _ h => h) (.inl ⟨rfl, fun W' hW' => ?_⟩) hS0 ?_
            · obtain ⟨u1, u2, u3, u4, u5⟩ := hW'
              go_simp
            refine wpF_step (k := 20) rfl (by kernel_rfl) rfl fun K1 hK1 => ?_
            go_simp
            refine (hcall _).mono ?_
            rintro e wq ⟨rfl, hxq⟩
            have hE1 : Ext wa wq := Ext.trans ((Ext.refl _).drew) hxq
            refine hK1 _ _ ⟨hE1.cellv l2, hE1.cellv k2, hE1.cellv fx, hE1.cellv m2, hE1.cellv fy⟩ ?_
            refine wpF_step (k := 21) rfl (by kernel_rfl) rfl fun K2 hK2 => ?_
            go_simp
            have hE2 := hE1.alloc (.cells #[.bool bv] 4)
            refine hK2 _ _ ⟨hE2.cellv l2, hE2.cellv k2, hE2.cellv fx, hE2.cellv m2, hE2.cellv fy⟩ ?_
            refine wpF_step (k := 22) rfl (by kernel_rfl) rfl fun K3 hK3 => ?_
            refine op_app1 w4.heap.size _ bv rfl _ _ 66 rfl 4 Try.underlying66 info_bl rfl (by decide) BE.len BE.one (.slice fva fvn fvc) (TN i).fin rfl (hnx2.out.kept hE2) ⟨wq.heap.size, 0, none⟩ rfl (hlit.out wq) (by rw [hfl.out]; omega) (by decide) (by have := hbw2; have := hE1.le; simp; omega) ?_
            intro v6 w6 o6 g6 n6
            obtain ⟨a6, m6, c6b, hm6, rfl, _⟩ := OwnK.rdn BE.len o6
            replace hm6 := Lib.hid hm6
            obtain ⟨s0, s1, s5, s6, s7⟩ := happ2.out wq hE1 _ w6 o6 g6
            have x6 : Ext w4 w6 := Ext.grown (s4.trans hE2) g6 fun j hj => (own_lt (s2.ends.kept hE2) hj).1
            have hS6 : (fun W' : World => W'.cell? ⟨Ba, 2, none⟩ = some (.slice fva fvn fvc) ∧ W'.cell? ⟨ba, 2, none⟩ = some (.slice (some ⟨ga, go, none⟩) NA fc) ∧ W'.cell? ⟨ga, go + px, none⟩ = some (.bool bx) ∧ W'.cell? ⟨bb, 2, none⟩ = some (.slice (some ⟨gb, gp, none⟩) NB fd) ∧ W'.cell? ⟨gb, gp + py, none⟩ = some (.bool by')) w6 := by
             refine ⟨s0, (hxw4.trans x6).cellv q2, ?_, (hxw4.trans x6).cellv p2, ?_⟩
             · obtain ⟨_, _, bx2, e, hbx2, _, hfc⟩ := (hF'.out.ext (hxw4.trans x6)).get hpx
               cases e
               have := hfc 0 _ rfl
               rw [Nat.mul_one, Nat.add_zero] at this
               have e2 := hbx2.out; rw [hbx.out] at e2; cases e2; exact this
             · obtain ⟨_, _, by2, e, hby2, _, hfc⟩ := (hFb'.out.ext (hxw4.trans x6)).get hpy
               cases e
               have := hfc 0 _ rfl
               rw [Nat.mul_one, Nat.add_zero] at this
               have e2 := hby2.out; rw [hby.out] at e2; cases e2; exact this
            refine hK3 _ _ hS6 ?_
            refine wpF_step (k := 23) rfl (by kernel_rfl) rfl fun K4 hK4 => ?_
            go_simp
            refine hK4 _ _ hS6 ?_
            refine wpF_step (k := 24) rfl (by kernel_rfl) rfl fun K5 hK5 => ?_
            go_simp
            refine hK5 _ _ hS6 ?_
            refine wpF_last (k := 25) rfl (by kernel_rfl) (by kernel_rfl) (by kernel_rfl) rfl fun K9 hK9 => ?_
            go_simp
            refine hK9 _ _ ?_
            go_wp2_with fail
            have e0 := hsu.out
            have e1 : (TN i).next ++ [rr] = (TN (i + 1)).next := by rw [e0, hrr.out]
            have e2 : (TN i).fin ++ [bv] = (TN (i + 1)).fin := by
              rw [e0, hbv.out]
              show _ = _ ++ [(fun x y => x != y) (A.fin.getD px false) (B.fin.getD py false)]
              rw [List.getD_eq_getElem?_getD (l := A.fin), hbx.out, List.getD_eq_getElem?_getD (l := B.fin), hby.out]; rfl
            have e3 : (RB k).2 = (TN (i + 1)).ps := by rw [e0]
            rw [e1, e2, e3] at s5
            rw [e3] at s6
            (first | exact ⟨⟨i + 1, _, _, hlt, by go_num, s5, Lib.hid s6, s7⟩, (by simp [intOf]; omega)⟩ | (go_roundw; case rel => exact ⟨i + 1, _, _, hlt, by go_num, s5, Lib.hid s6, s7⟩; case measure => exact (by simp [intOf]; omega))))
    · obtain rfl : i = N := by omega
      have hcN : csn = i := by rw [hcsn]; exact hTl.out.1
      replace hcsn := Lib.hid hcsn
      subst csn
      have hAu := hI.toAu (hS'.out.ext (hxw4.trans hx))
      have hD2 := hD.out
      rw [← hD2] at hAu
      have hnl : D.next.length = i := by rw [hD2]; exact (hTnl.out i).1
      have hi0 : 0 < i := by
        rcases Nat.eq_zero_or_pos i with h0 | h0
        · exfalso; have := hTl.out.1; rw [h0] at this; exact hTne.out 0 (List.eq_nil_of_length_eq_zero this)
        · exact h0
      have hle := least_any D hDok.out i hnl hi0 hN5 J hJ.out wr Ba hAu
      replace hnl := Lib.hid hnl
      replace hD2 := Lib.hid hD2
      go_wp2_with fail
      refine hle.mono ?_
      rintro e w9 ⟨b, rfl, hAu9, hx9⟩
      have hxf := hxw4.trans (hx.trans hx9)
      go_wp2_with fail
      go_ret2
      exact ⟨b, rfl, hAu9, hxf⟩
end Go.Proofs.Ytilkemdecenibaa
