/-
  Build: the walk.
-/
import Derived.Test.YtilkemdecenibaaV7
namespace Go.Proofs.Ytilkemdecenibaa
open Go.RowKit Go.Maps
def BuildAt (g : Net) (xs : List Snd) (goal N : Nat) : Prop := (buildN g xs goal (firstB g) N).sets.length = N ∧ ∀ i, i < N → i < (buildN g xs goal (firstB g) i).sets.length
def RetBu (A : Au) (w : World) (e : Ending) (w' : World) : Prop := ∃ b, e = .returned (.tuple #[.pointer (some ⟨b, 0, none⟩), .int .i64 0]) ∧ AuAt w' b A ∧ Ext w w'
set_option maxHeartbeats 4000000 in
set_option maxRecDepth 20000 in
theorem build_any (h : HP) (hok : h.allB = true) (hcnt : h.cnt ≤ 40) (sa : Option Addr) (n sc : Nat) (xs : List Snd) (w : World) (hr : RdPt w h) (hs : RdS w sa n sc xs) (he : refE (wid h) xs = 0)
    (g : Net) (goal : Nat) (hlay : layM h 0 [[]] = (goal, g)) (hsz : netSz g ≤ 5000) (hnet : netOkB g.length g = true) (hsn : netSndB g = true) (hgoal : goal < g.length)
    (N J : Nat) (hN5 : N ≤ 5000) (hN : BuildAt g xs goal N) (A : Au) (hA : A = ⟨xs, (buildN g xs goal (firstB g) N).next, (buildN g xs goal (firstB g) N).fin⟩) (hAok : A.okB = true) (hJ : LeastAt A J) :
    Calls Try.prog 35 #[patV h, .slice sa n sc] w (RetBu (leastM A J) w) := by
  have hxB : Ext w (w.alloc (.cells #[.int .i64 h.kind, .int .u32 h.is.p.toNat, .int .u32 h.is.m.toNat, .bool h.neg, .int .i64 h.mn, .int .i64 h.mx, .slice h.a h.n h.cap] 27)) := Ext.alloc1 _ _
  have c0 : (w.alloc (.cells #[.int .i64 h.kind, .int .u32 h.is.p.toNat, .int .u32 h.is.m.toNat, .bool h.neg, .int .i64 h.mn, .int .i64 h.mx, .slice h.a h.n h.cap] 27)).cell? ⟨w.heap.size, 0, none⟩ = some (.int .i64 h.kind) := by go_simp
  have c1 : (w.alloc (.cells #[.int .i64 h.kind, .int .u32 h.is.p.toNat, .int .u32 h.is.m.toNat, .bool h.neg, .int .i64 h.mn, .int .i64 h.mx, .slice h.a h.n h.cap] 27)).cell? ⟨w.heap.size, 1, none⟩ = some (.int .u32 h.is.p.toNat) := by go_simp
  have c2 : (w.alloc (.cells #[.int .i64 h.kind, .int .u32 h.is.p.toNat, .int .u32 h.is.m.toNat, .bool h.neg, .int .i64 h.mn, .int .i64 h.mx, .slice h.a h.n h.cap] 27)).cell? ⟨w.heap.size, 2, none⟩ = some (.int .u32 h.is.m.toNat) := by go_simp
  have c3 : (w.alloc (.cells #[.int .i64 h.kind, .int .u32 h.is.p.toNat, .int .u32 h.is.m.toNat, .bool h.neg, .int .i64 h.mn, .int .i64 h.mx, .slice h.a h.n h.cap] 27)).cell? ⟨w.heap.size, 3, none⟩ = some (.bool h.neg) := by go_simp
  have c4 : (w.alloc (.cells #[.int .i64 h.kind, .int .u32 h.is.p.toNat, .int .u32 h.is.m.toNat, .bool h.neg, .int .i64 h.mn, .int .i64 h.mx, .slice h.a h.n h.cap] 27)).cell? ⟨w.heap.size, 4, none⟩ = some (.int .i64 h.mn) := by go_simp
  have c5 : (w.alloc (.cells #[.int .i64 h.kind, .int .u32 h.is.p.toNat, .int .u32 h.is.m.toNat, .bool h.neg, .int .i64 h.mn, .int .i64 h.mx, .slice h.a h.n h.cap] 27)).cell? ⟨w.heap.size, 5, none⟩ = some (.int .i64 h.mx) := by go_simp
  have c6 : (w.alloc (.cells #[.int .i64 h.kind, .int .u32 h.is.p.toNat, .int .u32 h.is.m.toNat, .bool h.neg, .int .i64 h.mn, .int .i64 h.mx, .slice h.a h.n h.cap] 27)).cell? ⟨w.heap.size, 6, none⟩ = some (.slice h.a h.n h.cap) := by go_simp
  have href := fun W (hx : Ext w W) => refused_any h hok hcnt sa n sc xs W (hr.ext hx) (hs.ext hx)
  rw [he] at href
  obtain ⟨G, hG⟩ : ∃ G, G = g.length := ⟨_, rfl⟩
  have hG5 : G ≤ 5000 := by rw [hG]; exact Nat.le_trans (netSz_len g).1 hsz
  have hG0 : 0 < G := by omega
  have hnb := HP.allB_num h hok
  replace hG := Lib.hid hG
  replace hlay := Lib.hid hlay
  replace hN := Lib.hid hN
  replace hA := Lib.hid hA
  replace hAok := Lib.hid hAok
  replace hJ := Lib.hid hJ
  replace hnet := Lib.hid hnet
  replace hsn := Lib.hid hsn
  replace hok := Lib.hid hok
  replace hnb := Lib.hid hnb
  replace he := Lib.hid he
  go_enter Try.func35, Try.ntmps35
  go_wp2_with fail
  refine (href _ hxB).mono ?_
  rintro e w1 ⟨rfl, hx1⟩
  replace c0 := hx1.cellv c0
  replace c1 := hx1.cellv c1
  replace c2 := hx1.cellv c2
  replace c3 := hx1.cellv c3
  replace c4 := hx1.cellv c4
  replace c5 := hx1.cellv c5
  replace c6 := hx1.cellv c6
  have hxw1 := hxB.trans hx1
  have hg0 : NetI w1 w1.heap.size (w1.alloc (.cells #[.slice none 0 0] 115)) [] := ⟨Ext.alloc1 _ _, Nat.le_refl _, .slice none 0 0, [], ⟨World.alloc_heap_new w1 _, OwnK.nil _ _ _, fun y hy => by (cases hy), fun i j x y g h => by (simp at h)⟩, rfl⟩
  have hpl : Calls Try.prog 67 #[.pointer (some ⟨w1.heap.size, 0, none⟩)] (w1.alloc (.cells #[.slice none 0 0] 115)) (NetPost w1 w1.heap.size (w1.alloc (.cells #[.slice none 0 0] 115)) (.int .i64 0) [[]]) := place_sz w1 _ _ [] hg0 (by simp [netSz])
  go_wp2_with fail
  refine hpl.mono ?_
  rintro e w2 ⟨rfl, hg1, hK1⟩
  have hpb : PatB w1 w.heap.size h := PatB.ext (PatB.new w h) hx1
  obtain ⟨p0, p1, p2, p3, p4, p5, p6, _⟩ := ((hpb.ext (Ext.alloc1 _ _)).net hK1).cells
  go_wp2_with fail
  have hly : Calls Try.prog 68 #[.pointer (some ⟨w1.heap.size, 0, none⟩), patV h, .int .i64 0] w2 (NetPost w1 w1.heap.size w2 (.int .i64 ((layM h 0 [[]]).1 : Int)) (layM h 0 [[]]).2) := lay_any _ h (Nat.le_refl _) w1 w2 _ [[]] 0 hg1 (hr.ext hxw1) hnb.out (by simp) (by rw [hlay.out]; exact hsz)
  rw [hlay.out] at hly
  refine hly.mono ?_
  rintro e w3 ⟨rfl, hg2, hK2⟩
  simp only at hg2 ⊢
  obtain ⟨hx13, _, v, hsw, hNA, hmap⟩ := hg2
  obtain ⟨na, nn, ncap, hnn, rfl, _⟩ := OwnK.rdn RW.len hNA.own
  have hnG : nn = G := by rw [hnn, hG.out, ← hmap, List.length_map]
  subst hnG
  have hrn := hNA.rd
  rw [hmap] at hrn
  obtain ⟨q0, _, hBgl⟩ := hNA.cell
  have hxw3 := hxw1.trans hx13
  obtain ⟨Bg, hBg⟩ : ∃ B, B = w1.heap.size := ⟨_, rfl⟩
  rw [← hBg] at q0 hBgl ⊢
  have hs3 := hs.ext hxw3
  have hn8 : n ≤ 8 ∧ ∀ y ∈ xs, y.ok = true := by
    have h1 := he.out
    unfold refE at h1
    rw [hs.len] at h1
    by_cases h8 : 8 < n
    · rw [if_pos h8] at h1; cases h1
    · rw [if_neg h8] at h1
      cases hv : xs.any (fun y => !y.ok)
      · rw [List.any_eq_false] at hv
        exact ⟨by omega, fun y hy => by simpa using hv y hy⟩
      · rw [hv, if_pos rfl] at h1; cases h1
  have hxl := Lib.hid hs.len
  obtain ⟨hn8, hxok⟩ := hn8
  replace hnn := Lib.hid hnn
  replace hmap := Lib.hid hmap
  replace hxok := Lib.hid hxok
  replace hBg := Lib.hid hBg
  clear hg0 hg1 hK1 hK2 hpl hly hpb p0 p1 p2 p3 p4 p5 p6 c0 c1 c2 c3 c4 c5 c6 hNA hxw1 hx1 hxB hx13 href hr
  generalize w.heap.size = Bp at *
  have hmk : ∀ W : World, (Instr.makeSlice 81 (.int .i64 (nn : Int)) (.int .i64 (nn : Int))).run Try.prog W = .ok (.slice (some ⟨W.heap.size, 0, none⟩) nn nn) (W.alloc (.cells (madeCells #[.int .u8 0] (nn * 1)) 5)) := fun W => run_mk (P := Try.prog) 81 Try.underlying81 info_u8 nn (by omega) (by decide) W
  have hb0 := made_own BB.len (by decide) w3 5 #[.int .u8 0] false rfl nn (by omega)
  have hx4 : Ext w3 (w3.alloc (.cells (madeCells #[.int .u8 0] (nn * 1)) 5)) := Ext.alloc1 _ _
  rw [Nat.mul_one] at hb0 hx4
  have hfr := own_free hb0 0
  have hcs := own_at BB.len hb0 (i := 0) (y := false) (by simp [hG0]) (j := 0) rfl
  have hst := own_set1 BB.len hb0 (i := 0) (y := true) (u := .int .u8 1) hG0 rfl
  have hxs := ext_set hx4 (Nat.le_refl w3.heap.size) 0 (.int .u8 1)
  have hmm := @run_makeMap Try.prog
  have hwe : (w3.alloc (.cells (madeCells #[.int .u8 0] nn) 5)).setCell ⟨w3.heap.size, 0, none⟩ (.int .u8 1) = w3.alloc (.cells ((madeCells #[.int .u8 0] nn).setIfInBounds 0 (.int .u8 1)) 5) := by go_simp
  rw [hwe] at hst hxs
  replace hwe := Lib.hid hwe
  have q0' := hxs.cellv q0
  go_wp2_with fail
  have hsp := spread_any w3 _ hxs na nn ncap g hrn nn w3.heap.size nn (by rw [hG.out]; exact hnet.out) (Nat.le_refl _) hG5 _ hst true false
  have hfst : spreadM g ((List.replicate nn false).set 0 true) true false = firstB g := by unfold firstB; rw [hG.out]
  rw [hfst] at hsp
  replace hfst := Lib.hid hfst
  go_wp2_with fail
  refine hsp.mono ?_
  rintro e w4 ⟨rfl, hb1, hx4'⟩
  clear hb0 hx4 hfr hcs hst hxs hsp q0'
  have hcl := clone_any sa n sc xs w4 (hs3.ext hx4') (by omega)
  go_wp2_with fail
  refine hcl.mono ?_
  rintro e w5 ⟨sv0, rfl, hsn5, hx5⟩
  have hb5 := hb1.kept hx5
  have hx35 := hx4'.trans hx5
  clear hb1 hcl
  obtain ⟨sva, svn, svc, hsvn, rfl, _⟩ := OwnK.rdn Snd.len hsn5
  rw [hxl.out] at hsvn
  subst svn
  go_wp2_with fail
  obtain ⟨w6, hw6⟩ : ∃ X, X = ((w5.alloc (.cells #[.slice sva n svc, .slice none 0 0, .slice none 0 0] 68)).alloc (.cells #[.slice (some ⟨w3.heap.size, 0, none⟩) nn nn] 81)) := ⟨_, rfl⟩
  have hI6 : BuildI w3.heap.size w5.heap.size w6 (.slice (some ⟨w5.heap.size + 1, 0, none⟩) 1 1) (.slice none 0 0) (.slice none 0 0) (.slice sva n svc) [⟨some ⟨w3.heap.size, 0, none⟩, nn, nn, firstB g⟩] [] [] xs := by
    have hbx := World.alloc_heap_new w5 (.cells #[.slice sva n svc, .slice none 0 0, .slice none 0 0] 68)
    have hlt := lit_own BR.len (w5.alloc (.cells #[.slice sva n svc, .slice none 0 0, .slice none 0 0] 68)) 81 [(⟨some ⟨w3.heap.size, 0, none⟩, nn, nn, firstB g⟩ : BR)] #[.slice (some ⟨w3.heap.size, 0, none⟩) nn nn] rfl (n := 1) rfl (by decide)
    rw [World.size_alloc] at hlt
    rw [hw6]
    refine ⟨blk_kept hbx (Ext.alloc1 _ _), ((hsn5.base hx4'.le).kept (Ext.alloc1 _ _)).kept (Ext.alloc1 _ _), OwnK.nil _ _ _, OwnK.nil _ _ _, hlt.base (by have := hx35.le; omega), fun y hy => ?_⟩
    rw [List.mem_singleton.1 hy]
    exact (hb5.kept (Ext.alloc1 _ _)).kept (Ext.alloc1 _ _)
  have hx36 : Ext w3 w6 := by rw [hw6]; exact (hx35.alloc _).alloc _
  have hs6 : w6.heap.size = w5.heap.size + 1 + 1 := by rw [hw6]; simp
  have hM7 := MapK.made w6 Try.prog 9 3 klB
  have hI7 := hI6.kept (Ext.alloc1 w6 (.map #[] 0))
  have hx37 := hx36.alloc (.map #[] 0)
  rw [hs6] at hM7
  have hBaw : w3.heap.size ≤ w5.heap.size := hx35.le
  have hBmw : w3.heap.size ≤ w5.heap.size + 1 + 1 := by omega
  rw [← hw6]
  clear hI6 hx36 hx35 hx5 hx4' hsn5 hb5
  replace hw6 := Lib.hid hw6
  replace hs6 := Lib.hid hs6
  generalize w6.alloc (.map #[] 0) = w7 at *
  generalize w5.heap.size + 1 + 1 = Bm at *
  generalize w5.heap.size + 1 = Ss at *
  generalize w5.heap.size = Ba at *
  obtain ⟨BN, hBN⟩ : ∃ f, f = buildN g xs goal (firstB g) := ⟨_, rfl⟩
  have hB0 : (BN 0).sets = [firstB g] ∧ (BN 0).next = [] ∧ (BN 0).fin = [] := by rw [hBN]; exact ⟨rfl, rfl, rfl⟩
  have hBs : ∀ i, BN (i + 1) = ⟨(rowB g ((BN i).sets.getD i []) xs (BN i).sets).2, (BN i).next ++ [(rowB g ((BN i).sets.getD i []) xs (BN i).sets).1], (BN i).fin ++ [(spreadM g ((BN i).sets.getD i []) (i == 0) true).getD goal false]⟩ := fun i => by rw [hBN]; rfl
  have hBl : (BN N).sets.length = N ∧ ∀ i, i < N → i < (BN i).sets.length := by rw [hBN]; exact hN.out
  have hBp : ∀ i, i ≤ N → (BN i).sets.length ≤ N := fun i hi => by rw [← hBl.1]; rw [hBN]; exact (buildN_pre g xs goal (firstB g) hi).length_le
  have hBg2 : ∀ i, ∀ s ∈ (BN i).sets, s.length = nn := fun i => by rw [hBN, hG.out]; exact buildN_sets g xs goal (firstB g) (firstB_len g) i
  have hBne : ∀ i, (BN i).sets ≠ [] := fun i => by rw [hBN]; exact buildN_ne _ _ _ _ i
  have hBnl : ∀ i, (BN i).next.length = i ∧ (BN i).fin.length = i := fun i => by rw [hBN]; exact buildN_next _ _ _ _ i
  rw [← hBN] at hA
  replace hBN := Lib.hid hBN
  replace hB0 := Lib.hid hB0
  replace hBs := Lib.hid hBs
  replace hBl := Lib.hid hBl
  replace hBp := Lib.hid hBp
  replace hBg2 := Lib.hid hBg2
  replace hBne := Lib.hid hBne
  replace hBnl := Lib.hid hBnl
  have hgG : goal < nn := by rw [hG.out]; exact hgoal
  have hM8 : MapK Try.prog 9 3 klB w7 Bm 1 (fNum (BN 0).sets) := by
    have e : fNum (BN 0).sets = fun _ => none := by funext y; rw [hB0.out.1]; simp [fNum, numAt]
    rw [e]; exact hM7.mono (by decide)
  have hI8 : BuildI w3.heap.size Ba w7 (.slice (some ⟨Ss, 0, none⟩) 1 1) (.slice none 0 0) (.slice none 0 0) (.slice sva n svc) [⟨some ⟨w3.heap.size, 0, none⟩, nn, nn, firstB g⟩] (BN 0).next (BN 0).fin xs := by rw [hB0.out.2.1, hB0.out.2.2]; exact hI7
  have hmp8 : Hid (([⟨some ⟨w3.heap.size, 0, none⟩, nn, nn, firstB g⟩] : List BR).map BR.x = (BN 0).sets) := Lib.hid (by rw [hB0.out.1]; rfl)
  clear hI7 hM7 hmm hmk
  go_loopw [12, 14] (fun cv iv wr => ∃ (i : Nat) (hs : List BR) (nv fv : Value), i ≤ N ∧ iv = .int .i64 i ∧ BuildI w3.heap.size Ba wr cv nv fv (.slice sva n svc) hs (BN i).next (BN i).fin xs ∧ Hid (hs.map BR.x = (BN i).sets) ∧ Hid (MapK Try.prog 9 3 klB wr Bm hs.length (fNum (BN i).sets)) ∧ Ext w3 wr) (fun _ iv _ => N - (intOf iv).toNat)
  case atStart => exact ⟨0, _, _, _, Nat.zero_le _, rfl, hI8, hmp8, Lib.hid hM8, hx37⟩
  case round =>
    clear hI8 hmp8 hM8 hx37
    obtain ⟨i, hs0, nv, fv, hi, rfl, hI, hmp, hM, hx⟩ := hrel
    have hlen0 : hs0.length = (BN i).sets.length := by rw [← hmp.out, List.length_map]
    obtain ⟨csa, csn, csc, hcsn, rfl, _⟩ := OwnK.rdn BR.len hI.own
    obtain ⟨Sb, rfl⟩ := own_some hI.own (fun e => hBne.out i (by rw [← hmp.out, e]; rfl))
    by_cases hlt : i < N
    · have hi1 := hBl.out.2 i hlt
      have hcl : i < csn := by omega
      have hcl5 : csn ≤ 5000 := by have := hBp.out i hi; omega
      replace hlen0 := Lib.hid hlen0
      replace hcsn := Lib.hid hcsn
      obtain ⟨cur, hcur⟩ : ∃ c, (BN i).sets[i]? = some c := ⟨_, List.getElem?_eq_getElem hi1⟩
      have hcurG := hBg2.out i cur (List.mem_of_getElem? hcur)
      have hgd : (BN i).sets.getD i [] = cur := by rw [List.getD_eq_getElem?_getD, hcur]; rfl
      have hsu := hBs.out i
      rw [hgd] at hsu
      obtain ⟨RB, hRB⟩ : ∃ f : Nat → List Nat × List BS, f = fun k => rowB g cur (xs.take k) (BN i).sets := ⟨_, rfl⟩
      have hR0 : RB 0 = ([], (BN i).sets) := by rw [hRB]; rfl
      have hRn : rowB g cur xs (BN i).sets = RB n := by rw [hRB]; simp only; rw [List.take_of_length_le (by rw [hxl.out]; exact Nat.le_refl _)]
      have hRs : ∀ k s, xs[k]? = some s → RB (k + 1) = ((RB k).1 ++ [(putSet (RB k).2 (afterM g cur s)).1], (putSet (RB k).2 (afterM g cur s)).2) := fun k s h => by rw [hRB]; simp only; rw [take_succ_at h, rowB_snoc]
      have hRl : ∀ k, (RB k).2.length ≤ N := fun k => by
        have h1 := (rowB_take_pre g cur xs k (BN i).sets).length_le
        have h2 := hBp.out (i + 1) hlt
        rw [hsu] at h2
        rw [hRB]; simp only at h2 ⊢; omega
      have hRc : ∀ k, (RB k).2[i]? = some cur := fun k => by
        obtain ⟨t, ht⟩ := rowB_pre g cur (xs.take k) (BN i).sets
        rw [hRB]; simp only; rw [← ht, List.getElem?_append_left hi1]; exact hcur
      have hRg : ∀ k, ∀ s ∈ (RB k).2, s.length = nn := fun k => by rw [hRB, hG.out]; exact rowB_sets _ _ _ _ (fun s h => by rw [hBg2.out i s h, hG.out])
      have hRk : ∀ k, k ≤ n → (RB k).1.length = k := fun k hk => by rw [hRB]; simp only; rw [rowB_len, List.length_take, hxl.out]; omega
      have hRne : ∀ k, (RB k).2 ≠ [] := fun k e => by have := hRc k; rw [e] at this; simp at this
      rw [hRn] at hsu
      replace hcur := Lib.hid hcur
      replace hgd := Lib.hid hgd
      replace hsu := Lib.hid hsu
      replace hRB := Lib.hid hRB
      replace hR0 := Lib.hid hR0
      replace hRn := Lib.hid hRn
      replace hRs := Lib.hid hRs
      replace hRl := Lib.hid hRl
      replace hRc := Lib.hid hRc
      replace hRg := Lib.hid hRg
      replace hRk := Lib.hid hRk
      replace hRne := Lib.hid hRne
      have hxa : Ext wr (wr.alloc (.cells (rowCells []) 101)) := Ext.alloc1 _ _
      have hI1 := hI.kept hxa
      have hM1 := hM.out.kept hxa
      have hx1 := hx.trans hxa
      have hrb := RowB.new wr []
      have hmp1 : Hid (hs0.map BR.x = (RB 0).2) := Lib.hid (by rw [hR0.out]; exact hmp.out)
      have hM2 : Hid (MapK Try.prog 9 3 klB (wr.alloc (.cells (rowCells []) 101)) Bm hs0.length (fNum (RB 0).2)) := Lib.hid (by rw [hR0.out]; exact hM1)
      have hnB : nv.ownBlock ≠ some wr.heap.size := fun e => by have := (own_lt hI.nxt e).2; omega
      have hr01 : RowB (wr.alloc (.cells (rowCells []) 101)) wr.heap.size (RB 0).1 := by rw [hR0.out]; exact hrb
      have hwr := hx.le
      go_wp2_with fail
      change BuildI _ _ (wr.alloc (.cells #[.int .i64 0, .int .i64 0, .int .i64 0, .int .i64 0, .int .i64 0, .int .i64 0, .int .i64 0, .int .i64 0] 101)) _ _ _ _ _ _ _ _ at hI1
      change Ext w3 (wr.alloc (.cells #[.int .i64 0, .int .i64 0, .int .i64 0, .int .i64 0, .int .i64 0, .int .i64 0, .int .i64 0, .int .i64 0] 101)) at hx1
      change RowB (wr.alloc (.cells #[.int .i64 0, .int .i64 0, .int .i64 0, .int .i64 0, .int .i64 0, .int .i64 0, .int .i64 0, .int .i64 0] 101)) _ _ at hr01
      replace hM2 : Hid (MapK Try.prog 9 3 klB (wr.alloc (.cells #[.int .i64 0, .int .i64 0, .int .i64 0, .int .i64 0, .int .i64 0, .int .i64 0, .int .i64 0, .int .i64 0] 101)) Bm hs0.length (fNum (RB 0).2)) := hM2
      clear hI hM hx hxa hM1 hrb
      generalize wr.alloc (.cells #[.int .i64 0, .int .i64 0, .int .i64 0, .int .i64 0, .int .i64 0, .int .i64 0, .int .i64 0, .int .i64 0] 101) = w8 at *
      generalize wr.heap.size = Bt at *
      go_loopw [12, 56] (fun cv kv wr => ∃ (k : Nat) (hs : List BR), k ≤ n ∧ kv = .int .i64 k ∧ BuildI w3.heap.size Ba wr cv nv fv (.slice sva n svc) hs (BN i).next (BN i).fin xs ∧ Hid (hs.map BR.x = (RB k).2) ∧ Hid (MapK Try.prog 9 3 klB wr Bm hs.length (fNum (RB k).2)) ∧ RowB wr Bt (RB k).1 ∧ Ext w3 wr) (fun _ kv _ => n - (intOf kv).toNat)
      case atStart => exact ⟨0, _, Nat.zero_le _, rfl, hI1, hmp1, hM2, hr01, hx1⟩
      case round =>
        clear hI1 hmp1 hM2 hr01 hx1
        obtain ⟨k, hs2, hk, rfl, hI, hmp, hM, hrb, hx⟩ := hrel
        have hl2 : hs2.length = (RB k).2.length := by rw [← hmp.out, List.length_map]
        obtain ⟨csa, csn2, csc2, hcsn2, rfl, _⟩ := OwnK.rdn BR.len hI.own
        obtain ⟨Sb2, rfl⟩ := own_some hI.own (fun e => hRne.out k (by rw [← hmp.out, e]; rfl))
        by_cases hlk : k < n
        · have hc5 : csn2 ≤ 5000 := by have := hRl.out k; omega
          obtain ⟨hb, hhb⟩ : ∃ h, hs2[i]? = some h := by
            have h1 := hRc.out k
            rw [← hmp.out, List.getElem?_map] at h1
            obtain ⟨h, h2, h3⟩ := Option.map_eq_some_iff.1 h1
            exact ⟨h, h2⟩
          have hbx : hb.x = cur := by
            have h1 := hRc.out k
            rw [← hmp.out, List.getElem?_map, hhb] at h1
            exact Option.some.inj h1
          have hic : i < csn2 := by have := (List.getElem?_eq_some_iff.1 hhb).1; omega
          have hrd := OwnK.rdc BB.len (hI.rows hb (List.mem_of_getElem? hhb))
          have hbn : hb.n = nn := by have := hrd.len; rw [hbx] at this; omega
          obtain ⟨ha, hn2, hcap, hbxx⟩ := hb
          change hbxx = cur at hbx
          change hn2 = nn at hbn
          subst hbx hbn
          change RdK 1 BB.enc wr ha hn2 hcap hbxx at hrd
          have c7 := own_at BR.len hI.own hhb (j := 0) rfl
          rw [Nat.mul_one, Nat.add_zero] at c7
          obtain ⟨b, off, s, rfl, hsk, hbl, s0, s1⟩ := (hs3.ext hx).snd hlk
          have hso := hxok.out s (List.mem_of_getElem? hsk.out)
          have hxs : Ext wr (wr.alloc (.cells #[.int .u32 s.p.toNat, .int .u32 s.m.toNat] 24)) := Ext.alloc1 _ _
          have t0 : (wr.alloc (.cells #[.int .u32 s.p.toNat, .int .u32 s.m.toNat] 24)).cell? ⟨wr.heap.size, 0, none⟩ = some (.int .u32 s.p.toNat) := by go_simp
          have t1 : (wr.alloc (.cells #[.int .u32 s.p.toNat, .int .u32 s.m.toNat] 24)).cell? ⟨wr.heap.size, 1, none⟩ = some (.int .u32 s.m.toNat) := by go_simp
          have t2 := (hx.trans hxs).cellv q0
          have t3 := hxs.cellv c7
          have haf := fun W (hW : Ext (wr.alloc (.cells #[.int .u32 s.p.toNat, .int .u32 s.m.toNat] 24)) W) => after_any W na hn2 ncap g (hrn.ext ((hx.trans hxs).trans hW)) (by rw [hG.out]; exact hnet.out) hsn.out hG5 ha hcap hbxx (hrd.ext (hxs.trans hW)) s hso
          have hRk1 := hRs.out k s hsk.out
          have hI1 := hI.kept hxs
          have hM1 := Lib.hid (hM.out.kept hxs)
          have hr1 := hrb.ext hxs
          have hx1 := hx.trans hxs
          have hwr2 := hx.le
          have hBb := cell_lt (hx.cellv q0)
          have hSl := (own_ge hI.own).2.1
          replace hsk := Lib.hid hsk.out
          replace hhb := Lib.hid hhb
          replace hRk1 := Lib.hid hRk1
          replace hl2 := Lib.hid hl2
          replace hcsn2 := Lib.hid hcsn2
          clear hrd hI hM hrb
          have hxz := Lib.hid hx
          clear hx
          go_wp2_with fail
          generalize hwy : (wr.alloc (.cells #[.int .u32 s.p.toNat, .int .u32 s.m.toNat] 24)) = wy at *
          replace hwy := Lib.hid hwy
          go_region_held3 (fun w' => Ext wy w' ∧ w'.cell? ⟨wr.heap.size, 0, none⟩ = some (.int .u32 s.p.toNat) ∧ w'.cell? ⟨wr.heap.size, 1, none⟩ = some (.int .u32 s.m.toNat) ∧ w'.cell? ⟨Bg, 0, none⟩ = some (.slice na hn2 ncap) ∧ w'.cell? ⟨Sb2, i, none⟩ = some (.slice ha hn2 hcap))
            ((go_split_ands; refine (fun (h : Ext wy _) => And.intro h (And.intro (h.cellv t0) (And.intro (h.cellv t1) (And.intro (h.cellv t2) (h.cellv t3))))) ?_; first | exact (Ext.refl _).drew | exact hE1))
            ((go_at_call 70; refine (haf _ (Ext.refl _).drew).mono ?_; rintro e wq ⟨S7, cap7, rfl, ho7, hxq⟩; have hE1 : Ext wy wq := Ext.trans ((Ext.refl _).drew) hxq))
          obtain ⟨st, hst⟩ : ∃ x, x = afterM g hbxx s := ⟨_, rfl⟩
          rw [← hst] at ho7 hRk1 ⊢
          have hstl : st.length = hn2 := by rw [hst, afterM_len, hG.out]
          have hkey := keyB st (by omega)
          have hcv := conv_bytes (OwnK.rdc BB.len ho7)
          have hIq := hI1.kept hE1
          have hMq := hM1.out.kept hE1
          have hrq := hr1.ext hE1
          have hxqq := hx1.trans hE1
          have hRkl := hRk.out k hk
          have hc8 := hrq.at (i := k) (by omega)
          have hf8 := hrq.free k
          generalize (RB k).1.getD k 0 = oldv at *
          have hbase : w3.heap.size ≤ wy.drew.heap.size := hx1.le
          have hoy := OwnK.base ho7 hbase
          have hsz2 : hs2.length < maxLen := by rw [← hcsn2.out]; unfold maxLen; omega
          replace hst := Lib.hid hst
          replace hstl := Lib.hid hstl
          replace hRkl := Lib.hid hRkl
          have hIq' := Lib.hid hIq
          clear haf t0 t1 t2 t3 hI1 hM1 hr1 hx1 ho7 hIq
          cases hnum : numAt (RB k).2 st with
          | some n0 =>
            have hput := putSet_some hnum
            rw [hput] at hRk1
            have hval : ((fNum (RB k).2 st).getD (.int .i64 0)).value = .int .i64 (n0 : Int) := by unfold fNum; rw [hnum]; rfl
            have hsome : (fNum (RB k).2 st).isSome = true := by unfold fNum; rw [hnum]; rfl
            replace hput := Lib.hid hput
            replace hnum := Lib.hid hnum
            go_wp2_with (at_lookup; refine wp_mapLookOk rfl _ _ 119 rfl 9 3 str_key Try.underlying119 (zeroI _) (plainElem_int (H := Unit) Try.underlying3 (by decide)) rfl hMq _ _ rfl hkey _ hval _ hsome ?_)
            have hrp := hrq.put (v := n0) hRkl.out (by omega)
            have hRe : RB (k + 1) = ((RB k).1 ++ [n0], (RB k).2) := hRk1.out
            have e1 : (RB k).1 ++ [n0] = (RB (k + 1)).1 := by rw [hRe]
            have e2 : (RB k).2 = (RB (k + 1)).2 := by rw [hRe]
            rw [e1] at hrp
            have hmp2 : Hid (hs2.map BR.x = (RB (k + 1)).2) := Lib.hid (by rw [← e2]; exact hmp.out)
            have hM2 : Hid (MapK Try.prog 9 3 klB (wq.setCell ⟨Bt, k, none⟩ (.int .i64 (n0 : Int))) Bm hs2.length (fNum (RB (k + 1)).2)) := Lib.hid (by rw [← e2]; exact hMq.setOff hrq _ _)
            (first | exact ⟨⟨k + 1, hs2, hlk, by go_num, hIq'.out.setTo hrq hnB k _, hmp2, hM2, hrp, ext_set hxqq hwr k _⟩, (by simp [intOf]; omega)⟩ | (go_roundw; case rel => exact ⟨k + 1, hs2, hlk, by go_num, hIq'.out.setTo hrq hnB k _, hmp2, hM2, hrp, ext_set hxqq hwr k _⟩; case measure => exact (by simp [intOf]; omega)))
          | none =>
            have hput := putSet_none hnum
            rw [hput] at hRk1
            have hfs := fNum_snoc (hRne.out k) hnum
            have hle3 : (RB k).2.length = csn2 := by rw [hcsn2.out, hl2.out]
            rw [hle3] at hRk1 hfs
            have hval : ((fNum (RB k).2 st).getD (.int .i64 0)).value = .int .i64 0 := by unfold fNum; rw [hnum]; rfl
            have hsome : (fNum (RB k).2 st).isSome = false := by unfold fNum; rw [hnum]; rfl
            replace hput := Lib.hid hput
            replace hnum := Lib.hid hnum
            replace hfs := Lib.hid hfs
            replace hle3 := Lib.hid hle3
            go_wp2_with (first
              | (at_lookup; refine wp_mapLookOk rfl _ _ 119 rfl 9 3 str_key Try.underlying119 (zeroI _) (plainElem_int (H := Unit) Try.underlying3 (by decide)) rfl hMq _ _ rfl hkey _ hval _ hsome ?_)
              | (at_mapUpdate; refine wp_mapStore rfl _ _ _ 119 rfl 9 3 str_key Try.underlying119 klB_inj klB_lit rfl hMq hsz2 _ _ _ rfl rfl hkey (plainElem_int (H := Unit) Try.underlying3 (wf_nat csn2 (by omega))) ?_; intro w6 hM6 hg6 _; have hI6 := BuildI.beside hIq'.out hg6 (fun r e => by cases e; exact hMq.obj); have hoy6 := OwnK.beside hoy hg6 (fun r e => by cases e; exact hMq.obj); have hrq6 := RowB.beside hrq hg6 (fun r e => by cases e; exact hMq.obj); have hx6 := hxqq.grown hg6 (fun q e => by cases e; exact hBmw); have hown6 := Lib.hid hI6.own)
              | (at_builtin; refine wp_app1 w3 _ (⟨some ⟨S7, 0, none⟩, st.length, cap7, st⟩ : BR) rfl _ _ 118 rfl 81 Try.underlying118 info_by rfl (by decide) _ _ rfl hown6.out hx6 rfl (BR.len _) (BR.one _) (by rw [← hcsn2.out]; omega) (by rw [← hcsn2.out]; unfold maxLen; omega) ?_; intro v5 w10 o5 x5 hgA; have hI10 := Lib.hid (hI6.push (Ext.alloc1 _ _) o5 hgA hoy6); have hM10 := Lib.hid (hI6.mapPush (Ext.alloc1 _ _) hgA hM6); have hr10 : RowB w10 Bt (RB k).1 := (blk_otherT (hrq6.ext (Ext.alloc1 _ _)) (hI6.own.kept (Ext.alloc1 _ _)) hgA (by decide)); have hc10 := hr10.at (i := k) (by omega); have hf10 := hr10.free k; clear hc8 hf8))
            have hrp := hr10.put (v := csn2) hRkl.out (by omega)
            have e1 : (RB k).1 ++ [csn2] = (RB (k + 1)).1 := by rw [hRk1.out]
            have e2 : (RB k).2 ++ [st] = (RB (k + 1)).2 := by rw [hRk1.out]
            rw [e1] at hrp
            have hmp2 : Hid ((hs2 ++ [(⟨some ⟨S7, 0, none⟩, st.length, cap7, st⟩ : BR)]).map BR.x = (RB (k + 1)).2) := Lib.hid (by rw [← e2, List.map_append, hmp.out]; rfl)
            have hM2 : Hid (MapK Try.prog 9 3 klB (w10.setCell ⟨Bt, k, none⟩ (.int .i64 (csn2 : Int))) Bm (hs2 ++ [(⟨some ⟨S7, 0, none⟩, st.length, cap7, st⟩ : BR)]).length (fNum (RB (k + 1)).2)) := Lib.hid (by
              rw [← e2, ← hfs.out, List.length_append]
              exact hM10.out.setOff hr10 _ _)
            (first | exact ⟨⟨k + 1, _, hlk, by go_num, hI10.out.setTo hr10 hnB k _, hmp2, hM2, hrp, ext_set x5 hwr k _⟩, (by simp [intOf]; omega)⟩ | (go_roundw; case rel => exact ⟨k + 1, _, hlk, by go_num, hI10.out.setTo hr10 hnB k _, hmp2, hM2, hrp, ext_set x5 hwr k _⟩; case measure => exact (by simp [intOf]; omega)))
        · obtain rfl : k = n := by omega
          replace hl2 := Lib.hid hl2
          replace hcsn2 := Lib.hid hcsn2
          have hbr : ∃ hb, hs2[i]? = some hb ∧ hb.x = cur := by
            have h1 := hRc.out k
            rw [← hmp.out, List.getElem?_map] at h1
            exact Option.map_eq_some_iff.1 h1
          obtain ⟨hb, hhb, hbx⟩ := hbr
          have hic : i < csn2 := by have := (List.getElem?_eq_some_iff.1 hhb).1; have := hcsn2.out; omega
          have c5 : csn2 ≤ 5000 := by have := hRl.out k; have := hl2.out; have := hcsn2.out; omega
          obtain ⟨l0, l1, l2, l3, l4⟩ := hI.cells
          obtain ⟨nva, nvn, nvc, hnvn, rfl, _⟩ := OwnK.rdn RE.len hI.nxt
          have hnl := (hBnl.out i).1
          have r0 := hrb.at (i := 0) (by decide)
          have r1 := hrb.at (i := 1) (by decide)
          have r2 := hrb.at (i := 2) (by decide)
          have r3 := hrb.at (i := 3) (by decide)
          have r4 := hrb.at (i := 4) (by decide)
          have r5 := hrb.at (i := 5) (by decide)
          have r6 := hrb.at (i := 6) (by decide)
          have r7 := hrb.at (i := 7) (by decide)
          obtain ⟨rr, hrr⟩ : ∃ r, r = (RB k).1 := ⟨_, rfl⟩
          rw [← hrr] at r0 r1 r2 r3 r4 r5 r6 r7 hrb
          have hlk2 := OwnK.rdc RE.len (lit_own RE.len wr 101 [rr] (rowCells rr) rfl (n := 1) rfl (by decide))
          have hxl2 : Ext wr (wr.alloc (.cells (rowCells rr) 101)).drew := (Ext.alloc1 _ _).drew
          have hlk3 := hlk2.ext ((Ext.refl _).drew)
          have happ : ∀ (v5 : Value) (w5 : World), OwnK 8 RE.enc w3.heap.size 101 w5 v5 ((BN i).next ++ [rr]) → (wr.alloc (.cells (rowCells rr) 101)).drew.grownBy w5 (Value.slice nva nvn nvc).ownBlock →
              w5.cell? ⟨Ba, 1, none⟩ = some (.slice nva nvn nvc) ∧ w5.frozen? ⟨Ba, 1, none⟩ = false ∧ BuildI w3.heap.size Ba (w5.setCell ⟨Ba, 1, none⟩ v5) (.slice (some ⟨Sb2, 0, none⟩) csn2 csc2) v5 fv (.slice sva k svc) hs2 ((BN i).next ++ [rr]) (BN i).fin xs ∧ MapK Try.prog 9 3 klB (w5.setCell ⟨Ba, 1, none⟩ v5) Bm hs2.length (fNum (RB k).2) ∧ Ext w3 (w5.setCell ⟨Ba, 1, none⟩ v5) := fun v5 w5 o5 g5 => by
            obtain ⟨h1, h2, h3⟩ := hI.putNext hxl2 o5 g5
            exact ⟨h2, h3, h1, hI.mapNext hxl2 g5 hM.out _, ext_set (Ext.grown (hx.trans hxl2) g5 fun j hj => (own_lt (hI.nxt.kept hxl2) hj).1) hBaw _ _⟩
          replace happ := Lib.hid happ
          have hnx := Lib.hid (hI.nxt.kept hxl2)
          have hxz := Lib.hid hx
          have hbw := hx.le
          replace hrr := Lib.hid hrr
          replace hhb := Lib.hid hhb
          replace hnvn := Lib.hid hnvn
          replace hnl := Lib.hid hnl
          go_wp2_with fail
          go_region_law ((refine step_app1 w3.heap.size _ rr rfl _ _ 65 rfl 101 Try.underlying65 info_row rfl (by decide) RE.len RE.one (.slice nva nvn nvc) (BN i).next rfl hnx.out ⟨wr.heap.size, 0, none⟩ rfl hlk3 (by rw [hnl.out]; omega) (by decide) (by have := hbw; simp; omega) ?_; intro v5 w5 o5 g5 n5; obtain ⟨a5, m5, c5b, hm5, rfl, _⟩ := OwnK.rdn RE.len o5; replace hm5 := Lib.hid hm5; obtain ⟨s0, s1, s2, s3, s4⟩ := happ.out _ w5 o5 g5))
          all_goals (clear r0 r1 r2 r3 r4 r5 r6 r7 l0 l1 l2 l3 l4 s0 s1 happ o5 g5 n5
                     generalize (w5.setCell ⟨Ba, 1, none⟩ (.slice a5 m5 c5b)) = wa at *
                     have hrd := OwnK.rdc BB.len (s2.rows hb (List.mem_of_getElem? hhb.out))
                     have hbn : hb.n = nn := by have := hrd.len; rw [hbx] at this; omega
                     have c7 := own_at BR.len s2.own hhb.out (j := 0) rfl
                     rw [Nat.mul_one, Nat.add_zero] at c7
                     obtain ⟨ha, hn2, hcap, hbxx⟩ := hb
                     change hbxx = cur at hbx
                     change hn2 = nn at hbn
                     subst hbx hbn
                     change RdK 1 BB.enc wa ha hn2 hcap hbxx at hrd
                     have hclo := cloneB_any ha hn2 hcap hbxx wa hrd (by omega) (by omega)
                     have hxx := Lib.hid s4
                     have hcurl := Lib.hid hcurG
                     clear hcurG
                     go_wp2_with fail
                     refine hclo.mono ?_
                     rintro e wb ⟨S9, cap9, rfl, ho9, hx9⟩
                     rw [hcurl.out] at ho9 ⊢
                     have hrn9 := hrn.ext hxx.out
                     have hsp := spread_any wa wb hx9 na hn2 ncap g hrn9 hn2 S9 cap9 (by rw [hG.out]; exact hnet.out) (Nat.le_refl _) hG5 _ ho9 ((i : Int) == 0) true
                     have q0b := (hxx.out.trans hx9).cellv q0
                     clear hclo hrd c7
                     go_wp2_with fail
                     refine hsp.mono ?_
                     rintro e wc ⟨rfl, ho10, hx10⟩
                     clear hsp q0b hx9 ho9
                     obtain ⟨en, hen⟩ : ∃ x, x = spreadM g hbxx ((i : Int) == 0) true := ⟨_, rfl⟩
                     rw [← hen] at ho10
                     have henl : en.length = hn2 := by rw [hen, spreadM_len]; exact hcurl.out
                     obtain ⟨bv, hbv⟩ : ∃ b, en[goal]? = some b := ⟨_, List.getElem?_eq_getElem (by omega)⟩
                     have cE := own_at BB.len ho10 hbv (j := 0) rfl
                     rw [Nat.mul_one, Nat.add_zero] at cE
                     obtain ⟨z, hz⟩ : ∃ z : Int, z = if bv then 1 else 0 := ⟨_, rfl⟩
                     rw [← hz] at cE
                     have hzb : (z == 1) = bv := by rw [hz]; cases bv <;> rfl
                     have hI10 := s2.kept hx10
                     have hM10 := s3.kept hx10
                     have hx3c := hxx.out.trans hx10
                     obtain ⟨l0, l1, l2, l3, l4⟩ := hI10.cells
                     obtain ⟨fva, fvn, fvc, hfvn, rfl, _⟩ := OwnK.rdn BE.len hI10.ends
                     have hfl := (hBnl.out i).2
                     have hlk2 := OwnK.rdc BE.len (lit_own BE.len wc 4 [bv] #[.bool bv] rfl (n := 1) rfl (by decide))
                     have hxl2 : Ext wc (wc.alloc (.cells #[.bool bv] 4)).drew := (Ext.alloc1 _ _).drew
                     have hlk3 := hlk2.ext ((Ext.refl _).drew)
                     have happ2 : ∀ (v5 : Value) (w5 : World), OwnK 1 BE.enc w3.heap.size 4 w5 v5 ((BN i).fin ++ [bv]) → (wc.alloc (.cells #[.bool bv] 4)).drew.grownBy w5 (Value.slice fva fvn fvc).ownBlock →
                         w5.cell? ⟨Ba, 2, none⟩ = some (.slice fva fvn fvc) ∧ w5.frozen? ⟨Ba, 2, none⟩ = false ∧ BuildI w3.heap.size Ba (w5.setCell ⟨Ba, 2, none⟩ v5) (.slice (some ⟨Sb2, 0, none⟩) csn2 csc2) (.slice a5 m5 c5b) v5 (.slice sva k svc) hs2 ((BN i).next ++ [rr]) ((BN i).fin ++ [bv]) xs ∧ MapK Try.prog 9 3 klB (w5.setCell ⟨Ba, 2, none⟩ v5) Bm hs2.length (fNum (RB k).2) ∧ Ext w3 (w5.setCell ⟨Ba, 2, none⟩ v5) := fun v5 w5 o5 g5 => by
                       obtain ⟨h1, h2, h3⟩ := hI10.putEnd hxl2 o5 g5
                       exact ⟨h2, h3, h1, hI10.mapEnd hxl2 g5 hM10 _, ext_set (Ext.grown (hx3c.trans hxl2) g5 fun j hj => (own_lt (hI10.ends.kept hxl2) hj).1) hBaw _ _⟩
                     replace happ2 := Lib.hid happ2
                     have hnx2 := Lib.hid (hI10.ends.kept hxl2)
                     have hbw2 := hx3c.le
                     replace hen := Lib.hid hen
                     replace henl := Lib.hid henl
                     replace hbv := Lib.hid hbv
                     replace hz := Lib.hid hz
                     replace hfvn := Lib.hid hfvn
                     replace hfl := Lib.hid hfl
                     go_wp2_with fail
                     go_region_law ((refine step_app1 w3.heap.size _ bv rfl _ _ 66 rfl 4 Try.underlying66 info_bl rfl (by decide) BE.len BE.one (.slice fva fvn fvc) (BN i).fin rfl hnx2.out ⟨wc.heap.size, 0, none⟩ rfl hlk3 (by rw [hfl.out]; omega) (by decide) (by have := hbw2; simp; omega) ?_; intro v6 w6 o6 g6 n6; obtain ⟨a6, m6, c6b, hm6, rfl, _⟩ := OwnK.rdn BE.len o6; replace hm6 := Lib.hid hm6; obtain ⟨s0, s1, s5, s6, s7⟩ := happ2.out _ w6 o6 g6))
                     all_goals (
                       go_wp2_with fail
                       have e0 := hsu.out
                       have hii : ((i : Int) == 0) = (i == 0) := by cases i <;> rfl
                       have e1 : (BN i).next ++ [rr] = (BN (i + 1)).next := by rw [e0, hrr.out]
                       have e2 : (BN i).fin ++ [bv] = (BN (i + 1)).fin := by
                         rw [e0]
                         show _ = _ ++ [(spreadM g hbxx (i == 0) true).getD goal false]
                         rw [← hii, ← hen.out, List.getD_eq_getElem?_getD, hbv.out]; rfl
                       have e3 : (RB k).2 = (BN (i + 1)).sets := by rw [e0]
                       rw [e1, e2] at s5
                       rw [e3] at s6
                       have hmp2 : Hid (hs2.map BR.x = (BN (i + 1)).sets) := Lib.hid (by rw [← e3]; exact hmp.out)
                       (first | exact ⟨⟨i + 1, hs2, _, _, hlt, by go_num, s5, hmp2, Lib.hid s6, s7⟩, (by simp [intOf]; omega)⟩ | (go_roundw; case rel => exact ⟨i + 1, hs2, _, _, hlt, by go_num, s5, hmp2, Lib.hid s6, s7⟩; case measure => exact (by simp [intOf]; omega)))))
    · obtain rfl : i = N := by omega
      have hcN : csn = i := by rw [hcsn, hlen0]; exact hBl.out.1
      replace hlen0 := Lib.hid hlen0
      replace hcsn := Lib.hid hcsn
      subst csn
      have hAu := hI.toAu
      have hA2 := hA.out
      rw [← hA2] at hAu
      have hnl : A.next.length = i := by rw [hA2]; exact (hBnl.out i).1
      have hi0 : 0 < i := by
        rcases Nat.eq_zero_or_pos i with h0 | h0
        · exfalso; have := hBl.out.1; rw [h0] at this; exact hBne.out 0 (List.eq_nil_of_length_eq_zero this)
        · exact h0
      have hle := least_any A hAok.out i hnl hi0 hN5 J hJ.out wr Ba hAu
      replace hnl := Lib.hid hnl
      replace hA2 := Lib.hid hA2
      go_wp2_with fail
      refine hle.mono ?_
      rintro e w9 ⟨b, rfl, hAu9, hx9⟩
      have hxf := hxw3.trans (hx.trans hx9)
      go_wp2_with fail
      go_ret2
      exact ⟨b, rfl, hAu9, hxf⟩
end Go.Proofs.Ytilkemdecenibaa
