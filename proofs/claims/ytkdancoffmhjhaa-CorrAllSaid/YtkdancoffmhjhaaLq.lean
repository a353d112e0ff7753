/-
  The laws CorrSums, CorrOrder: the walks.
-/
import Derived.Test.YtkdancoffmhjhaaLp
import Derived.Test.YtkdancoffmhjhaaLn
namespace Go.Proofs.Ytkdancoffmhjhaa
open Go.RowKit Go.Shelf
theorem sumVa_bad {E : Int} {l : List (List Cl × Int)} (h : sumEr E l ≠ 0) : sumVa E l = [] := by
  unfold sumEr sumVa at *
  split
  · rename_i h1; rw [if_pos h1] at h; rw [if_neg h]
  · rfl
theorem sumEr_zero {E : Int} {l : List (List Cl × Int)} (h : sumEr E l = 0) : E = 0 ∧ sumE (sumL l) = 0 ∧ sumVa E l = sumL l := by
  unfold sumEr sumVa at *
  split at h
  · rename_i h1; exact ⟨h1, h, by rw [if_pos h1, if_pos h]⟩
  · rename_i h1; exact absurd h h1
theorem sumC_app (l m : List HCo) : sumC (l ++ m) = sumC l + sumC m := by
  induction l with
  | nil => simp [sumC]
  | cons y l ih => simp only [List.cons_append, sumC, ih]; omega
theorem merge_v (a : Option Addr) (n cap : Nat) (l : List HCo) (b : Option Addr) (m cap2 : Nat) (l2 : List HCo) (w : World) (hr : RdH w a n cap l) (hs : RdH w b m cap2 l2) :
    Calls Try.prog 22 #[.slice a n cap, .slice b m cap2] w (ListRet (sumVa (chkE [l, l2]) ((l ++ l2).map kp)) (sumEr (chkE [l, l2]) ((l ++ l2).map kp)) w) := (merge_any a n cap l b m cap2 l2 w hr hs).mono (fun _ _ h => orSum_v h)
theorem kp_nil {w : World} {a : Option Addr} {n cap : Nat} {hs : List HCo} (h : RdH w a n cap hs) (hk : hs.map kp = []) : n = 0 := by
  rw [← h.rd.len, List.map_eq_nil_iff.1 hk]; rfl
set_option maxHeartbeats 1000000 in
set_option maxRecDepth 20000 in
theorem corrSums_any (a : Option Addr) (n cap : Nat) (l : List HCo) (b : Option Addr) (m cap2 : Nat) (l2 : List HCo) (w : World) (hr : RdH w a n cap l) (hs : RdH w b m cap2 l2) :
    Calls Try.prog 9 #[.slice a n cap, .slice b m cap2] w fun e w' => e = .returned (.bool true) ∧ Ext w w' := by
  have hm1 := hr.max
  have hm2 := hs.max
  by_cases h1 : n ≤ 60
  · have d1 : decide ((60 : Int) < (n : Int)) = false := by simp; omega
    by_cases h2 : m ≤ 60
    · have d2 : decide ((60 : Int) < (m : Int)) = false := by simp; omega
      have hA := fun W (z : Ext w W) => merge_v a n cap l b m cap2 l2 W (hr.ext z) (hs.ext z)
      have hB := fun W (z : Ext w W) => merge_v b m cap2 l2 a n cap l W (hs.ext z) (hr.ext z)
      have hp : ((l2 ++ l).map kp).Perm ((l ++ l2).map kp) := List.perm_append_comm.map _
      have hVs : sumVa (chkE [l2, l]) ((l2 ++ l).map kp) = sumVa (chkE [l, l2]) ((l ++ l2).map kp) := by unfold sumVa; rw [chkE_swap, sumL_perm hp]
      have hEs : sumEr (chkE [l2, l]) ((l2 ++ l).map kp) = sumEr (chkE [l, l2]) ((l ++ l2).map kp) := by unfold sumEr; rw [chkE_swap, sumL_perm hp]
      rw [hVs, hEs] at hB
      clear hVs hEs hp
      unfold ListRet at hA hB
      obtain ⟨V, hV⟩ : ∃ V, V = sumVa (chkE [l, l2]) ((l ++ l2).map kp) := ⟨_, rfl⟩
      obtain ⟨E, hE⟩ : ∃ E, E = sumEr (chkE [l, l2]) ((l ++ l2).map kp) := ⟨_, rfl⟩
      rw [← hV, ← hE] at hA hB
      have hsame : ∀ (W : World) a1 n1 c1 hs1 a2 n2 c2 hs2, RdH W a1 n1 c1 hs1 → RdH W a2 n2 c2 hs2 → hs1.map kp = V → hs2.map kp = V → Calls Try.prog 20 #[.slice a1 n1 c1, .slice a2 n2 c2] W fun e w' => e = .returned (.bool true) ∧ Ext W w' := by
        intro W a1 n1 c1 hs1 a2 n2 c2 hs2 hr1 hr2 hk1 hk2
        have hsame := same_any a1 n1 c1 hs1 a2 n2 c2 hs2 W hr1 hr2
        rwa [hk1, hk2, decide_eq_true rfl] at hsame
      have hx0 := Ext.refl w
      have hw0 : (E != E) = false := by simp
      by_cases h0 : E = 0
      · subst h0
        obtain ⟨hc0, h7, hV2⟩ := sumEr_zero hE.symm
        obtain ⟨hlim, hok⟩ := (chkE_iff _).1 hc0
        have hfl : [l, l2].flatten = l ++ l2 := by simp
        rw [hfl] at hok
        have hfa : [l].flatten = l := by simp
        have hfb : [l2].flatten = l2 := by simp
        have hl1 : chkE [l] = 0 := (chkE_iff _).2 ⟨fun u hu => hlim u (by simp at hu; simp [hu]), hfa.symm ▸ (hok.sub fun y hy => List.mem_append_left _ hy).self⟩
        have hl2 : chkE [l2] = 0 := (chkE_iff _).2 ⟨fun u hu => hlim u (by simp at hu; simp [hu]), hfb.symm ▸ (hok.sub fun y hy => List.mem_append_right _ hy).self⟩
        have hW64 : widH (l ++ l2) ≤ 64 := by
          cases hh : l ++ l2 with
          | nil => exact Nat.zero_le _
          | cons y r =>
            have hy : y ∈ l ++ l2 := by rw [hh]; simp
            show y.n ≤ 64
            rcases List.mem_append.1 hy with h | h
            · exact (hlim l (by simp)).2 y h
            · exact (hlim l2 (by simp)).2 y h
        have hlen : (l ++ l2).length ≤ 4096 := by rw [List.length_append, hr.rd.len, hs.rd.len]; omega
        have hnx : ∀ y ∈ l ++ l2, y.x.length = y.n := fun y hy => by
          rcases List.mem_append.1 hy with h | h
          · exact (hr.ok y h).len
          · exact (hs.ok y h).len
        have hval : ∀ (W : World) a1 n1 c1 hs1, RdH W a1 n1 c1 hs1 → hs1.map kp = V → chkE [hs1] = 0 ∧ sumC hs1 = sumC l + sumC l2 := by
          intro W a1 n1 c1 hs1 hr1 hk1
          rw [hV, hV2] at hk1
          refine ⟨(sum_valid hok hW64 hlen hnx hk1 (fun y hy => (hr1.ok y hy).len) h7).1, ?_⟩
          rw [sumC_kp, hk1, sumL_tot, ← sumC_kp, sumC_app]
        have hagain : ∀ (W : World) a1 n1 c1 hs1, RdH W a1 n1 c1 hs1 → hs1.map kp = V → Calls Try.prog 22 #[.slice none 0 0, .slice a1 n1 c1] W (ListRet V 0 W) := by
          intro W a1 n1 c1 hs1 hr1 hk1
          have h3 := merge_v none 0 0 [] a1 n1 c1 hs1 W (rdh_none W) hr1
          rw [chkE_swap, chkE_nil, (hval W a1 n1 c1 hs1 hr1 hk1).1, List.nil_append, hk1] at h3
          have e1 : sumL V = V := by rw [hV, hV2, sumL_again]
          have e2 : sumVa 0 V = V := by unfold sumVa; rw [if_pos rfl, e1, if_pos (by rw [hV, hV2]; exact h7)]
          have e3 : sumEr 0 V = 0 := by unfold sumEr; rw [if_pos rfl, e1, hV, hV2]; exact h7
          rwa [e2, e3] at h3
        unfold ListRet at hagain
        have hb1 := sumC_bd (l := l) (fun y hy => by have := hok y (List.mem_append_left _ hy); unfold cntB; rw [decide_eq_true this.2.1, decide_eq_true this.2.2.1]; rfl)
        have hb2 := sumC_bd (l := l2) (fun y hy => by have := hok y (List.mem_append_right _ hy); unfold cntB; rw [decide_eq_true this.2.1, decide_eq_true this.2.2.1]; rfl)
        rw [hr.rd.len] at hb1
        rw [hs.rd.len] at hb2
        have hT1 := fun W (z : Ext w W) => total_any a n cap l W (hr.ext z)
        have hT2 := fun W (z : Ext w W) => total_any b m cap2 l2 W (hs.ext z)
        rw [hl1, if_pos rfl] at hT1
        rw [hl2, if_pos rfl] at hT2
        have hT3 : ∀ (W : World) a1 n1 c1 hs1, RdH W a1 n1 c1 hs1 → hs1.map kp = V → Calls Try.prog 28 #[.slice a1 n1 c1] W fun e w' => e = .returned (.tuple #[.int .i64 (sumC l + sumC l2), .int .i64 0]) ∧ Ext W w' := by
          intro W a1 n1 c1 hs1 hr1 hk1
          have h3 := total_any a1 n1 c1 hs1 W hr1
          obtain ⟨e1, e2⟩ := hval W a1 n1 c1 hs1 hr1 hk1
          rwa [e1, if_pos rfl, e2] at h3
        generalize sumC l = S1 at *
        generalize sumC l2 = S2 at *
        have hwr : IntKind.i64.wrap (S1 + S2) = S1 + S2 := IntWalk.i64_in _ (by omega)
        have hwr2 : -9223372036854775808 ≤ S1 + S2 ∧ S1 + S2 ≤ 9223372036854775807 := by omega
        replace hV := Lib.hid hV
        replace hE := Lib.hid hE
        clear hval hnx hlen hW64 hl1 hl2 hok hlim hfl hV2 h7 hc0 hb1 hb2
        go_enter Try.func9, Try.ntmps9
        go_wp2_with fail
        refine (hA _ hx0).mono ?_
        rintro e w1 ⟨a1, n1, c1, hs1, rfl, hr1, hk1, hx1⟩
        have hB1 := hB _ hx1
        go_wp2_with fail
        refine hB1.mono ?_
        rintro e w2 ⟨a2, n2, c2, hs2, rfl, hr2, hk2, hx2⟩
        have hr1 := hr1.ext hx2
        have hs2' := hsame _ _ _ _ _ _ _ _ _ hr1 hr2 hk1 hk2
        have hx2 := hx1.trans hx2
        clear hA hB hB1 hx1
        go_wp2_with fail
        refine hs2'.mono ?_
        rintro e w3 ⟨rfl, hx3⟩
        have hr1 := hr1.ext hx3
        have hx3 := hx2.trans hx3
        have hT1' := hT1 _ hx3
        clear hs2' hr2 hk2 hT1 hx2
        go_wp2_with fail
        refine hT1'.mono ?_
        rintro e w4 ⟨rfl, hx4⟩
        have hr1 := hr1.ext hx4
        have hx4 := hx3.trans hx4
        have hT2' := hT2 _ hx4
        clear hT1' hT2 hx3
        go_wp2_with fail
        refine hT2'.mono ?_
        rintro e w5 ⟨rfl, hx5⟩
        have hr1 := hr1.ext hx5
        have hx5 := hx4.trans hx5
        have hT3' := hT3 _ _ _ _ _ hr1 hk1
        clear hT2' hT3 hx4
        go_wp2_with fail
        refine hT3'.mono ?_
        rintro e w6 ⟨rfl, hx6⟩
        have hr1 := hr1.ext hx6
        have hx6 := hx5.trans hx6
        have hag := hagain _ _ _ _ _ hr1 hk1
        clear hT3' hagain hx5
        go_wp2_with fail
        refine hag.mono ?_
        rintro e w7 ⟨a7, n7, c7, hs7, rfl, hr7, hk7, hx7⟩
        have hs7' := hsame _ _ _ _ _ _ _ _ _ hr7 (hr1.ext hx7) hk7 hk1
        have hx7 := hx6.trans hx7
        clear hag hr7 hk7 hsame hx6
        go_wp2_with fail
        refine hs7'.mono ?_
        rintro e w8 ⟨rfl, hx8⟩
        go_wp2_with fail
        refine (works_any _).mono ?_
        rintro e wz ⟨rfl, hxz⟩
        go_wp2_with fail
        go_ret
        exact ⟨rfl, (by repeat (first | exact Ext.refl _ | assumption | refine Ext.drew ?_ | refine Ext.drewN ?_ _ | refine Ext.alloc ?_ _ | refine Ext.trans ?_ (by assumption)))⟩
      · have hV0 : V = [] := by rw [hV]; exact sumVa_bad (by rw [← hE]; exact h0)
        have hd : (E != 0) = true := by simpa using h0
        have hn0 : ∀ (W : World) a1 n1 c1 hs1, RdH W a1 n1 c1 hs1 → hs1.map kp = V → n1 = 0 := fun W a1 n1 c1 hs1 h1 h2 => kp_nil h1 (h2.trans hV0)
        replace hV := Lib.hid hV
        replace hE := Lib.hid hE
        replace hV0 := Lib.hid hV0
        replace h0 := Lib.hid h0
        go_enter Try.func9, Try.ntmps9
        go_wp2_with fail
        refine (hA _ hx0).mono ?_
        rintro e w1 ⟨a1, n1, c1, hs1, rfl, hr1, hk1, hx1⟩
        have hB1 := hB _ hx1
        go_wp2_with fail
        refine hB1.mono ?_
        rintro e w2 ⟨a2, n2, c2, hs2, rfl, hr2, hk2, hx2⟩
        have hs2' := hsame _ _ _ _ _ _ _ _ _ (hr1.ext hx2) hr2 hk1 hk2
        obtain rfl := hn0 _ _ _ _ _ hr1 hk1
        clear hA hB hB1
        go_wp2_with fail
        refine hs2'.mono ?_
        rintro e w3 ⟨rfl, hx3⟩
        go_wp2_with fail
        refine (works_any _).mono ?_
        rintro e wz ⟨rfl, hxz⟩
        go_wp2_with fail
        go_ret
        exact ⟨rfl, (by repeat (first | exact Ext.refl _ | assumption | refine Ext.drew ?_ | refine Ext.drewN ?_ _ | refine Ext.alloc ?_ _ | refine Ext.trans ?_ (by assumption)))⟩
    · have d2 : decide ((60 : Int) < (m : Int)) = true := by simp; omega
      replace h2 := Lib.hid h2
      go_enter Try.func9, Try.ntmps9
      go_wp2_with fail
      refine (works_any _).mono ?_
      rintro e wz ⟨rfl, hxz⟩
      go_wp2_with fail
      go_ret
      exact ⟨rfl, (by repeat (first | exact Ext.refl _ | assumption | refine Ext.drew ?_ | refine Ext.drewN ?_ _ | refine Ext.alloc ?_ _ | refine Ext.trans ?_ (by assumption)))⟩
  · have d1 : decide ((60 : Int) < (n : Int)) = true := by simp; omega
    replace h1 := Lib.hid h1
    go_enter Try.func9, Try.ntmps9
    go_wp2_with fail
    refine (works_any _).mono ?_
    rintro e wz ⟨rfl, hxz⟩
    go_wp2_with fail
    go_ret
    exact ⟨rfl, (by repeat (first | exact Ext.refl _ | assumption | refine Ext.drew ?_ | refine Ext.drewN ?_ _ | refine Ext.alloc ?_ _ | refine Ext.trans ?_ (by assumption)))⟩
theorem info_hw : (Try.prog.info? 29).map (fun i => (i.zero, i.size, i.bytes)) = some (some (.slice none 0 0), 1, 24) := by kernel_rfl
theorem HW.len (h : HW) : h.enc.length = 1 := rfl
theorem HW.one (h : HW) : ∀ u ∈ h.enc, u.oneCell' = true := by intro u hu; simp [HW.enc] at hu; subst hu; rfl
theorem drop_rev {α : Type} {l : List α} {k : Nat} {y : α} (h : l[k]? = some y) : (l.drop k).reverse = (l.drop (k + 1)).reverse ++ [y] := by
  obtain ⟨hk, rfl⟩ := List.getElem?_eq_some_iff.1 h
  rw [List.drop_eq_getElem_cons hk, List.reverse_cons]
theorem sum_ones (l : List HW) : (((l.map HW.co1).map kp).map (·.2)).sum = (l.length : Int) := by
  induction l with
  | nil => rfl
  | cons y l ih => simp only [List.map_cons, List.sum_cons, ih, List.length_cons]; show (1 : Int) + _ = _; omega
set_option maxHeartbeats 1000000 in
set_option maxRecDepth 20000 in
theorem corrOrder_any (a : Option Addr) (n cap : Nat) (hs : List HW) (w : World) (hr : RdHW w a n cap hs) :
    Calls Try.prog 8 #[.slice a n cap] w fun e w' => e = .returned (.bool true) ∧ Ext w w' := by
  have hm1 := hr.max
  have hl := hr.rd.len
  by_cases h1 : n ≤ 60
  · have d1 : decide ((60 : Int) < (n : Int)) = false := by simp; omega
    have hA := fun W (z : Ext w W) => (collect_any a n cap hs W (hr.ext z) (by omega)).mono (fun _ _ h => orSum_v h)
    have hB := fun W (z : Ext w W) (ab : Option Addr) (nb cb : Nat) (hrb : RdHW W ab nb cb hs.reverse) => (collect_any ab nb cb hs.reverse W hrb (by have := hrb.rd.len; rw [List.length_reverse] at this; omega)).mono (fun _ _ h => orSum_v h)
    have hp : ((hs.reverse.map HW.co1).map kp).Perm ((hs.map HW.co1).map kp) := (List.reverse_perm hs).map _ |>.map _
    have hc : chkE [hs.reverse.map HW.co1] = chkE [hs.map HW.co1] := by rw [List.map_reverse, chkE_rev]
    have hVs : sumVa (chkE [hs.reverse.map HW.co1]) ((hs.reverse.map HW.co1).map kp) = sumVa (chkE [hs.map HW.co1]) ((hs.map HW.co1).map kp) := by unfold sumVa; rw [hc, sumL_perm hp]
    have hEs : sumEr (chkE [hs.reverse.map HW.co1]) ((hs.reverse.map HW.co1).map kp) = sumEr (chkE [hs.map HW.co1]) ((hs.map HW.co1).map kp) := by unfold sumEr; rw [hc, sumL_perm hp]
    rw [hVs, hEs] at hB
    clear hVs hEs hp hc
    unfold ListRet at hA hB
    obtain ⟨V, hV⟩ : ∃ V, V = sumVa (chkE [hs.map HW.co1]) ((hs.map HW.co1).map kp) := ⟨_, rfl⟩
    obtain ⟨E, hE⟩ : ∃ E, E = sumEr (chkE [hs.map HW.co1]) ((hs.map HW.co1).map kp) := ⟨_, rfl⟩
    rw [← hV, ← hE] at hA hB
    have hsame : ∀ (W : World) a1 n1 c1 hs1 a2 n2 c2 hs2, RdH W a1 n1 c1 hs1 → RdH W a2 n2 c2 hs2 → hs1.map kp = V → hs2.map kp = V → Calls Try.prog 20 #[.slice a1 n1 c1, .slice a2 n2 c2] W fun e w' => e = .returned (.bool true) ∧ Ext W w' := by
      intro W a1 n1 c1 hs1 a2 n2 c2 hs2 hr1 hr2 hk1 hk2
      have hsame := same_any a1 n1 c1 hs1 a2 n2 c2 hs2 W hr1 hr2
      rwa [hk1, hk2, decide_eq_true rfl] at hsame
    -- what follows if there is no error
    have hgood : E = 0 → (V.Pairwise (fun x y => cmpCs x.1 y.1 < 0)) ∧ ∀ (W : World) a1 n1 c1 hs1, RdH W a1 n1 c1 hs1 → hs1.map kp = V → Calls Try.prog 28 #[.slice a1 n1 c1] W fun e w' => e = .returned (.tuple #[.int .i64 n, .int .i64 0]) ∧ Ext W w' := by
      intro h0
      obtain ⟨hc0, h7, hV2⟩ := sumEr_zero (hE.symm.trans h0)
      obtain ⟨hlim, hok⟩ := (chkE_iff _).1 hc0
      have hfl : [hs.map HW.co1].flatten = hs.map HW.co1 := by simp
      rw [hfl] at hok
      have hnx : ∀ y ∈ hs.map HW.co1, y.x.length = y.n := fun y hy => by
        obtain ⟨u, hu, rfl⟩ := List.mem_map.1 hy
        exact (hr.ok u hu).len
      have hW64 : widH (hs.map HW.co1) ≤ 64 := by
        cases hh : hs.map HW.co1 with
        | nil => exact Nat.zero_le _
        | cons y r => exact (hlim (hs.map HW.co1) (by simp)).2 y (by rw [hh]; simp)
      refine ⟨by rw [hV, hV2]; exact (sumL_sum _).1, fun W a1 n1 c1 hs1 hr1 hk1 => ?_⟩
      have h3 := total_any a1 n1 c1 hs1 W hr1
      rw [hV, hV2] at hk1
      obtain ⟨e1, _⟩ := sum_valid hok hW64 (hlim _ (by simp)).1 hnx hk1 (fun y hy => (hr1.ok y hy).len) h7
      rwa [e1, if_pos rfl, sumC_kp, hk1, sumL_tot, sum_ones, hl] at h3
    have hw0 : (E != E) = false := by simp
    have hx0 := Ext.refl w
    replace hl := Lib.hid hl
    replace hgood := Lib.hid hgood
    have hbad : E ≠ 0 → V = [] := fun h => by rw [hV]; exact sumVa_bad (by rw [← hE]; exact h)
    replace hbad := Lib.hid hbad
    clear hV hE
    go_enter Try.func8, Try.ntmps8
    go_wp2_with fail
    go_loopw [3, 4] (fun v i wr => ∃ j : Nat, j ≤ n ∧ i = .int .i64 ((j : Int) - 1) ∧ OwnK 1 HW.enc w.heap.size 29 wr v ((hs.drop j).reverse) ∧ Ext w wr) (fun _ i _ => (intOf i + 1).toNat)
    case atStart => exact ⟨n, Nat.le_refl _, rfl, by rw [List.drop_of_length_le (by rw [hl.out]; exact Nat.le_refl _)]; exact OwnK.nil _ _ _, Ext.refl _⟩
    case round =>
      obtain ⟨j, hj, rfl, hown, hx⟩ := hrel
      by_cases hj0 : j = 0
      · subst hj0
        rw [List.drop_zero] at hown
        obtain ⟨ab, nb, cb, hnb, rfl, hrb⟩ := OwnK.rdn HW.len hown
        have hrB : RdHW wr ab nb cb hs.reverse := ⟨hrb, fun y hy => (hr.ok y (by simpa using hy)).ext hx⟩
        have hA1 := hA wr hx
        replace hnb := Lib.hid hnb
        clear hrb hown hA
        go_wp2_with fail
        refine hA1.mono ?_
        rintro e w1 ⟨a1, n1, c1, hs1, rfl, hr1, hk1, hx1⟩
        have hB1 := hB w1 (hx.trans hx1) ab nb cb (hrB.ext hx1)
        clear hA1 hB hrB
        go_wp2_with fail
        refine hB1.mono ?_
        rintro e w2 ⟨a2, n2, c2, hs2, rfl, hr2, hk2, hx2⟩
        have hr1 := hr1.ext hx2
        have hx2 := (hx.trans hx1).trans hx2
        have hs2' := hsame _ _ _ _ _ _ _ _ _ hr1 hr2 hk1 hk2
        clear hB1 hx1 hsame
        by_cases h0 : E = 0
        · subst h0
          obtain ⟨hpw, htot⟩ := hgood.out rfl
          have hl1 := hr1.rd.len
          replace hpw := Lib.hid hpw
          replace hl1 := Lib.hid hl1
          clear hgood hbad
          go_wp2_with fail
          refine hs2'.mono ?_
          rintro e w3 ⟨rfl, hx3⟩
          have hr3 := hr1.ext hx3
          have hx3 := hx2.trans hx3
          have hmx := hr3.max
          clear hs2' hr2 hk2 hr1 hx2
          go_wp2_with fail
          go_loopw [9] (fun i wq => ∃ k : Nat, k ≤ 9223372036854775806 ∧ i = .int .i64 ((k : Int) + 1) ∧ Ext w3 wq) (fun i _ => n1 - (intOf i).toNat)
          case atStart => exact ⟨0, Nat.zero_le _, rfl, Ext.refl _⟩
          case round =>
            obtain ⟨k, hk60, rfl, hxr⟩ := hrel
            by_cases hlt : k + 1 < n1
            · have e1 : decide ((k : Int) + 1 < (n1 : Int)) = true := by simp; omega
              have hr2r := hr3.ext hxr
              obtain ⟨b, off, y, rfl, hy, hb, p0, _, pr⟩ := hr2r.at (i := k) (by omega)
              obtain ⟨_, _, z, he, hz, _, q0, _, qr⟩ := hr2r.at hlt
              cases he
              have hki : (k : Int) < (n1 : Int) := by omega
              have hki2 : (k : Int) + 1 < (n1 : Int) := by omega
              have hwr1 : IntKind.i64.wrap (k : Int) = k := IntWalk.i64_in _ (by omega)
              have htn : ((k : Int) + 1).toNat = k + 1 := by omega
              have hlt1 : cmpCs y.x z.x < 0 := by
                have := hpw.out
                rw [← hk1] at this
                obtain ⟨g1, e1⟩ := List.getElem?_eq_some_iff.1 hy.out
                obtain ⟨g2, e2⟩ := List.getElem?_eq_some_iff.1 hz.out
                have h3 := List.pairwise_iff_getElem.1 (List.pairwise_map.1 this) k (k + 1) g1 g2 (by omega)
                rw [e1, e2] at h3
                exact h3
              have hv1 : cmpCs y.x z.x = -1 := by rcases cmpCs_tot.tri y.x z.x with h | h | h <;> omega
              have hv2 : cmpCs z.x y.x = 1 := by have := cmpCs_tot.anti y.x z.x; omega
              have hc1 := fun u : ExtOf wr => (cord_anyD y.a y.n y.cap y.x z.a z.n z.cap z.x u.w (pr.ext u.h) (qr.ext u.h)).mono (R' := fun e w' => e = .returned (.int .i64 (cmpCs y.x z.x)) ∧ Ext u.w w') (fun _ _ h => ⟨h.1, h.2.ext⟩)
              have hc2 := fun u : ExtOf wr => (cord_anyD z.a z.n z.cap z.x y.a y.n y.cap y.x u.w (qr.ext u.h) (pr.ext u.h)).mono (R' := fun e w' => e = .returned (.int .i64 (cmpCs z.x y.x)) ∧ Ext u.w w') (fun _ _ h => ⟨h.1, h.2.ext⟩)
              rw [hv1] at hc1
              rw [hv2] at hc2
              have r0 := fun u : ExtOf wr => u.cell p0
              have r1 := fun u : ExtOf wr => u.cell q0
              clear hv1 hv2 hlt1
              replace hlt := Lib.hid hlt
              go_wp2_with fail
              refine wp_region_qx (by kernel_rfl) (by kernel_rfl) ?_
              repeat (go_big_quiet_step (first | exact calls_ext (hc1 _) | exact calls_ext (hc2 _)))
              refine wpQuiet_nil ?_
              intro wq hw'
              have hxq := ext_of_ex hw'
              clear hw'
              go_wp2_with fail
              clear hc1 hc2 r0 r1
              replace hlt := hlt.out
              (first | exact ⟨⟨k + 1, by omega, by go_num, hxr.trans hxq⟩, (by simp [intOf]; omega)⟩ | (go_roundw; case rel => exact ⟨k + 1, by omega, by go_num, hxr.trans hxq⟩; case measure => exact (by simp [intOf]; omega)))
            · have e1 : decide ((k : Int) + 1 < (n1 : Int)) = false := by simp; omega
              have htt := htot wr _ _ _ _ (hr3.ext hxr) hk1
              have hxr := hx3.trans hxr
              replace hlt := Lib.hid hlt
              go_wp2_with fail
              refine htt.mono ?_
              rintro e w4 ⟨rfl, hx4⟩
              go_wp2_with fail
              refine (works_any _).mono ?_
              rintro e wz ⟨rfl, hxz⟩
              go_wp2_with fail
              go_ret
              exact ⟨rfl, (by repeat (first | exact Ext.refl _ | assumption | refine Ext.drew ?_ | refine Ext.drewN ?_ _ | refine Ext.alloc ?_ _ | refine Ext.trans ?_ (by assumption)))⟩
        · have hd : (E != 0) = true := by simpa using h0
          obtain rfl := kp_nil hr1 (hk1.trans (hbad.out h0))
          replace h0 := Lib.hid h0
          go_wp2_with fail
          refine hs2'.mono ?_
          rintro e w3 ⟨rfl, hx3⟩
          go_wp2_with fail
          refine (works_any _).mono ?_
          rintro e wz ⟨rfl, hxz⟩
          go_wp2_with fail
          go_ret
          exact ⟨rfl, (by repeat (first | exact Ext.refl _ | assumption | refine Ext.drew ?_ | refine Ext.drewN ?_ _ | refine Ext.alloc ?_ _ | refine Ext.trans ?_ (by assumption)))⟩
      · obtain ⟨k, rfl⟩ : ∃ k, j = k + 1 := ⟨j - 1, by omega⟩
        obtain ⟨b, off, h, rfl, hh, hb, hc0, hrc⟩ := (hr.ext hx).at (i := k) (by omega)
        have hsu := Lib.hid (drop_rev hh.out)
        have hdl : Hid (((hs.drop (k + 1)).reverse).length = n - (k + 1)) := Lib.hid (by rw [List.length_reverse, List.length_drop, hl.out])
        have e0 : ((k + 1 : Nat) : Int) - 1 = (k : Int) := by omega
        have e1 : decide ((0 : Int) ≤ (k : Int)) = true := by simp
        have hki : (k : Int) < (n : Int) := by omega
        rw [e0]
        go_wp2_with (at_builtin; refine wp_app1 w wr h rfl _ _ 22 rfl 29 Try.underlying22 info_hw rfl (by decide) _ _ rfl hown hx rfl rfl (HW.one _) (by rw [hdl.out]; omega) (by rw [hdl.out]; unfold maxLen; omega) ?_; intro v1 w1 ho1 hx1 _)
        rw [← hsu.out] at ho1
        go_roundw
        case rel => exact ⟨k, by omega, by go_num, ho1, hx1⟩
        case measure => simp [intOf]
  · have d1 : decide ((60 : Int) < (n : Int)) = true := by simp; omega
    replace h1 := Lib.hid h1
    go_enter Try.func8, Try.ntmps8
    go_wp2_with fail
    refine (works_any _).mono ?_
    rintro e wz ⟨rfl, hxz⟩
    go_wp2_with fail
    go_ret
    exact ⟨rfl, (by repeat (first | exact Ext.refl _ | assumption | refine Ext.drew ?_ | refine Ext.drewN ?_ _ | refine Ext.alloc ?_ _ | refine Ext.trans ?_ (by assumption)))⟩
end Go.Proofs.Ytkdancoffmhjhaa
