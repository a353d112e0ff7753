/-
  sankoff: Best, Cost.
-/
import Derived.Test.YtdloabjnjnjacaaDoorSi
namespace Go.Proofs.YtdloabjnjnjacaaDoor
open Go.RowKit Go.Shelf
theorem zIntI_own (w : World) (n : Nat) (hn : n ≤ 60000) : OwnI w.heap.size 3 (w.alloc (.cells (zInts n) 3)) (.slice (some ⟨w.heap.size, 0, none⟩) n n) (List.replicate n 0) :=
  made_own I64.len (by decide) w 3 #[.int .i64 0] 0 rfl n hn
theorem set_mid {l : List Int} {v n : Nat} (hl : l.length = v) (hv : v < n) (y : Int) : (l ++ List.replicate (n - v) 0).set v y = (l ++ [y]) ++ List.replicate (n - (v + 1)) 0 := by
  obtain ⟨d, hd⟩ : ∃ d, n - v = d + 1 := ⟨n - v - 1, by omega⟩
  have hd2 : n - (v + 1) = d := by omega
  rw [hd, hd2, List.set_append_right _ _ (by omega), hl, Nat.sub_self, List.replicate_succ, List.set_cons_zero, List.append_assoc]; rfl
theorem mid_zero {l : List Int} {v n : Nat} (hl : l.length = v) (hv : v < n) : (l ++ List.replicate (n - v) 0)[v]? = some 0 := by
  rw [List.getElem?_append_right (by omega), hl, Nat.sub_self, List.getElem?_replicate, if_pos (by omega)]
set_option maxHeartbeats 4000000 in
set_option maxRecDepth 20000 in
theorem sbest_any (a : Option Addr) (n cap : Nat) (ts : List Nd) (am : Option Addr) (k capm : Nat) (ms : List (List Int)) (ast : Option Addr) (l caps : Nat) (st : List Int) (w : World)
    (hr : RdN w a n cap ts) (hm : RdM w am k capm ms) (hs : RdI w ast l caps st) :
    Calls Tryd.prog 59 #[.slice a n cap, .slice am k capm, .slice ast l caps] w (RetIE (bestS ts ms st) (possE ts ms st) w) := by
  have hp := possible_any a n cap ts am k capm ms ast l caps st w hr hm hs
  have hnl := hr.rd.len
  have hkl := RdV.len hm
  by_cases h0 : possE ts ms st = 0
  · obtain ⟨hc, _⟩ := possE_zero h0
    obtain ⟨ht, hmb, _, _⟩ := chkS_zero hc
    obtain ⟨r, hrk, hr2, hra, hrg⟩ := root_at h0
    have hroot := fun g W (hx : Ext w W) (hT : RdT W g n k (accS ts ms st (n - 1))) => rootS_any a n cap ts am k capm ms st g W hnl hkl (hm.ext hx) hc hT
    have hL : bestS ts ms st = bestTo ts ms st r n := by rw [bestS, if_pos h0, hr2, hnl]
    have hn1 : 1 ≤ n := by rw [← hnl]; exact (tree_len ht).1
    have hn63 : n ≤ 63 := by rw [← hnl]; exact (tree_len ht).2
    have hk12 : k ≤ 12 := by rw [← hkl]; exact (smB_of hmb).2.1
    have hok : CostOk n k (accS ts ms st (n - 1)) := by have := acc_ok hc; rw [hnl, hkl] at this; exact this
    have hstep : ∀ v (p : Nat) (a' : Int), 0 < v → v < n → parF ts v = p → (bestTo ts ms st r v)[p]? = some a' → ∃ a'' : Nat, a' = a'' ∧ a'' < k ∧ bestTo ts ms st r (v + 1) = bestTo ts ms st r v ++ [(bstF (fun b => op (ent ms a'' b) (accS ts ms st (n - 1) v b)) k).2] := fun v p a' v0 hv hp ha => by
      obtain ⟨a'', e1, e2, e3⟩ := best_succ hc hrk (by rw [hra]; exact hrg) v0 (by omega) hp ha
      rw [hkl] at e2 e3
      refine ⟨a'', e1, e2, ?_⟩
      rw [e3, ← hnl]; rfl
    have hpar : ∀ (v : Nat) (x : Nd), 0 < v → ts[v]? = some x → ∃ p : Nat, x.par = p ∧ p < v ∧ parF ts v = p := fun v x v0 hx => by
      obtain ⟨h1, h2⟩ := treeB_par ht hx v0
      obtain ⟨p, hp⟩ := Int.eq_ofNat_of_zero_le h1
      exact ⟨p, hp, by omega, by rw [parF_at hx, hp]⟩
    have hmk := fun W => mk_ints n (by omega) W
    have hleast := fun g v s W (hx : Ext w W) (hT : RdT W g n k (accS ts ms st (n - 1))) (hv : v < n) (hs : s < k) => least_any a n cap am k capm g ms (accS ts ms st (n - 1)) v s W (hm.ext hx) hmb hT hok hv hs
    have hB1 : bestTo ts ms st r 1 = [(r : Int)] := rfl
    have hBl : ∀ j, (bestTo ts ms st r j).length = j := bestTo_len _
    rw [hL, h0]
    rw [h0] at hp
    rw [hr2] at hroot
    generalize (rootB ts ms st).1 = q1 at *
    generalize bestTo ts ms st r = R at *
    replace hnl := Lib.hid hnl
    replace hkl := Lib.hid hkl
    replace h0 := Lib.hid h0
    replace hr2 := Lib.hid hr2
    replace hra := Lib.hid hra
    replace hB1 := Lib.hid hB1
    replace hBl := Lib.hid hBl
    clear hL hok
    go_enter Tryd.func59, Tryd.ntmps59
    go_wp2_with fail
    refine hp.mono ?_
    rintro e w1 ⟨⟨hne, rfl⟩ | ⟨_, g, rfl, hg, hT⟩, hx1⟩
    · exact absurd rfl hne
    go_wp2_with fail
    refine (hroot g _ (by repeat (first | exact Ext.refl _ | assumption | refine Ext.drew ?_ | refine Ext.drewN ?_ _ | refine Ext.alloc ?_ _ | refine Ext.trans ?_ (by assumption))) (hT.ext (by repeat (first | exact Ext.refl _ | assumption | refine Ext.drew ?_ | refine Ext.drewN ?_ _ | refine Ext.alloc ?_ _ | refine Ext.trans ?_ (by assumption))))).mono ?_
    rintro e w2 ⟨rfl, hx2⟩
    have hxA : Ext w (w1.alloc (.cells #[.slice a n cap, .slice am k capm, .slice (some ⟨g, 0, none⟩) n n] 114)) := (by repeat (first | exact Ext.refl _ | assumption | refine Ext.drew ?_ | refine Ext.drewN ?_ _ | refine Ext.alloc ?_ _ | refine Ext.trans ?_ (by assumption)))
    have hbA : BoxP (w1.alloc (.cells #[.slice a n cap, .slice am k capm, .slice (some ⟨g, 0, none⟩) n n] 114)) w1.heap.size a n cap am k capm g := World.alloc_heap_new w1 _
    have hTA := hT.ext (Ext.alloc1 w1 (.cells #[.slice a n cap, .slice am k capm, .slice (some ⟨g, 0, none⟩) n n] 114))
    have hown0 := (zIntI_own (w1.alloc (.cells #[.slice a n cap, .slice am k capm, .slice (some ⟨g, 0, none⟩) n n] 114)) n (by omega)).kept hx2
    have hx2A : Ext (w1.alloc (.cells #[.slice a n cap, .slice am k capm, .slice (some ⟨g, 0, none⟩) n n] 114)) w2 := (Ext.alloc1 _ _).trans hx2
    have hzA : (w1.alloc (.cells #[.slice a n cap, .slice am k capm, .slice (some ⟨g, 0, none⟩) n n] 114)).heap.size = w1.heap.size + 1 := by simp
    rw [hzA] at hown0
    generalize (w1.alloc (.cells #[.slice a n cap, .slice am k capm, .slice (some ⟨g, 0, none⟩) n n] 114)) = wA at *
    replace hzA := Lib.hid hzA
    have hown := OwnK.base hown0 (show w.heap.size ≤ w1.heap.size + 1 by have := hx1.le; omega)
    have hc0 := OwnI.at hown (i := 0) (y := 0) (by rw [List.getElem?_replicate, if_pos (by omega)])
    have hf0 := OwnI.free hown 0
    have hown1 := OwnI.set hown 0 (r : Int)
    have hown2 : OwnI w.heap.size 3 (w2.setCell ⟨w1.heap.size + 1, 0, none⟩ (.int .i64 (r : Int))) (.slice (some ⟨w1.heap.size + 1, 0, none⟩) n n) (R 1 ++ List.replicate (n - 1) 0) := by
      rw [hB1.out]
      have := set_mid (l := []) (v := 0) (n := n) rfl (by omega) (r : Int)
      simp only [List.nil_append, Nat.sub_zero, Nat.zero_add] at this
      rw [this] at hown1; exact hown1
    have hx2B := hx2A.setCell (p := ⟨w1.heap.size + 1, 0, none⟩) (by have := hzA.out; simp only; omega) (.int .i64 (r : Int))
    clear hown0 hown hown1 hx2A hx2 hx1 hT hroot hp
    go_wp2_with fail
    go_loopw [11] (fun i wr => ∃ v : Nat, 1 ≤ v ∧ v ≤ n ∧ i = .int .i64 v ∧ Ext wA wr ∧ OwnI w.heap.size 3 wr (.slice (some ⟨w1.heap.size + 1, 0, none⟩) n n) (R v ++ List.replicate (n - v) 0)) (fun i _ => n - (intOf i).toNat)
    case atStart => exact ⟨1, by omega, by omega, rfl, hx2B, hown2⟩
    case round =>
      obtain ⟨v, hv1, hvn, rfl, hx, hown⟩ := hrel
      by_cases hlt : v < n
      · obtain ⟨b, off, x, rfl, hx0, hb, hcp, _, _⟩ := (hr.ext (hxA.trans hx)).nd hlt
        obtain ⟨p, hpe, hpv, hpF⟩ := hpar v x (by omega) hx0.out
        rw [hpe] at hcp
        obtain ⟨a', ha'⟩ : ∃ a', (R v)[p]? = some a' := ⟨_, List.getElem?_eq_getElem (by rw [hBl.out]; exact hpv)⟩
        obtain ⟨s, rfl, hsk, hsu⟩ := hstep v p a' (by omega) hlt hpF ha'
        have hco := OwnI.at hown (i := p) (y := (s : Int)) (by rw [List.getElem?_append_left (by rw [hBl.out]; exact hpv)]; exact ha')
        have hcv := OwnI.at hown (i := v) (y := 0) (mid_zero (hBl.out v) hlt)
        have hfv := OwnI.free hown v
        obtain ⟨hb0, hb1, hb2, hb3⟩ := (hbA.ext hx).at
        have hq := fun z : ExtOf wr => hleast g v s z.w ((hxA.trans hx).trans z.h) (hTA.ext (hx.trans z.h)) hlt hsk
        have hp0 := fun z : ExtOf wr => z.cell hb0
        have hp1 := fun z : ExtOf wr => z.cell hb1
        have hp2 := fun z : ExtOf wr => z.cell hb2
        have hp3 := fun z : ExtOf wr => z.cell hcp
        have hp4 := fun z : ExtOf wr => z.cell hco
        have hpn : p < n := by omega
        have hnew : ∀ (W : World), OwnI w.heap.size 3 W (.slice (some ⟨w1.heap.size + 1, 0, none⟩) n n) (R v ++ List.replicate (n - v) 0) → OwnI w.heap.size 3 (W.setCell ⟨w1.heap.size + 1, v, none⟩ (.int .i64 (bstF (fun b => op (ent ms s b) (accS ts ms st (n - 1) v b)) k).2)) (.slice (some ⟨w1.heap.size + 1, 0, none⟩) n n) (R (v + 1) ++ List.replicate (n - (v + 1)) 0) := fun W h => by
          have := OwnI.set h v (bstF (fun b => op (ent ms s b) (accS ts ms st (n - 1) v b)) k).2
          rw [set_mid (hBl.out v) hlt, ← hsu] at this; exact this
        generalize (bstF (fun b => op (ent ms s b) (accS ts ms st (n - 1) v b)) k).1 = q3 at hq
        generalize (bstF (fun b => op (ent ms s b) (accS ts ms st (n - 1) v b)) k).2 = q4 at hq hnew
        replace hnew := Lib.hid hnew
        clear hsu ha' hpF hpe hleast hstep hpar
        go_wp2_with fail
        (refine wp_region_qxt 17 (by kernel_rfl) (by kernel_rfl) ?_
         simp only [List.take_succ_cons, List.take_zero, List.drop_succ_cons, List.drop_zero]
         repeat (go_big_quiet_step ((go_at_call 88; exact calls_ext (hq _))))
         refine wpQuiet_nil ?_
         intro wq hw'
         have hxq := ext_of_ex hw'
         clear hw')
        have hcq := hxq.cellv hcv
        have hfq := (hxq.frozen v (cell_lt hcv)).trans hfv
        have hown5 := hnew.out _ (hown.kept hxq)
        have hx5 := (hx.trans hxq).setCell (p := ⟨w1.heap.size + 1, v, none⟩) (by have := hzA.out; simp only; omega) (.int .i64 q4)
        clear hp0 hp1 hp2 hp3 hp4 hq hxq
        go_wp2_with fail
        (first | exact ⟨⟨v + 1, by omega, by omega, by go_num, hx5, hown5⟩, (by simp [intOf]; omega)⟩ | (go_roundw; case rel => exact ⟨v + 1, by omega, by omega, by go_num, hx5, hown5⟩; case measure => exact (by simp [intOf]; omega)))
      · have hvn2 : v = n := by omega
        subst hvn2
        rw [Nat.sub_self, List.replicate_zero, List.append_nil] at hown
        go_wp2_with fail
        go_ret2
        exact ⟨_, rfl, hown, hxA.trans hx⟩
  · have hL : bestS ts ms st = [] := by rw [bestS, if_neg h0]
    rw [hL]
    have hd : (possE ts ms st != 0) = true := by simpa using h0
    generalize possE ts ms st = pe at *
    go_enter Tryd.func59, Tryd.ntmps59
    go_wp2_with fail
    refine hp.mono ?_
    rintro e w1 ⟨⟨hne, rfl⟩ | ⟨h, _⟩, hx1⟩
    · go_wp2_with fail
      go_ret2
      exact ⟨_, rfl, OwnK.nil _ _ _, (by repeat (first | exact Ext.refl _ | assumption | refine Ext.drew ?_ | refine Ext.drewN ?_ _ | refine Ext.alloc ?_ _ | refine Ext.trans ?_ (by assumption)))⟩
    · exact absurd h h0
/-! ### The cost of states of all nodes -/
theorem sumN_bd {f : Nat → Int} {M : Int} : ∀ {n : Nat}, (∀ i, i < n → 0 ≤ f i ∧ f i ≤ M) → 0 ≤ sumN f n ∧ sumN f n ≤ M * n
  | 0, _ => by simp [sumN]
  | n + 1, h => by
    have ih := sumN_bd (f := f) (M := M) (n := n) fun i hi => h i (by omega)
    have hn := h n (by omega)
    rw [sumN]
    have : M * ((n + 1 : Nat) : Int) = M * n + M := by rw [Int.natCast_add, Int.mul_add]; simp
    omega
/-- The states av a function. -/
def asN (av : List Int) (v : Nat) : Nat := (av.getD v 0).toNat
set_option maxHeartbeats 4000000 in
set_option maxRecDepth 20000 in
theorem scost_any (a : Option Addr) (n cap : Nat) (ts : List Nd) (am : Option Addr) (k capm : Nat) (ms : List (List Int)) (aa : Option Addr) (l capa : Nat) (av : List Int) (w : World)
    (hr : RdN w a n cap ts) (hm : RdM w am k capm ms) (hs : RdI w aa l capa av) (ht : treeB ts = true) (hmb : smB ms = true) (hal : l = n) (hin : ∀ x ∈ av, 0 ≤ x ∧ x < k) (hpos : ∀ x y, x < k → y < k → 0 ≤ ent ms x y) :
    Calls Tryd.prog 64 #[.slice a n cap, .slice am k capm, .slice aa l capa] w fun e w' => e = .returned (.tuple #[.int .i64 (total ts.length (parF ts) (rowM ms) (asN av)), .int .i64 0]) ∧ Ext w w' := by
  subst hal
  have hnl := hr.rd.len
  have hkl := RdV.len hm
  have hll := hs.len
  have hn1 : 1 ≤ l := by rw [← hnl]; exact (tree_len ht).1
  have hn63 : l ≤ 63 := by rw [← hnl]; exact (tree_len ht).2
  have hk12 : k ≤ 12 := by rw [← hkl]; exact (smB_of hmb).2.1
  have hcm := fun W (hx : Ext w W) => cbool (smatrix_any am k capm ms W (hm.ext hx)) hmb
  have hck := fun W (hx : Ext w W) => cint (checked_any a l cap ts aa l capa false W (hr.ext hx)) (show _ = 0 by rw [ht]; simp)
  have hpar : ∀ (v : Nat) (x : Nd), 0 < v → ts[v]? = some x → ∃ p : Nat, x.par = p ∧ p < v ∧ parF ts v = p := fun v x v0 hx => by
    obtain ⟨h1, h2⟩ := treeB_par ht hx v0
    obtain ⟨p, hp⟩ := Int.eq_ofNat_of_zero_le h1
    exact ⟨p, hp, by omega, by rw [parF_at hx, hp]⟩
  have hasN : ∀ (v : Nat) (x : Int), av[v]? = some x → ∃ s : Nat, x = s ∧ s < k ∧ asN av v = s := fun v x hx => by
    obtain ⟨h1, h2⟩ := hin x (List.mem_of_getElem? hx)
    obtain ⟨s, hs⟩ := Int.eq_ofNat_of_zero_le h1
    refine ⟨s, hs, by omega, ?_⟩
    unfold asN; rw [List.getD_eq_getElem?_getD, hx, hs]; rfl
  have hedge : ∀ (v p s1 s2 : Nat), parF ts v = p → asN av p = s1 → asN av v = s2 → edge (parF ts) (rowM ms) (asN av) v = ent ms s1 s2 := fun v p s1 s2 e1 e2 e3 => by
    unfold edge; rw [e1, Int.toNat_natCast, e2, e3]; rfl
  have hsum : ∀ j, j < l → (0 ≤ sumN (fun i => edge (parF ts) (rowM ms) (asN av) (i + 1)) j ∧ sumN (fun i => edge (parF ts) (rowM ms) (asN av) (i + 1)) j ≤ 1073741824 * j) := fun j hj => sumN_bd fun i hi => by
    have hv : i + 1 < l := by omega
    have hx := List.getElem?_eq_getElem (l := ts) (i := i + 1) (by omega)
    obtain ⟨p, hp1, hp2, hp3⟩ := hpar (i + 1) _ (by omega) hx
    obtain ⟨s1, _, h1, h2⟩ := hasN p _ (List.getElem?_eq_getElem (by omega))
    obtain ⟨s2, _, h3, h4⟩ := hasN (i + 1) _ (List.getElem?_eq_getElem (by omega))
    rw [hedge (i + 1) p s1 s2 hp3 h2 h4]
    obtain ⟨_, _, _, _, _, h5⟩ := smB_ent hmb (show s1 < ms.length by omega) (show s2 < ms.length by omega)
    exact ⟨hpos s1 s2 h1 h3, h5⟩
  have htot : total ts.length (parF ts) (rowM ms) (asN av) = sumN (fun i => edge (parF ts) (rowM ms) (asN av) (i + 1)) (l - 1) := by rw [total, hnl]
  have hsu : ∀ j, sumN (fun i => edge (parF ts) (rowM ms) (asN av) (i + 1)) (j + 1) = sumN (fun i => edge (parF ts) (rowM ms) (asN av) (i + 1)) j + edge (parF ts) (rowM ms) (asN av) (j + 1) := fun j => rfl
  have hs00 : sumN (fun i => edge (parF ts) (rowM ms) (asN av) (i + 1)) 0 = 0 := rfl
  have hent : ∀ (s1 s2 : Nat), s1 < k → s2 < k → ∃ r, ms[s1]? = some r ∧ r[s2]? = some (ent ms s1 s2) ∧ r.length = k ∧ 0 ≤ ent ms s1 s2 ∧ ent ms s1 s2 ≤ 1073741824 := fun s1 s2 h1 h2 => by
    obtain ⟨r, e1, e2, e3, _, e5⟩ := smB_ent hmb (show s1 < ms.length by omega) (show s2 < ms.length by omega)
    exact ⟨r, e1, e2, by omega, hpos s1 s2 h1 h2, e5⟩
  rw [htot]
  generalize sumN (fun i => edge (parF ts) (rowM ms) (asN av) (i + 1)) = S at *
  replace hnl := Lib.hid hnl
  replace hkl := Lib.hid hkl
  replace hll := Lib.hid hll
  replace hs00 := Lib.hid hs00
  replace hsu := Lib.hid hsu
  replace hpar := Lib.hid hpar
  replace hasN := Lib.hid hasN
  replace hent := Lib.hid hent
  replace hsum := Lib.hid hsum
  replace hedge := Lib.hid hedge
  clear hpos htot
  go_enter Tryd.func64, Tryd.ntmps64
  go_wp2_with fail
  refine (hcm _ (by repeat (first | exact Ext.refl _ | assumption | refine Ext.drew ?_ | refine Ext.drewN ?_ _ | refine Ext.alloc ?_ _ | refine Ext.trans ?_ (by assumption)))).mono ?_
  rintro e w1 ⟨rfl, hx1⟩
  go_wp2_with fail
  refine (hck _ (by repeat (first | exact Ext.refl _ | assumption | refine Ext.drew ?_ | refine Ext.drewN ?_ _ | refine Ext.alloc ?_ _ | refine Ext.trans ?_ (by assumption)))).mono ?_
  rintro e w2 ⟨rfl, hx2⟩
  have hx02 : Ext w w2 := (by repeat (first | exact Ext.refl _ | assumption | refine Ext.drew ?_ | refine Ext.drewN ?_ _ | refine Ext.alloc ?_ _ | refine Ext.trans ?_ (by assumption)))
  go_wp2_with fail
  go_loopw [25] (fun i wr => ∃ j : Nat, j ≤ l ∧ i = .int .i64 j ∧ Ext w2 wr) (fun i _ => l - (intOf i).toNat)
  case atStart => exact ⟨0, Nat.zero_le _, rfl, Ext.refl _⟩
  case round =>
    obtain ⟨j, hj, rfl, hx⟩ := hrel
    by_cases hlt : j < l
    · obtain ⟨b, off, y, rfl, hy, hb, hcy⟩ := (hs.ext (hx02.trans hx)).i64 hlt
      obtain ⟨s, rfl, hsk, _⟩ := hasN.out j y hy.out
      have hd1 : decide ((s : Int) < 0) = false := by simp
      have hd2 : decide (k ≤ s) = false := by simp; omega
      go_wp2_with fail
      (first | exact ⟨⟨j + 1, by omega, by go_num, hx⟩, (by simp [intOf]; omega)⟩ | (go_roundw; case rel => exact ⟨j + 1, by omega, by go_num, hx⟩; case measure => exact (by simp [intOf]; omega)))
    · have hjl : j = l := by omega
      subst hjl
      have hx03 := hx02.trans hx
      clear hx hx02 hx2 hx1
      go_wp2_with fail
      go_loopw [11, 12] (fun sv i wq => ∃ v : Nat, 1 ≤ v ∧ v ≤ j ∧ i = .int .i64 v ∧ sv = .int .i64 (S (v - 1)) ∧ Ext w wq) (fun _ i _ => j - (intOf i).toNat)
      case atStart => exact ⟨1, by omega, by omega, rfl, by rw [Nat.sub_self, hs00.out], hx03⟩
      case round =>
        obtain ⟨v, hv1, hvn, rfl, rfl, hx⟩ := hrel
        by_cases hlv : v < j
        · obtain ⟨b, off, x, rfl, hx0, hb, hcp, _, _⟩ := (hr.ext hx).nd hlv
          obtain ⟨p, hpe, hpv, hpF⟩ := hpar.out v x (by omega) hx0.out
          rw [hpe] at hcp
          obtain ⟨b1, o1, y1, ha1, hy1, hb1, hc1⟩ := (hs.ext hx).i64 (show p < j by omega)
          obtain ⟨b2, o2, y2, ha2, hy2, hb2, hc2⟩ := (hs.ext hx).i64 hlv
          subst ha1
          cases ha2
          obtain ⟨s1, rfl, hk1, e1⟩ := hasN.out p y1 hy1.out
          obtain ⟨s2, rfl, hk2, e2⟩ := hasN.out v y2 hy2.out
          obtain ⟨bm, offm, _, rw', rfl, hr1, hbm, hcm1, ar, nr, cr, rfl, hrr⟩ := RdV.at (hm.ext hx) hk1
          obtain ⟨r0, q1, q2, q3, q4, q5⟩ := hent.out s1 s2 hk1 hk2
          have hrr0 : rw' = r0 := by have := hr1.out; rw [q1] at this; exact (Option.some.inj this).symm
          subst hrr0
          have hnr := hrr.len
          have hs2r : s2 < nr := by omega
          obtain ⟨br, offr, x2, rfl, hx2', hbr', hcr⟩ := hrr.i64 hs2r
          have hx2e : x2 = ent ms s1 s2 := by have := hx2'.out; rw [q2] at this; exact (Option.some.inj this).symm
          have hed := hedge.out v p s1 s2 hpF e1 e2
          rw [← hx2e] at hed q4 q5
          have hSv := hsu.out (v - 1)
          have hSb := hsum.out (v - 1) (by omega)
          rw [show v - 1 + 1 = v by omega, hed] at hSv
          have hd : (x2 == -1) = false := by simp; omega
          generalize S (v - 1) = y at *
          have hwr : IntKind.i64.wrap (y + x2) = y + x2 := IntWalk.i64_in _ (by omega)
          have hp1 := fun z : ExtOf wr => z.cell hcp
          have hp2 := fun z : ExtOf wr => z.cell hc1
          have hp3 := fun z : ExtOf wr => z.cell hc2
          have hp4 := fun z : ExtOf wr => z.cell hcm1
          have hp5 := fun z : ExtOf wr => z.cell hcr
          have hpj : p < j := by omega
          have hnew : Hid (S (v + 1 - 1) = y + x2) := by rw [Nat.add_sub_cancel]; exact hSv
          clear hx2e hed hSv q1 q2 q3 hr1 hx2' hy1 hy2 e1 e2 hpF hpe hx0 hrr
          replace hnr := Lib.hid hnr
          go_wp2_with fail
          (refine wp_region_qx (by kernel_rfl) (by kernel_rfl) ?_
           repeat (go_big_quiet_step (fail))
           refine wpQuiet_nil ?_
           intro wq hw'
           have hxq := ext_of_ex hw'
           clear hw')
          go_wp2_with fail
          (first | exact ⟨⟨v + 1, by omega, by omega, by go_num, by rw [hnew.out], hx.trans hxq⟩, (by simp [intOf]; omega)⟩ | (go_roundw; case rel => exact ⟨v + 1, by omega, by omega, by go_num, by rw [hnew.out], hx.trans hxq⟩; case measure => exact (by simp [intOf]; omega)))
        · have hvj : v = j := by omega
          subst hvj
          go_wp2_with fail
          go_ret2
          exact ⟨rfl, hx⟩
end Go.Proofs.YtdloabjnjnjacaaDoor
