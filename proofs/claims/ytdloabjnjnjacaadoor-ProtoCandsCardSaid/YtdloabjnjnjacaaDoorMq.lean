/-
  Matrix of the reference.
-/
import Derived.Test.YtdloabjnjnjacaaDoorMt
import Derived.Test.YtdloabjnjnjacaaDoorHd
import Derived.Deep.RegionHeld3
namespace Go.Proofs.YtdloabjnjnjacaaDoor
open Go.RowKit
/-- A row, filled up to k. -/
def rowTo (cs : List Snd) (ws : List Int) (g : Int) (i k : Nat) : List Int := (List.range (cs.length + 1)).map fun c => if c < k then costM cs ws g i c else 0
theorem rowTo_len (cs : List Snd) (ws : List Int) (g : Int) (i k : Nat) : (rowTo cs ws g i k).length = cs.length + 1 := by simp [rowTo]
theorem rowTo_at {cs : List Snd} {ws : List Int} {g : Int} {i k c : Nat} (hc : c < cs.length + 1) : (rowTo cs ws g i k)[c]? = some (if c < k then costM cs ws g i c else 0) := by
  unfold rowTo; rw [List.getElem?_map, List.getElem?_range hc]; rfl
theorem rowTo_succ {cs : List Snd} {ws : List Int} {g : Int} {i k : Nat} (hk : k < cs.length + 1) {xs : List Int} (hl : xs.length = cs.length + 1) (h0 : ∀ c, c ≠ k → xs[c]? = (rowTo cs ws g i k)[c]?) (h1 : xs[k]? = some (costM cs ws g i k)) : xs = rowTo cs ws g i (k + 1) := by
  apply List.ext_getElem?
  intro c
  by_cases hc : c < cs.length + 1
  · rw [rowTo_at hc]
    by_cases e : c = k
    · subst e; rw [h1, if_pos (by omega)]
    · rw [h0 c e, rowTo_at hc]
      by_cases e2 : c < k
      · rw [if_pos e2, if_pos (by omega)]
      · rw [if_neg e2, if_neg (by omega)]
  · rw [List.getElem?_eq_none (by omega), List.getElem?_eq_none (by rw [rowTo_len]; omega)]
theorem rowTo_zero (cs : List Snd) (ws : List Int) (g : Int) (i : Nat) : rowTo cs ws g i 0 = List.replicate (cs.length + 1) 0 := by
  apply List.ext_getElem?
  intro c
  by_cases hc : c < cs.length + 1
  · rw [rowTo_at hc, List.getElem?_replicate, if_pos hc]; rfl
  · rw [List.getElem?_eq_none (by rw [rowTo_len]; omega), List.getElem?_eq_none (by simp; omega)]
theorem rowTo_full (cs : List Snd) (ws : List Int) (g : Int) (i : Nat) : rowTo cs ws g i (cs.length + 1) = matRow cs ws g i := by
  unfold rowTo matRow
  refine List.map_congr_left fun c hc => ?_
  rw [if_pos (List.mem_range.1 hc)]
theorem zInts_own (w : World) (n : Nat) (hn : n ≤ 60000) : OwnI w.heap.size 2 (w.alloc (.cells (zInts n) 2)) (.slice (some ⟨w.heap.size, 0, none⟩) n n) (List.replicate n 0) :=
  made_own I64.len (by decide) w 2 #[.int .i64 0] 0 rfl n hn
set_option maxRecDepth 100000 in
set_option maxHeartbeats 2000000 in
theorem rmatrix_any (a : Option Addr) (n cap : Nat) (cs : List Snd) (ac : Option Addr) (nc cc : Nat) (ws : List Int) (g : Int) (w : World) (hr : RdS w a n cap cs) (hc : RdI w ac nc cc ws) :
    Calls Tryd.prog 16 #[.slice a n cap, cstV ac nc cc g] w (MatRet cs ws g w) := by
  have he := eql_snd
  have hl := hr.len
  have hcap := hr.le
  have hmax : n ≤ 9223372036854775807 := by have := hr.le; have := hr.most; unfold maxLen at this; omega
  by_cases h11 : 11 < n
  · replace hl := Lib.hid hl
    go_enter Tryd.func16, Tryd.ntmps16
    go_wp2_with fail
    go_ret2
    exact MatRet.err (Ext.alloc1 _ _) (matE_many (by rw [hl.out]; exact h11)) (by decide)
  by_cases h0 : n = 0
  · subst h0
    replace hl := Lib.hid hl
    go_enter Tryd.func16, Tryd.ntmps16
    go_wp2_with fail
    go_ret2
    exact MatRet.err (Ext.alloc1 _ _) (matE_none hl.out) (by decide)
  have hz : ((n : Int) == 0) = false := by simp; omega
  replace hl := Lib.hid hl
  have hce := fun W (hx : Ext w W) => rcosts_any ac nc cc ws g W (hc.ext hx)
  have h11' : n ≤ 11 := by omega
  go_enter Tryd.func16, Tryd.ntmps16
  go_wp2_with fail
  go_loopw [6] (fun i wr => ∃ k : Nat, k ≤ n ∧ i = .int .i64 k ∧ Ext (w.alloc (.cells #[.slice ac nc cc, .int .i64 g] 25)) wr ∧ Hid (∀ j, j < k → candAt cs j = 0)) (fun i _ => n - (intOf i).toNat)
  case atStart => exact ⟨0, Nat.zero_le _, rfl, Ext.refl _, fun j h => absurd h (Nat.not_lt_zero _)⟩
  case round =>
    obtain ⟨k, hk, rfl, hx, hall⟩ := hrel
    have hx0 : Ext w wr := (Ext.alloc1 _ _).trans hx
    have hcl1 := fun b o (h : b < _) => Ext.cell hx (b := b) o h
    by_cases hlt : k < n
    · obtain ⟨b, off, s, rfl, hs, hb, hc0, hc1⟩ := (hr.ext hx0).snd hlt
      have hdk : decide (k < n) = true := by simpa using hlt
      cases hok : s.ok
      · go_wp2_with fail
        refine (cbool (rvalid1_any s _) hok).mono ?_
        rintro e w1 ⟨rfl, hx1⟩
        go_wp2_with fail
        go_ret2
        exact MatRet.err (by repeat (first | exact Ext.refl _ | assumption | refine Ext.drew ?_ | refine Ext.drewN ?_ _ | refine Ext.alloc ?_ _ | refine Ext.trans ?_ (by assumption))) (matE_cand (by rw [hl.out]; exact h11') (by rw [hl.out]; exact hlt) hall.out (candAt_bad hs.out hok) (by decide)) (by decide)
      · go_wp2_with fail
        refine (cbool (rvalid1_any s _) hok).mono ?_
        rintro e w1 ⟨rfl, hx1⟩
        have hxw1 := hx.trans hx1
        have hx01 := hx0.trans hx1
        clear hc0 hc1 hcl1 hb
        go_wp2_with fail
        go_loopw [7] (fun i wr => ∃ j : Nat, j ≤ k ∧ i = .int .i64 j ∧ Ext w1 wr ∧ Hid (∀ (i : Nat) (y : Snd), i < j → cs[i]? = some y → decide (s ≠ y) = true)) (fun i _ => k - (intOf i).toNat)
        case atStart => exact ⟨0, Nat.zero_le _, rfl, Ext.refl _, fun i y h => absurd h (Nat.not_lt_zero _)⟩
        case round =>
          obtain ⟨j, hj, rfl, hxj, hne⟩ := hrel
          obtain ⟨b1, off1, s1, ha1, hs1, hb1, hc0, hc1⟩ := (hr.ext (hx01.trans hxj)).snd hlt
          cases ha1
          have hss : s1 = s := Option.some.inj (hs1.out.symm.trans hs.out)
          subst hss
          clear hs1
          by_cases hlj : j < k
          · obtain ⟨b2, off2, t, ha2, ht, hb2, hd0, hd1⟩ := (hr.ext (hx01.trans hxj)).snd (show j < n by omega)
            cases ha2
            by_cases hst : t = s1
            · have hd : decide (t = s1) = true := by simpa using hst
              have hm : s1 ∈ cs.take k := by
                rw [← hst]
                refine List.mem_of_getElem? (i := j) ?_
                rw [List.getElem?_take, if_pos hlj]; exact ht.out
              have her := Lib.hid (candAt_have hs.out hok hm)
              clear hm hst
              go_wp2_with fail
              go_quiet (fail)
              go_wp2_with fail
              go_ret2
              exact MatRet.err ((hx01.trans hxj).drewN _) (matE_cand (by rw [hl.out]; exact h11') (by rw [hl.out]; exact hlt) hall.out her.out (by decide)) (by decide)
            · have hd : decide (t = s1) = false := by simpa using hst
              have hnew := Lib.hid (all_succ (p := fun y => decide (s1 ≠ y)) hne.out ht.out (by simpa using fun e => hst e.symm))
              clear hst
              go_wp2_with fail
              go_quiet (fail)
              go_wp2_with fail
              (first | exact ⟨⟨j + 1, by omega, by go_num, hxj.drewN _, hnew⟩, (by simp [intOf]; omega)⟩ | (go_roundw; case rel => exact ⟨j + 1, by omega, by go_num, hxj.drewN _, hnew⟩; case measure => exact (by simp [intOf]; omega)))
          · have hm : ¬ s1 ∈ cs.take k := fun hm => by
              obtain ⟨i, hi⟩ := List.getElem?_of_mem hm
              rw [List.getElem?_take] at hi
              split at hi
              · have := hne.out i s1 (by omega) hi; simp at this
              · cases hi
            have hnew : Hid (∀ j, j < k + 1 → candAt cs j = 0) := Lib.hid (by
              intro j hj
              by_cases e : j = k
              · subst e; exact candAt_ok hs.out hok hm
              · exact hall.out j (by omega))
            clear hm
            go_wp2_with fail
            (first | exact ⟨⟨k + 1, by omega, by go_num, hxw1.trans hxj, hnew⟩, (by simp [intOf]; omega)⟩ | (go_roundw; case rel => exact ⟨k + 1, by omega, by go_num, hxw1.trans hxj, hnew⟩; case measure => exact (by simp [intOf]; omega)))
    · have hcands : Hid (∀ j, j < cs.length → candAt cs j = 0) := Lib.hid (by rw [hl.out]; intro j hj; exact hall.out j (by omega))
      have hdk : decide (k < n) = false := by simpa using hlt
      cases hcb : costsB ws g
      · have hce2 : costsE ws g = 2 := costsE_bad hcb
        go_wp2_with fail
        refine (cint (hce _ hx0) hce2).mono ?_
        rintro e w1 ⟨rfl, hx1⟩
        go_wp2_with fail
        go_ret2
        exact MatRet.err (by repeat (first | exact Ext.refl _ | assumption | refine Ext.drew ?_ | refine Ext.drewN ?_ _ | refine Ext.alloc ?_ _ | refine Ext.trans ?_ (by assumption))) (matE_costs (by rw [hl.out]; exact h11') (by rw [hl.out]; exact h0) hcands.out hcb) (by decide)
      · have hce2 : costsE ws g = 0 := by simp [costsE, hcb]
        go_wp2_with fail
        refine (cint (hce _ hx0) hce2).mono ?_
        rintro e w1 ⟨rfl, hx1⟩
        replace hce2 := Lib.hid hce2
        have hmk2 : ∀ W, (Instr.makeSlice 23 (.int .i64 ((n : Int) + 1)) (.int .i64 ((n : Int) + 1))).run Tryd.prog W = .ok (.slice (some ⟨W.heap.size, 0, none⟩) (n + 1) (n + 1)) (W.alloc (.cells (zInts (n + 1)) 2)) := fun W => by have := mk_ints64 (n + 1) (by omega) W; simpa using this
        have hx1w : Ext w w1 := (by repeat (first | exact Ext.refl _ | assumption | refine Ext.drew ?_ | refine Ext.drewN ?_ _ | refine Ext.alloc ?_ _ | refine Ext.trans ?_ (by assumption)))
        have hbox : ∀ W, Ext w1 W → W.cell? ⟨w.heap.size, 0, none⟩ = some (.slice ac nc cc) ∧ W.cell? ⟨w.heap.size, 1, none⟩ = some (.int .i64 g) := fun W hW =>
          ⟨((hx.trans hx1).trans hW).cellv (cell_new_list w [.slice ac nc cc, .int .i64 g] 25 0 _ rfl), ((hx.trans hx1).trans hW).cellv (by have := cell_new_list w [.slice ac nc cc, .int .i64 g] 25 1 _ rfl; exact this)⟩
        go_wp2_with fail
        go_loopw [8, 10] (fun ov i wr => ∃ i' : Nat, i' ≤ n + 1 ∧ i = .int .i64 i' ∧ Ext w1 wr ∧ OwnRs w1.heap.size 23 2 wr ov ((matL cs ws g).take i') ∧ Hid (∀ r c, r < i' → c ≤ n → costM cs ws g r c ≤ 1073741824)) (fun _ i _ => n + 1 - (intOf i).toNat)
        case atStart => exact ⟨0, Nat.zero_le _, rfl, Ext.refl _, OwnRs.nil _ _ _ _, fun r c hr => absurd hr (Nat.not_lt_zero _)⟩
        case round =>
          obtain ⟨i, hi, rfl, hxr, hout, hov⟩ := hrel
          by_cases hin : i < n + 1
          · have hdi : decide (i ≤ n) = true := by simp; omega
            go_wp2_with fail
            have hrow := zInts_own wr (n + 1) (by omega)
            have hout2 := hout.kept (Ext.alloc1 wr (.cells (zInts (n + 1)) 2))
            have hxa := hxr.alloc (.cells (zInts (n + 1)) 2)
            obtain ⟨bR, hbR⟩ : ∃ x, x = wr.heap.size := ⟨_, rfl⟩
            have hbR1 : w1.heap.size ≤ bR := by rw [hbR]; exact hxr.le
            rw [← hbR] at hrow ⊢
            obtain ⟨wa, hwa⟩ : ∃ x, x = wr.alloc (.cells (zInts (n + 1)) 2) := ⟨_, rfl⟩
            have hwr : Ext wr wa := by rw [hwa]; exact Ext.alloc1 _ _
            rw [← hwa] at hrow hout2 hxa ⊢
            have hrow0 : OwnI w1.heap.size 2 wa (.slice (some ⟨bR, 0, none⟩) (n + 1) (n + 1)) (rowTo cs ws g i 0) := by
              have := hrow.base hbR1
              rwa [show n + 1 = cs.length + 1 by rw [hl.out], ← rowTo_zero cs ws g i, hl.out] at this
            clear hwa hrow hout2
            obtain ⟨wr0, hwr0⟩ : ∃ x, x = wr := ⟨_, rfl⟩
            rw [← hwr0] at hxr hwr hbR hout
            clear hwr0
            replace hbR := Lib.hid hbR
            go_loopw [12] (fun kv wi => ∃ k : Nat, k ≤ n + 1 ∧ kv = .int .i64 k ∧ Ext wr0 wi ∧ OwnI w1.heap.size 2 wi (.slice (some ⟨bR, 0, none⟩) (n + 1) (n + 1)) (rowTo cs ws g i k) ∧ Hid (∀ c, c < k → costM cs ws g i c ≤ 1073741824)) (fun kv _ => n + 1 - (intOf kv).toNat)
            case atStart => exact ⟨0, Nat.zero_le _, rfl, hwr, hrow0, fun c hc => absurd hc (Nat.not_lt_zero _)⟩
            case round =>
              obtain ⟨k, hk, rfl, hxk, hrow, hok⟩ := hrel
              obtain ⟨hb0, hb1⟩ := hbox _ (hxr.trans hxk)
              have hxw1 := hx1w.trans (hxr.trans hxk)
              have hovk : ∀ x, k ≤ n → x = costM cs ws g i k → 1073741824 < x → Hid (matE cs ws g = 7) := fun x hkn hx2 h => Lib.hid (matE_over (by rw [hl.out]; exact h11') (by rw [hl.out]; exact h0) hcands.out hcb (overM_at' (i := i) (k := k) (by rw [hl.out]; omega) (by rw [hl.out]; exact hkn) (by rw [← hx2]; exact h)))
              have hokn : ∀ x, x = costM cs ws g i k → x ≤ 1073741824 → Hid (∀ c, c < k + 1 → costM cs ws g i c ≤ 1073741824) := fun x hx2 h => Lib.hid (by
                intro c hc
                by_cases e : c = k
                · subst e; rw [← hx2]; exact h
                · exact hok.out c (by omega))
              replace hovk := Lib.hid hovk
              replace hokn := Lib.hid hokn
              by_cases hkn : k < n + 1
              · have hdk2 : decide (k ≤ n) = true := by simp; omega
                by_cases hik : i = k
                · have hbe : ((i : Int) == (k : Int)) = true := by simp [hik]
                  have hnew : rowTo cs ws g i (k + 1) = rowTo cs ws g i k := by
                    symm
                    refine rowTo_succ (by rw [hl.out]; exact hkn) (rowTo_len _ _ _ _ _) (fun c _ => rfl) ?_
                    rw [rowTo_at (by rw [hl.out]; exact hkn), if_neg (Nat.lt_irrefl k), hik, costM_self]
                  have hok2 := hokn.out 0 (by rw [hik, costM_self]) (by decide)
                  rw [← hnew] at hrow
                  clear hnew
                  replace hik := Lib.hid hik
                  go_wp2_with fail
                  (first | exact ⟨⟨k + 1, by omega, by go_num, hxk, hrow, hok2⟩, (by simp [intOf]; omega)⟩ | (go_roundw; case rel => exact ⟨k + 1, by omega, by go_num, hxk, hrow, hok2⟩; case measure => exact (by simp [intOf]; omega)))
                · have hbe : ((i : Int) == (k : Int)) = false := by simp; omega
                  obtain ⟨_, hblt, _, _, _⟩ := OwnI.ge hrow
                  have hrk := OwnI.at hrow (i := k) (rowTo_at (by rw [hl.out]; exact hkn))
                  have hrf := OwnI.free hrow k
                  rw [if_neg (Nat.lt_irrefl k)] at hrk
                  have hxb : Ext wr0 (wr.setCell ⟨bR, k, none⟩ (.int .i64 g)) := hxk.setCell (by rw [hbR.out]; exact Nat.le_refl _) _
                  have hrow1 := OwnI.set hrow k g
                  have hset : ∀ (W : World) (xs : List Int) (y : Int), y = costM cs ws g i k → OwnI w1.heap.size 2 W (.slice (some ⟨bR, 0, none⟩) (n + 1) (n + 1)) xs → (∀ c, c ≠ k → xs[c]? = (rowTo cs ws g i k)[c]?) → xs.length = n + 1 → OwnI w1.heap.size 2 (W.setCell ⟨bR, k, none⟩ (.int .i64 y)) (.slice (some ⟨bR, 0, none⟩) (n + 1) (n + 1)) (rowTo cs ws g i (k + 1)) := fun W xs y hy hW hxs hxl => by
                    have := OwnI.set hW k y
                    rwa [rowTo_succ (cs := cs) (ws := ws) (g := g) (i := i) (k := k) (xs := xs.set k y) (by rw [hl.out]; exact hkn) (by rw [List.length_set, hl.out]; exact hxl) (fun c hc => by rw [List.getElem?_set_ne (Ne.symm hc)]; exact hxs c hc) (by rw [List.getElem?_set_self (by omega), hy])] at this
                  replace hset := Lib.hid hset
                  by_cases hin2 : i < n ∧ k < n
                  · obtain ⟨hi2, hk2⟩ := hin2
                    have hcost : costM cs ws g i k = distS (cs.getD i nulS) (cs.getD k nulS) ws := by
                      unfold costM
                      rw [if_neg hik, hl.out, if_pos ⟨hi2, hk2⟩]
                    obtain ⟨bi, oi, si, hai, hsi, hbi, hci0, hci1⟩ := (hr.ext (hx1w.trans hxr)).snd hi2
                    obtain ⟨bj, oj, sk, haj, hsk, hbj, hck0, hck1⟩ := (hr.ext (hx1w.trans hxr)).snd hk2
                    subst hai
                    cases haj
                    have e1 : cs.getD i nulS = si := by rw [List.getD_eq_getElem?_getD, hsi.out]; rfl
                    have e2 : cs.getD k nulS = sk := by rw [List.getD_eq_getElem?_getD, hsk.out]; rfl
                    rw [e1, e2] at hcost
                    clear e1 e2
                    replace hcost := Lib.hid hcost
                    have ok1 : si.ok = true := (candAt_zero hsi.out (hcands.out i (by rw [hl.out]; omega))).1
                    have ok2 : sk.ok = true := (candAt_zero hsk.out (hcands.out k (by rw [hl.out]; omega))).1
                    obtain ⟨hb0, hb1⟩ := hbox _ hxr
                    have hcws := hc.ext (hx1w.trans hxr)
                    have hbRle : wr0.heap.size ≤ bR := by rw [hbR.out]; exact Nat.le_refl _
                    replace hik := Lib.hid hik
                    go_wp2_with fail
                    obtain ⟨wb, hwb⟩ : ∃ x, x = wr.setCell ⟨bR, k, none⟩ (.int .i64 g) := ⟨_, rfl⟩
                    rw [← hwb] at hxb hrow1 ⊢
                    clear hwb hrk hrf
                    have hrk := OwnI.at hrow1 (i := k) (List.getElem?_set_self (by rw [rowTo_len, hl.out]; exact hkn))
                    have hrf := OwnI.free hrow1 k
                    have hk0 : (0 : Int) ≤ (k : Int) := Int.natCast_nonneg _
                    have hk1 : (k : Int) < (n : Int) + 1 := by omega
                    have hk2i : (k : Int) < (n : Int) := by omega
                    have hi2i : (i : Int) < (n : Int) := by omega
                    have hi0 : (0 : Int) ≤ (i : Int) := Int.natCast_nonneg _
                    go_region_held3 (fun w' => Ext wr0 w' ∧ w'.cell? ⟨bi, oi + i * 2, none⟩ = some (.int .u32 si.p.toNat) ∧ w'.cell? ⟨bi, oi + i * 2 + 1, none⟩ = some (.int .u32 si.m.toNat) ∧ w'.cell? ⟨bi, oi + k * 2, none⟩ = some (.int .u32 sk.p.toNat) ∧ w'.cell? ⟨bi, oi + k * 2 + 1, none⟩ = some (.int .u32 sk.m.toNat) ∧ w'.cell? ⟨w.heap.size, 0, none⟩ = some (.slice ac nc cc) ∧ w'.cell? ⟨w.heap.size, 1, none⟩ = some (.int .i64 g))
                      ((go_split_ands; refine (fun (h : Ext wr0 _) => And.intro h (And.intro (h.cellv hci0) (And.intro (h.cellv hci1) (And.intro (h.cellv hck0) (And.intro (h.cellv hck1) (And.intro (h.cellv hb0) (h.cellv hb1))))))) ?_; first | exact hxb.drew | exact hxb.trans hEq | exact (hxb.trans hEq).setCell hbRle _))
                      ((go_at_call 43; refine (rdist_any si sk _ _ _ ws g _ ok1 ok2 hcb (hcws.ext hxb.drew)).mono ?_; rintro e wq ⟨rfl, hxq⟩; have hEq : Ext wb wq := Ext.trans ((Ext.refl _).drew) hxq; have s1 := hEq.cellv hrk; have s2 := (hEq.frozen k (cell_lt hrk)).trans hrf))
                    have hrow2 := hset.out wq _ _ hcost.out.symm (hrow1.kept hEq) (fun c hc => by rw [List.getElem?_set_ne (Ne.symm hc)]) (by rw [List.length_set, rowTo_len, hl.out])
                    have hx2 := (hxb.trans hEq).setCell (p := ⟨bR, k, none⟩) hbRle (.int .i64 (distS si sk ws))
                    clear hrk hrf s1 s2 hrow1
                    obtain ⟨wz, hwz⟩ : ∃ x, x = wq.setCell ⟨bR, k, none⟩ (.int .i64 (distS si sk ws)) := ⟨_, rfl⟩
                    rw [← hwz] at hrow2 hx2 ⊢
                    clear hwz
                    have hrz := OwnI.at hrow2 (i := k) (rowTo_at (by rw [hl.out]; exact hkn))
                    rw [if_pos (Nat.lt_succ_self k), hcost.out] at hrz
                    by_cases hov8 : 1073741824 < distS si sk ws
                    · have her := hovk.out _ (by omega) hcost.out.symm hov8
                      go_wp2_with fail
                      go_ret2
                      exact MatRet.err (hx1w.trans (hxr.trans hx2)) her.out (by decide)
                    · have hok2 := hokn.out _ hcost.out.symm (by omega)
                      go_wp2_with fail
                      (first | exact ⟨⟨k + 1, by omega, by go_num, hx2, hrow2, hok2⟩, (by simp [intOf]; omega)⟩ | (go_roundw; case rel => exact ⟨k + 1, by omega, by go_num, hx2, hrow2, hok2⟩; case measure => exact (by simp [intOf]; omega)))
                  · have hcost : costM cs ws g i k = g := by
                      unfold costM
                      rw [if_neg hik, hl.out, if_neg hin2]
                    replace hcost := Lib.hid hcost
                    replace hik := Lib.hid hik
                    have hrow2 := hset.out wr _ _ hcost.out.symm hrow (fun c hc => rfl) (by rw [rowTo_len, hl.out])
                    have hrz := OwnI.at hrow2 (i := k) (rowTo_at (by rw [hl.out]; exact hkn))
                    rw [if_pos (Nat.lt_succ_self k), hcost.out] at hrz
                    by_cases hov8 : 1073741824 < g
                    · have her := hovk.out _ (by omega) hcost.out.symm hov8
                      by_cases hi2 : i < n
                      · have hd1 : decide (i < n) = true := by simpa using hi2
                        have hd2 : decide (k < n) = false := by simp; omega
                        go_wp2_with fail
                        go_ret2
                        exact MatRet.err (hx1w.trans (hxr.trans hxb)) her.out (by decide)
                      · have hd1 : decide (i < n) = false := by simpa using hi2
                        go_wp2_with fail
                        go_ret2
                        exact MatRet.err (hx1w.trans (hxr.trans hxb)) her.out (by decide)
                    · have hok2 := hokn.out _ hcost.out.symm (by omega)
                      by_cases hi2 : i < n
                      · have hd1 : decide (i < n) = true := by simpa using hi2
                        have hd2 : decide (k < n) = false := by simp; omega
                        go_wp2_with fail
                        (first | exact ⟨⟨k + 1, by omega, by go_num, hxb, hrow2, hok2⟩, (by simp [intOf]; omega)⟩ | (go_roundw; case rel => exact ⟨k + 1, by omega, by go_num, hxb, hrow2, hok2⟩; case measure => exact (by simp [intOf]; omega)))
                      · have hd1 : decide (i < n) = false := by simpa using hi2
                        go_wp2_with fail
                        (first | exact ⟨⟨k + 1, by omega, by go_num, hxb, hrow2, hok2⟩, (by simp [intOf]; omega)⟩ | (go_roundw; case rel => exact ⟨k + 1, by omega, by go_num, hxb, hrow2, hok2⟩; case measure => exact (by simp [intOf]; omega)))
              · have hkn2 : k = n + 1 := by omega
                have hrowF : OwnI w1.heap.size 2 wr (.slice (some ⟨bR, 0, none⟩) (n + 1) (n + 1)) (matRow cs ws g i) := by
                  have e1 : rowTo cs ws g i k = matRow cs ws g i := by rw [hkn2, show n + 1 = cs.length + 1 by rw [hl.out], rowTo_full]
                  rw [← e1]; exact hrow
                have hL : (matL cs ws g).take (i + 1) = (matL cs ws g).take i ++ [matRow cs ws g i] := by
                  refine take_succ_at ?_
                  unfold matL
                  rw [List.getElem?_map, List.getElem?_range (by rw [hl.out]; exact hin)]; rfl
                have hok2 : Hid (∀ r c, r < i + 1 → c ≤ n → costM cs ws g r c ≤ 1073741824) := Lib.hid (by
                  intro r c hr hc
                  by_cases e : r = i
                  · subst e; exact hok.out c (by omega)
                  · exact hov.out r c (by omega) hc)
                have houtk := hout.kept hxk
                have hLl : ((matL cs ws g).take i).length ≤ 60000 := by simp; omega
                replace hL := Lib.hid hL
                replace hkn2 := Lib.hid hkn2
                go_wp2_with (at_builtin; refine wp_appRow w1 wr _ _ _ (matRow cs ws g i) rfl _ _ 27 rfl 23 2 Tryd.underlying27 info_ints64 (by decide) u8 _ rfl houtk (hxr.trans hxk) rfl hrowF hLl ?_; intro v' w2 hown2 hx2)
                rw [← hL.out] at hown2
                (first | exact ⟨⟨i + 1, by omega, by go_num, hx2, hown2, hok2⟩, (by simp [intOf]; omega)⟩ | (go_roundw; case rel => exact ⟨i + 1, by omega, by go_num, hx2, hown2, hok2⟩; case measure => exact (by simp [intOf]; omega)))
          · have hi2 : i = n + 1 := by omega
            have hfull : matE cs ws g = 0 := matE_ok (by rw [hl.out]; exact h11') (by rw [hl.out]; exact h0) hcands.out hcb (overM_not fun r c hr hc => hov.out r c (by rw [hl.out] at hr; omega) (by rw [hl.out] at hr; omega))
            have hall2 : (matL cs ws g).take i = matL cs ws g := by rw [hi2]; refine List.take_of_length_le ?_; simp [matL, hl.out]
            rw [hall2] at hout
            obtain ⟨ao, co, rfl, hrdm⟩ := hout.rd
            have hLn : (matL cs ws g).length = cs.length + 1 := by simp [matL]
            rw [hLn] at hrdm
            replace hLn := Lib.hid hLn
            replace hfull := Lib.hid hfull
            clear hout hov hall2
            replace hi2 := Lib.hid hi2
            have hdi : decide (i ≤ n) = false := by have := hi2.out; simp; omega
            go_wp2_with fail
            go_ret2
            exact ⟨hx1w.trans hxr, .inr ⟨hfull.out, _, _, by rw [hLn.out]; rfl, hrdm⟩⟩
end Go.Proofs.YtdloabjnjnjacaaDoor
