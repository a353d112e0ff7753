/-
  The law ProtoTurned: the walk.
-/
import Derived.Test.YtdloabjnjnjacaaDoorLs
import Derived.Test.YtdloabjnjnjacaaDoorAu
namespace Go.Proofs.YtdloabjnjnjacaaDoor
open Go.RowKit Go.Shelf
set_option maxHeartbeats 8000000 in
set_option maxRecDepth 20000 in
theorem protoTurned_any (a : Option Addr) (n cap : Nat) (ts : List Nd) (ac : Option Addr) (nc cc : Nat) (cs : List Snd) (aw : Option Addr) (nw cw : Nat) (ws : List Int) (g : Int) (ax : Option Addr) (l cx : Nat) (x : List Cl) (w : World)
    (hr : RdN w a n cap ts) (hc : RdS w ac nc cc cs) (hw : RdI w aw nw cw ws) (hx : RdC w ax l cx x) (hT : TabOk w) :
    Calls Tryd.prog 7 #[caseV a n cap ac nc cc aw nw cw g, .slice ax l cx] w fun e w' => e = .returned (.bool true) ∧ Ext w w' := by
  have hs := fun W => small_any a n cap ac nc cc aw nw cw g W (len_int hr.rd) (len_int hc) (len_int hw)
  obtain ⟨s, hsm⟩ : ∃ s, s = smallB n nc nw := ⟨_, rfl⟩
  rw [← hsm] at hs
  cases s
  · clear hsm
    go_enter Tryd.func7, Tryd.ntmps7
    go_wp2_with fail
    refine (hs _).mono ?_
    rintro e w1 ⟨rfl, hx1⟩
    have hb0 := (hx1).cellv (cell_new_list w [.slice a n cap, .slice ac nc cc, .slice aw nw cw, .int .i64 g] 34 0 _ rfl)
    have hb1 := (hx1).cellv (cell_new_list w [.slice a n cap, .slice ac nc cc, .slice aw nw cw, .int .i64 g] 34 1 _ rfl)
    have hb2 := (hx1).cellv (cell_new_list w [.slice a n cap, .slice ac nc cc, .slice aw nw cw, .int .i64 g] 34 2 _ rfl)
    have hb3 := (hx1).cellv (cell_new_list w [.slice a n cap, .slice ac nc cc, .slice aw nw cw, .int .i64 g] 34 3 _ rfl)
    have hlt : w.heap.size < w1.heap.size := by have := hx1.le; simp at this; omega
    have hxw1 : Ext w w1 := (by repeat (first | exact Ext.refl _ | assumption | refine Ext.drew ?_ | refine Ext.drewN ?_ _ | refine Ext.alloc ?_ _ | refine Ext.trans ?_ (by assumption)))
    clear hs hx1
    go_wp2_with fail
    refine (works_any _ (hT.ext (by repeat (first | exact Ext.refl _ | assumption | refine Ext.drew ?_ | refine Ext.drewN ?_ _ | refine Ext.alloc ?_ _ | refine Ext.trans ?_ (by assumption))))).mono ?_
    rintro e wz ⟨rfl, hxz⟩
    go_wp2_with fail
    go_ret
    exact ⟨rfl, (by repeat (first | exact Ext.refl _ | assumption | refine Ext.drew ?_ | refine Ext.drewN ?_ _ | refine Ext.alloc ?_ _ | refine Ext.trans ?_ (by assumption)))⟩
  have hnc : nc < 20 := by
    unfold smallB at hsm
    simp at hsm; omega
  clear hsm
  obtain ⟨t1, t2, t3, t4⟩ := turned ts cs ws g x
  have hcl := hc.len
  have hp := fun W (z : Ext w W) => pcellX_any a n cap ts ax l cx x ac nc cc cs aw nw cw ws g W (hr.ext z) (hx.ext z) (hc.ext z) (hw.ext z) (hT.ext z)
  have hpb := fun W (z : Ext w W) (av : Option Addr) (mv cv : Nat) (hv : RdS W av mv cv cs.reverse) => pcellX_any a n cap ts ax l cx x av mv cv cs.reverse aw nw cw ws g W (hr.ext z) (hx.ext z) hv (hw.ext z) (hT.ext z)
  have ht := fun W (z : Ext w W) => pties_any a n cap ts ax l cx x ac nc cc cs aw nw cw ws g W (hr.ext z) (hx.ext z) (hc.ext z) (hw.ext z) (hT.ext z)
  have htb := fun W (z : Ext w W) (av : Option Addr) (mv cv : Nat) (hv : RdS W av mv cv cs.reverse) => pties_any a n cap ts ax l cx x av mv cv cs.reverse aw nw cw ws g W (hr.ext z) (hx.ext z) hv (hw.ext z) (hT.ext z)
  unfold CellRet at hp hpb
  unfold RetCE at ht htb
  rw [t2] at hpb
  generalize (cellX ts cs ws g x).2 = y at *
  generalize (cellX ts cs ws g x).1 = c1 at *
  generalize (cellX ts cs.reverse ws g x).1 = c2 at *
  generalize tieE ts cs ws g x = E1 at *
  generalize tieE ts cs.reverse ws g x = E2 at *
  generalize tieL ts cs ws g x = TL at *
  generalize tieL ts cs.reverse ws g x = TR at *
  obtain ⟨bE, hE1⟩ : ∃ b, (E1 == 0) = b := ⟨_, rfl⟩
  have hE2 : (E2 == 0) = bE := by rw [← hE1]; rw [Bool.eq_iff_iff, beq_iff_eq, beq_iff_eq]; rw [Bool.eq_iff_iff, decide_eq_true_eq, decide_eq_true_eq] at t1; exact t1.symm
  replace hcl := Lib.hid hcl
  replace t3 := Lib.hid t3
  replace t4 := Lib.hid t4
  have hec := eql_cl
  clear t1 t2
  go_enter Tryd.func7, Tryd.ntmps7
  go_wp2_with fail
  refine (hs _).mono ?_
  rintro e w1 ⟨rfl, hx1⟩
  have hb0 := (hx1).cellv (cell_new_list w [.slice a n cap, .slice ac nc cc, .slice aw nw cw, .int .i64 g] 34 0 _ rfl)
  have hb1 := (hx1).cellv (cell_new_list w [.slice a n cap, .slice ac nc cc, .slice aw nw cw, .int .i64 g] 34 1 _ rfl)
  have hb2 := (hx1).cellv (cell_new_list w [.slice a n cap, .slice ac nc cc, .slice aw nw cw, .int .i64 g] 34 2 _ rfl)
  have hb3 := (hx1).cellv (cell_new_list w [.slice a n cap, .slice ac nc cc, .slice aw nw cw, .int .i64 g] 34 3 _ rfl)
  have hlt : w.heap.size < w1.heap.size := by have := hx1.le; simp at this; omega
  have hxw1 : Ext w w1 := (by repeat (first | exact Ext.refl _ | assumption | refine Ext.drew ?_ | refine Ext.drewN ?_ _ | refine Ext.alloc ?_ _ | refine Ext.trans ?_ (by assumption)))
  clear hs hx1
  go_wp2_with fail
  go_loopw [5, 6] (fun v i wr => ∃ (k : Nat) (z : Int), k ≤ nc ∧ i = .int .i64 z ∧ z + 1 + k = nc ∧ OwnS w1.heap.size 38 wr v (cs.reverse.take k) ∧ Ext w1 wr) (fun _ i _ => (intOf i + 1).toNat)
  case atStart => exact ⟨0, (nc : Int) - 1, Nat.zero_le _, rfl, by omega, OwnK.nil _ _ _, Ext.refl _⟩
  case round =>
    obtain ⟨k, z, hk, rfl, hz, hown, hxr⟩ := hrel
    by_cases h0 : 0 ≤ z
    · obtain ⟨m, rfl⟩ : ∃ m : Nat, z = m := ⟨z.toNat, by omega⟩
      have hm : m < nc := by omega
      have hml : (m : Int) < (nc : Int) := by omega
      have hb1r := hxr.cellv hb1
      have hltr : w.heap.size < wr.heap.size := cell_lt hb1r
      have hxwr := hxw1.trans hxr
      obtain ⟨b1, o1, s1, rfl, hs1, hbb, q0, q1⟩ := (hc.ext hxwr).snd hm
      have Hlen : Hid ((cs.reverse.take k).length = k) := Lib.hid (by rw [List.length_take, List.length_reverse, hcl.out]; omega)
      have hsucc : Hid (cs.reverse.take (k + 1) = cs.reverse.take k ++ [s1]) := Lib.hid (take_succ_at (by rw [List.getElem?_reverse (by rw [hcl.out]; omega), hcl.out, show nc - 1 - k = m by omega]; exact hs1.out))
      replace hz := Lib.hid hz
      go_wp2_with (at_builtin; refine wp_app1 w1 wr s1 rfl _ _ 22 rfl 38 Tryd.underlying22 info_snd rfl (by decide) _ _ rfl hown hxr rfl rfl (Snd.one s1) (by rw [Hlen.out]; omega) (by rw [Hlen.out]; unfold maxLen; omega) ?_; intro v' w2 hown1 hx12 _)
      have hz' : (m : Int) - 1 + 1 + ((k + 1 : Nat) : Int) = nc := by have := hz.out; omega
      go_roundw
      case rel => exact ⟨k + 1, (m : Int) - 1, by omega, by go_num, hz', by rw [hsucc.out]; exact hown1, hx12⟩
      case measure => show ((m : Int) - 1 + 1).toNat < ((m : Int) + 1).toNat; omega
    · have hkn : k = nc := by omega
      subst hkn
      obtain ⟨a5, m5, c5, e5, rfl, hr5⟩ := OwnK.rdn Snd.len hown
      have e5' : k = m5 := by rw [e5, List.length_take, List.length_reverse, hcl.out]; omega
      subst e5'
      rw [List.take_of_length_le (by rw [List.length_reverse, hcl.out]; exact Nat.le_refl _)] at hr5
      have hxw2 := hxw1.trans hxr
      have kb0 := (hxr).cellv hb0
      have kb1 := (hxr).cellv hb1
      have kb2 := (hxr).cellv hb2
      have kb3 := (hxr).cellv hb3
      have kbl : w.heap.size < _ := cell_lt kb0
      clear hb0 hb1 hb2 hb3
      clear hown e5 hz
      go_wp2_with fail
      refine (hp _ hxw2).mono ?_
      rintro e w3 ⟨rfl, hx3⟩
      have hb0 := (hx3).cellv kb0
      have hb1 := (hx3).cellv kb1
      have hb2 := (hx3).cellv kb2
      have hb3 := (hx3).cellv kb3
      have hbl : w.heap.size < _ := cell_lt hb0
      clear kb0 kb1 kb2 kb3
      have hr6 := hr5.ext hx3
      have hxw3 := hxw2.trans hx3
      clear hp hr5 hxw2 hx3
      go_wp2_with fail
      have hxa : Ext w3 (w3.alloc (.cells #[.int .i64 c1.kind, .int .u32 c1.s.p.toNat, .int .u32 c1.s.m.toNat] 40)) := Ext.alloc1 _ _
      generalize (w3.alloc (.cells #[.int .i64 c1.kind, .int .u32 c1.s.p.toNat, .int .u32 c1.s.m.toNat] 40)) = wa at *
      have kb0 := (hxa).cellv hb0
      have kb1 := (hxa).cellv hb1
      have kb2 := (hxa).cellv hb2
      have kb3 := (hxa).cellv hb3
      have kbl : w.heap.size < _ := cell_lt kb0
      clear hb0 hb1 hb2 hb3
      have hr7 := hr6.ext hxa
      have hxwa := hxw3.trans hxa
      clear hr6 hxw3 hxa
      refine (hpb _ hxwa a5 k c5 hr7).mono ?_
      rintro e w4 ⟨rfl, hx4⟩
      have hb0 := (hx4).cellv kb0
      have hb1 := (hx4).cellv kb1
      have hb2 := (hx4).cellv kb2
      have hb3 := (hx4).cellv kb3
      have hbl : w.heap.size < _ := cell_lt hb0
      clear kb0 kb1 kb2 kb3
      have hr8 := hr7.ext hx4
      have hxw4 := hxwa.trans hx4
      clear hpb hr7 hxwa hx4
      go_wp2_with fail
      have hxa : Ext w4 (w4.alloc (.cells #[.int .i64 c2.kind, .int .u32 c2.s.p.toNat, .int .u32 c2.s.m.toNat] 40)) := Ext.alloc1 _ _
      generalize (w4.alloc (.cells #[.int .i64 c2.kind, .int .u32 c2.s.p.toNat, .int .u32 c2.s.m.toNat] 40)) = wb at *
      have kb0 := (hxa).cellv hb0
      have kb1 := (hxa).cellv hb1
      have kb2 := (hxa).cellv hb2
      have kb3 := (hxa).cellv hb3
      have kbl : w.heap.size < _ := cell_lt kb0
      clear hb0 hb1 hb2 hb3
      have hr9 := hr8.ext hxa
      have hxwb := hxw4.trans hxa
      clear hr8 hxw4 hxa
      refine (ht _ hxwb).mono ?_
      rintro e w5 ⟨v1, rfl, ho1, hx5⟩
      obtain ⟨a1, m1, j1, e1, rfl, hr1⟩ := OwnK.rdn Cl.len ho1
      replace e1 := Lib.hid e1
      have hb0 := (hx5).cellv kb0
      have hb1 := (hx5).cellv kb1
      have hb2 := (hx5).cellv kb2
      have hb3 := (hx5).cellv kb3
      have hbl : w.heap.size < _ := cell_lt hb0
      clear kb0 kb1 kb2 kb3
      have hr10 := hr9.ext hx5
      have hxw5 := hxwb.trans hx5
      clear ht hr9 hxwb hx5 ho1
      go_wp2_with fail
      refine (htb _ hxw5 a5 k c5 hr10).mono ?_
      rintro e w6 ⟨v2, rfl, ho2, hx6⟩
      obtain ⟨a2, m2, j2, e2, rfl, hr2⟩ := OwnK.rdn Cl.len ho2
      obtain rfl : m1 = m2 := by rw [e1.out, e2]; exact t3.out
      replace e2 := Lib.hid e2
      have hr1' := hr1.ext hx6
      have hxw6 := hxw5.trans hx6
      have hm1 := len_int hr2
      clear htb hb0 hb1 hb2 hb3 hbl hr10 hxw5 hx6 hr1 ho2
      cases bE
      all_goals
        go_wp2_with fail
        go_loopw [17, 18, 19] (fun i _ _ wr => ∃ j : Nat, j ≤ m1 ∧ i = .int .i64 j ∧ Ext w6 wr) (fun i _ _ _ => m1 - (intOf i).toNat)
        case atStart => exact ⟨0, Nat.zero_le _, rfl, Ext.refl _⟩
        case round =>
          obtain ⟨j, hj, rfl, hxr⟩ := hrel
          by_cases hlt : j < m1
          · obtain ⟨b1, o1, c, rfl, hcc, hbb, p0, p1, p2⟩ := (hr1'.ext hxr).cl hlt
            have hmem := Lib.hid (t4.out c (List.mem_of_getElem? hcc.out))
            have hjm : (j : Int) < (m1 : Int) := by omega
            go_wp2_with fail
            obtain ⟨wo, rfl⟩ : ∃ wo : World, wo = wr := ⟨_, rfl⟩
            go_loopw [18, 19] (fun t k wr => ∃ (q : Nat) (tb : Bool), q ≤ m1 ∧ k = .int .i64 q ∧ t = .bool tb ∧ Hid (tb = decide (c ∈ TR.take q)) ∧ Ext wo wr) (fun _ k _ => m1 - (intOf k).toNat)
            case atStart => exact ⟨0, false, Nat.zero_le _, rfl, rfl, Lib.hid (by simp), Ext.refl _⟩
            case round =>
              obtain ⟨q, tb, hq, rfl, rfl, htq, hxi⟩ := hrel
              have hxoi := hxr.trans hxi
              by_cases hqm : q < m1
              · obtain ⟨b3, o3, d, rfl, hdd, hbb3, s0, s1, s2⟩ := (hr2.ext hxoi).cl hqm
                have hqmi : (q : Int) < (m1 : Int) := by omega
                have r0 := fun z : ExtOf wr => z.cell (hxi.cellv p0)
                have r1 := fun z : ExtOf wr => z.cell (hxi.cellv p1)
                have r2 := fun z : ExtOf wr => z.cell (hxi.cellv p2)
                have r3 := fun z : ExtOf wr => z.cell s0
                have r4 := fun z : ExtOf wr => z.cell s1
                have r5 := fun z : ExtOf wr => z.cell s2
                have hts := Lib.hid (take_succ_at hdd.out)
                cases tb
                · have htq' : Hid (decide (c = d) = decide (c ∈ TR.take (q + 1))) := Lib.hid (by
                    have := htq.out
                    rw [hts.out, Bool.eq_iff_iff, decide_eq_true_eq, decide_eq_true_eq, List.mem_append, List.mem_singleton]
                    have h0 : ¬ c ∈ TR.take q := of_decide_eq_false this.symm
                    simp [h0])
                  go_wp2_with fail
                  (refine wp_region_qx (by kernel_rfl) (by kernel_rfl) ?_
                   repeat (go_big_quiet_step (fail))
                   refine wpQuiet_nil ?_
                   intro wq hw'
                   have hxq := ext_of_ex hw'
                   clear hw')
                  go_wp2_with fail
                  (first | exact ⟨⟨q + 1, _, by omega, by go_num, rfl, htq', hxi.trans hxq⟩, (by simp [intOf]; omega)⟩ | (go_roundw; case rel => exact ⟨q + 1, _, by omega, by go_num, rfl, htq', hxi.trans hxq⟩; case measure => exact (by simp [intOf]; omega)))
                · have htq' : Hid (true = decide (c ∈ TR.take (q + 1))) := Lib.hid (by
                    have := htq.out
                    have h0 : c ∈ TR.take q := of_decide_eq_true this.symm
                    rw [hts.out]; symm
                    exact decide_eq_true (List.mem_append_left _ h0))
                  go_wp2_with fail
                  (refine wp_region_qx (by kernel_rfl) (by kernel_rfl) ?_
                   repeat (go_big_quiet_step (fail))
                   refine wpQuiet_nil ?_
                   intro wq hw'
                   have hxq := ext_of_ex hw'
                   clear hw')
                  go_wp2_with fail
                  (first | exact ⟨⟨q + 1, _, by omega, by go_num, rfl, htq', hxi.trans hxq⟩, (by simp [intOf]; omega)⟩ | (go_roundw; case rel => exact ⟨q + 1, _, by omega, by go_num, rfl, htq', hxi.trans hxq⟩; case measure => exact (by simp [intOf]; omega)))
              · have hqe : q = m1 := by omega
                subst hqe
                obtain rfl : true = tb := by
                  have := htq.out
                  rw [List.take_of_length_le (by rw [← e2.out]; exact Nat.le_refl _)] at this
                  rw [this]; exact (decide_eq_true hmem.out).symm
                go_wp2_with fail
                (first | exact ⟨⟨j + 1, by omega, by go_num, hxoi⟩, (by simp [intOf]; omega)⟩ | (go_roundw; case rel => exact ⟨j + 1, by omega, by go_num, hxoi⟩; case measure => exact (by simp [intOf]; omega)))
          · have hjm : j = m1 := by omega
            subst hjm
            have hxw := hxw6.trans hxr
            go_wp2_with fail
            refine (works_any _ (hT.ext hxw)).mono ?_
            rintro e wz ⟨rfl, hxz⟩
            go_wp2_with fail
            go_ret
            exact ⟨rfl, hxw.trans hxz⟩
end Go.Proofs.YtdloabjnjnjacaaDoor
