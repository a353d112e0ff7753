/-
  The reference's Regular.
-/
import Derived.Test.YtkdancoffmhjhaaKg
namespace Go.Proofs.Ytkdancoffmhjhaa
open Go.RowKit Go.Shelf
theorem step_of_list2 {P : Program} {Q : Exit → Act → World → Prop} {o : Oper} {a : Act} {w : World} {K : Act → World → Prop} (hw : Region.wanted o (yielded #[] a.tmps) = true) (h : wpList P #[] (Exit.then K (fun e a w => e ≠ .outgrown ∧ Q e a w)) [o] a w) : o.wp P a w K Q := by
  have h1 := step_of_list (ops := #[]) (Q := fun e a w => e ≠ .outgrown ∧ Q e a w) hw (by rintro ⟨_, _, h⟩; exact h.1 rfl) h
  clear h
  unfold Oper.wp at *
  generalize (execOp a.eval o).run P w = r at *
  cases r with
  | ok x w' =>
    cases x with
    | enter f args =>
      refine Calls.mono h1 fun e w'' he => ?_
      cases e with
      | returned v => exact he
      | panicked ch => exact he.2
      | outgrown => obtain ⟨_, _, h⟩ := he; exact absurd rfl h.1
    | _ => exact h1
  | halt x w' =>
    cases x with
    | panic v => exact h1.2
    | _ => exact h1
set_option maxHeartbeats 400000 in
set_option maxRecDepth 20000 in
theorem rregular_any (a : Option Addr) (n cap : Nat) (l : List HCo) (k : Int) (w : World) (hr : RdH w a n cap l) :
    Calls Try.prog 30 #[.slice a n cap, .int .i64 k] w (RegRet (chkE [l]) ((l.filter (regB k)).map kp) w) := by
  have hck := rcheck_one a n cap l w hr
  have hl := hr.rd.len
  replace hl := Lib.hid hl
  unfold RegRet
  generalize hE : chkE [l] = er at *
  by_cases h0 : er = 0
  · obtain ⟨g1, g2⟩ := chkE_all (hE.trans h0)
    obtain ⟨hn1, hw1⟩ := g1 l (by simp)
    rw [hl.out] at hn1
    replace hck := cint hck h0
    replace h0 := Lib.hid h0
    replace hw1 := Lib.hid hw1
    clear g1 g2 hE
    go_enter Try.func30, Try.ntmps30
    go_wp2_with fail
    refine hck.mono ?_
    rintro e w1 ⟨rfl, hx1⟩
    clear hck
    go_wp2_with fail
    go_loopw [7, 8] (fun v i wr => ∃ (j : Nat) (hs : List HCo), j ≤ n ∧ i = .int .i64 j ∧ OwnLC w.heap.size wr v hs ∧ Hid (hs.map kp = ((l.take j).filter (regB k)).map kp) ∧ Hid (hs.length ≤ j) ∧ Ext w wr) (fun _ i _ => n - (intOf i).toNat)
    case atStart => exact ⟨0, [], Nat.zero_le _, rfl, ⟨OwnK.nil _ _ _, fun y hy => by cases hy⟩, Lib.hid rfl, Lib.hid (Nat.le_refl _), hx1⟩
    case round =>
      obtain ⟨j, hs, hj, rfl, hown, hk4, hk5, hx⟩ := hrel
      by_cases hlt : j < n
      · obtain ⟨b, off, z, rfl, hz, hb, hc0, hc1, hcz⟩ := hr.at hlt
        have hd0 := hx.cellv hc0
        have hd1 := hx.cellv hc1
        have hbw : b < wr.heap.size := Nat.lt_of_lt_of_le hb hx.le
        have hji : (j : Int) < (n : Int) := by omega
        have hsu := Lib.hid (take_succ_at hz.out)
        cases hb2 : regB k z
        · have hd : decide (k ≤ z.cnt) = false := hb2
          have hnew : Hid (hs.map kp = ((l.take (j + 1)).filter (regB k)).map kp) := Lib.hid (by rw [hsu.out, List.filter_append, List.filter_cons_of_neg (by rw [hb2]; simp)]; simpa using hk4.out)
          go_wp2_with fail
          (first | exact ⟨⟨j + 1, hs, by omega, by go_num, hown, hnew, Lib.hid (by have := hk5.out; omega), hx⟩, (by simp [intOf]; omega)⟩ | (go_roundw; case rel => exact ⟨j + 1, hs, by omega, by go_num, hown, hnew, Lib.hid (by have := hk5.out; omega), hx⟩; case measure => exact (by simp [intOf]; omega)))
        · have hd : decide (k ≤ z.cnt) = true := hb2
          obtain ⟨ao, no, co, hno, rfl, hro⟩ := OwnK.rdn HCo.len hown.own
          have hS0 : (fun w' : World => Ext w w') wr.drew := hx.drew
          replace hno := Lib.hid hno
          clear hro
          go_wp2_with fail
          refine wp_region_F (fun w' => Ext w w') [0, 2, 3, 4, 5, 6, 8, 9, 10, 11, 12] (by kernel_rfl) ?_
          show wpF _ _ _ _ _ _ 17 _ _ _
          refine wpF_take (i := 0) (v := (.slice ao no co)) rfl (by kernel_rfl) (by kernel_rfl) (by kernel_rfl) (by kernel_rfl) (fun _ _ _ h => h) (.inl ⟨rfl, fun W' hW' => ?_⟩) hS0 ?_
          · have s1 := Ext.cellv hW' hc0
            have s2 := Ext.cellv hW' hc1
            go_simp
          refine wpF_take (i := 2) (v := (.slice (some ⟨b, off, none⟩) n cap)) rfl (by kernel_rfl) (by kernel_rfl) (by kernel_rfl) (by kernel_rfl) (fun _ _ _ h => h) (.inl ⟨rfl, fun W' hW' => ?_⟩) hS0 ?_
          · have s1 := Ext.cellv hW' hc0
            have s2 := Ext.cellv hW' hc1
            go_simp
          refine wpF_take (i := 3) (v := (.int .i64 j)) rfl (by kernel_rfl) (by kernel_rfl) (by kernel_rfl) (by kernel_rfl) (fun _ _ _ h => h) (.inl ⟨rfl, fun W' hW' => ?_⟩) hS0 ?_
          · have s1 := Ext.cellv hW' hc0
            have s2 := Ext.cellv hW' hc1
            go_simp
          refine wpF_take (i := 4) (v := (.pointer (some ⟨b, off + j * 2, none⟩))) rfl (by kernel_rfl) (by kernel_rfl) (by kernel_rfl) (by kernel_rfl) (fun _ _ _ h => h) (.inl ⟨rfl, fun W' hW' => ?_⟩) hS0 ?_
          · have s1 := Ext.cellv hW' hc0
            have s2 := Ext.cellv hW' hc1
            go_simp
          refine wpF_take (i := 5) (v := (.pointer (some ⟨b, off + j * 2, none⟩))) rfl (by kernel_rfl) (by kernel_rfl) (by kernel_rfl) (by kernel_rfl) (fun _ _ _ h => h) (.inl ⟨rfl, fun W' hW' => ?_⟩) hS0 ?_
          · have s1 := Ext.cellv hW' hc0
            have s2 := Ext.cellv hW' hc1
            go_simp
          refine wpF_take (i := 6) (v := (.slice z.a z.n z.cap)) rfl (by kernel_rfl) (by kernel_rfl) (by kernel_rfl) (by kernel_rfl) (fun _ _ _ h => h) (.inl ⟨rfl, fun W' hW' => ?_⟩) hS0 ?_
          · have s1 := Ext.cellv hW' hc0
            have s2 := Ext.cellv hW' hc1
            go_simp
          refine wpF_take (i := 8) (v := (.slice (some ⟨b, off, none⟩) n cap)) rfl (by kernel_rfl) (by kernel_rfl) (by kernel_rfl) (by kernel_rfl) (fun _ _ _ h => h) (.inl ⟨rfl, fun W' hW' => ?_⟩) hS0 ?_
          · have s1 := Ext.cellv hW' hc0
            have s2 := Ext.cellv hW' hc1
            go_simp
          refine wpF_take (i := 9) (v := (.int .i64 j)) rfl (by kernel_rfl) (by kernel_rfl) (by kernel_rfl) (by kernel_rfl) (fun _ _ _ h => h) (.inl ⟨rfl, fun W' hW' => ?_⟩) hS0 ?_
          · have s1 := Ext.cellv hW' hc0
            have s2 := Ext.cellv hW' hc1
            go_simp
          refine wpF_take (i := 10) (v := (.pointer (some ⟨b, off + j * 2, none⟩))) rfl (by kernel_rfl) (by kernel_rfl) (by kernel_rfl) (by kernel_rfl) (fun _ _ _ h => h) (.inl ⟨rfl, fun W' hW' => ?_⟩) hS0 ?_
          · have s1 := Ext.cellv hW' hc0
            have s2 := Ext.cellv hW' hc1
            go_simp
          refine wpF_take (i := 11) (v := (.pointer (some ⟨b, off + j * 2 + 1, none⟩))) rfl (by kernel_rfl) (by kernel_rfl) (by kernel_rfl) (by kernel_rfl) (fun _ _ _ h => h) (.inl ⟨rfl, fun W' hW' => ?_⟩) hS0 ?_
          · have s1 := Ext.cellv hW' hc0
            have s2 := Ext.cellv hW' hc1
            go_simp
          refine wpF_take (i := 12) (v := (.int .i64 z.cnt)) rfl (by kernel_rfl) (by kernel_rfl) (by kernel_rfl) (by kernel_rfl) (fun _ _ _ h => h) (.inl ⟨rfl, fun W' hW' => ?_⟩) hS0 ?_
          · have s1 := Ext.cellv hW' hc0
            have s2 := Ext.cellv hW' hc1
            go_simp
          refine wpF_step (k := 1) rfl (by kernel_rfl) rfl fun K1 hK1 => ?_
          go_simp
          have hA1 : Ext w (wr.drew.alloc (.cells #[] 39)) := hx.drew.alloc _
          have hownc : OwnC wr.drew.heap.size 39 (wr.drew.alloc (.cells #[] 39)) (.slice (some ⟨wr.drew.heap.size, 0, none⟩) 0 0) [] := OwnK.base (World.ownsRow_lit wr.drew #[] 0 (Nat.le_refl _) (Nat.zero_le _) rfl) (Nat.le_refl _)
          have hzn := hw1.out z (List.mem_of_getElem? hz.out)
          have hnl : no ≤ 60000 := by rw [hno.out]; have := hk5.out; omega
          refine hK1 _ _ hA1 ?_
          refine wpF_step (k := 7) rfl (by kernel_rfl) rfl fun K7 hK7 => ?_
          refine step_of_list2 rfl ?_
          refine wp_appN wr.drew _ z.x rfl _ _ 29 rfl 39 Try.underlying29 info_cl rfl (by decide) _ _ rfl hownc (Ext.alloc1 _ _) z.a z.n z.cap rfl (hcz.ext hA1) Cl.len Cl.one (by simp; omega) (by unfold maxLen; simp; omega) ?_
          intro v7 w7 ho7 hx7 _
          rw [List.nil_append] at ho7
          obtain ⟨a7, n7, c7, hn7, rfl, hr7⟩ := OwnK.rdn Cl.len ho7
          replace hn7 := Lib.hid hn7
          have hr7w : Ext wr w7 := ((Ext.refl _).drew).trans hx7
          have hw7 : Ext w w7 := hx.trans hr7w
          refine hK7 _ _ hw7 ?_
          refine wpF_step (k := 13) rfl (by kernel_rfl) rfl fun K13 hK13 => ?_
          go_simp
          refine hK13 _ _ hw7 ?_
          refine wpF_step (k := 14) rfl (by kernel_rfl) rfl fun K14 hK14 => ?_
          go_simp
          have hsA := Ext.alloc1 w7 (.cells #[.slice a7 n7 c7, .int .i64 z.cnt] 49)
          refine hK14 _ _ (hw7.trans hsA) ?_
          have hb4 := OwnK.blk' ((hown.own.kept hr7w).kept hsA)
          refine wpF_step (k := 15) rfl (by kernel_rfl) rfl fun K15 hK15 => ?_
          refine step_of_list2 rfl ?_
          refine wp_app1 w w7 (⟨a7, n7, c7, z.cnt, z.x⟩ : HCo) rfl _ _ 24 rfl 49 Try.underlying24 info_corr rfl (by decide) _ _ rfl (hown.own.kept hr7w) hw7 rfl rfl (HCo.one _) (by rw [← hno.out]; omega) (by rw [← hno.out]; unfold maxLen; omega) ?_
          intro v9 w9 ho9 hx9 hg9
          refine hK15 _ _ hx9 ?_
          refine wpF_step (k := 16) rfl (by kernel_rfl) rfl fun K16 hK16 => ?_
          go_simp
          refine hK16 _ _ hx9 ?_
          refine ⟨by kernel_rfl, ?_⟩
          have oF : OwnLC w.heap.size w9 v9 (hs ++ [⟨a7, n7, c7, z.cnt, z.x⟩]) := ⟨ho9, fun u hu => by
            rcases List.mem_append.1 hu with h | h
            · exact (((hown.ok u h).kept hr7w).kept hsA).other hg9 hb4 (by decide)
            · rw [List.mem_singleton.1 h]; exact ((OwnK.base ho7 (by have := hx.le; simpa using this)).kept hsA).other hg9 hb4 (by decide)⟩
          have hnew : Hid ((hs ++ [(⟨a7, n7, c7, z.cnt, z.x⟩ : HCo)]).map kp = ((l.take (j + 1)).filter (regB k)).map kp) := Lib.hid (by rw [hsu.out, List.filter_append, List.filter_cons_of_pos hb2, List.filter_nil, List.map_append, List.map_append, hk4.out]; rfl)
          go_wp2_with fail
          (first | exact ⟨⟨j + 1, _, by omega, by go_num, oF, hnew, Lib.hid (by rw [List.length_append]; have := hk5.out; simp; omega), hx9⟩, (by simp [intOf]; omega)⟩ | (go_roundw; case rel => exact ⟨j + 1, _, by omega, by go_num, oF, hnew, Lib.hid (by rw [List.length_append]; have := hk5.out; simp; omega), hx9⟩; case measure => exact (by simp [intOf]; omega)))
      · obtain rfl : j = n := by omega
        rw [List.take_of_length_le (by rw [hl.out]; exact Nat.le_refl _)] at hk4
        go_wp2_with fail
        go_ret2
        exact .inr ⟨h0.out, _, hs, rfl, hown.to, hk4.out, hx⟩
  · have hd : (er != 0) = true := by simpa using h0
    replace h0 := Lib.hid h0
    go_enter Try.func30, Try.ntmps30
    go_wp2_with fail
    refine hck.mono ?_
    rintro e w1 ⟨rfl, hx1⟩
    go_wp2_with fail
    go_ret2
    exact .inl ⟨h0.out, rfl, hx1⟩
end Go.Proofs.Ytkdancoffmhjhaa
