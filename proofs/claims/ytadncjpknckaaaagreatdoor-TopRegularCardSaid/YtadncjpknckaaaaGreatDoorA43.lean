/-
  TopRegular: the walk of the law.
-/
import Derived.Test.YtadncjpknckaaaaGreatDoorA41
import Derived.Test.YtadncjpknckaaaaGreatDoorA42
namespace Go.Proofs.YtadncjpknckaaaaGreatDoor
open Go.RowKit Go.Shelf Go.Maps
attribute [local go_sem] Oper.semAt_some
theorem filterMap_at {α β : Type} {f : α → Option β} {A B : List α} {x : α} {y : β} (h : (A ++ [x]) <+: B) (hy : f x = some y) : (B.filterMap f)[(A.filterMap f).length]? = some y := by
  obtain ⟨t, rfl⟩ := h
  rw [List.append_assoc, List.filterMap_append, List.getElem?_append_right (Nat.le_refl _), Nat.sub_self, List.singleton_append, List.filterMap_cons, hy]
  rfl
theorem deriveM_line {ls : List HL} {ps : List Pl} {ts : List Nd} {v : Nat} {ws : List Snd} (h : lawsOkB (lineL ls ps ts v) = true) (hw : wordOk ws = true) : deriveM (lineL ls ps ts v) ws = derM (lineL ls ps ts v) ws := by
  unfold deriveM
  rw [if_pos ⟨h, hw⟩]
/-- Do the laws, one after the other, make of the proto-form what is attested? -/
def agreeB (r : Option (List Snd)) (pon : Bool) (fw : List Snd) : Bool := pon && decide (r = some fw)
def RetTop (w : World) (e : Ending) (w' : World) : Prop := e = .returned (.bool true) ∧ Ext w w'
set_option maxHeartbeats 8000000 in
set_option maxRecDepth 20000 in
theorem top_any (h : HH) (ap : Option Addr) (np cp : Nat) (ps : List Fm) (ae : Option Addr) (ne ce : Nat) (es : List En) (w : World) (hr : RdH w h) (hps : RdFs w ap np cp ps) (hes : RdEs w ae ne ce es) (hT : Tab64 w) :
    Calls Tryz.prog 3 #[h.v, .slice ap np cp, .slice ae ne ce] w (RetTop w) := by
  have hli := fun W (hx : Ext w W) => light_any h W (hr.ext hx)
  have hbd := fun W (hx : Ext w W) hsm => bad_any h ap np cp ps ae ne ce es 1 W (hr.ext hx) hsm (hps.ext hx) (hes.ext hx) (hT.ext hx) (by decide) (by decide)
  have hlv := fun W (hx : Ext w W) => tleaves_any h.ta h.tn h.tc h.ts W (hr.tree.ext hx)
  have hwk := fun W (hx : Ext w W) => works26_any W (hT.ext hx)
  have hbe := fun W (hx : Ext w W) hH hsm v (hv : v < h.tn) a n c ws hws => become_any h a n c ws v W (hr.ext hx) hH hsm hv hws (hT.ext hx)
  obtain ⟨ta, tn, tc, ts, la, ln, lc, ls, pa, pn, pc, pss⟩ := h
  simp only at hli hbd hlv hbe
  have hxw := Ext.alloc1 w (.cells #[.slice ta tn tc, .slice la ln lc, .slice pa pn pc] 26)
  have hB0 : (w.alloc (.cells #[.slice ta tn tc, .slice la ln lc, .slice pa pn pc] 26)).heap[w.heap.size]? = some (.cells #[.slice ta tn tc, .slice la ln lc, .slice pa pn pc] 26 (0, 0)) := World.alloc_heap_new w _
  have hl1 := hli _ hxw
  go_enter Tryz.func3, Tryz.ntmps3
  go_wp2_with fail
  generalize w.alloc (.cells #[.slice ta tn tc, .slice la ln lc, .slice pa pn pc] 26) = w1 at *
  refine hl1.mono ?_
  rintro e w2 ⟨⟨b, rfl, hlight⟩, hx2⟩
  have hX2 := hxw.trans hx2
  have hB2 := blk_kept hB0 hx2
  clear hl1 hli hB0
  cases b
  · have hw2 := hwk _ hX2
    go_wp2_with fail
    refine hw2.mono ?_
    rintro e w3 ⟨rfl, hx3⟩
    clear hw2
    go_wp2_with fail
    go_ret
    exact ⟨rfl, hX2.trans hx3⟩
  · obtain ⟨ht8, hp8, hsm⟩ := hlight.out rfl
    simp only at ht8 hp8 hsm
    by_cases h6 : ne ≤ 6 ∧ np ≤ 6
    · obtain ⟨hn6, hm6⟩ := h6
      have g1 : ¬ (6 : Int) < (ne : Int) := by omega
      have g2 : ¬ (6 : Int) < (np : Int) := by omega
      have hb3 := hbd _ hX2 hsm
      have c0 : w2.cell? ⟨w.heap.size, 0, none⟩ = some (.slice ta tn tc) := by simp [World.cell?, hB2]
      have c1 : w2.cell? ⟨w.heap.size, 1, none⟩ = some (.slice la ln lc) := by simp [World.cell?, hB2]
      have c2 : w2.cell? ⟨w.heap.size, 2, none⟩ = some (.slice pa pn pc) := by simp [World.cell?, hB2]
      go_wp2_with fail
      refine hb3.mono ?_
      rintro e w3 ⟨a7, n7, c7, err, rfl, hx3, h1, h2, _⟩
      have hX3 := hX2.trans hx3
      have d0 := hx3.cellv c0
      have hx23 := hx3
      have hlv3 := RetIE.rd (err' := treeE ts) (hlv _ hX3) rfl
      clear hb3 hbd hlv c0 c1 c2
      go_wp2_with fail
      refine hlv3.mono ?_
      rintro e w4 ⟨a9, n9, c9, hn9, rfl, hr9, hx4⟩
      have hX4 := hX3.trans hx4
      have hB4 := blk_kept (blk_kept hB2 hx23) hx4
      clear hlv3 d0 hx23
      by_cases he0 : err = 0
      · subst he0
        obtain ⟨hat, hbr⟩ := h2.out rfl
        have hatt := hat
        simp only [attB, Bool.and_eq_true, decide_eq_true_eq] at hatt
        obtain ⟨hhist, _, hlenp, _, hent, hwdp, _⟩ := hatt
        have hbe2 := fun W hx v hv a n c ws hws => hbe W hx hhist hsm v hv a n c ws hws
        have hhist2 := hhist
        simp only [histB, Bool.and_eq_true, decide_eq_true_eq] at hhist2
        obtain ⟨htb, hok, hpn, hlb⟩ := hhist2
        have hway := fun v => @listsB_way _ hlb v
        have hin := fun p hp x hx => @listsB_in _ hlb p hp x hx
        simp only at htb hok hpn hway hin
        subst hpn
        have hlvl : leavesR ts = leafL ts := by unfold leavesR; rw [if_pos htb]
        rw [hlvl] at hn9 hr9 hent
        rw [show treeE ts = 0 from treeE_zero htb]
        have hpl := hps.rd.len
        have hel := hes.rd.len
        have hnpe : np = ne := by omega
        subst hnpe
        have hall : ∀ e ∈ es, e.n = n9 := fun e hm => by
          have h1 : en1B (leafL ts).length e = true := by
            unfold entB at hent
            rw [Bool.and_eq_true] at hent
            exact List.all_eq_true.1 hent.1 e hm
          unfold en1B at h1
          rw [Bool.and_eq_true, decide_eq_true_eq] at h1
          rw [h1.1, hn9]
        have hlf : ∀ k, k < n9 → ∃ v : Nat, (leafL ts)[k]? = some (v : Int) ∧ v < pn := fun k hk => by
          have hx : (leafL ts)[k]? = some (leafL ts)[k] := List.getElem?_eq_getElem (by omega)
          have hm := List.getElem_mem (l := leafL ts) (n := k) (by omega)
          generalize (leafL ts)[k] = y at *
          unfold leafL leafTo at hm
          obtain ⟨v, hv, rfl⟩ := List.mem_map.1 hm
          have := List.mem_range.1 (List.mem_filter.1 hv).1
          exact ⟨v, hx, by have := hr.tree.rd.len; simp only at this; omega⟩
        have hline : ∀ (k v : Nat), (leafL ts)[k]? = some (v : Int) → v < pn → ∀ ws, wordOk ws = true → deriveM (linesH ⟨ta, pn, tc, ts, la, ln, lc, ls, pa, pn, pc, pss⟩ k) ws = derM (lineL ls pss ts v) ws := fun k v hk hv ws hw => by
          have h1 : linesH ⟨ta, pn, tc, ts, la, ln, lc, ls, pa, pn, pc, pss⟩ k = lineL ls pss ts v := by unfold linesH; simp only [hk, Option.getD_some, Int.toNat_natCast]
          rw [h1]
          exact deriveM_line (line_ok (by have := hr.laws.rd.len; exact this) hok hin (hway v hv)) hw
        have hwo : ∀ p ∈ ps, wordOk p.ws = true := fun p hp => List.all_eq_true.1 hwdp p hp
        obtain ⟨bad, hbad⟩ : ∃ bad, badX (linesH ⟨ta, pn, tc, ts, la, ln, lc, ls, pa, pn, pc, pss⟩) ps 1 = bad := ⟨_, rfl⟩
        have hbl : badL ⟨ta, pn, tc, ts, la, ln, lc, ls, pa, pn, pc, pss⟩ ps es 1 = (attL es np).filterMap bad := by unfold badL; rw [hbad, hel]
        rw [hbl] at hbr
        have hbr4 := hbr.ext hx4
        have hn7 := hbr.len
        have hn9s : n9 ≤ 63 := by
          have := (treeB_len htb).2
          rw [hn9]
          unfold leafL leafTo
          rw [List.length_map]
          have h2 := List.length_filter_le (fun v => decide (kidsTo ts ts.length v = [])) (List.range ts.length)
          rw [List.length_range] at h2
          omega
        clear h1 h2 hbl hhist hwdp hent hlb hbr hat hbe hlvl
        replace hline := Lib.hid hline
        replace hlf := Lib.hid hlf
        replace hall := Lib.hid hall
        replace hbad := Lib.hid hbad
        replace hn7 := Lib.hid hn7
        replace hn9 := Lib.hid hn9
        replace hel := Lib.hid hel
        replace hpl := Lib.hid hpl
        replace hlenp := Lib.hid hlenp
        go_wp2_with fail
        go_loopw [11, 12] (fun atv i X => ∃ i' : Nat, i' ≤ np ∧ i = .int .i64 i' ∧ atv = .int .i64 (((attL es i').filterMap bad).length : Nat) ∧ Ext w4 X) (fun _ i _ => np - (intOf i).toNat)
        case atStart => exact ⟨0, Nat.zero_le _, rfl, rfl, Ext.refl _⟩
        case round =>
          obtain ⟨i, hi, rfl, rfl, hx⟩ := hrel
          by_cases hlt : i < np
          · obtain ⟨be, offe, ⟨ename, ea, en, ec, efs⟩, rfl, hse, hbe0, ce0, ce1, hefs, hesz⟩ := (hes.ext (hX4.trans hx)).en hlt
            simp only at ce0 ce1 hefs hesz
            have hen9 : en = n9 := hall.out _ (List.mem_of_getElem? hse.out)
            subst hen9
            have hefw : RdFs w ea en ec efs := hes.words _ (List.mem_of_getElem? hse.out)
            have hefl := hefs.rd.len
            have hsuc := attL_succ hse.out
            simp only at hsuc
            replace hsuc := Lib.hid hsuc
            replace hefl := Lib.hid hefl
            go_wp2_with fail
            go_loopw [11, 13] (fun atv k X => ∃ k' : Nat, k' ≤ en ∧ k = .int .i64 k' ∧ atv = .int .i64 (((attL es i ++ attE i efs k').filterMap bad).length : Nat) ∧ Ext w4 X) (fun _ k _ => en - (intOf k).toNat)
            case atStart => exact ⟨0, Nat.zero_le _, rfl, by simp [attE], hx⟩
            case round =>
              clear ce0 ce1 hx
              obtain ⟨k, hk, rfl, rfl, hx⟩ := hrel
              by_cases hlk : k < en
              · obtain ⟨bf, offf, ⟨fon, fa, fn, fc, fws⟩, rfl, hfs, hbf, f0, f1, hfw⟩ := (hefw.ext (hX4.trans hx)).fm hlk
                simp only at f0 f1 hfw
                obtain ⟨be1, offe1, en1, hea1, hse1, _, ce0, ce1, _, _⟩ := (hes.ext (hX4.trans hx)).en hlt
                cases hea1
                have hene : en1 = ⟨ename, some ⟨bf, offf, none⟩, en, ec, efs⟩ := by have := hse1.out; rw [hse.out] at this; exact (Option.some.inj this).symm
                subst hene
                simp only at ce0 ce1
                have hae := attE_succ (i := i) hfs.out
                have hnx := fun ho => att_next hlt hse.out hfs.out ho
                simp only at hae hnx
                replace hnx := Lib.hid hnx
                cases fon
                · simp only [Bool.false_eq_true, if_false, List.append_nil] at hae
                  have hrl : Hid ((((attL es i ++ attE i efs k).filterMap bad).length : Nat) = ((attL es i ++ attE i efs (k + 1)).filterMap bad).length) := Lib.hid (by rw [hae])
                  clear hae
                  go_wp2_with fail
                  rw [hrl.out]
                  (first | exact ⟨⟨k + 1, by omega, by go_num, rfl, (by repeat (first | exact Ext.refl _ | assumption | refine Ext.drew ?_ | refine Ext.drewN ?_ _ | refine Ext.alloc ?_ _ | refine Ext.trans ?_ (by assumption)))⟩, (by simp [intOf]; omega)⟩ | (go_roundw; case rel => exact ⟨k + 1, by omega, by go_num, rfl, (by repeat (first | exact Ext.refl _ | assumption | refine Ext.drew ?_ | refine Ext.drewN ?_ _ | refine Ext.alloc ?_ _ | refine Ext.trans ?_ (by assumption)))⟩; case measure => exact (by simp [intOf]; omega)))
                · simp only [if_true] at hae
                  obtain ⟨m, hm⟩ : ∃ m, ((attL es i ++ attE i efs k).filterMap bad).length = m := ⟨_, rfl⟩
                  rw [hm]
                  replace hm := Lib.hid hm
                  obtain ⟨bp, offp, ⟨pon, pa', pn', pc', pws⟩, rfl, hpp, _, p0, p1, hpw⟩ := (hps.ext (hX4.trans hx)).fm hlt
                  simp only at p0 p1 hpw
                  obtain ⟨b9, off9, x9, rfl, hx9, _, c9v⟩ := (hr9.ext hx).i64 hlk
                  obtain ⟨v, hv, hvp⟩ := hlf.out k hlk
                  have hx9v : x9 = (v : Int) := by have := hx9.out; rw [hv] at this; exact (Option.some.inj this).symm
                  subst hx9v
                  have hwp := hwo _ (List.mem_of_getElem? hpp.out)
                  simp only at hwp
                  have hbx0 : bad ⟨i, k, ⟨true, fa, fn, fc, fws⟩⟩ = if (pon && (derM (lineL ls pss ts v) pws).isSome) = true then (if derM (lineL ls pss ts v) pws = some fws then none else some ⟨i, k, 1, 1⟩) else some ⟨i, k, 2, 1⟩ := by
                    rw [← hbad.out]
                    unfold badX
                    simp only
                    rw [hpp.out]
                    simp only
                    rw [hline.out k v hv hvp pws hwp]
                  have hpw0 := (hps.words _ (List.mem_of_getElem? hpp.out))
                  simp only at hpw0
                  obtain ⟨r, hr0⟩ : ∃ r, derM (lineL ls pss ts v) pws = r := ⟨_, rfl⟩
                  have hcall := fun W (hxW : Ext w W) => hbe2 W hxW v hvp _ _ _ _ (hpw0.ext hxW)
                  rw [hr0] at hbx0
                  replace hcall : ∀ W, Ext w W → Calls Tryz.prog 8 #[.agg #[.slice ta pn tc, .slice la ln lc, .slice pa pn pc], .slice pa' pn' pc', .int .i64 (v : Int)] W (RetBe r W) := fun W hxW => by rw [← hr0]; exact hcall W hxW
                  have hfw0 : RdS w fa fn fc fws := (hefw.words _ (List.mem_of_getElem? hfs.out))
                  have hbw := blk_kept hB4 hx
                  have b0 : wr.cell? ⟨w.heap.size, 0, none⟩ = some (.slice ta pn tc) := by simp [World.cell?, hbw]
                  have b1 : wr.cell? ⟨w.heap.size, 1, none⟩ = some (.slice la ln lc) := by simp [World.cell?, hbw]
                  have b2 : wr.cell? ⟨w.heap.size, 2, none⟩ = some (.slice pa pn pc) := by simp [World.cell?, hbw]
                  replace hr0 := Lib.hid hr0
                  replace hv := Lib.hid hv
                  clear hbw
                  go_wp2_with fail
                  have hbF : (wr.alloc (.cells #[.bool true, .slice fa fn fc] 42)).heap[wr.heap.size]? = some (.cells #[.bool true, .slice fa fn fc] 42 (0, 0)) := World.alloc_heap_new _ _
                  have hxF : Ext wr (wr.alloc (.cells #[.bool true, .slice fa fn fc] 42)) := Ext.alloc1 _ _
                  generalize (wr.alloc (.cells #[.bool true, .slice fa fn fc] 42)) = wf at *
                  generalize wr.heap.size = bF at *
                  have hmx : Tryz.prog.follows .mixedOrders = true := by kernel_rfl
                  refine wp_region_H (fun W' : World => Ext wr W') [0, 1, 2, 3, 4, 5, 6, 7, 8, 9, 11, 12, 13] hmx ?_
                  show wpH _ _ _ _ _ _ 16 _ _ _
                  have hS0 : (fun W' : World => Ext wr W') wf.drew := hxF.drew
                  refine wpH_take (i := 0) (v := (.agg #[.slice ta pn tc, .slice la ln lc, .slice pa pn pc])) rfl (by kernel_rfl) (by kernel_rfl) (by kernel_rfl) (by kernel_rfl) (by kernel_rfl) (fun _ _ _ h => h) (.inl ⟨rfl, fun W' hW' => ?_⟩) hS0 ?_
                  · (have u := Ext.cellv hW' b0; have v := Ext.cellv hW' b1; have z := Ext.cellv hW' b2)
                    go_simp
                  refine wpH_take (i := 1) (v := (.slice (some ⟨bp, offp, none⟩) np cp)) rfl (by kernel_rfl) (by kernel_rfl) (by kernel_rfl) (by kernel_rfl) (by kernel_rfl) (fun _ _ _ h => h) (.inl ⟨rfl, fun W' hW' => ?_⟩) hS0 ?_
                  · go_simp
                  refine wpH_take (i := 2) (v := (.int .i64 (i : Int))) rfl (by kernel_rfl) (by kernel_rfl) (by kernel_rfl) (by kernel_rfl) (by kernel_rfl) (fun _ _ _ h => h) (.inl ⟨rfl, fun W' hW' => ?_⟩) hS0 ?_
                  · go_simp
                  refine wpH_take (i := 3) (v := (.pointer (some ⟨bp, offp + i * 2, none⟩))) rfl (by kernel_rfl) (by kernel_rfl) (by kernel_rfl) (by kernel_rfl) (by kernel_rfl) (fun _ _ _ h => h) (.inl ⟨rfl, fun W' hW' => ?_⟩) hS0 ?_
                  · go_simp
                  refine wpH_take (i := 4) (v := (.pointer (some ⟨bp, offp + i * 2 + 1, none⟩))) rfl (by kernel_rfl) (by kernel_rfl) (by kernel_rfl) (by kernel_rfl) (by kernel_rfl) (fun _ _ _ h => h) (.inl ⟨rfl, fun W' hW' => ?_⟩) hS0 ?_
                  · go_simp
                  refine wpH_take (i := 5) (v := (.slice pa' pn' pc')) rfl (by kernel_rfl) (by kernel_rfl) (by kernel_rfl) (by kernel_rfl) (by kernel_rfl) (fun _ _ _ h => h) (.inl ⟨rfl, fun W' hW' => ?_⟩) hS0 ?_
                  · have u := Ext.cellv hW' p1
                    go_simp
                  refine wpH_take (i := 6) (v := (.slice (some ⟨b9, off9, none⟩) en c9)) rfl (by kernel_rfl) (by kernel_rfl) (by kernel_rfl) (by kernel_rfl) (by kernel_rfl) (fun _ _ _ h => h) (.inl ⟨rfl, fun W' hW' => ?_⟩) hS0 ?_
                  · go_simp
                  refine wpH_take (i := 7) (v := (.int .i64 (k : Int))) rfl (by kernel_rfl) (by kernel_rfl) (by kernel_rfl) (by kernel_rfl) (by kernel_rfl) (fun _ _ _ h => h) (.inl ⟨rfl, fun W' hW' => ?_⟩) hS0 ?_
                  · go_simp
                  refine wpH_take (i := 8) (v := (.pointer (some ⟨b9, off9 + k, none⟩))) rfl (by kernel_rfl) (by kernel_rfl) (by kernel_rfl) (by kernel_rfl) (by kernel_rfl) (fun _ _ _ h => h) (.inl ⟨rfl, fun W' hW' => ?_⟩) hS0 ?_
                  · go_simp
                  refine wpH_take (i := 9) (v := (.int .i64 (v : Int))) rfl (by kernel_rfl) (by kernel_rfl) (by kernel_rfl) (by kernel_rfl) (by kernel_rfl) (fun _ _ _ h => h) (.inl ⟨rfl, fun W' hW' => ?_⟩) hS0 ?_
                  · have u := Ext.cellv hW' c9v
                    go_simp
                  refine wpH_step (k := 10) rfl (by kernel_rfl) rfl fun K hK => ?_
                  go_simp
                  refine (hcall _ ((hX4.trans hx).trans hS0)).mono ?_
                  rintro e X2 ⟨a3, n3, c3, ok, rfl, hx2, hok3, hout3⟩
                  have hxF2 : Ext wf X2 := (Ext.drew (Ext.refl wf)).trans hx2
                  have hxX : Ext wr X2 := hxF.trans hxF2
                  have hx4X : Ext w4 X2 := hx.trans hxX
                  replace hS0 : (fun W' : World => Ext wr W') X2 := hxX
                  refine hK _ _ (fun _ => hS0) ?_
                  clear hK K hx2 hcall
                  refine wpH_take (i := 11) (v := (.tuple #[.slice a3 n3 c3, .bool ok])) rfl (by kernel_rfl) (by kernel_rfl) (by kernel_rfl) (by kernel_rfl) (by kernel_rfl) (fun _ _ _ h => h) (.inl ⟨rfl, fun W' hW' => ?_⟩) hS0 ?_
                  · go_simp
                  refine wpH_take (i := 12) (v := (.slice a3 n3 c3)) rfl (by kernel_rfl) (by kernel_rfl) (by kernel_rfl) (by kernel_rfl) (by kernel_rfl) (fun _ _ _ h => h) (.inl ⟨rfl, fun W' hW' => ?_⟩) hS0 ?_
                  · go_simp
                  refine wpH_take (i := 13) (v := (.bool ok)) rfl (by kernel_rfl) (by kernel_rfl) (by kernel_rfl) (by kernel_rfl) (by kernel_rfl) (fun _ _ _ h => h) (.inl ⟨rfl, fun W' hW' => ?_⟩) hS0 ?_
                  · go_simp
                  refine wpH_step (k := 14) rfl (by kernel_rfl) rfl fun K hK => ?_
                  go_simp
                  refine hK _ _ (fun _ => hS0) ?_
                  clear hK K
                  refine wpH_step (k := 15) rfl (by kernel_rfl) rfl fun K hK => ?_
                  go_simp
                  refine hK _ _ (needA_no (by kernel_rfl)) ?_
                  clear hK K
                  refine wpH_last (by kernel_rfl) ?_
                  have hbX := blk_kept hbF hxF2
                  have t1 : X2.cell? ⟨bF, 1, none⟩ = some (.slice fa fn fc) := by simp [World.cell?, hbX]
                  have p0X := hxX.cellv p0
                  have hfwX := hfw0.ext (hX4.trans hx4X)
                  clear hS0 b0 b1 b2 p0 p1 c9v f0 f1 ce0 ce1 hbF hbX hxF hxF2 hfw hpw
                  cases pon
                  · have hbx : bad ⟨i, k, ⟨true, fa, fn, fc, fws⟩⟩ = some ⟨(i : Int), (k : Int), 2, 1⟩ := by rw [hbx0]; simp
                    clear hok3 hout3 hbx0 t1 hfwX hfw0
                    have hpos : ((attL es np).filterMap bad)[m]? = some ⟨(i : Int), (k : Int), 2, 1⟩ := by
                      have := filterMap_at (f := bad) (hnx.out trivial) hbx
                      rw [hm.out] at this; exact this
                    have hm7 : m < n7 := by have := (List.getElem?_eq_some_iff.1 hpos).1; have := hn7.out; omega
                    obtain ⟨bb, offb, y, rfl, hy, _, hyc⟩ := (hbr4.ext hx4X).get hm7
                    have hyy : y = ⟨(i : Int), (k : Int), 2, 1⟩ := by have := hy.out; rw [hpos] at this; exact (Option.some.inj this).symm
                    subst hyy
                    have v0 := hyc 0 _ rfl
                    have v1 := hyc 1 _ rfl
                    have v2 := hyc 2 _ rfl
                    simp only [Nat.add_zero] at v0
                    have hrl : Hid (((attL es i ++ attE i efs (k + 1)).filterMap bad).length = m + 1) := Lib.hid (by
                      rw [hae, ← List.append_assoc, List.filterMap_append, List.length_append, hm.out, List.filterMap_cons, hbx]; rfl)
                    replace hpos := Lib.hid hpos
                    have hm7' : ¬ (n7 : Int) ≤ (m : Int) := by omega
                    have hmx7 : m + 1 ≤ 9223372036854775807 := by have h1 := hbr4.le; have h2 := hbr4.most; unfold maxLen at h2; omega
                    have hm7'' : ¬ n7 ≤ m := by omega
                    clear hbx hae hyc
                    go_wp2_with fail
                    go_quiet (fail)
                    go_wp2_with fail
                    (first | exact ⟨⟨k + 1, by omega, by go_num, by rw [hrl.out]; go_num, (by repeat (first | exact Ext.refl _ | assumption | refine Ext.drew ?_ | refine Ext.drewN ?_ _ | refine Ext.alloc ?_ _ | refine Ext.trans ?_ (by assumption)))⟩, (by simp [intOf]; omega)⟩ | (go_roundw; case rel => exact ⟨k + 1, by omega, by go_num, by rw [hrl.out]; go_num, (by repeat (first | exact Ext.refl _ | assumption | refine Ext.drew ?_ | refine Ext.drewN ?_ _ | refine Ext.alloc ?_ _ | refine Ext.trans ?_ (by assumption)))⟩; case measure => exact (by simp [intOf]; omega)))
                  · cases r with
                    | none =>
                      obtain rfl : ok = false := hok3.out
                      have hbx : bad ⟨i, k, ⟨true, fa, fn, fc, fws⟩⟩ = some ⟨(i : Int), (k : Int), 2, 1⟩ := by rw [hbx0]; simp
                      clear hok3 hout3 hbx0 t1 hfwX hfw0
                      have hpos : ((attL es np).filterMap bad)[m]? = some ⟨(i : Int), (k : Int), 2, 1⟩ := by
                        have := filterMap_at (f := bad) (hnx.out trivial) hbx
                        rw [hm.out] at this; exact this
                      have hm7 : m < n7 := by have := (List.getElem?_eq_some_iff.1 hpos).1; have := hn7.out; omega
                      obtain ⟨bb, offb, y, rfl, hy, _, hyc⟩ := (hbr4.ext hx4X).get hm7
                      have hyy : y = ⟨(i : Int), (k : Int), 2, 1⟩ := by have := hy.out; rw [hpos] at this; exact (Option.some.inj this).symm
                      subst hyy
                      have v0 := hyc 0 _ rfl
                      have v1 := hyc 1 _ rfl
                      have v2 := hyc 2 _ rfl
                      simp only [Nat.add_zero] at v0
                      have hrl : Hid (((attL es i ++ attE i efs (k + 1)).filterMap bad).length = m + 1) := Lib.hid (by
                        rw [hae, ← List.append_assoc, List.filterMap_append, List.length_append, hm.out, List.filterMap_cons, hbx]; rfl)
                      replace hpos := Lib.hid hpos
                      have hm7' : ¬ (n7 : Int) ≤ (m : Int) := by omega
                      have hmx7 : m + 1 ≤ 9223372036854775807 := by have h1 := hbr4.le; have h2 := hbr4.most; unfold maxLen at h2; omega
                      have hm7'' : ¬ n7 ≤ m := by omega
                      clear hbx hae hyc
                      go_wp2_with fail
                      go_quiet (fail)
                      go_wp2_with fail
                      (first | exact ⟨⟨k + 1, by omega, by go_num, by rw [hrl.out]; go_num, (by repeat (first | exact Ext.refl _ | assumption | refine Ext.drew ?_ | refine Ext.drewN ?_ _ | refine Ext.alloc ?_ _ | refine Ext.trans ?_ (by assumption)))⟩, (by simp [intOf]; omega)⟩ | (go_roundw; case rel => exact ⟨k + 1, by omega, by go_num, by rw [hrl.out]; go_num, (by repeat (first | exact Ext.refl _ | assumption | refine Ext.drew ?_ | refine Ext.drewN ?_ _ | refine Ext.alloc ?_ _ | refine Ext.trans ?_ (by assumption)))⟩; case measure => exact (by simp [intOf]; omega)))
                    | some out =>
                      obtain rfl : ok = true := hok3.out
                      have hrd := hout3.out out rfl
                      have heq := wequal_any a3 fa n3 c3 fn fc out fws X2 hrd hfwX
                      clear hok3 hout3
                      by_cases hof : out = fws
                      · have hd : decide (out = fws) = true := decide_eq_true hof
                        have hrl : Hid (((attL es i ++ attE i efs (k + 1)).filterMap bad).length = m) := Lib.hid (by
                          rw [hae, ← List.append_assoc, List.filterMap_append, List.length_append, hm.out, List.filterMap_cons, hbx0]
                          simp [hof])
                        replace hof := Lib.hid hof
                        clear hbx0 hae
                        go_wp2_with fail
                        refine heq.mono ?_
                        rintro e X3 ⟨rfl, hx3⟩
                        clear heq
                        have hx4Z := hx4X.trans hx3
                        go_wp2_with fail
                        (first | exact ⟨⟨k + 1, by omega, by go_num, by rw [hrl.out], (by repeat (first | exact Ext.refl _ | assumption | refine Ext.drew ?_ | refine Ext.drewN ?_ _ | refine Ext.alloc ?_ _ | refine Ext.trans ?_ (by assumption)))⟩, (by simp [intOf]; omega)⟩ | (go_roundw; case rel => exact ⟨k + 1, by omega, by go_num, by rw [hrl.out], (by repeat (first | exact Ext.refl _ | assumption | refine Ext.drew ?_ | refine Ext.drewN ?_ _ | refine Ext.alloc ?_ _ | refine Ext.trans ?_ (by assumption)))⟩; case measure => exact (by simp [intOf]; omega)))
                      · have hd : decide (out = fws) = false := decide_eq_false hof
                        have hbx : bad ⟨i, k, ⟨true, fa, fn, fc, fws⟩⟩ = some ⟨(i : Int), (k : Int), 1, 1⟩ := by rw [hbx0]; simp [hof]
                        replace hof := Lib.hid hof
                        clear hbx0
                        have hbx' := hbx
                        replace hbx := Lib.hid hbx
                        go_wp2_with fail
                        refine heq.mono ?_
                        rintro e X3 ⟨rfl, hx3⟩
                        clear heq
                        have hx4Z := hx4X.trans hx3
                        have p0Z := hx3.cellv p0X
                        replace hbx := hbx'
                        clear hbx' p0X t1 hrd hfwX hfw0
                        have hpos : ((attL es np).filterMap bad)[m]? = some ⟨(i : Int), (k : Int), 1, 1⟩ := by
                          have := filterMap_at (f := bad) (hnx.out trivial) hbx
                          rw [hm.out] at this; exact this
                        have hm7 : m < n7 := by have := (List.getElem?_eq_some_iff.1 hpos).1; have := hn7.out; omega
                        obtain ⟨bb, offb, y, rfl, hy, _, hyc⟩ := (hbr4.ext hx4Z).get hm7
                        have hyy : y = ⟨(i : Int), (k : Int), 1, 1⟩ := by have := hy.out; rw [hpos] at this; exact (Option.some.inj this).symm
                        subst hyy
                        have v0 := hyc 0 _ rfl
                        have v1 := hyc 1 _ rfl
                        have v2 := hyc 2 _ rfl
                        simp only [Nat.add_zero] at v0
                        have hrl : Hid (((attL es i ++ attE i efs (k + 1)).filterMap bad).length = m + 1) := Lib.hid (by
                          rw [hae, ← List.append_assoc, List.filterMap_append, List.length_append, hm.out, List.filterMap_cons, hbx]; rfl)
                        replace hpos := Lib.hid hpos
                        have hm7' : ¬ (n7 : Int) ≤ (m : Int) := by omega
                        have hmx7 : m + 1 ≤ 9223372036854775807 := by have h1 := hbr4.le; have h2 := hbr4.most; unfold maxLen at h2; omega
                        have hm7'' : ¬ n7 ≤ m := by omega
                        clear hbx hae hyc
                        go_wp2_with fail
                        go_quiet (fail)
                        go_wp2_with fail
                        (first | exact ⟨⟨k + 1, by omega, by go_num, by rw [hrl.out]; go_num, (by repeat (first | exact Ext.refl _ | assumption | refine Ext.drew ?_ | refine Ext.drewN ?_ _ | refine Ext.alloc ?_ _ | refine Ext.trans ?_ (by assumption)))⟩, (by simp [intOf]; omega)⟩ | (go_roundw; case rel => exact ⟨k + 1, by omega, by go_num, by rw [hrl.out]; go_num, (by repeat (first | exact Ext.refl _ | assumption | refine Ext.drew ?_ | refine Ext.drewN ?_ _ | refine Ext.alloc ?_ _ | refine Ext.trans ?_ (by assumption)))⟩; case measure => exact (by simp [intOf]; omega)))
              · have hkn : k = en := by omega
                subst hkn
                have hrl : Hid ((((attL es i ++ attE i efs k).filterMap bad).length : Nat) = ((attL es (i + 1)).filterMap bad).length) := Lib.hid (by rw [hsuc.out, hefl.out])
                go_wp2_with fail
                rw [hrl.out]
                (first | exact ⟨⟨i + 1, by omega, by go_num, rfl, hx⟩, (by simp [intOf]; omega)⟩ | (go_roundw; case rel => exact ⟨i + 1, by omega, by go_num, rfl, hx⟩; case measure => exact (by simp [intOf]; omega)))
          · have hin2 : i = np := by omega
            subst hin2
            have hwe := hwk _ (hX4.trans hx)
            rw [hn7.out]
            go_wp2_with fail
            refine hwe.mono ?_
            rintro e w5 ⟨rfl, hx5⟩
            go_wp2_with fail
            go_ret
            exact ⟨rfl, (hX4.trans hx).trans hx5⟩
      · have hn7 := h1.out he0
        subst hn7
        have he1 : Hid (¬ err = 0) := Lib.hid he0
        have hw4 := hwk _ hX4
        clear h1 h2
        go_wp2_with fail
        refine hw4.mono ?_
        rintro e w5 ⟨rfl, hx5⟩
        clear hw4
        go_wp2_with fail
        go_ret
        exact ⟨rfl, hX4.trans hx5⟩
    · have hw2 := hwk _ hX2
      by_cases h7 : ne ≤ 6
      · have g1 : ¬ (6 : Int) < (ne : Int) := by omega
        have g2 : (6 : Int) < (np : Int) := by omega
        go_wp2_with fail
        refine hw2.mono ?_
        rintro e w3 ⟨rfl, hx3⟩
        clear hw2
        go_wp2_with fail
        go_ret
        exact ⟨rfl, hX2.trans hx3⟩
      · have g1 : (6 : Int) < (ne : Int) := by omega
        go_wp2_with fail
        refine hw2.mono ?_
        rintro e w3 ⟨rfl, hx3⟩
        clear hw2
        go_wp2_with fail
        go_ret
        exact ⟨rfl, hX2.trans hx3⟩
end Go.Proofs.YtadncjpknckaaaaGreatDoor
