/-
  history.Check.
-/
import Derived.Test.YtadncjpknckaaaaGreatDoorA33
import Derived.Test.YtadncjpknckaaaaGreatDoorA34
import Derived.Test.YtadncjpknckaaaaGreatDoorA30
namespace Go.Proofs.YtadncjpknckaaaaGreatDoor
open Go.RowKit Go.Shelf Go.Maps
attribute [local go_sem] Oper.semAt_some
/-- A history in order, but for the names of its laws. -/
def histB (h : HH) : Bool := treeB h.ts && (lawsOkB h.ls && (decide (h.pn = h.tn) && listsB h))
/-- An error; if there is none, the history is in order; without laws, that is all. -/
def RetHC (h : HH) (w : World) (e : Ending) (w' : World) : Prop := ∃ err : Int, e = .returned (.int .i64 err) ∧ Hid (err = 0 → histB h = true) ∧ Hid (h.ls = [] → histB h = true → err = 0) ∧ Ext w w'
theorem wpl_store_law {ops : Array Oper} {rest : List Oper} {o : Oper} {a : Act} {W : World} {Q : Exit → Act → World → Prop} (L : HL) (hgd : o.guard = none) (x y : Operand) (ho : o.op = .store 58 x y) (hx : a.eval x = .pointer (some ⟨W.heap.size, 0, none⟩)) (hy : a.eval y = lawV L) (old : Array Value) (hold : old.size = 18)
    (h : wpList Tryz.prog ops Q rest (a.put o.dst undef) (W.alloc (.cells #[.string L.name, .int .i64 L.left.kind, .int .u32 L.left.is.p.toNat, .int .u32 L.left.is.m.toNat, .bool L.left.neg, .int .i64 L.left.mn, .int .i64 L.left.mx, .slice L.left.a L.left.n L.left.cap, .int .i64 L.right.kind, .int .u32 L.right.is.p.toNat, .int .u32 L.right.is.m.toNat, .bool L.right.neg, .int .i64 L.right.mn, .int .i64 L.right.mx, .slice L.right.a L.right.n L.right.cap, .slice L.ia L.ifs.length L.icap, .slice L.oa L.outs.length L.ocap, .int .i64 L.mode] 58))) : wpList Tryz.prog ops Q (o :: rest) a (W.alloc (.cells old 58)) :=
  wpList_plain hgd fun _ hK => wp_store_law_new L x y ho hx hy old hold (hK _ _ h)
theorem hist_no (h : HH) (w w' : World) (err : Int) (h0 : err ≠ 0) (hb : histB h = false) (hx : Ext w w') : RetHC h w (.returned (.int .i64 err)) w' :=
  ⟨err, rfl, Lib.hid (fun e => absurd e h0), Lib.hid (fun _ hh => by rw [hb] at hh; cases hh), hx⟩
theorem zeroInt (w : World) : (zeroValue 3).run Tryz.prog w = .ok (.int .i64 0) w := by kernel_rfl
set_option maxHeartbeats 2000000 in
set_option maxRecDepth 20000 in
theorem hcheck_any (h : HH) (w : World) (hr : RdH w h) (hsm : ∀ p ∈ h.ps, p.n ≤ 4) : Calls Tryz.prog 21 #[h.v] w (RetHC h w) := by
  have hno := fun w' err h0 hb hx => hist_no h w w' err h0 hb hx
  have hli := fun w' (hx : Ext w w') h1 h2 h3 => lists_any h w' (hr.ext hx) h1 h2 h3 hsm
  have hB : histB h = (treeB h.ts && (lawsOkB h.ls && (decide (h.pn = h.tn) && listsB h))) := rfl
  obtain ⟨ta, tn, tc, ts, la, ln, lc, ls, pa, pn, pc, ps⟩ := h
  obtain ⟨ht, hl, hp⟩ := hr
  simp only at hsm ht hl hp hli hB
  have hck := treeck_any ta tn tc ts
  have hmm := @run_makeMap Tryz.prog
  have hlen := hl.rd.len
  have hxw := Ext.alloc1 w (.cells #[.slice ta tn tc, .slice la ln lc, .slice pa pn pc] 26)
  have hB0 : (w.alloc (.cells #[.slice ta tn tc, .slice la ln lc, .slice pa pn pc] 26)).heap[w.heap.size]? = some (.cells #[.slice ta tn tc, .slice la ln lc, .slice pa pn pc] 26) := World.alloc_heap_new w _
  replace hno := Lib.hid hno
  replace hli := Lib.hid hli
  cases htb : treeB ts
  · have hbad : Hid (histB ⟨ta, tn, tc, ts, la, ln, lc, ls, pa, pn, pc, ps⟩ = false) := Lib.hid (by rw [hB, htb]; rfl)
    have he : treeE ts = 16 := by unfold treeE; rw [htb]; rfl
    rw [he] at hck
    replace htb := Lib.hid htb
    go_enter Tryz.func21, Tryz.ntmps21
    go_wp2_with fail
    refine (hck _ (ht.ext hxw)).mono ?_
    rintro e w1 ⟨rfl, hx1⟩
    clear hck
    go_wp2_with fail
    go_ret
    exact hno.out _ _ (by decide) hbad.out (hxw.trans hx1)
  · have he : treeE ts = 0 := by unfold treeE; rw [htb]; rfl
    rw [he] at hck
    replace he := Lib.hid he
    by_cases h64 : 64 < ln
    · have hbad : Hid (histB ⟨ta, tn, tc, ts, la, ln, lc, ls, pa, pn, pc, ps⟩ = false) := Lib.hid (by
        rw [hB]
        have : lawsOkB ls = false := by unfold lawsOkB; rw [decide_eq_false (by omega)]; rfl
        rw [this]; simp)
      have hd : (64 : Int) < (ln : Int) := by omega
      replace htb := Lib.hid htb
      go_enter Tryz.func21, Tryz.ntmps21
      go_wp2_with fail
      refine (hck _ (ht.ext hxw)).mono ?_
      rintro e w1 ⟨rfl, hx1⟩
      have hb1 := blk_kept hB0 hx1
      have c1 : w1.cell? ⟨w.heap.size, 1, none⟩ = some (.slice la ln lc) := by simp [World.cell?, hb1]
      clear hck hb1
      go_wp2_with fail
      go_ret
      exact hno.out _ _ (by decide) hbad.out (hxw.trans hx1)
    · have hd : ¬ (64 : Int) < (ln : Int) := by omega
      replace htb := Lib.hid htb
      go_enter Tryz.func21, Tryz.ntmps21
      go_wp2_with fail
      refine (hck _ (ht.ext hxw)).mono ?_
      rintro e w1 ⟨rfl, hx1⟩
      have hb1 := blk_kept hB0 hx1
      have c1 : w1.cell? ⟨w.heap.size, 1, none⟩ = some (.slice la ln lc) := by simp [World.cell?, hb1]
      have hxA := hxw.trans hx1
      clear hck
      have c2 := (Ext.alloc1 w1 (.map #[] 0)).cellv c1
      have hmk0 := MapV.made w1 Tryz.prog 9 klB
      go_wp2_with fail
      clear c1 c2
      go_loopw [18] (fun i wr => ∃ (k : Nat) (f : List UInt8 → Option Value), k ≤ ln ∧ i = .int .i64 k ∧ Ext w1 wr ∧ MapV Tryz.prog 9 klB wr w1.heap.size k f ∧ Hid (∀ y v, f y = some v → ∃ c : Int, v = .int .i64 c) ∧ Hid (∀ (i : Nat) (L : HL), i < k → ls[i]? = some L → lawOkB L = true)) (fun i _ => ln - (intOf i).toNat)
      case atStart => exact ⟨0, _, Nat.zero_le _, rfl, Ext.alloc1 _ _, hmk0, Lib.hid (fun y v h => by cases h), Lib.hid fun i L hi => absurd hi (Nat.not_lt_zero _)⟩
      case round =>
        obtain ⟨k, f, hk, rfl, hx, hm, hfi, hall⟩ := hrel
        have hxr := hxA.trans hx
        by_cases hlt : k < ln
        · obtain ⟨b, off, L, rfl, hs, hb, hrow, hL⟩ := (hl.ext hxr).at hlt
          have hlc := lcheck_any L
          cases hok : lawOkB L
          · have hle : lawE L = 17 := by unfold lawE; rw [hok]; rfl
            have hbad : Hid (histB ⟨ta, tn, tc, ts, some ⟨b, off, none⟩, ln, lc, ls, pa, pn, pc, ps⟩ = false) := Lib.hid (by
              rw [hB]
              have : lawsOkB ls = false := by
                unfold lawsOkB
                rw [show ls.all lawOkB = false from by rw [List.all_eq_false]; exact ⟨L, List.mem_of_getElem? hs.out, by rw [hok]; simp⟩, Bool.and_false]
              rw [this]; simp)
            rw [hle] at hlc
            replace hok := Lib.hid hok
            go_wp2_with (first
              | (refine load_law L rfl _ rfl b _ rfl hrow ?_)
              | (refine wpl_store_law L rfl _ _ rfl rfl rfl _ rfl ?_))
            refine (hlc _ (hL.ext (Ext.alloc1 _ _))).mono ?_
            rintro e w2 ⟨rfl, hx2⟩
            clear hlc
            go_wp2_with fail
            go_ret
            exact hno.out _ _ (by decide) hbad.out (hxr.trans ((Ext.alloc1 _ _).trans hx2))
          · have hle : lawE L = 0 := by unfold lawE; rw [hok]; rfl
            have hsz : L.name.size ≤ maxLen := by
              have h2 := hok
              simp only [lawOkB, nameB, Bool.and_eq_true, decide_eq_true_eq] at h2
              have := h2.1.2.1
              unfold maxLen; omega
            have hkey : keyOf Tryz.prog 9 (.string L.name) = some (klB L.name.data.toList) := WideMaps.keyOf_string_mk Tryz.underlying9 hsz
            obtain ⟨c, hc⟩ : ∃ c : Int, (f L.name.data.toList).getD (.int .i64 0) = .int .i64 c := by
              cases hf : f L.name.data.toList with
              | none => exact ⟨0, rfl⟩
              | some v => exact hfi.out _ v hf
            have hnew : Hid (∀ (i : Nat) (L : HL), i < k + 1 → ls[i]? = some L → lawOkB L = true) := Lib.hid fun i z hi hz => by
              rcases Nat.lt_or_ge i k with h | h
              · exact hall.out i z h hz
              · obtain rfl : i = k := by omega
                rw [hs.out] at hz; cases hz; exact hok
            rw [hle] at hlc
            replace hok := Lib.hid hok
            replace hkey := Lib.hid hkey
            replace hc := Lib.hid hc
            go_wp2_with (first
              | (refine load_law L rfl _ rfl b _ rfl hrow ?_)
              | (refine wpl_store_law L rfl _ _ rfl rfl rfl _ rfl ?_))
            refine (hlc _ (hL.ext (Ext.alloc1 _ _))).mono ?_
            rintro e w2 ⟨rfl, hx2⟩
            clear hlc
            have cb := (LawB.ext (LawB.new wr L) hx2).c.1
            have hm2 := (hm.kept (Ext.alloc1 wr (.cells #[.string L.name, .int .i64 L.left.kind, .int .u32 L.left.is.p.toNat, .int .u32 L.left.is.m.toNat, .bool L.left.neg, .int .i64 L.left.mn, .int .i64 L.left.mx, .slice L.left.a L.left.n L.left.cap, .int .i64 L.right.kind, .int .u32 L.right.is.p.toNat, .int .u32 L.right.is.m.toNat, .bool L.right.neg, .int .i64 L.right.mn, .int .i64 L.right.mx, .slice L.right.a L.right.n L.right.cap, .slice L.ia L.ifs.length L.icap, .slice L.oa L.outs.length L.ocap, .int .i64 L.mode] 58))).kept hx2
            have hx12 : Ext w1 w2 := hx.trans ((Ext.alloc1 _ _).trans hx2)
            clear hx2
            go_wp2_with (first
              | (at_lookup; refine wpV_look rfl _ _ 104 rfl 9 3 seen_key Tryz.underlying104 (zeroInt _) rfl hm2 _ _ rfl hkey.out _ hc.out ?_)
              | (at_mapUpdate; refine wpV_store rfl _ _ _ 104 rfl 9 3 seen_key Tryz.underlying104 klB_inj klB_lit rfl hm2 (by unfold maxLen; omega) _ (.int .i64 (wrap64 (c + 1))) _ rfl rfl hkey.out ?_; intro w3 hm3 hg3))
            have hx13 : Ext w1 w3 := hx12.grown hg3 (fun r e => by cases e; exact Nat.le_refl _)
            have hfn : Hid (∀ y v, (if y = L.name.data.toList then some (Value.int .i64 (wrap64 (c + 1))) else f y) = some v → ∃ c : Int, v = .int .i64 c) := Lib.hid (fun y v h => by
              by_cases e : y = L.name.data.toList
              · rw [if_pos e] at h; exact ⟨_, (Option.some.inj h).symm⟩
              · rw [if_neg e] at h; exact hfi.out y v h)
            (first | exact ⟨⟨k + 1, _, by omega, by go_num, hx13, hm3, hfn, hnew⟩, (by simp [intOf]; omega)⟩ | (go_roundw; case rel => exact ⟨k + 1, _, by omega, by go_num, hx13, hm3, hfn, hnew⟩; case measure => exact (by simp [intOf]; omega)))
        · have hb2 := blk_kept hb1 hx
          have c0 : wr.cell? ⟨w.heap.size, 0, none⟩ = some (.slice ta tn tc) := by simp [World.cell?, hb2]
          have c1 : wr.cell? ⟨w.heap.size, 1, none⟩ = some (.slice la ln lc) := by simp [World.cell?, hb2]
          have c2 : wr.cell? ⟨w.heap.size, 2, none⟩ = some (.slice pa pn pc) := by simp [World.cell?, hb2]
          have hlw : Hid (lawsOkB ls = true) := Lib.hid (by
            unfold lawsOkB
            rw [decide_eq_true (by omega), Bool.true_and, List.all_eq_true]
            intro L hL
            obtain ⟨i, hi⟩ := List.mem_iff_getElem?.1 hL
            have := (List.getElem?_eq_some_iff.1 hi).1
            exact hall.out i L (by omega) hi)
          by_cases hpt : pn = tn
          · subst hpt
            go_wp2_with (at_len; refine wpV_len rfl _ 104 rfl 9 3 Tryz.underlying104 rfl hm ?_; intro c hc)
            · have hcl : c < ln := by assumption
              go_ret
              exact ⟨6, rfl, Lib.hid (fun h => by cases h), Lib.hid (fun h _ => by subst h; rw [List.length_nil] at hlen; omega), hxr⟩
            · refine (hli.out wr hxr trivial htb.out (by omega)).mono ?_
              rintro e w3 ⟨err, rfl, herr, hx3⟩
              go_wp2_with fail
              go_ret
              have hBB : histB ⟨ta, pn, tc, ts, la, ln, lc, ls, pa, pn, pc, ps⟩ = listsB ⟨ta, pn, tc, ts, la, ln, lc, ls, pa, pn, pc, ps⟩ := by
                rw [hB, htb.out, hlw.out]; simp
              exact ⟨err, rfl, Lib.hid (fun h => by rw [hBB]; exact herr.out.1 h), Lib.hid (fun _ h => herr.out.2 (by rw [← hBB]; exact h)), hxr.trans hx3⟩
          · have hpt' : ¬ ((pn : Int) = (tn : Int)) := by omega
            have hbad : Hid (histB ⟨ta, tn, tc, ts, la, ln, lc, ls, pa, pn, pc, ps⟩ = false) := Lib.hid (by
              rw [hB, decide_eq_false hpt]; simp)
            replace hpt := Lib.hid hpt
            go_wp2_with (at_len; refine wpV_len rfl _ 104 rfl 9 3 Tryz.underlying104 rfl hm ?_; intro c hc)
            · go_ret
              exact hno.out _ _ (by decide) hbad.out hxr
            · go_ret
              exact hno.out _ _ (by decide) hbad.out hxr
end Go.Proofs.YtadncjpknckaaaaGreatDoor
