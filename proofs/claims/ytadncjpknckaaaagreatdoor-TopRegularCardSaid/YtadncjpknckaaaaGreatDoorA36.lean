/-
  attest.Check.
  attest.deriver.
-/
import Derived.Test.YtadncjpknckaaaaGreatDoorA35
import Derived.Test.YtadncjpknckaaaaGreatDoorA32
import Derived.Test.YtadncjpknckaaaaGreatDoorA31
namespace Go.Proofs.YtadncjpknckaaaaGreatDoor
open Go.RowKit Go.Shelf Go.Maps
/-- History, words and word list fit together (but for the names of the laws). -/
def attB (h : HH) (ps : List Fm) (es : List En) : Bool := histB h && (decide (es.length ≤ 256) && (decide (ps.length = es.length) && (!(ps.any fun y => badF y) && (entB (leavesR h.ts).length es && ((ps.all fun f => wordOk f.ws) && es.all fun x => x.fs.all fun f => wordOk f.ws)))))
def RetAC (h : HH) (ps : List Fm) (es : List En) (w : World) (e : Ending) (w' : World) : Prop := ∃ err : Int, e = .returned (.int .i64 err) ∧ Hid (err = 0 → attB h ps es = true) ∧ Hid (h.ls = [] → attB h ps es = true → err = 0) ∧ Ext w w'
theorem att_no (h : HH) (ps : List Fm) (es : List En) (w w' : World) (err : Int) (h0 : err ≠ 0) (hb : attB h ps es = false) (hx : Ext w w') : RetAC h ps es w (.returned (.int .i64 err)) w' :=
  ⟨err, rfl, Lib.hid (fun e => absurd e h0), Lib.hid (fun _ hh => by rw [hb] at hh; cases hh), hx⟩
theorem att_hist {h : HH} {ps : List Fm} {es : List En} (hb : attB h ps es = true) : histB h = true := by
  simp only [attB, Bool.and_eq_true] at hb; exact hb.1
set_option maxHeartbeats 2000000 in
set_option maxRecDepth 20000 in
theorem acheck_any (h : HH) (ap : Option Addr) (np cp : Nat) (ps : List Fm) (ae : Option Addr) (ne ce : Nat) (es : List En) (w : World) (hr : RdH w h) (hsm : ∀ p ∈ h.ps, p.n ≤ 4) (hps : RdFs w ap np cp ps) (hes : RdEs w ae ne ce es) :
    Calls Tryz.prog 12 #[h.v, .slice ap np cp, .slice ae ne ce] w (RetAC h ps es w) := by
  have hno := fun w' err h0 hb hx => att_no h ps es w w' err h0 hb hx
  have hhc := fun w' (hx : Ext w w') => hcheck_any h w' (hr.ext hx) hsm
  have hB : attB h ps es = (histB h && (decide (es.length ≤ 256) && (decide (ps.length = es.length) && (!(ps.any fun y => badF y) && (entB (leavesR h.ts).length es && ((ps.all fun f => wordOk f.ws) && es.all fun x => x.fs.all fun f => wordOk f.ws)))))) := rfl
  have hh : attB h ps es = true → histB h = true := att_hist
  have htr : histB h = true → treeB h.ts = true := fun hb => by simp only [histB, Bool.and_eq_true] at hb; exact hb.1
  have hlv := fun w' (hx : Ext w w') (hb : histB h = true) => RetIE.rd (tleaves_any h.ta h.tn h.tc h.ts w' (hr.tree.ext hx)) (treeE_zero (htr hb))
  have hpl := hps.rd.len
  have hel := hes.rd.len
  have hfin : ∀ w' err, Ext w w' → (err = 0 → attB h ps es = true) → (h.ls = [] → attB h ps es = true → err = 0) → RetAC h ps es w (.returned (.int .i64 err)) w' := fun w' err hx h1 h2 => ⟨err, rfl, Lib.hid h1, Lib.hid h2, hx⟩
  obtain ⟨A, hA⟩ : ∃ A, attB h ps es = A := ⟨_, rfl⟩
  rw [hA] at hno hB hh hfin
  replace hno : ∀ w' err, err ≠ 0 → A = false → Ext w w' → RetAC h ps es w (.returned (.int .i64 err)) w' := fun w' err h0 h1 hx => att_no h ps es w w' err h0 (hA.trans h1) hx
  replace hA := Lib.hid hA
  obtain ⟨ta, tn, tc, ts, la, ln, lc, ls, pa, pn, pc, pss⟩ := h
  simp only at hhc hlv hB hfin
  have hxw := Ext.alloc1 w (.cells #[.slice ta tn tc, .slice la ln lc, .slice pa pn pc] 26)
  have hB0 : (w.alloc (.cells #[.slice ta tn tc, .slice la ln lc, .slice pa pn pc] 26)).heap[w.heap.size]? = some (.cells #[.slice ta tn tc, .slice la ln lc, .slice pa pn pc] 26) := World.alloc_heap_new w _
  have hc := hhc _ hxw
  generalize hHB : histB ⟨ta, tn, tc, ts, la, ln, lc, ls, pa, pn, pc, pss⟩ = H at *
  replace hno := Lib.hid hno
  replace hB := Lib.hid hB
  replace hlv := Lib.hid hlv
  replace hfin := Lib.hid hfin
  replace hpl := Lib.hid hpl
  replace hel := Lib.hid hel
  replace hh := Lib.hid hh
  replace hHB := Lib.hid hHB
  clear hhc htr
  go_enter Tryz.func12, Tryz.ntmps12
  go_wp2_with fail
  refine hc.mono ?_
  rintro e w1 ⟨err, rfl, h1, h2, hx1⟩
  have hxA := hxw.trans hx1
  clear hc
  replace h1 : Hid (err = 0 → H = true) := Lib.hid (by rw [← hHB.out]; exact h1.out)
  replace h2 : Hid (ls = [] → H = true → err = 0) := Lib.hid (by rw [← hHB.out]; exact h2.out)
  by_cases he0 : err = 0
  · subst he0
    have hHt := h1.out rfl
    have hlf := hlv.out w1 hxA hHt
    have hb1 := blk_kept hB0 hx1
    have c0 : w1.cell? ⟨w.heap.size, 0, none⟩ = some (.slice ta tn tc) := by simp [World.cell?, hb1]
    rw [hHt, Bool.true_and] at hB
    generalize leavesR ts = lv at *
    replace hHt := Lib.hid hHt
    clear hb1 h1 h2 hh hlv hB0 hHB
    go_wp2_with fail
    refine hlf.mono ?_
    rintro e w2 ⟨a2, n2, c2, hn2, rfl, hr2, hx2⟩
    have hx02 := hxA.trans hx2
    clear hlf hr2 c0
    rw [← hn2] at hB
    clear hn2
    by_cases h256 : 256 < ne
    · have hd : (256 : Int) < (ne : Int) := by omega
      have hbad : Hid (A = false) := Lib.hid (by rw [hB.out, decide_eq_false (by have := hel.out; omega)]; rfl)
      go_wp2_with fail
      go_ret
      exact hno.out _ _ (by decide) hbad.out hx02
    · have hd : ¬ (256 : Int) < (ne : Int) := by omega
      rw [show decide (es.length ≤ 256) = true from decide_eq_true (by have := hel.out; omega), Bool.true_and] at hB
      by_cases hpe : np = ne
      · subst hpe
        rw [show decide (ps.length = es.length) = true from decide_eq_true (by have := hel.out; have := hpl.out; omega), Bool.true_and] at hB
        have hemp := empty_any ap np cp ps w2 (hps.ext hx02)
        cases hbf : (!ps.any fun y => badF y)
        · have hbad : Hid (A = false) := Lib.hid (by rw [hB.out, hbf]; rfl)
          rw [hbf] at hemp
          replace hbf := Lib.hid hbf
          go_wp2_with fail
          refine hemp.mono ?_
          rintro e w3 ⟨rfl, hx3⟩
          clear hemp
          go_wp2_with fail
          go_ret
          exact hno.out _ _ (by decide) hbad.out (hx02.trans hx3)
        · rw [hbf, Bool.true_and] at hB
          rw [hbf] at hemp
          replace hbf := Lib.hid hbf
          go_wp2_with fail
          refine hemp.mono ?_
          rintro e w3 ⟨rfl, hx3⟩
          have hx03 := hx02.trans hx3
          clear hemp
          have hent := entries_any ae np ce es n2 w3 (hes.ext hx03)
          go_wp2_with fail
          refine hent.mono ?_
          rintro e w4 ⟨err, rfl, he4, hx4⟩
          have hx04 := hx03.trans hx4
          clear hent
          by_cases h40 : err = 0
          · subst h40
            rw [he4.out.1 rfl, Bool.true_and] at hB
            clear he4
            have hwd := words_any ap np cp ps w4 (hps.ext hx04)
            go_wp2_with fail
            refine hwd.mono ?_
            rintro e w5 ⟨err, rfl, he5, hx5⟩
            have hx05 := hx04.trans hx5
            clear hwd
            by_cases h50 : err = 0
            · subst h50
              rw [he5.out.1 rfl, Bool.true_and] at hB
              clear he5
              go_wp2_with fail
              go_loopw [55] (fun i wr => ∃ k : Nat, k ≤ np ∧ i = .int .i64 k ∧ Ext w wr ∧ Hid (∀ (i : Nat) (y : En), i < k → es[i]? = some y → (y.fs.all fun f => wordOk f.ws) = true)) (fun i _ => np - (intOf i).toNat)
              case atStart => exact ⟨0, Nat.zero_le _, rfl, hx05, Lib.hid fun i x hi => absurd hi (Nat.not_lt_zero _)⟩
              case round =>
                obtain ⟨k, hk, rfl, hx, hall⟩ := hrel
                by_cases hlt : k < np
                · obtain ⟨b, off, y, rfl, hs, hb, d0, d1, hy, hyn⟩ := (hes.ext hx).en hlt
                  have hwd := words_any y.a y.n y.cap y.fs
                  have hy2 : RdFs (wr.alloc (.cells #[.string y.name, .slice y.a y.n y.cap] 39)) y.a y.n y.cap y.fs := hy.ext (Ext.alloc1 _ _)
                  go_wp2_with fail
                  refine (hwd _ hy2).mono ?_
                  rintro e w6 ⟨err, rfl, he6, hx6⟩
                  have hx06 : Ext w w6 := hx.trans ((Ext.alloc1 _ _).trans hx6)
                  clear hwd hy2
                  by_cases h60 : err = 0
                  · subst h60
                    have hok := he6.out.1 rfl
                    have hnew : Hid (∀ (i : Nat) (z : En), i < k + 1 → es[i]? = some z → (z.fs.all fun f => wordOk f.ws) = true) := Lib.hid fun i z hi hz => by
                      rcases Nat.lt_or_ge i k with h | h
                      · exact hall.out i z h hz
                      · obtain rfl : i = k := by omega
                        rw [hs.out] at hz; cases hz; exact hok
                    replace hok := Lib.hid hok
                    clear he6
                    go_wp2_with fail
                    (first | exact ⟨⟨k + 1, by omega, by go_num, hx06, hnew⟩, (by simp [intOf]; omega)⟩ | (go_roundw; case rel => exact ⟨k + 1, by omega, by go_num, hx06, hnew⟩; case measure => exact (by simp [intOf]; omega)))
                  · have h61 : Hid (¬ err = 0) := Lib.hid h60
                    have hbad : Hid (A = false) := Lib.hid (by
                      rw [hB.out, List.all_eq_false]
                      exact ⟨y, List.mem_of_getElem? hs.out, fun h => h60 (he6.out.2 h)⟩)
                    go_wp2_with fail
                    go_ret
                    exact hno.out _ _ h61.out hbad.out hx06
                · have hAt : Hid (A = true) := Lib.hid (by
                    rw [hB.out, List.all_eq_true]
                    intro f hf
                    obtain ⟨i, hi⟩ := List.mem_iff_getElem?.1 hf
                    have := (List.getElem?_eq_some_iff.1 hi).1
                    have := hel.out
                    exact hall.out i f (by omega) hi)
                  go_wp2_with fail
                  go_ret
                  exact hfin.out _ _ hx (fun _ => hAt.out) (fun _ _ => rfl)
            · have h51 : Hid (¬ err = 0) := Lib.hid h50
              have hbad : Hid (A = false) := Lib.hid (by
                cases hz : (ps.all fun f => wordOk f.ws)
                · rw [hB.out, hz]; rfl
                · exact absurd (he5.out.2 hz) h50)
              go_wp2_with fail
              go_ret
              exact hno.out _ _ h51.out hbad.out hx05
          · have h41 : Hid (¬ err = 0) := Lib.hid h40
            have hbad : Hid (A = false) := Lib.hid (by
              cases hz : entB n2 es
              · rw [hB.out, hz]; rfl
              · exact absurd (he4.out.2 hz) h40)
            go_wp2_with fail
            go_ret
            exact hno.out _ _ h41.out hbad.out hx04
      · have hd2 : ¬ ((np : Int) = (ne : Int)) := by omega
        have hbad : Hid (A = false) := Lib.hid (by rw [hB.out, decide_eq_false (by have := hel.out; have := hpl.out; omega)]; rfl)
        replace hpe := Lib.hid hpe
        go_wp2_with fail
        go_ret
        exact hno.out _ _ (by decide) hbad.out hx02
  · have h3 := h2.out
    replace h1 := Lib.hid h1
    replace h2 := Lib.hid h3
    clear h3
    have he1 : Hid (¬ err = 0) := Lib.hid he0
    go_wp2_with fail
    go_ret
    exact hfin.out _ _ hxA (fun h => absurd h he1.out) (fun h3 h4 => h2.out h3 (hh.out h4))
end Go.Proofs.YtadncjpknckaaaaGreatDoor
namespace Go.Proofs.YtadncjpknckaaaaGreatDoor
open Go.RowKit Go.Shelf Go.Maps
/-! ### The laws on the way to a node -/
def lawsAt (ls : List HL) (ps : List Pl) (u : Int) : List HL := match ps[u.toNat]? with
  | some p => p.xs.filterMap fun x => ls[x.toNat]?
  | none => []
def lineTo (ls : List HL) (ps : List Pl) (us : List Int) : List HL := us.flatMap (lawsAt ls ps)
def lineL (ls : List HL) (ps : List Pl) (ts : List Nd) (v : Nat) : List HL := lineTo ls ps (downL ts v)
theorem lawsAt_len {ls : List HL} {ps : List Pl} {ln : Nat} (hl : ls.length = ln) (hin : ∀ p ∈ ps, ∀ x ∈ p.xs, 0 ≤ x ∧ x < ln) (u : Int) : (lawsAt ls ps u).length = ((ps[u.toNat]?).map fun p => p.xs.length).getD 0 := by
  unfold lawsAt
  cases h : ps[u.toNat]? with
  | none => rfl
  | some p =>
    simp only [Option.map_some, Option.getD_some]
    have hp := List.mem_of_getElem? h
    have key : ∀ xs : List Int, (∀ x ∈ xs, 0 ≤ x ∧ x < ln) → (xs.filterMap fun x => ls[x.toNat]?).length = xs.length := fun xs hx => by
      induction xs with
      | nil => rfl
      | cons x xs ih =>
        have := hx x (by simp)
        have hs : ls[x.toNat]? = some ls[x.toNat] := List.getElem?_eq_getElem (by omega)
        rw [List.filterMap_cons, hs, List.length_cons, List.length_cons, ih fun y hy => hx y (by simp [hy])]
    exact key _ (hin p hp)
theorem path_sum {ls : List HL} {ps : List Pl} {ts : List Nd} {ln : Nat} (hl : ls.length = ln) (hin : ∀ p ∈ ps, ∀ x ∈ p.xs, 0 ≤ x ∧ x < ln) : ∀ (f : Nat) (x : Int), (((pathF ts f x).map fun u : Nat => (u : Int)).flatMap (lawsAt ls ps)).length = wayN ts ps f x
  | 0, x => rfl
  | f + 1, x => by
    unfold pathF wayN
    by_cases h : x < 0
    · rw [if_pos h, if_pos h]; rfl
    · rw [if_neg h, if_neg h, List.map_cons, List.flatMap_cons, List.length_append, path_sum hl hin f, lawsAt_len hl hin]
      rw [Int.toNat_natCast]
theorem lineL_len {ls : List HL} {ps : List Pl} {ts : List Nd} {ln : Nat} (hl : ls.length = ln) (hin : ∀ p ∈ ps, ∀ x ∈ p.xs, 0 ≤ x ∧ x < ln) (v : Nat) : (lineL ls ps ts v).length = wayN ts ps (v + 1) (v : Int) := by
  rw [← path_sum hl hin]
  unfold lineL lineTo downL pathL
  exact ((List.reverse_perm _).flatMap_right _).length_eq
theorem lineTo_mem {ls : List HL} {ps : List Pl} {us : List Int} {L : HL} (h : L ∈ lineTo ls ps us) : L ∈ ls := by
  obtain ⟨u, _, hu⟩ := List.mem_flatMap.1 h
  unfold lawsAt at hu
  split at hu
  · obtain ⟨x, _, hx⟩ := List.mem_filterMap.1 hu
    exact List.mem_of_getElem? hx
  · cases hu
theorem line_ok {ls : List HL} {ps : List Pl} {ts : List Nd} {ln : Nat} (hl : ls.length = ln) (hok : lawsOkB ls = true) (hin : ∀ p ∈ ps, ∀ x ∈ p.xs, 0 ≤ x ∧ x < ln) {v : Nat} (hw : wayN ts ps (v + 1) (v : Int) ≤ 64) : lawsOkB (lineL ls ps ts v) = true := by
  unfold lawsOkB at hok ⊢
  rw [Bool.and_eq_true] at hok ⊢
  refine ⟨decide_eq_true (by rw [lineL_len hl hin]; exact hw), ?_⟩
  rw [List.all_eq_true]
  exact fun L hL => List.all_eq_true.1 hok.2 L (lineTo_mem hL)
theorem lineTo_succ {ls : List HL} {ps : List Pl} {us : List Int} {i : Nat} {u : Int} (h : us[i]? = some u) : lineTo ls ps (us.take (i + 1)) = lineTo ls ps (us.take i) ++ lawsAt ls ps u := by
  unfold lineTo
  rw [List.take_add_one, h, List.flatMap_append]; simp
/-- .. within one node. -/
def atTo (ls : List HL) (xs : List Int) (j : Nat) : List HL := (xs.take j).filterMap fun x => ls[x.toNat]?
theorem atTo_succ {ls : List HL} {xs : List Int} {j : Nat} {x : Int} {L : HL} (h : xs[j]? = some x) (hL : ls[x.toNat]? = some L) : atTo ls xs (j + 1) = atTo ls xs j ++ [L] := by
  unfold atTo
  rw [List.take_add_one, h, List.filterMap_append]; simp [hL]
theorem atTo_all {ls : List HL} {ps : List Pl} {u : Nat} {p : Pl} (hp : ps[u]? = some p) {n : Nat} (hn : p.xs.length = n) : atTo ls p.xs n = lawsAt ls ps (u : Int) := by
  unfold atTo lawsAt
  rw [Int.toNat_natCast, hp, List.take_of_length_le (by omega)]
theorem lineTo_le {ls : List HL} {ps : List Pl} {us : List Int} (i : Nat) : (lineTo ls ps (us.take i)).length ≤ (lineTo ls ps us).length := by
  unfold lineTo
  conv => rhs; rw [← List.take_append_drop i us, List.flatMap_append, List.length_append]
  omega
/-! ### Rows of the call's own behind headers -/
structure FamK {α : Type} (k : Nat) (enc : α → List Value) (B : Nat) (eo ei : TypeId) (w : World) (G n : Nat) (hd : Nat → Value) (xs : Nat → List α) : Prop where
  base : B ≤ G
  blk : ∃ cur, w.heap[G]? = some (.cells cur eo (0, 0))
  head : ∀ v, v < n → w.cell? ⟨G, v, none⟩ = some (hd v)
  own : ∀ v, v < n → OwnK k enc B ei w (hd v) (xs v)
  apart : ∀ u v g, u < n → v < n → u ≠ v → (hd u).ownBlock = some g → (hd v).ownBlock ≠ some g
section
variable {α : Type} {k : Nat} {enc : α → List Value}
theorem FamK.lt {B eo ei : Nat} {w : World} {G n : Nat} {hd : Nat → Value} {xs : Nat → List α} (h : FamK k enc B eo ei w G n hd xs) : G < w.heap.size := let ⟨_, hc⟩ := h.blk; (Array.getElem?_eq_some_iff.1 hc).1
theorem FamK.free {B eo ei : Nat} {w : World} {G n : Nat} {hd : Nat → Value} {xs : Nat → List α} (h : FamK k enc B eo ei w G n hd xs) (i : Nat) : w.frozen? ⟨G, i, none⟩ = false := let ⟨cur, hc⟩ := h.blk; frozen_of_row w G i cur eo hc
theorem FamK.ext {B eo ei : Nat} {w w' : World} {G n : Nat} {hd : Nat → Value} {xs : Nat → List α} (h : FamK k enc B eo ei w G n hd xs) (hx : Ext w w') : FamK k enc B eo ei w' G n hd xs :=
  ⟨h.base, let ⟨cur, hc⟩ := h.blk; ⟨cur, (Below.block hx.bel G h.lt).trans hc⟩, fun v hv => by rw [hx.cell _ h.lt]; exact h.head v hv, fun v hv => (h.own v hv).kept hx, h.apart⟩
/-- A block of another type is turned. -/
theorem FamK.other {B eo ei : Nat} {w w' : World} {G n : Nat} {hd : Nat → Value} {xs : Nat → List α} {row : Option Nat} (h : FamK k enc B eo ei w G n hd xs) (hg : w.grownBy w' row) (hr : ∀ r, row = some r → ∀ cur e, w.heap[r]? = some (.cells cur e (0, 0)) → e ≠ eo ∧ e ≠ ei) : FamK k enc B eo ei w' G n hd xs := by
  obtain ⟨cur, hc⟩ := h.blk
  have hG : w'.heap[G]? = w.heap[G]? := hg.block G h.lt fun e => (hr G e.symm _ _ hc).1 rfl
  refine ⟨h.base, ⟨cur, hG.trans hc⟩, fun v hv => ?_, fun v hv => own_apart (h.own v hv) hg fun g e1 e2 => ?_, h.apart⟩
  · have := h.head v hv
    simp only [World.cell?, hc] at this
    simp only [World.cell?, hG, hc]; exact this
  · obtain ⟨c, h2⟩ := own_type (h.own v hv) e2
    exact (hr g e1 _ _ h2).2 rfl
theorem FamK.start {B eo ei : Nat} (w : World) (hB : B ≤ w.heap.size) (cs : Array Value) (n : Nat) (hcs : ∀ r, r < n → cs[r]? = some (.slice none 0 0)) : FamK k enc B eo ei (w.alloc (.cells cs eo)) w.heap.size n (fun _ => .slice none 0 0) (fun _ => []) := by
  have hnew : (w.alloc (.cells cs eo)).heap[w.heap.size]? = some (.cells cs eo (0, 0)) := by show (w.heap.push _)[w.heap.size]? = _; simp
  exact ⟨hB, ⟨_, hnew⟩, fun v hv => by simp only [World.cell?, hnew]; simpa using hcs v hv, fun v _ => OwnK.nil _ _ _, fun u v g _ _ _ h => by cases h⟩
/-- An append to one row, and its header stored. -/
theorem FamK.app {B eo ei : Nat} {w w5 : World} {G n : Nat} {hd : Nat → Value} {xs : Nat → List α} (h : FamK k enc B eo ei w G n hd xs) {p : Nat} (hp : p < n) {v' : Value} {x : α} (hne : ei ≠ eo) (ho : OwnK k enc B ei w5 v' (xs p ++ [x])) (hg : w.grownBy w5 (hd p).ownBlock) (hnew : ∀ g, v'.ownBlock = some g → (hd p).ownBlock = some g ∨ w.heap.size ≤ g) :
    FamK k enc B eo ei (w5.setCell ⟨G, p, none⟩ v') G n (fun v => if v = p then v' else hd v) (fun v => if v = p then xs p ++ [x] else xs v) ∧ w5.cell? ⟨G, p, none⟩ = some (hd p) ∧ w5.frozen? ⟨G, p, none⟩ = false := by
  obtain ⟨cur, hc⟩ := h.blk
  have hGrow : some G ≠ (hd p).ownBlock := fun e => by
    obtain ⟨c2, h2⟩ := OwnK.blk (h.own p hp) e.symm
    rw [hc] at h2; cases h2; exact hne rfl
  have hb5 : w5.heap[G]? = some (.cells cur eo (0, 0)) := (hg.block G h.lt hGrow).trans hc
  have hcell : ∀ v, v < n → w5.cell? ⟨G, v, none⟩ = some (hd v) := fun v hv => by
    have := h.head v hv
    simp only [World.cell?, hc] at this
    simp only [World.cell?, hb5]; exact this
  have hset : w5.grownBy (w5.setCell ⟨G, p, none⟩ v') (some G) := ⟨rfl, rfl, rfl, by simp, fun k hk hn => by
    have : k ≠ G := fun e => hn (by rw [e])
    show (w5.heap.modify G _)[k]? = _
    rw [Array.getElem?_modify, if_neg (Ne.symm this)]⟩
  have hblk2 : ∃ cur, (w5.setCell ⟨G, p, none⟩ v').heap[G]? = some (.cells cur eo (0, 0)) := by
    refine ⟨cur.setIfInBounds p v', ?_⟩
    show (w5.heap.modify G _)[G]? = _
    rw [Array.getElem?_modify, if_pos rfl, hb5]; rfl
  refine ⟨⟨h.base, hblk2, fun v hv => ?_, fun v hv => ?_, fun u v g hu hv hne2 e => ?_⟩, hcell p hp, frozen_of_row w5 G p cur eo hb5⟩
  · by_cases e : v = p
    · subst e; simp only [if_true]
      exact World.cell?_setCell_same' _ _ _ (by rw [hcell v hv]; rfl)
    · simp only [if_neg e]
      rw [cell_other (.inr (Ne.symm e))]; exact hcell v hv
  · by_cases e : v = p
    · subst e; simp only [if_true]
      exact OwnK.other ho hset (fun g hg2 => by cases hg2; exact ⟨cur, _, hb5⟩) hne
    · simp only [if_neg e]
      have h1 : OwnK k enc B ei w5 (hd v) (xs v) := World.ownsRow.kept (h.own v hv) hg (by
        cases hb : (hd v).ownBlock with
        | none => exact .inl rfl
        | some b => exact .inr fun e2 => h.apart p v b hp hv (Ne.symm e) e2.symm hb)
      exact OwnK.other h1 hset (fun g hg2 => by cases hg2; exact ⟨cur, _, hb5⟩) hne
  · have hltb : ∀ z, z < n → ∀ g, (hd z).ownBlock = some g → g < w.heap.size := fun z hz g hg2 => (World.ownsRow.lt (h.own z hz) g hg2).2
    by_cases e1 : u = p
    · subst e1
      simp only [if_true, if_neg (Ne.symm hne2)] at e ⊢
      intro e2
      rcases hnew g e with h1 | h1
      · exact h.apart u v g hu hv hne2 h1 e2
      · have := hltb v hv g e2; omega
    · by_cases e3 : v = p
      · subst e3
        simp only [if_true, if_neg e1] at e ⊢
        intro e2
        rcases hnew g e2 with h1 | h1
        · exact h.apart v u g hv hu (Ne.symm hne2) h1 e
        · have := hltb u hu g e; omega
      · simp only [if_neg e1, if_neg e3] at e ⊢
        exact h.apart u v g hu hv hne2 e
end
/-- append of one element, as an operation: and where the new row lies. -/
theorem oper_appW {α : Type} {k : Nat} {enc : α → List Value} {P : Program} {o : Oper} {a : Act} {Q : Exit → Act → World → Prop} {K : Act → World → Prop} (w00 w : World) (y : α) (s x : Operand) (t : TypeId)
    (ho : o.op = .call { callee := .builtin .append, args := #[s, x], argTypes := #[t, t] }) (e : TypeId) {z : Value} {bytes : Nat} (ht : P.underlying t = some (.slice e))
    (hinf : (P.info? e).map (fun i => (i.zero, i.size, i.bytes)) = some (some z, k, bytes)) (hzs : z.cells.size = k) (hk0 : 0 < k) (hk : ∀ x, (enc x).length = k) (h1 : ∀ u ∈ enc y, u.oneCell' = true) (hb : bytes ≤ 100000)
    (v : Value) (xs : List α) (hs : a.eval s = v) (hown : OwnK k enc w00.heap.size e w v xs) (hx0 : Ext w00 w) (ad : Addr) (hx : a.eval x = .slice (some ad) 1 1) (hrd : RdK k enc w (some ad) 1 1 [y]) (hN : xs.length ≤ 60000)
    (h : ∀ v' w', OwnK k enc w00.heap.size e w' v' (xs ++ [y]) → Ext w00 w' → w.grownBy w' v.ownBlock → (v'.ownBlock = v.ownBlock ∨ v'.ownBlock = some w.heap.size) → K (a.put o.dst v') w') :
    Oper.wp P o a w K Q := by
  obtain ⟨i, hi, hz0, hz1, hz2⟩ := info_parts hinf
  have h1' : ∀ u ∈ [y].flatMap enc, u.oneCell' = true := fun u hu => by
    obtain ⟨z, hzm, hz⟩ := List.mem_flatMap.1 hu
    rw [List.mem_singleton.1 hzm] at hz
    exact h1 u hz
  obtain ⟨v', w', hr, h2, h3, _, h5⟩ := run_append_own_at (P := P) (w := w) w00.heap.size t o.type e i z k bytes ht hi hz0 hz1 hz2 hzs hk0 v xs.length (xs.flatMap enc) hown ad 1 1 ([y].flatMap enc) (by simp [hk]) (hrd.cells hk hk0) h1' (by unfold maxLen; omega) (by
    have : (xs.length + 1) * bytes ≤ 60001 * 100000 := Nat.mul_le_mul (by omega) hb
    omega) hx0.le
  unfold Oper.wp execOp
  simp only [ho, resolve, invoke, builtin, Sem.run_bind, Sem.run_pure, Result.andThen_ok, List.map_toArray, List.map_cons, List.map_nil, hs, hx, hr]
  exact h v' w' (OwnK.of_row h2 (by simp) (by simp)) (Ext.grown hx0 h3 fun j hj => (World.ownsRow.lt hown j hj).1) h3 h5
abbrev zLaw : Value := .agg #[.string ⟨#[]⟩, .int .i64 0, .int .u32 0, .int .u32 0, .bool false, .int .i64 0, .int .i64 0, .slice none 0 0, .int .i64 0, .int .u32 0, .int .u32 0, .bool false, .int .i64 0, .int .i64 0, .slice none 0 0, .slice none 0 0, .slice none 0 0, .int .i64 0]
theorem info_lawT : (Tryz.prog.info? 58).map (fun i => (i.zero, i.size, i.bytes)) = some (some zLaw, 18, 200) := by kernel_rfl
theorem info_lawsT : (Tryz.prog.info? 23).map (fun i => (i.zero, i.size, i.bytes)) = some (some (.slice none 0 0), 1, 24) := by kernel_rfl
theorem info_mapT : (Tryz.prog.info? 85).map (fun i => (i.zero, i.size, i.bytes)) = some (some (.map none), 1, 8) := by kernel_rfl
end Go.Proofs.YtadncjpknckaaaaGreatDoor
