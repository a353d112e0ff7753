/-
  NaturalKnown: the examples, plain.
-/
import Derived.Test.YtbnbfdbliokcaaaDoorJ9
namespace Go.Proofs.YtbnbfdbliokcaaaDoor
open Go.RowKit
def manyS (i : Nat) : Snd := ⟨BitVec.ofNat 32 i, 0#32⟩
def manyL (n : Nat) : List Snd := (List.range n).map manyS
abbrev badL : List Snd := [sP, sP, ⟨1#32, 1#32⟩]
theorem kn1 : closE exL [sP, sA, sP] = 0 ∧ clC exL [sP, sA, sP] = ⟨0#32, 0#32⟩ ∧ clL exL [sP, sA, sP] = [0, 1, 2] := by decide +kernel
theorem kn2 : closE exL [] = 5 ∧ clC exL [] = ⟨0#32, 0#32⟩ ∧ clL exL [] = [] := by decide +kernel
theorem kn3 : closE exL [sP, ⟨0#32, 0#32⟩] = 5 ∧ clC exL [sP, ⟨0#32, 0#32⟩] = ⟨0#32, 0#32⟩ ∧ clL exL [sP, ⟨0#32, 0#32⟩] = [] := by decide +kernel
theorem kn4 : closE badL [] = 14 ∧ clC badL [] = ⟨0#32, 0#32⟩ ∧ clL badL [] = [] := by decide +kernel
theorem kn5 : closE [sP, sP] [] = 6 := by decide +kernel
theorem kn5b : isB [sP, sP] [] = false := by decide +kernel
theorem many_len (n : Nat) : (manyL n).length = n := by simp [manyL]
theorem kn6 : closE (manyL 257) [] = 12 := by
  unfold closE
  have h : chkI 256 (manyL 257) = 12 := by unfold chkI; rw [if_pos (by rw [many_len]; decide)]
  rw [h, if_neg (by decide)]
theorem kn6b : isB (manyL 257) [] = false := by unfold isB; rw [kn6]; rfl
theorem kn6c : chkI 256 (manyL 257) = 12 := by unfold chkI; rw [if_pos (by rw [many_len]; decide)]
theorem kn7 : closE exL exL = 0 ∧ isB exL exL = true ∧ shC exL exL = ⟨0#32, 0#32⟩ := by decide +kernel
theorem kn8 : closE exL [sP, sA] = 0 ∧ isB exL [sP, sA] = false ∧ shC exL [sP, sA] = ⟨0#32, 0#32⟩ := by decide +kernel
theorem kn9 : selE exL ⟨1#32, 0#32⟩ = 0 ∧ selL exL ⟨1#32, 0#32⟩ = [1, 2] := by decide +kernel
theorem kn10 : selE exL ⟨16777216#32, 0#32⟩ = 14 ∧ selL exL ⟨16777216#32, 0#32⟩ = [] := by decide +kernel
theorem many_take {m n : Nat} (h : m ≤ n) : (manyL n).take m = manyL m := by
  unfold manyL; rw [← List.map_take, List.take_range, Nat.min_eq_left h]
theorem kn11 : chkI 12 (manyL 13) = 12 := by decide +kernel
theorem kn11b : cntV (manyL 13) = 0 := by unfold cntV; rw [kn11]; rfl
theorem RdK.toM {α : Type} {c : Nat} {enc : α → List Value} {w : World} {a : Option Addr} {n cap : Nat} {xs : List α} (h : RdK c enc w a n cap xs) {k : Nat} (h1 : k ≤ n) : RdK c enc w a k cap (xs.take k) := by
  have := h.sub (l := 0) (m := k) (Nat.zero_le _) h1
  rw [subA_zero] at this
  simpa using this
theorem run_sub_to8 {P : Program} {t : TypeId} (ht : P.underlying t = some (.slice (P.elem t))) {k : Nat} (hs : ∀ w, (sizeOf (P.elem t)).run P w = .ok k w) (a : Option Addr) (len cap h : Nat) (h2 : h ≤ cap) (w : World) :
    (Instr.slice t (.slice a len cap) none (some (.int .i64 h)) none).run P w = .ok (.slice a h cap) w := by
  have := run_sub_h ht hs a len cap h h2 w
  rwa [subA_zero] at this
theorem kn12 : chkI 12 [] = 0 ∧ cntV [] = 0 := by decide +kernel
theorem manyS_inj {i j : Nat} (hi : i < 257) (hj : j < 257) (h : manyS i = manyS j) : i = j := by
  unfold manyS at h
  have := congrArg (fun s : Snd => s.p.toNat) h
  simp only [BitVec.toNat_ofNat] at this
  omega
theorem kn14 : chkI 256 (manyL 256) = 0 := by
  unfold chkI
  rw [if_neg (by rw [many_len]; decide), if_neg, if_neg]
  · simp only [decide_eq_false_iff_not, Classical.not_not]
    unfold manyL List.Nodup
    rw [List.pairwise_map]
    refine List.Pairwise.imp_of_mem ?_ List.nodup_range
    intro a b ha hb hne e
    exact hne (manyS_inj (by have := List.mem_range.1 ha; omega) (by have := List.mem_range.1 hb; omega) e)
  · have : (manyL 256).all Snd.ok = true := by decide +kernel
    rw [this]; decide
set_option maxHeartbeats 4000000 in
set_option maxRecDepth 20000 in
theorem naturalKnown_any (w : World) (hT : TabOk w) (hT2 : Tab64 w) :
    Calls Tryd.prog 12 #[] w fun e w' => e = .returned (.bool true) ∧ Ext w w' := by
  have qz : ∀ W : World, (binOp .eql 27 (.agg #[.int .u32 0, .int .u32 0]) (.agg #[.int .u32 0, .int .u32 0])).run Tryd.prog W = .ok (.bool true) W := fun W => by
    have h := eql_snd ⟨0#32, 0#32⟩ ⟨0#32, 0#32⟩ W
    rw [decide_eq_true rfl] at h; exact h
  go_enter Tryd.func12, Tryd.ntmps12
  go_wp2_with fail
  refine (lp_any _).mono ?_
  rintro e w1 ⟨rfl, hx1⟩
  go_wp2_with fail
  refine (lb_any _).mono ?_
  rintro e w2 ⟨rfl, hx2⟩
  go_wp2_with fail
  refine (la_any _).mono ?_
  rintro e w3 ⟨rfl, hx3⟩
  have R := OwnK.rdc Snd.len (lit_own Snd.len w3 27 exL #[.int .u32 sP.p.toNat, .int .u32 sP.m.toNat, .int .u32 sB.p.toNat, .int .u32 sB.m.toNat, .int .u32 sA.p.toNat, .int .u32 sA.m.toNat] rfl (n := 3) rfl (by decide))
  have hx := ((hx1.trans hx2).trans hx3).trans (Ext.alloc1 w3 (.cells #[.int .u32 sP.p.toNat, .int .u32 sP.m.toNat, .int .u32 sB.p.toNat, .int .u32 sB.m.toNat, .int .u32 sA.p.toNat, .int .u32 sA.m.toNat] 27))
  clear hx1 hx2 hx3
  go_wp2_with fail
  generalize w3.heap.size = gA at *
  generalize (w3.alloc (.cells #[.int .u32 sP.p.toNat, .int .u32 sP.m.toNat, .int .u32 sB.p.toNat, .int .u32 sB.m.toNat, .int .u32 sA.p.toNat, .int .u32 sA.m.toNat] 27)) = wA at *
  refine (lp_any _).mono ?_
  rintro e w4 ⟨rfl, hx4⟩
  go_wp2_with fail
  refine (lp_any _).mono ?_
  rintro e w5 ⟨rfl, hx5⟩
  have RB := OwnK.rdc Snd.len (lit_own Snd.len w5 27 badL #[.int .u32 sP.p.toNat, .int .u32 sP.m.toNat, .int .u32 sP.p.toNat, .int .u32 sP.m.toNat, .int .u32 1, .int .u32 1] rfl (n := 3) rfl (by decide))
  have hxB := (hx4.trans hx5).trans (Ext.alloc1 w5 (.cells #[.int .u32 sP.p.toNat, .int .u32 sP.m.toNat, .int .u32 sP.p.toNat, .int .u32 sP.m.toNat, .int .u32 1, .int .u32 1] 27))
  replace R := R.ext hxB
  replace hx := hx.trans hxB
  clear hx4 hx5 hxB
  go_wp2_with fail
  generalize w5.heap.size = gB at *
  generalize (w5.alloc (.cells #[.int .u32 sP.p.toNat, .int .u32 sP.m.toNat, .int .u32 sP.p.toNat, .int .u32 sP.m.toNat, .int .u32 1, .int .u32 1] 27)) = wB at *
  go_loopw [3, 4, 48] (fun lv _ jv wr => ∃ B : BitVec 32, B.toNat ≤ 257 ∧ jv = .int .u32 B.toNat ∧ Ext wB wr ∧ OwnS wB.heap.size 27 wr lv (manyL B.toNat)) (fun _ _ jv _ => 257 - (intOf jv).toNat)
  case atStart => exact ⟨0#32, by decide, rfl, Ext.refl _, OwnK.nil _ _ _⟩
  case round =>
    obtain ⟨B, hB, rfl, hxr, hown⟩ := hrel
    by_cases hlt : B.toNat < 257
    · have hki : (B.toNat : Int) < 257 := by omega
      have hms : Hid (manyL (B + 1#32).toNat = manyL B.toNat ++ [⟨B, 0#32⟩]) := Lib.hid (by
        have h1 : (B + 1#32).toNat = B.toNat + 1 := by rw [BitVec.toNat_add]; simp; omega
        rw [h1]; unfold manyL; rw [List.range_succ, List.map_append]
        have h2 : manyS B.toNat = ⟨B, 0#32⟩ := by unfold manyS; rw [BitVec.ofNat_toNat]; simp
        simp [h2])
      have hml : (manyL B.toNat).length ≤ 257 := by rw [many_len]; exact hB
      have hB1 : (((B + 1#32).toNat : Nat) : Int) = (B.toNat : Int) + 1 := by rw [BitVec.toNat_add]; simp; omega
      have hB2 : (B + 1#32).toNat ≤ 257 := by rw [BitVec.toNat_add]; simp; omega
      generalize manyL B.toNat = L at *
      generalize hB3 : B + 1#32 = B' at *
      replace hB3 := Lib.hid hB3
      replace hB1 := Lib.hid hB1
      go_wp2_with (at_builtin; refine wp_app1 wB wr (⟨B, 0#32⟩ : Snd) rfl _ _ 22 rfl 27 Tryd.underlying22 info_snd rfl (by decide) _ _ rfl hown hxr (by first | rfl | (rw [World.size_alloc]; rfl)) (Snd.len _) (Snd.one _) (by omega) (by unfold maxLen; omega) ?_; intro v5 w10 o5 x5 hgA)
      (first | exact ⟨⟨B', hB2, by rw [hB1.out], x5, by rw [hms.out]; exact o5⟩, (by simp [intOf]; omega)⟩ | (go_roundw; case rel => exact ⟨B', hB2, by rw [hB1.out], x5, by rw [hms.out]; exact o5⟩; case measure => exact (by simp [intOf]; omega)))
    · have hB7 : B.toNat = 257 := by omega
      rw [hB7] at hown
      rw [hB7]
      obtain ⟨aM, nM, cM, hnM, rfl, RM⟩ := OwnK.rdn Snd.len hown
      rw [many_len] at hnM
      subst hnM
      replace hB7 := Lib.hid hB7
      clear hown hlt hB
      replace R := R.ext hxr
      replace RB := RB.ext hxr
      replace hx := hx.trans hxr
      clear hxr
      go_wp2_with fail
      refine (lp_any _).mono ?_
      rintro e wp ⟨rfl, hxp⟩
      replace hx := hx.trans hxp
      replace R := R.ext hxp
      try replace RM := RM.ext hxp
      try replace RB := RB.ext hxp
      try replace qC := qC.ext hxp
      try replace qS := qS.ext hxp
      try replace qT := qT.ext hxp
      try replace hI := hI.ext hxp
      try replace hQ := hQ.ext hxp
      clear hxp
      go_wp2_with fail
      refine (la_any _).mono ?_
      rintro e wp ⟨rfl, hxp⟩
      replace hx := hx.trans hxp
      replace R := R.ext hxp
      try replace RM := RM.ext hxp
      try replace RB := RB.ext hxp
      try replace qC := qC.ext hxp
      try replace qS := qS.ext hxp
      try replace qT := qT.ext hxp
      try replace hI := hI.ext hxp
      try replace hQ := hQ.ext hxp
      clear hxp
      go_wp2_with fail
      refine (lp_any _).mono ?_
      rintro e wp ⟨rfl, hxp⟩
      replace hx := hx.trans hxp
      replace R := R.ext hxp
      try replace RM := RM.ext hxp
      try replace RB := RB.ext hxp
      try replace qC := qC.ext hxp
      try replace qS := qS.ext hxp
      try replace qT := qT.ext hxp
      try replace hI := hI.ext hxp
      try replace hQ := hQ.ext hxp
      clear hxp
      go_wp2_with fail
      have Q : RdS (wp.alloc (.cells #[.int .u32 sP.p.toNat, .int .u32 sP.m.toNat, .int .u32 sA.p.toNat, .int .u32 sA.m.toNat, .int .u32 sP.p.toNat, .int .u32 sP.m.toNat] 27)) (some ⟨wp.heap.size, 0, none⟩) 3 3 [sP, sA, sP] := OwnK.rdc Snd.len (lit_own Snd.len wp 27 [sP, sA, sP] #[.int .u32 sP.p.toNat, .int .u32 sP.m.toNat, .int .u32 sA.p.toNat, .int .u32 sA.m.toNat, .int .u32 sP.p.toNat, .int .u32 sP.m.toNat] rfl (n := 3) rfl (by decide))
      have hxL := Ext.alloc1 wp (.cells #[.int .u32 sP.p.toNat, .int .u32 sP.m.toNat, .int .u32 sA.p.toNat, .int .u32 sA.m.toNat, .int .u32 sP.p.toNat, .int .u32 sP.m.toNat] 27)
      replace hx := hx.trans hxL
      replace R := R.ext hxL
      try replace RM := RM.ext hxL
      try replace RB := RB.ext hxL
      try replace qC := qC.ext hxL
      try replace qS := qS.ext hxL
      try replace qT := qT.ext hxL
      try replace hI := hI.ext hxL
      try replace hQ := hQ.ext hxL
      clear hxL
      generalize wp.heap.size = gq at *
      generalize (wp.alloc (.cells #[.int .u32 sP.p.toNat, .int .u32 sP.m.toNat, .int .u32 sA.p.toNat, .int .u32 sA.m.toNat, .int .u32 sP.p.toNat, .int .u32 sP.m.toNat] 27)) = wc at *
      have hcl : Calls Tryd.prog 15 #[.slice (some ⟨gA, 0, none⟩) 3 3, .slice (some ⟨gq, 0, none⟩) 3 3] wc (fun e w' => ∃ v, e = .returned (.tuple #[.agg #[.int .u32 0, .int .u32 0], v, .int .i64 0]) ∧ OwnI wc.heap.size 3 w' v [0, 1, 2] ∧ Ext wc w') := by
        have h := closure_any _ _ _ exL _ _ _ [sP, sA, sP] wc R Q
        unfold RetC at h
        rw [(kn1).2.1, (kn1).1, (kn1).2.2] at h
        exact h
      refine hcl.mono ?_
      rintro e wq ⟨vq, rfl, hownq, hxq⟩
      obtain ⟨aq, nq, cq, hnq, rfl, hIq⟩ := OwnK.rdn I64.len hownq
      clear hcl hownq
      clear Q
      obtain rfl : nq = 3 := hnq
      have hI := hIq
      replace hI := hI.ext (Ext.alloc1 wq (.cells #[.int .u32 0, .int .u32 0] 27))
      have qC := SndB.zero wq
      clear hIq
      have hxb := hxq.trans (Ext.alloc1 wq (.cells #[.int .u32 0, .int .u32 0] 27))
      clear hxq
      replace hx := hx.trans hxb
      replace R := R.ext hxb
      replace RM := RM.ext hxb
      replace RB := RB.ext hxb
      clear hxb
      go_wp2_with fail
      generalize wq.heap.size = gC at *
      generalize (wq.alloc (.cells #[.int .u32 0, .int .u32 0] 27)) = wc at *
      have hcl : Calls Tryd.prog 15 #[.slice (some ⟨gA, 0, none⟩) 3 3, .slice none 0 0] wc (fun e w' => ∃ v, e = .returned (.tuple #[.agg #[.int .u32 0, .int .u32 0], v, .int .i64 5]) ∧ OwnI wc.heap.size 3 w' v [] ∧ Ext wc w') := by
        have h := closure_any _ _ _ exL _ _ _ [] wc R (RdK.nilS wc)
        unfold RetC at h
        rw [(kn2).2.1, (kn2).1, (kn2).2.2] at h
        exact h
      refine hcl.mono ?_
      rintro e wq ⟨vq, rfl, hownq, hxq⟩
      obtain ⟨aq, nq, cq, hnq, rfl, hIq⟩ := OwnK.rdn I64.len hownq
      clear hcl hownq
      clear hIq hnq
      have hxb := hxq.trans (Ext.alloc1 wq (.cells #[.int .u32 0, .int .u32 0] 27))
      clear hxq
      replace hx := hx.trans hxb
      replace R := R.ext hxb
      try replace RM := RM.ext hxb
      try replace RB := RB.ext hxb
      try replace qC := qC.ext hxb
      try replace qS := qS.ext hxb
      try replace qT := qT.ext hxb
      try replace hI := hI.ext hxb
      try replace hQ := hQ.ext hxb
      clear hxb
      go_wp2_with fail
      try generalize wq.heap.size = gq at *
      try generalize (wq.alloc (.cells #[.int .u32 0, .int .u32 0] 27)) = wc at *
      refine (lp_any _).mono ?_
      rintro e wp ⟨rfl, hxp⟩
      replace hx := hx.trans hxp
      replace R := R.ext hxp
      try replace RM := RM.ext hxp
      try replace RB := RB.ext hxp
      try replace qC := qC.ext hxp
      try replace qS := qS.ext hxp
      try replace qT := qT.ext hxp
      try replace hI := hI.ext hxp
      try replace hQ := hQ.ext hxp
      clear hxp
      go_wp2_with fail
      have Q : RdS (wp.alloc (.cells #[.int .u32 sP.p.toNat, .int .u32 sP.m.toNat, .int .u32 0, .int .u32 0] 27)) (some ⟨wp.heap.size, 0, none⟩) 2 2 [sP, ⟨0#32, 0#32⟩] := OwnK.rdc Snd.len (lit_own Snd.len wp 27 [sP, ⟨0#32, 0#32⟩] #[.int .u32 sP.p.toNat, .int .u32 sP.m.toNat, .int .u32 0, .int .u32 0] rfl (n := 2) rfl (by decide))
      have hxL := Ext.alloc1 wp (.cells #[.int .u32 sP.p.toNat, .int .u32 sP.m.toNat, .int .u32 0, .int .u32 0] 27)
      replace hx := hx.trans hxL
      replace R := R.ext hxL
      try replace RM := RM.ext hxL
      try replace RB := RB.ext hxL
      try replace qC := qC.ext hxL
      try replace qS := qS.ext hxL
      try replace qT := qT.ext hxL
      try replace hI := hI.ext hxL
      try replace hQ := hQ.ext hxL
      clear hxL
      generalize wp.heap.size = gq at *
      generalize (wp.alloc (.cells #[.int .u32 sP.p.toNat, .int .u32 sP.m.toNat, .int .u32 0, .int .u32 0] 27)) = wc at *
      have hcl : Calls Tryd.prog 15 #[.slice (some ⟨gA, 0, none⟩) 3 3, .slice (some ⟨gq, 0, none⟩) 2 2] wc (fun e w' => ∃ v, e = .returned (.tuple #[.agg #[.int .u32 0, .int .u32 0], v, .int .i64 5]) ∧ OwnI wc.heap.size 3 w' v [] ∧ Ext wc w') := by
        have h := closure_any _ _ _ exL _ _ _ [sP, ⟨0#32, 0#32⟩] wc R Q
        unfold RetC at h
        rw [(kn3).2.1, (kn3).1, (kn3).2.2] at h
        exact h
      refine hcl.mono ?_
      rintro e wq ⟨vq, rfl, hownq, hxq⟩
      obtain ⟨aq, nq, cq, hnq, rfl, hIq⟩ := OwnK.rdn I64.len hownq
      clear hcl hownq
      clear hIq hnq Q
      have hxb := hxq.trans (Ext.alloc1 wq (.cells #[.int .u32 0, .int .u32 0] 27))
      clear hxq
      replace hx := hx.trans hxb
      replace R := R.ext hxb
      try replace RM := RM.ext hxb
      try replace RB := RB.ext hxb
      try replace qC := qC.ext hxb
      try replace qS := qS.ext hxb
      try replace qT := qT.ext hxb
      try replace hI := hI.ext hxb
      try replace hQ := hQ.ext hxb
      clear hxb
      go_wp2_with fail
      try generalize wq.heap.size = gq at *
      try generalize (wq.alloc (.cells #[.int .u32 0, .int .u32 0] 27)) = wc at *
      have hcl : Calls Tryd.prog 15 #[.slice (some ⟨gB, 0, none⟩) 3 3, .slice none 0 0] wc (fun e w' => ∃ v, e = .returned (.tuple #[.agg #[.int .u32 0, .int .u32 0], v, .int .i64 14]) ∧ OwnI wc.heap.size 3 w' v [] ∧ Ext wc w') := by
        have h := closure_any _ _ _ badL _ _ _ [] wc RB (RdK.nilS wc)
        unfold RetC at h
        rw [(kn4).2.1, (kn4).1, (kn4).2.2] at h
        exact h
      refine hcl.mono ?_
      rintro e wq ⟨vq, rfl, hownq, hxq⟩
      obtain ⟨aq, nq, cq, hnq, rfl, hIq⟩ := OwnK.rdn I64.len hownq
      clear hcl hownq
      clear hIq hnq
      have hsB := fun W => run_sub_h (P := Tryd.prog) elem_snds size_snds (some ⟨gB, 0, none⟩) 3 3 2 (by decide) W
      have hxb := hxq.trans (Ext.alloc1 wq (.cells #[.int .u32 0, .int .u32 0] 27))
      clear hxq
      replace hx := hx.trans hxb
      replace R := R.ext hxb
      try replace RM := RM.ext hxb
      try replace RB := RB.ext hxb
      try replace qC := qC.ext hxb
      try replace qS := qS.ext hxb
      try replace qT := qT.ext hxb
      try replace hI := hI.ext hxb
      try replace hQ := hQ.ext hxb
      clear hxb
      go_wp2_with fail
      try generalize wq.heap.size = gq at *
      try generalize (wq.alloc (.cells #[.int .u32 0, .int .u32 0] 27)) = wc at *
      have RB2 : RdS wc (some ⟨gB, 0, none⟩) 2 3 [sP, sP] := RdK.sub RB (l := 0) (m := 2) (by decide) (by decide)
      have his : Calls Tryd.prog 17 #[.slice (some ⟨gB, 0, none⟩) 2 3, .slice none 0 0] wc (fun e w' => e = .returned (.tuple #[.bool false, .int .i64 6]) ∧ Ext wc w') := by
        have h := is_any _ 2 3 [sP, sP] _ _ _ [] wc RB2 (RdK.nilS wc)
        unfold RetIs at h
        rw [kn5, kn5b] at h
        exact h
      refine his.mono ?_
      rintro e wq ⟨rfl, hxq⟩
      clear his RB2 RB hsB
      replace hx := hx.trans hxq
      replace R := R.ext hxq
      try replace RM := RM.ext hxq
      try replace RB := RB.ext hxq
      try replace qC := qC.ext hxq
      try replace qS := qS.ext hxq
      try replace qT := qT.ext hxq
      try replace hI := hI.ext hxq
      try replace hQ := hQ.ext hxq
      clear hxq
      go_wp2_with fail
      have hsh : Calls Tryd.prog 19 #[.slice aM 257 cM, .slice none 0 0] wq (fun e w' => e = .returned (.tuple #[.agg #[.int .u32 0, .int .u32 0], .bool false, .int .i64 12]) ∧ Ext wq w') := by
        have h := shortest_any _ _ _ (manyL 257) _ _ _ [] wq RM (RdK.nilS wq)
        unfold RetSh at h
        rw [kn6, kn6b, shC_not kn6b] at h
        exact h
      refine hsh.mono ?_
      rintro e wq ⟨rfl, hxq⟩
      clear hsh
      have hxb := hxq.trans (Ext.alloc1 wq (.cells #[.int .u32 0, .int .u32 0] 27))
      clear hxq
      replace hx := hx.trans hxb
      replace R := R.ext hxb
      try replace RM := RM.ext hxb
      try replace RB := RB.ext hxb
      try replace qC := qC.ext hxb
      try replace qS := qS.ext hxb
      try replace qT := qT.ext hxb
      try replace hI := hI.ext hxb
      try replace hQ := hQ.ext hxb
      clear hxb
      go_wp2_with fail
      try generalize wq.heap.size = gq at *
      try generalize (wq.alloc (.cells #[.int .u32 0, .int .u32 0] 27)) = wc at *
      have hsh : Calls Tryd.prog 19 #[.slice (some ⟨gA, 0, none⟩) 3 3, .slice (some ⟨gA, 0, none⟩) 3 3] wc (fun e w' => e = .returned (.tuple #[.agg #[.int .u32 0, .int .u32 0], .bool true, .int .i64 0]) ∧ Ext wc w') := by
        have h := shortest_any _ _ _ exL _ _ _ exL wc R R
        unfold RetSh at h
        rw [kn7.2.2, kn7.2.1, kn7.1] at h
        exact h
      refine hsh.mono ?_
      rintro e wq ⟨rfl, hxq⟩
      clear hsh
      have qS := SndB.zero wq
      have hxb := hxq.trans (Ext.alloc1 wq (.cells #[.int .u32 0, .int .u32 0] 27))
      clear hxq
      replace hx := hx.trans hxb
      replace R := R.ext hxb
      replace RM := RM.ext hxb
      replace qC := qC.ext hxb
      replace hI := hI.ext hxb
      clear hxb
      go_wp2_with fail
      generalize wq.heap.size = gS at *
      generalize (wq.alloc (.cells #[.int .u32 0, .int .u32 0] 27)) = wc at *
      refine (lp_any _).mono ?_
      rintro e wp ⟨rfl, hxp⟩
      replace hx := hx.trans hxp
      replace R := R.ext hxp
      try replace RM := RM.ext hxp
      try replace RB := RB.ext hxp
      try replace qC := qC.ext hxp
      try replace qS := qS.ext hxp
      try replace qT := qT.ext hxp
      try replace hI := hI.ext hxp
      try replace hQ := hQ.ext hxp
      clear hxp
      go_wp2_with fail
      refine (la_any _).mono ?_
      rintro e wp ⟨rfl, hxp⟩
      replace hx := hx.trans hxp
      replace R := R.ext hxp
      try replace RM := RM.ext hxp
      try replace RB := RB.ext hxp
      try replace qC := qC.ext hxp
      try replace qS := qS.ext hxp
      try replace qT := qT.ext hxp
      try replace hI := hI.ext hxp
      try replace hQ := hQ.ext hxp
      clear hxp
      go_wp2_with fail
      have Q : RdS (wp.alloc (.cells #[.int .u32 sP.p.toNat, .int .u32 sP.m.toNat, .int .u32 sA.p.toNat, .int .u32 sA.m.toNat] 27)) (some ⟨wp.heap.size, 0, none⟩) 2 2 [sP, sA] := OwnK.rdc Snd.len (lit_own Snd.len wp 27 [sP, sA] #[.int .u32 sP.p.toNat, .int .u32 sP.m.toNat, .int .u32 sA.p.toNat, .int .u32 sA.m.toNat] rfl (n := 2) rfl (by decide))
      have hxL := Ext.alloc1 wp (.cells #[.int .u32 sP.p.toNat, .int .u32 sP.m.toNat, .int .u32 sA.p.toNat, .int .u32 sA.m.toNat] 27)
      replace hx := hx.trans hxL
      replace R := R.ext hxL
      try replace RM := RM.ext hxL
      try replace RB := RB.ext hxL
      try replace qC := qC.ext hxL
      try replace qS := qS.ext hxL
      try replace qT := qT.ext hxL
      try replace hI := hI.ext hxL
      try replace hQ := hQ.ext hxL
      clear hxL
      generalize wp.heap.size = gq at *
      generalize (wp.alloc (.cells #[.int .u32 sP.p.toNat, .int .u32 sP.m.toNat, .int .u32 sA.p.toNat, .int .u32 sA.m.toNat] 27)) = wc at *
      have hsh : Calls Tryd.prog 19 #[.slice (some ⟨gA, 0, none⟩) 3 3, .slice (some ⟨gq, 0, none⟩) 2 2] wc (fun e w' => e = .returned (.tuple #[.agg #[.int .u32 0, .int .u32 0], .bool false, .int .i64 0]) ∧ Ext wc w') := by
        have h := shortest_any _ _ _ exL _ _ _ [sP, sA] wc R Q
        unfold RetSh at h
        rw [kn8.2.2, kn8.2.1, kn8.1] at h
        exact h
      refine hsh.mono ?_
      rintro e wq ⟨rfl, hxq⟩
      clear hsh
      clear Q
      have qT := SndB.zero wq
      have hxb := hxq.trans (Ext.alloc1 wq (.cells #[.int .u32 0, .int .u32 0] 27))
      clear hxq
      replace hx := hx.trans hxb
      replace R := R.ext hxb
      replace RM := RM.ext hxb
      replace qC := qC.ext hxb
      replace qS := qS.ext hxb
      replace hI := hI.ext hxb
      clear hxb
      go_wp2_with fail
      generalize wq.heap.size = gT at *
      generalize (wq.alloc (.cells #[.int .u32 0, .int .u32 0] 27)) = wc at *
      have hsl : Calls Tryd.prog 36 #[.slice (some ⟨gA, 0, none⟩) 3 3, .agg #[.int .u32 1, .int .u32 0]] wc (fun e w' => ∃ v, e = .returned (.tuple #[v, .int .i64 0]) ∧ OwnI wc.heap.size 3 w' v [1, 2] ∧ Ext wc w') := by
        have h := select_any _ 3 3 exL ⟨1#32, 0#32⟩ wc R
        unfold RetSl at h
        rw [kn9.1, kn9.2] at h
        exact h
      refine hsl.mono ?_
      rintro e wq ⟨vq, rfl, hownq, hxq⟩
      obtain ⟨aQ, nQ, cQ, hnQ, rfl, hQ⟩ := OwnK.rdn I64.len hownq
      obtain rfl : nQ = 2 := hnQ
      clear hsl hownq
      replace hx := hx.trans hxq
      replace R := R.ext hxq
      replace RM := RM.ext hxq
      replace qC := qC.ext hxq
      replace qS := qS.ext hxq
      replace qT := qT.ext hxq
      replace hI := hI.ext hxq
      clear hxq
      go_wp2_with fail
      have hsl : Calls Tryd.prog 36 #[.slice (some ⟨gA, 0, none⟩) 3 3, .agg #[.int .u32 16777216, .int .u32 0]] wq (fun e w' => ∃ v, e = .returned (.tuple #[v, .int .i64 14]) ∧ OwnI wq.heap.size 3 w' v [] ∧ Ext wq w') := by
        have h := select_any _ 3 3 exL ⟨16777216#32, 0#32⟩ wq R
        unfold RetSl at h
        rw [kn10.1, kn10.2] at h
        exact h
      refine hsl.mono ?_
      rintro e wq ⟨vq, rfl, _, hxq⟩
      clear hsl
      replace hx := hx.trans hxq
      replace R := R.ext hxq
      try replace RM := RM.ext hxq
      try replace RB := RB.ext hxq
      try replace qC := qC.ext hxq
      try replace qS := qS.ext hxq
      try replace qT := qT.ext hxq
      try replace hI := hI.ext hxq
      try replace hQ := hQ.ext hxq
      clear hxq
      have hcM := RM.le
      have hcM1 : (13 : Int) ≤ (cM : Int) := by omega
      have hcM2 : (256 : Int) ≤ (cM : Int) := by omega
      have hcM3 : 13 ≤ cM := by omega
      have hcM4 : 256 ≤ cM := by omega
      go_wp2_with fail
      have hcn : Calls Tryd.prog 29 #[.slice aM 13 cM] wq (fun e w' => e = .returned (.tuple #[.int .i64 0, .int .i64 12]) ∧ Ext wq w') := by
        have rM := RM.toM (k := 13) (by decide)
        rw [many_take (by decide)] at rM
        have h := count_any aM 13 cM (manyL 13) wq rM (hT2.ext hx)
        unfold RetCn at h
        rw [kn11, kn11b] at h
        exact h
      refine hcn.mono ?_
      rintro e wq ⟨rfl, hxq⟩
      clear hcn
      replace hx := hx.trans hxq
      replace R := R.ext hxq
      try replace RM := RM.ext hxq
      try replace RB := RB.ext hxq
      try replace qC := qC.ext hxq
      try replace qS := qS.ext hxq
      try replace qT := qT.ext hxq
      try replace hI := hI.ext hxq
      try replace hQ := hQ.ext hxq
      clear hxq
      go_wp2_with fail
      have hcn : Calls Tryd.prog 29 #[.slice none 0 0] wq (fun e w' => e = .returned (.tuple #[.int .i64 0, .int .i64 0]) ∧ Ext wq w') := by
        have h := count_any none 0 0 [] wq (RdK.nilS wq) (hT2.ext hx)
        unfold RetCn at h
        rw [kn12.1, kn12.2] at h
        exact h
      refine hcn.mono ?_
      rintro e wq ⟨rfl, hxq⟩
      clear hcn
      replace hx := hx.trans hxq
      replace R := R.ext hxq
      try replace RM := RM.ext hxq
      try replace RB := RB.ext hxq
      try replace qC := qC.ext hxq
      try replace qS := qS.ext hxq
      try replace qT := qT.ext hxq
      try replace hI := hI.ext hxq
      try replace hQ := hQ.ext hxq
      clear hxq
      go_wp2_with fail
      have hgp : Calls Tryd.prog 27 #[.slice aM 257 cM] wq (fun e w' => ∃ v, e = .returned (.tuple #[v, .int .i64 12]) ∧ Ext wq w') := by
        have h := gaps_any aM 257 cM (manyL 257) wq RM (hT.ext hx)
        unfold RetG at h
        rw [kn6c] at h
        refine h.mono ?_
        rintro e w' ⟨v, L, h1, _, _, _, h4⟩
        exact ⟨v, h1, h4⟩
      refine hgp.mono ?_
      rintro e wq ⟨vq, rfl, hxq⟩
      clear hgp
      replace hx := hx.trans hxq
      replace R := R.ext hxq
      try replace RM := RM.ext hxq
      try replace RB := RB.ext hxq
      try replace qC := qC.ext hxq
      try replace qS := qS.ext hxq
      try replace qT := qT.ext hxq
      try replace hI := hI.ext hxq
      try replace hQ := hQ.ext hxq
      clear hxq
      go_wp2_with fail
      have hpr : Calls Tryd.prog 23 #[.slice aM 256 cM] wq (fun e w' => ∃ v, e = .returned (.tuple #[v, .int .i64 0]) ∧ Ext wq w') := by
        have rM := RM.toM (k := 256) (by decide)
        rw [many_take (by decide)] at rM
        have h := pairs_any aM 256 cM (manyL 256) wq rM
        unfold RetPr at h
        rw [kn14] at h
        refine h.mono ?_
        rintro e w' ⟨v, h1, _, h4⟩
        exact ⟨v, h1, h4⟩
      refine hpr.mono ?_
      rintro e wq ⟨vq, rfl, hxq⟩
      clear hpr
      replace hx := hx.trans hxq
      replace R := R.ext hxq
      try replace RM := RM.ext hxq
      try replace RB := RB.ext hxq
      try replace qC := qC.ext hxq
      try replace qS := qS.ext hxq
      try replace qT := qT.ext hxq
      try replace hI := hI.ext hxq
      try replace hQ := hQ.ext hxq
      clear hxq
      have c0 : wq.cell? ⟨gC, 0, none⟩ = some (.int .u32 0) := qC.cells.1
      have c1 : wq.cell? ⟨gC, 1, none⟩ = some (.int .u32 0) := qC.cells.2
      have s0 : wq.cell? ⟨gS, 0, none⟩ = some (.int .u32 0) := qS.cells.1
      have s1 : wq.cell? ⟨gS, 1, none⟩ = some (.int .u32 0) := qS.cells.2
      have t0 : wq.cell? ⟨gT, 0, none⟩ = some (.int .u32 0) := qT.cells.1
      have t1 : wq.cell? ⟨gT, 1, none⟩ = some (.int .u32 0) := qT.cells.2
      clear qC qS qT R RM
      go_wp2_with fail
      have hxE := Ext.alloc1 wq (.cells #[.int .i64 0, .int .i64 1, .int .i64 2] 3)
      have hL := OwnK.rdc I64.len (lit_own I64.len wq 3 [0, 1, 2] #[.int .i64 0, .int .i64 1, .int .i64 2] rfl (n := 3) rfl (by decide))
      have heq := lequal_any _ 3 _ [0, 1, 2] _ 3 3 [0, 1, 2] _ (hI.ext hxE) hL
      rw [decide_eq_true rfl] at heq
      refine heq.mono ?_
      rintro e wr ⟨rfl, hxr⟩
      have hxr := hxE.trans hxr
      have s0 := hxr.cellv s0
      have s1 := hxr.cellv s1
      have t0 := hxr.cellv t0
      have t1 := hxr.cellv t1
      have hQ := hQ.ext hxr
      have hx := hx.trans hxr
      clear heq hL hI hxE hxr c0 c1
      go_wp2_with fail
      have hxE := Ext.alloc1 wr (.cells #[.int .i64 1, .int .i64 2] 3)
      have hL := OwnK.rdc I64.len (lit_own I64.len wr 3 [1, 2] #[.int .i64 1, .int .i64 2] rfl (n := 2) rfl (by decide))
      have heq := lequal_any _ 2 _ [1, 2] _ 2 2 [1, 2] _ (hQ.ext hxE) hL
      rw [decide_eq_true rfl] at heq
      refine heq.mono ?_
      rintro e wt ⟨rfl, hxt⟩
      have hx := hx.trans (hxE.trans hxt)
      clear heq hL hQ hxE hxt s0 s1 t0 t1
      go_wp2_with fail
      refine (works_any _ (hT.ext hx) (hT2.ext hx)).mono ?_
      rintro e wz ⟨rfl, hxz⟩
      go_wp2_with fail
      go_ret
      exact ⟨rfl, (hx).trans hxz⟩
end Go.Proofs.YtbnbfdbliokcaaaDoor
