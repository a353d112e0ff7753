/-
  ablautlaw05.works, walked.
-/
import Derived.Test.YtbnbfdbliokcaaaDoorJ4
namespace Go.Proofs.YtbnbfdbliokcaaaDoor
open Go.RowKit
set_option maxHeartbeats 2000000 in
set_option maxRecDepth 20000 in
theorem works_any (w : World) (hT : TabOk w) (hT2 : Tab64 w) : Calls Tryd.prog 14 #[] w fun e w' => e = .returned (.bool true) ∧ Ext w w' := by
  go_enter Tryd.func14, Tryd.ntmps14
  go_wp2_with fail
  refine (lp_any _).mono ?_
  rintro e w1 ⟨rfl, hx1⟩
  go_wp2_with fail
  refine (lb_any _).mono ?_
  rintro e w2 ⟨rfl, hx2⟩
  go_wp2_with fail
  refine (la_any _).mono ?_
  rintro e w3 ⟨rfl, hx3⟩
  have R := OwnK.rdc Snd.len (lit_own Snd.len w3 27 exL #[.int .u32 sP.p.toNat, .int .u32 sP.m.toNat, .int .u32 sB.p.toNat, .int .u32 sB.m.toNat, .int .u32 sA.p.toNat, .int .u32 sA.m.toNat] rfl (n := 3) rfl (by decide))
  have hxA := ((hx1.trans hx2).trans hx3).trans (Ext.alloc1 w3 (.cells #[.int .u32 sP.p.toNat, .int .u32 sP.m.toNat, .int .u32 sB.p.toNat, .int .u32 sB.m.toNat, .int .u32 sA.p.toNat, .int .u32 sA.m.toNat] 27))
  clear hx1 hx2 hx3
  go_wp2_with fail
  generalize w3.heap.size = g at *
  generalize (w3.alloc (.cells #[.int .u32 sP.p.toNat, .int .u32 sP.m.toNat, .int .u32 sB.p.toNat, .int .u32 sB.m.toNat, .int .u32 sA.p.toNat, .int .u32 sA.m.toNat] 27)) = wA at *
  have R2 : RdS wA (some ⟨g, 0, none⟩) 2 3 [sP, sB] := RdK.sub R (l := 0) (m := 2) (by decide) (by decide)
  have R1 : RdS wA (some ⟨g, 2, none⟩) 1 2 [sB] := RdK.sub R (l := 1) (m := 2) (by decide) (by decide)
  have hTA := hT.ext hxA
  have hTA2 := hT2.ext hxA
  have hcl : Calls Tryd.prog 15 #[.slice (some ⟨g, 0, none⟩) 3 3, .slice (some ⟨g, 0, none⟩) 2 3] wA (fun e w' => ∃ v, e = .returned (.tuple #[.agg #[.int .u32 2, .int .u32 4], v, .int .i64 0]) ∧ OwnI wA.heap.size 3 w' v [0, 1] ∧ Ext wA w') := by
    have h := closure_any _ 3 3 exL _ 2 3 [sP, sB] wA R R2
    unfold RetC at h
    rw [ex_clC, ex_clE, ex_clL] at h
    exact h
  refine hcl.mono ?_
  rintro e w4 ⟨v4, rfl, hown4, hx4⟩
  obtain ⟨a4, _, c4, rfl, rfl, hI⟩ := OwnK.rdn I64.len hown4
  have hxB := hx4.trans (Ext.alloc1 w4 (.cells #[.int .u32 2, .int .u32 4] 27))
  have k0 : (w4.alloc (.cells #[.int .u32 2, .int .u32 4] 27)).cell? ⟨w4.heap.size, 0, none⟩ = some (.int .u32 2) := (SndB.new w4 ⟨2#32, 4#32⟩).cells.1
  have k1 : (w4.alloc (.cells #[.int .u32 2, .int .u32 4] 27)).cell? ⟨w4.heap.size, 1, none⟩ = some (.int .u32 4) := (SndB.new w4 ⟨2#32, 4#32⟩).cells.2
  have hI := hI.ext (Ext.alloc1 w4 (.cells #[.int .u32 2, .int .u32 4] 27))
  clear hcl hown4 hx4 R2
  go_wp2_with fail
  generalize w4.heap.size = gc at *
  generalize (w4.alloc (.cells #[.int .u32 2, .int .u32 4] 27)) = wB at *
  -- Is
  refine (la_any _).mono ?_
  rintro e w5 ⟨rfl, hx5⟩
  go_wp2_with fail
  refine (lp_any _).mono ?_
  rintro e w6 ⟨rfl, hx6⟩
  have Q := OwnK.rdc Snd.len (lit_own Snd.len w6 27 [sA, sP] #[.int .u32 sA.p.toNat, .int .u32 sA.m.toNat, .int .u32 sP.p.toNat, .int .u32 sP.m.toNat] rfl (n := 2) rfl (by decide))
  have hxC := (hx5.trans hx6).trans (Ext.alloc1 w6 (.cells #[.int .u32 sA.p.toNat, .int .u32 sA.m.toNat, .int .u32 sP.p.toNat, .int .u32 sP.m.toNat] 27))
  clear hx5 hx6
  go_wp2_with fail
  generalize w6.heap.size = g6 at *
  generalize (w6.alloc (.cells #[.int .u32 sA.p.toNat, .int .u32 sA.m.toNat, .int .u32 sP.p.toNat, .int .u32 sP.m.toNat] 27)) = wC at *
  have hxAC := hxB.trans hxC
  have his : Calls Tryd.prog 17 #[.slice (some ⟨g, 0, none⟩) 3 3, .slice (some ⟨g6, 0, none⟩) 2 2] wC (fun e w' => e = .returned (.tuple #[.bool false, .int .i64 0]) ∧ Ext wC w') := by
    have h := is_any _ 3 3 exL _ 2 2 [sA, sP] wC (R.ext hxAC) Q
    unfold RetIs at h
    rw [ex_isB, ex_isE] at h
    exact h
  refine his.mono ?_
  rintro e w7 ⟨rfl, hx7⟩
  have hxA7 := hxAC.trans hx7
  have hxB7 := hxC.trans hx7
  clear his hxAC hxC hx7 Q
  go_wp2_with fail
  -- Shortest
  have hsh : Calls Tryd.prog 19 #[.slice (some ⟨g, 0, none⟩) 3 3, .slice (some ⟨g, 2, none⟩) 1 2] w7 (fun e w' => e = .returned (.tuple #[.agg #[.int .u32 3, .int .u32 0], .bool true, .int .i64 0]) ∧ Ext w7 w') := by
    have h := shortest_any _ 3 3 exL _ 1 2 [sB] w7 (R.ext hxA7) (R1.ext hxA7)
    unfold RetSh at h
    rw [ex_shC, ex_shB, ex_shE] at h
    exact h
  refine hsh.mono ?_
  rintro e w8 ⟨rfl, hx8⟩
  have m0 : (w8.alloc (.cells #[.int .u32 3, .int .u32 0] 27)).cell? ⟨w8.heap.size, 0, none⟩ = some (.int .u32 3) := (SndB.new w8 ⟨3#32, 0#32⟩).cells.1
  have m1 : (w8.alloc (.cells #[.int .u32 3, .int .u32 0] 27)).cell? ⟨w8.heap.size, 1, none⟩ = some (.int .u32 0) := (SndB.new w8 ⟨3#32, 0#32⟩).cells.2
  have hx8 := hx8.trans (Ext.alloc1 w8 (.cells #[.int .u32 3, .int .u32 0] 27))
  have hxA8 := hxA7.trans hx8
  have hxB8 := hxB7.trans hx8
  clear hsh hxA7 hxB7 hx8 R1
  go_wp2_with fail
  generalize w8.heap.size = gs at *
  generalize (w8.alloc (.cells #[.int .u32 3, .int .u32 0] 27)) = wD at *
  -- Count
  have hcn : Calls Tryd.prog 29 #[.slice (some ⟨g, 0, none⟩) 3 3] wD (fun e w' => e = .returned (.tuple #[.int .i64 6, .int .i64 0]) ∧ Ext wD w') := by
    have h := count_any _ 3 3 exL wD (R.ext hxA8) (hTA2.ext hxA8)
    unfold RetCn at h
    rw [ex_cn, ex_ck] at h
    exact h
  refine hcn.mono ?_
  rintro e w9 ⟨rfl, hx9⟩
  clear hcn
  have hxA9 := hxA8.trans hx9
  go_wp2_with fail
  -- Gaps
  have hgp : Calls Tryd.prog 27 #[.slice (some ⟨g, 0, none⟩) 3 3] w9 (fun e w' => ∃ v, e = .returned (.tuple #[v, .int .i64 0]) ∧ OwnS w9.heap.size 27 w' v [⟨4#32, 3#32⟩] ∧ Ext w9 w') := by
    have h := gaps_any _ 3 3 exL w9 (R.ext hxA9) (hTA.ext hxA9)
    unfold RetG at h
    rw [ex_ck2] at h
    refine h.mono ?_
    rintro e w' ⟨v, L, h1, h2, h3, _, h4⟩
    exact ⟨v, h1, by rw [ex_gaps.uniq (h3 rfl)]; exact h2, h4⟩
  refine hgp.mono ?_
  rintro e w10 ⟨v10, rfl, hown10, hx10⟩
  obtain ⟨a10, _, c10, rfl, rfl, hG⟩ := OwnK.rdn Snd.len hown10
  clear hgp hown10
  have hxA10 := hxA9.trans hx10
  have hxD10 := hx9.trans hx10
  clear hx9 hxA9 hxA8
  go_wp2_with fail
  -- Needed
  have hnd : Calls Tryd.prog 25 #[.slice (some ⟨g, 0, none⟩) 3 3] w10 (fun e w' => e = .returned (.tuple #[.int .u32 1, .int .i64 0]) ∧ Ext w10 w') := by
    have h := needed_any _ 3 3 exL w10 (R.ext hxA10)
    unfold RetN at h
    rw [ex_nd, ex_ck2] at h
    exact h
  refine hnd.mono ?_
  rintro e w11 ⟨rfl, hx11⟩
  clear hnd
  have hxD11 := hxD10.trans hx11
  have hxB11 := hxB8.trans hxD11
  have k0 := hxB11.cellv k0
  have k1 := hxB11.cellv k1
  have m0 := hxD11.cellv m0
  have m1 := hxD11.cellv m1
  have hI := hI.ext hxB11
  have hG := hG.ext hx11
  have hxw := (hxA.trans hxA10).trans hx11
  have q1 : ∀ W : World, (binOp .eql 27 (.agg #[.int .u32 2, .int .u32 4]) (.agg #[.int .u32 2, .int .u32 4])).run Tryd.prog W = .ok (.bool true) W := fun W => by
    have h := eql_snd ⟨2#32, 4#32⟩ ⟨2#32, 4#32⟩ W
    rw [decide_eq_true rfl] at h; exact h
  have q2 : ∀ W : World, (binOp .eql 27 (.agg #[.int .u32 3, .int .u32 0]) (.agg #[.int .u32 3, .int .u32 0])).run Tryd.prog W = .ok (.bool true) W := fun W => by
    have h := eql_snd ⟨3#32, 0#32⟩ ⟨3#32, 0#32⟩ W
    rw [decide_eq_true rfl] at h; exact h
  clear hxA10 hxD10 hx10 hx11 hxB8 hTA hTA2 R hxA hxB hT hT2
  go_wp2_with fail
  have hxE := Ext.alloc1 w11 (.cells #[.int .i64 0, .int .i64 1] 3)
  have hL := OwnK.rdc I64.len (lit_own I64.len w11 3 [0, 1] #[.int .i64 0, .int .i64 1] rfl (n := 2) rfl (by decide))
  have heq := lequal_any a4 2 c4 [0, 1] _ 2 2 [0, 1] _ (hI.ext hxE) hL
  rw [decide_eq_true rfl] at heq
  refine heq.mono ?_
  rintro e w12 ⟨rfl, hx12⟩
  have hx12 := hxE.trans hx12
  have m0 := hx12.cellv m0
  have m1 := hx12.cellv m1
  have hG := hG.ext hx12
  have hxw := hxw.trans hx12
  clear heq hL hI hxE hx12 k0 k1
  go_wp2_with fail
  have hxE := Ext.alloc1 w12 (.cells #[.int .u32 4, .int .u32 3] 27)
  have hL := OwnK.rdc Snd.len (lit_own Snd.len w12 27 [⟨4#32, 3#32⟩] #[.int .u32 4, .int .u32 3] rfl (n := 1) rfl (by decide))
  have heq := lsame_any a10 1 c10 [⟨4#32, 3#32⟩] _ 1 1 [⟨4#32, 3#32⟩] _ (hG.ext hxE) hL
  rw [decide_eq_true rfl] at heq
  refine heq.mono ?_
  rintro e w13 ⟨rfl, hx13⟩
  have hxw := (hxw.trans hxE).trans hx13
  clear heq hL hG hxE hx13
  go_wp2_with fail
  go_ret
  exact ⟨rfl, hxw⟩
end Go.Proofs.YtbnbfdbliokcaaaDoor
