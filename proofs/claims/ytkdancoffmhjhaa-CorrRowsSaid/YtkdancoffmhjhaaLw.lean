/-
  works: the examples of the chapter.
-/
import Derived.Test.YtkdancoffmhjhaaLv
namespace Go.Proofs.Ytkdancoffmhjhaa
open Go.RowKit Go.Shelf
theorem equalIn_frac (a b c d : Int) (w : World) (k : Nat) : (Op.equalIn (k + 2) 44 (.agg #[.int .i64 a, .int .i64 b]) (.agg #[.int .i64 c, .int .i64 d])).run Try.prog w = .ok (decide (a = c ∧ b = d)) w := by
  have hS : Try.prog.underlying 44 = some (.struct (Try.prog.fieldsOf 44)) := by kernel_rfl
  have hp : Try.prog.stoodInHeld 44 = false := by kernel_rfl
  have p0 : ∀ (a b : Value) (w : World), (part 2 #[a, b] 0).run Try.prog w = .ok a w := fun a b w => by kernel_rfl
  have p1 : ∀ (a b : Value) (w : World), (part 2 #[a, b] 1).run Try.prog w = .ok b w := fun a b w => by kernel_rfl
  rw [show k + 2 = (k + 1) + 1 from rfl, run_equalIn_agg w (k + 1) 44 _ _ hS hp]
  simp [Program.fieldsOf, Try.underlying44, Op.eqFields, Sem.run_bind, p0, p1, Result.andThen_ok, run_equalIn_int w k 2 .i64 .i64 _ _ Try.underlying2]
  by_cases h1 : a = c <;> by_cases h2 : b = d <;> simp [h1, h2]
theorem eql_frac (a b c d : Int) (w : World) : (binOp .eql 44 (.agg #[.int .i64 a, .int .i64 b]) (.agg #[.int .i64 c, .int .i64 d])).run Try.prog w = .ok (.bool (decide (a = c ∧ b = d))) w := by
  rw [run_eql_struct, show (10000 : Nat) = 9998 + 2 from rfl, equalIn_frac]; rfl
theorem sumK_fold : ∀ (l pre L : List (List Cl × Int)), SumK cmpCs pre L → SumK cmpCs (pre ++ l) (l.foldl (addK cmpCs) L)
  | [], pre, L, h => by simpa using h
  | x :: l, pre, L, h => by
    have := sumK_fold l (pre ++ [x]) _ (h.add cmpCs_tot x)
    simpa using this
theorem sumK_is {l L : List (List Cl × Int)} (h : SumK cmpCs l L) : L = l.foldl (addK cmpCs) [] := h.uniq cmpCs_tot (by simpa using sumK_fold l [] [] SumK.nil)
theorem three_of {hs : List HCo} {p q r : List Cl × Int} (h : hs.map kp = [p, q, r]) : ∃ y0 y1 y2, hs = [y0, y1, y2] := by
  have hl := congrArg List.length h
  simp only [List.length_map, List.length_cons, List.length_nil] at hl
  match hs, hl with
  | [a, b, c], _ => exact ⟨a, b, c, rfl⟩
theorem two_of {hs : List HCo} {p q : List Cl × Int} (h : hs.map kp = [p, q]) : ∃ y0 y1, hs = [y0, y1] := by
  have hl := congrArg List.length h
  simp only [List.length_map, List.length_cons, List.length_nil] at hl
  match hs, hl with
  | [a, b], _ => exact ⟨a, b, rfl⟩
theorem co_of {w : World} {y : HCo} {x : List Cl} {c : Int} {n : Nat} (h : kp y = (x, c)) (hr : RdC w y.a y.n y.cap y.x) (hn : x.length = n) : y = ⟨y.a, n, y.cap, c, x⟩ := by
  have := hr.len
  simp only [kp, Prod.mk.injEq] at h
  obtain ⟨ya, yn, yc, ycnt, yx⟩ := y
  simp only at *
  rw [← h.1, ← h.2, ← this, h.1, hn]
set_option maxHeartbeats 400000 in
set_option maxRecDepth 20000 in
theorem works_any (w : World) : Calls Try.prog 15 #[] w fun e w' => e = .returned (.bool true) ∧ Ext w w' := by
  go_enter Try.func15, Try.ntmps15
  go_wp2_with fail
  refine (lp_any _).mono ?_
  rintro e w1 ⟨rfl, hx1⟩
  go_wp2_with fail
  refine (lb_any _).mono ?_
  rintro e w2 ⟨rfl, hx2⟩
  go_wp2_with fail
  have R1 := OwnK.rdc Cl.len (lit_own Cl.len w2 39 [cP, cB] #[.int .i64 (cP).kind, .int .u32 (cP).s.p.toNat, .int .u32 (cP).s.m.toNat, .int .i64 (cB).kind, .int .u32 (cB).s.p.toNat, .int .u32 (cB).s.m.toNat] rfl (n := 2) rfl (by decide))
  refine (la_any _).mono ?_
  rintro e w3 ⟨rfl, hx3⟩
  go_wp2_with fail
  refine (la_any _).mono ?_
  rintro e w4 ⟨rfl, hx4⟩
  go_wp2_with fail
  have R2 := OwnK.rdc Cl.len (lit_own Cl.len w4 39 [cA, cA] #[.int .i64 (cA).kind, .int .u32 (cA).s.p.toNat, .int .u32 (cA).s.m.toNat, .int .i64 (cA).kind, .int .u32 (cA).s.p.toNat, .int .u32 (cA).s.m.toNat] rfl (n := 2) rfl (by decide))
  refine (lp_any _).mono ?_
  rintro e w5 ⟨rfl, hx5⟩
  go_wp2_with fail
  refine (lb_any _).mono ?_
  rintro e w6 ⟨rfl, hx6⟩
  go_wp2_with fail
  have R3 := OwnK.rdc Cl.len (lit_own Cl.len w6 39 [cP, cB] #[.int .i64 (cP).kind, .int .u32 (cP).s.p.toNat, .int .u32 (cP).s.m.toNat, .int .i64 (cB).kind, .int .u32 (cB).s.p.toNat, .int .u32 (cB).s.m.toNat] rfl (n := 2) rfl (by decide))
  refine (lp_any _).mono ?_
  rintro e w7 ⟨rfl, hx7⟩
  go_wp2_with fail
  refine (lgap_any _).mono ?_
  rintro e w8 ⟨rfl, hx8⟩
  have R4 := OwnK.rdc Cl.len (lit_own Cl.len w8 39 [cP, gapC] #[.int .i64 (cP).kind, .int .u32 (cP).s.p.toNat, .int .u32 (cP).s.m.toNat, .int .i64 (gapC).kind, .int .u32 (gapC).s.p.toNat, .int .u32 (gapC).s.m.toNat] rfl (n := 2) rfl (by decide))
  have x8 := Ext.alloc1 w8 (.cells #[.int .i64 (cP).kind, .int .u32 (cP).s.p.toNat, .int .u32 (cP).s.m.toNat, .int .i64 (gapC).kind, .int .u32 (gapC).s.p.toNat, .int .u32 (gapC).s.m.toNat] 39)
  have x6 := (((Ext.alloc1 w6 (.cells #[.int .i64 (cP).kind, .int .u32 (cP).s.p.toNat, .int .u32 (cP).s.m.toNat, .int .i64 (cB).kind, .int .u32 (cB).s.p.toNat, .int .u32 (cB).s.m.toNat] 39)).trans hx7).trans hx8).trans x8
  have x4 := (((Ext.alloc1 w4 (.cells #[.int .i64 (cA).kind, .int .u32 (cA).s.p.toNat, .int .u32 (cA).s.m.toNat, .int .i64 (cA).kind, .int .u32 (cA).s.p.toNat, .int .u32 (cA).s.m.toNat] 39)).trans hx5).trans hx6).trans x6
  have x2 := (((Ext.alloc1 w2 (.cells #[.int .i64 (cP).kind, .int .u32 (cP).s.p.toNat, .int .u32 (cP).s.m.toNat, .int .i64 (cB).kind, .int .u32 (cB).s.p.toNat, .int .u32 (cB).s.m.toNat] 39)).trans hx3).trans hx4).trans x4
  have x0 := (hx1.trans hx2).trans x2
  have R1 := R1.ext ((hx3.trans hx4).trans x4)
  have R2 := R2.ext ((hx5.trans hx6).trans x6)
  have R3 := R3.ext ((hx7.trans hx8).trans x8)
  generalize hA : w8.alloc (.cells #[.int .i64 (cP).kind, .int .u32 (cP).s.p.toNat, .int .u32 (cP).s.m.toNat, .int .i64 (gapC).kind, .int .u32 (gapC).s.p.toNat, .int .u32 (gapC).s.m.toNat] 39) = wA at *
  have hR := OwnK.rdc (k := 1) (enc := HW.enc) (fun _ => rfl) (lit_own (k := 1) (enc := HW.enc) (fun _ => rfl) wA 29 [⟨some ⟨w2.heap.size, 0, none⟩, 2, 2, [cP, cB]⟩, ⟨some ⟨w4.heap.size, 0, none⟩, 2, 2, [cA, cA]⟩, ⟨some ⟨w6.heap.size, 0, none⟩, 2, 2, [cP, cB]⟩, ⟨some ⟨w8.heap.size, 0, none⟩, 2, 2, [cP, gapC]⟩] #[.slice (some ⟨w2.heap.size, 0, none⟩) 2 2, .slice (some ⟨w4.heap.size, 0, none⟩) 2 2, .slice (some ⟨w6.heap.size, 0, none⟩) 2 2, .slice (some ⟨w8.heap.size, 0, none⟩) 2 2] rfl (n := 4) rfl (by decide))
  have xB := Ext.alloc1 wA (.cells #[.slice (some ⟨w2.heap.size, 0, none⟩) 2 2, .slice (some ⟨w4.heap.size, 0, none⟩) 2 2, .slice (some ⟨w6.heap.size, 0, none⟩) 2 2, .slice (some ⟨w8.heap.size, 0, none⟩) 2 2] 29)
  have hRW : RdHW (wA.alloc (.cells #[.slice (some ⟨w2.heap.size, 0, none⟩) 2 2, .slice (some ⟨w4.heap.size, 0, none⟩) 2 2, .slice (some ⟨w6.heap.size, 0, none⟩) 2 2, .slice (some ⟨w8.heap.size, 0, none⟩) 2 2] 29)) _ 4 4 _ := ⟨hR, fun y hy => by
    simp only [List.mem_cons, List.not_mem_nil, or_false] at hy
    rcases hy with rfl | rfl | rfl | rfl
    · exact R1.ext xB
    · exact R2.ext xB
    · exact R3.ext xB
    · exact R4.ext xB⟩
  have hco := collect_any _ 4 4 _ _ hRW (by decide)
  have xC := x0.trans xB
  have hz : wA.heap.size = w8.heap.size + 1 := by rw [← hA]; simp
  clear R1 R2 R3 R4 hR hRW x8 x6 x4 x2 x0 xB hx1 hx2 hx3 hx4 hx5 hx6 hx7 hx8
  rw [hz] at hco
  have hco2 : Calls Try.prog 16 _ _ _ := hco.mono (R' := fun e w' => ∃ v hs, e = .returned (.tuple #[v, .int .i64 0]) ∧ OwnL _ w' v hs ∧ hs.map kp = [([cP, gapC], 1), ([cP, cB], 2), ([cA, cA], 1)] ∧ Ext _ w') (fun e w' h => by
    rcases h with ⟨h, _⟩ | ⟨_, L, hL, v, hs, he, ho, hk, hx⟩
    · exact absurd (by kernel_rfl) h
    · have hL2 := sumK_is hL
      have hL3 : L = [([cP, gapC], 1), ([cP, cB], 2), ([cA, cA], 1)] := hL2.trans (by kernel_rfl)
      subst hL3
      exact ⟨v, hs, he, ho, hk, hx⟩)
  clear hco
  go_wp2_with fail
  clear hA hz
  refine hco2.mono ?_
  rintro e wC ⟨v, hs, rfl, ho, hk, hx⟩
  have hxC := xC.trans hx
  obtain ⟨ao, no, co, hno, rfl, hro⟩ := OwnK.rdn HCo.len ho.own
  have hrd : RdH wC ao no co hs := ⟨hro, ho.ok⟩
  obtain ⟨y0, y1, y2, rfl⟩ := three_of hk
  simp only [List.map_cons, List.map_nil, List.cons.injEq, and_true] at hk
  have e0 := co_of (n := 2) hk.1 (hrd.ok y0 (by simp)) rfl
  have e1 := co_of (n := 2) hk.2.1 (hrd.ok y1 (by simp)) rfl
  have e2 := co_of (n := 2) hk.2.2 (hrd.ok y2 (by simp)) rfl
  generalize y0.a = a0 at e0
  generalize y0.cap = c0 at e0
  generalize y1.a = a1 at e1
  generalize y1.cap = c1 at e1
  generalize y2.a = a2 at e2
  generalize y2.cap = c2 at e2
  subst e0 e1 e2
  have hno : no = 3 := hno
  subst hno
  obtain ⟨b, off, y, rfl, hy, hb, p0, p1, _⟩ := hrd.at (i := 1) (by omega)
  have hy : y = ⟨a1, 2, c1, 2, [cP, cB]⟩ := (Option.some.inj hy.out).symm
  subst hy
  simp only at p0 p1
  clear hro ho hco2 hx xC hk
  go_wp2_with fail
  clear hy hno
  have hsh := fun W (z : Ext wC W) => share_any (some ⟨b, off, none⟩) 3 co [⟨a0, 2, c0, 1, [cP, gapC]⟩, ⟨a1, 2, c1, 2, [cP, cB]⟩, ⟨a2, 2, c2, 1, [cA, cA]⟩] 0 1 cP cB W (hrd.ext z)
  have hask : askE [⟨a0, 2, c0, 1, [cP, gapC]⟩, ⟨a1, 2, c1, 2, [cP, cB]⟩, ⟨a2, 2, c2, 1, [cA, cA]⟩] 0 1 cP cP = 0 := by kernel_rfl
  have hfac : (facL 0 1 cP [⟨a0, 2, c0, 1, [cP, gapC]⟩, ⟨a1, 2, c1, 2, [cP, cB]⟩, ⟨a2, 2, c2, 1, [cA, cA]⟩]).map kp = [([gapC], 1), ([cB], 2)] := by kernel_rfl
  have hsv : shareV [⟨a0, 2, c0, 1, [cP, gapC]⟩, ⟨a1, 2, c1, 2, [cP, cB]⟩, ⟨a2, 2, c2, 1, [cA, cA]⟩] 0 1 cP cB = (2, 3) := by kernel_rfl
  have hsa : askE [⟨a0, 2, c0, 1, [cP, gapC]⟩, ⟨a1, 2, c1, 2, [cP, cB]⟩, ⟨a2, 2, c2, 1, [cA, cA]⟩] 0 1 cP cB = 0 := by kernel_rfl
  have hrf := fun W (z : Ext wC W) => (reflexes_of stab_19 (some ⟨b, off, none⟩) 3 co [⟨a0, 2, c0, 1, [cP, gapC]⟩, ⟨a1, 2, c1, 2, [cP, cB]⟩, ⟨a2, 2, c2, 1, [cA, cA]⟩] 0 1 cP W (hrd.ext z) (fun _ => by simp)).mono (R' := fun e w' => ∃ b2 o2 c2 y, e = .returned (.tuple #[.slice (some ⟨b2, o2, none⟩) 2 c2, .int .i64 0]) ∧ w'.cell? ⟨b2, o2 + 1, none⟩ = some (.int .i64 2) ∧ y = b2 ∧ b2 < w'.heap.size ∧ Ext W w') (fun e w' h => by
    rcases h with ⟨h, _⟩ | ⟨_, L, hL, v, hs, he, ho, hk, _, hx⟩
    · exact absurd hask h
    · have hL2 := sumK_is hL
      rw [show Int.toNat 0 = 0 from rfl, show Int.toNat 1 = 1 from rfl, hfac] at hL2
      have hL3 : L = [([gapC], 1), ([cB], 2)] := hL2.trans (by kernel_rfl)
      subst hL3
      have hk2 : hs.map kp = [([cB], 2), ([gapC], 1)] := byCnt_uniq (hk (by kernel_rfl)) ⟨List.Perm.swap _ _ _, List.pairwise_cons.2 ⟨fun a ha => by rw [List.mem_singleton.1 ha]; decide, List.pairwise_singleton _ _⟩⟩
      obtain ⟨y0, y1, rfl⟩ := two_of hk2
      obtain ⟨ao, no, co, hno, rfl, hro⟩ := OwnK.rdn HCo.len ho.own
      have hno : no = 2 := hno
      subst hno
      obtain ⟨b, off, y, rfl, hy, hb, p0, p1, _⟩ := (show RdH w' ao 2 co [y0, y1] from ⟨hro, ho.ok⟩).at (i := 0) (by omega)
      have hy : y = y0 := (Option.some.inj hy.out).symm
      subst hy
      simp only [List.map_cons, List.map_nil, List.cons.injEq, and_true, kp, Prod.mk.injEq] at hk2
      rw [hk2.1.2, Nat.zero_mul, Nat.add_zero] at p1
      exact ⟨b, off, co, b, he, p1, rfl, hb, hx⟩)
  unfold ShRet at hsh
  rw [hsv, hsa] at hsh
  clear hask hfac hsv hsa hrd
  have hef := eql_frac
  refine (lp_any _).mono ?_
  rintro e wa ⟨rfl, hxa⟩
  go_wp2_with fail
  refine (lb_any _).mono ?_
  rintro e wb ⟨rfl, hxb⟩
  have xb := hxa.trans hxb
  have hsh2 := hsh wb xb
  go_wp2_with fail
  refine hsh2.mono ?_
  rintro e wc ⟨rfl, hxc⟩
  have xc := xb.trans hxc
  clear hsh hsh2
  go_wp2_with fail
  have q0 : (wc.alloc (.cells #[.int .i64 2, .int .i64 3] 44)).cell? ⟨wc.heap.size, 0, none⟩ = some (.int .i64 2) := by go_simp
  have q1 : (wc.alloc (.cells #[.int .i64 2, .int .i64 3] 44)).cell? ⟨wc.heap.size, 1, none⟩ = some (.int .i64 3) := by go_simp
  have xd := xc.trans (Ext.alloc1 wc (.cells #[.int .i64 2, .int .i64 3] 44))
  refine (lp_any _).mono ?_
  rintro e we ⟨rfl, hxe⟩
  have xe := xd.trans hxe
  have q2 := hxe.cellv q0
  have q3 := hxe.cellv q1
  have hrf2 := hrf we xe
  go_wp2_with fail
  refine hrf2.mono ?_
  rintro e wf ⟨b2, o2, cc, y, rfl, p3, rfl, hb2, hxf⟩
  have q4 := hxf.cellv q2
  have q5 := hxf.cellv q3
  clear hrf hrf2 q0 q1 q2 q3
  go_wp2_with fail
  go_ret
  exact ⟨rfl, hxC.trans (xe.trans hxf)⟩
end Go.Proofs.Ytkdancoffmhjhaa
