/-
  works: the example holds.
-/
import Derived.Test.YtilkemdecenibaaNy
import Derived.Test.YtilkemdecenibaaNf
import Derived.Test.YtilkemdecenibaaSpc
namespace Go.Proofs.Ytilkemdecenibaa
open Go.RowKit Go.Maps
def SlV (n : Nat) (xs : List Snd) : Pr := fun v w => ∃ b, v = .slice (some ⟨b, 0, none⟩) n n ∧ RdS w (some ⟨b, 0, none⟩) n n xs
def WsV (ws : List (List Snd)) : Pr := fun v w => ∃ a n c, v = .slice a n c ∧ RdWs w a n c ws
theorem stab_sl (n : Nat) (xs : List Snd) : Stab (SlV n xs) := fun _ _ _ ⟨b, h1, h2⟩ hx => ⟨b, h1, h2.ext hx⟩
theorem stab_ws (ws : List (List Snd)) : Stab (WsV ws) := fun _ _ _ ⟨a, n, c, h1, h2⟩ hx => ⟨a, n, c, h1, h2.ext hx⟩
theorem st_cons {p : Pr} {L : List Pr} (h : Stab p) (hL : ∀ q ∈ L, Stab q) : ∀ q ∈ p :: L, Stab q := fun q hq => by
  rcases List.mem_cons.1 hq with rfl | hq
  · exact h
  · exact hL q hq
def exW4 : List (List Snd) := [[⟨2#32, 5#32⟩], [⟨3#32, 4#32⟩], [⟨2#32, 5#32⟩, ⟨5#32, 2#32⟩], [⟨3#32, 4#32⟩, ⟨5#32, 2#32⟩]]
def tauW : List Nat := [57, 58, 59, 60, 61, 62, 63, 64, 65, 66, 67, 68, 69, 70, 71, 72, 73, 74, 75, 76, 77, 78, 79, 80, 81, 82, 83, 84, 85, 86, 87, 88, 89, 90, 91, 92, 93, 94, 95, 96, 97, 98, 99, 100, 101, 102, 103, 104, 105, 106, 107, 108, 109, 110, 111, 112, 113, 114, 115, 116, 117, 118, 119, 120, 121, 122, 123, 124, 125, 126, 127, 128, 129, 130, 131, 132, 133, 134, 135, 136, 0]
def relW (ba s : Nat) (a1 : Option Addr) (n1 k1 : Nat) : List Pr := [EqV (.pointer (some ⟨ba, 0, none⟩)), EqV (.int .i64 3), EqV (.bool true), EqV (.bool true), EqV (.pointer (some ⟨ba, 0, none⟩)), EqV (.slice (some ⟨s, 0, none⟩) 3 3), EqV (.pointer (some ⟨s, 0, none⟩)), EqV (.agg #[.int .u32 2, .int .u32 5]), EqV (.slice (some ⟨s, 0, none⟩) 3 3), EqV (.pointer (some ⟨s, 4, none⟩)), EqV (.agg #[.int .u32 5, .int .u32 2]), EqV (.slice (some ⟨s, 0, none⟩) 3 3), EqV (.pointer (some ⟨s, 4, none⟩)), EqV (.agg #[.int .u32 5, .int .u32 2]), SlV 3 [⟨2#32, 5#32⟩, ⟨5#32, 2#32⟩, ⟨5#32, 2#32⟩], EqV (.bool true), EqV (.bool true), EqV (.bool true), EqV (.pointer (some ⟨ba, 0, none⟩)), EqV (.slice (some ⟨s, 0, none⟩) 3 3), EqV (.pointer (some ⟨s, 4, none⟩)), EqV (.agg #[.int .u32 5, .int .u32 2]), SlV 1 [⟨5#32, 2#32⟩], EqV (.bool false), EqV (.bool true), EqV (.bool true), EqV (.bool true), EqV (.int .i64 ((2 : Nat) : Int)), EqV (.bool true), EqV (.bool true), EqV (.bool true), EqV (.int .i64 ((0 : Nat) : Int)), EqV (.bool true), EqV (.bool true), EqV (.bool true), EqV (.bool true), EqV (.bool true), EqV (.bool true), EqV (.int .i64 0), EqV (.bool true), EqV (.bool true), EqV (.bool true), EqV (.slice a1 n1 k1), EqV (.slice (some ⟨s, 0, none⟩) 3 3), EqV (.pointer (some ⟨s, 0, none⟩)), EqV (.agg #[.int .u32 2, .int .u32 5]), EqV (.slice (some ⟨s, 0, none⟩) 3 3), EqV (.pointer (some ⟨s, 4, none⟩)), EqV (.agg #[.int .u32 5, .int .u32 2]), SlV 2 [⟨2#32, 5#32⟩, ⟨5#32, 2#32⟩], EqV (.bool true), EqV (.bool true), EqV (.bool true), EqV (.pointer (some ⟨ba, 0, none⟩)), WsV exW4, EqV (.slice (some ⟨s, 0, none⟩) 3 3), EqV (.pointer (some ⟨s, 0, none⟩)), EqV (.agg #[.int .u32 2, .int .u32 5]), SlV 1 [⟨2#32, 5#32⟩], EqV (.slice (some ⟨s, 0, none⟩) 3 3), EqV (.pointer (some ⟨s, 2, none⟩)), EqV (.agg #[.int .u32 3, .int .u32 4]), SlV 1 [⟨3#32, 4#32⟩], EqV (.slice (some ⟨s, 0, none⟩) 3 3), EqV (.pointer (some ⟨s, 0, none⟩)), EqV (.agg #[.int .u32 2, .int .u32 5]), EqV (.slice (some ⟨s, 0, none⟩) 3 3), EqV (.pointer (some ⟨s, 4, none⟩)), EqV (.agg #[.int .u32 5, .int .u32 2]), SlV 2 [⟨2#32, 5#32⟩, ⟨5#32, 2#32⟩], EqV (.slice (some ⟨s, 0, none⟩) 3 3), EqV (.pointer (some ⟨s, 2, none⟩)), EqV (.agg #[.int .u32 3, .int .u32 4]), EqV (.slice (some ⟨s, 0, none⟩) 3 3), EqV (.pointer (some ⟨s, 4, none⟩)), EqV (.agg #[.int .u32 5, .int .u32 2]), SlV 2 [⟨3#32, 4#32⟩, ⟨5#32, 2#32⟩], WsV exW4, EqV (.bool true), EqV (.bool true), EqV (.bool true)]
theorem relW_st (ba s : Nat) (a1 : Option Addr) (n1 k1 : Nat) : ∀ p ∈ relW ba s a1 n1 k1, Stab p := by
  unfold relW
  repeat refine st_cons (by first | exact stab_eq _ | exact stab_sl _ _ | exact stab_ws _) ?_
  intro q hq; cases hq
theorem ws4_new {w : World} {b0 b1 b2 b3 : Nat} {l0 l1 l2 l3 : List Snd} (r0 : RdS w (some ⟨b0, 0, none⟩) 1 1 l0) (r1 : RdS w (some ⟨b1, 0, none⟩) 1 1 l1) (r2 : RdS w (some ⟨b2, 0, none⟩) 2 2 l2) (r3 : RdS w (some ⟨b3, 0, none⟩) 2 2 l3) :
    WsV [l0, l1, l2, l3] (.slice (some ⟨w.heap.size, 0, none⟩) 4 4) (w.alloc (.cells #[.slice (some ⟨b0, 0, none⟩) 1 1, .slice (some ⟨b1, 0, none⟩) 1 1, .slice (some ⟨b2, 0, none⟩) 2 2, .slice (some ⟨b3, 0, none⟩) 2 2] 28)) := by
  have hx : Ext w (w.alloc (.cells #[.slice (some ⟨b0, 0, none⟩) 1 1, .slice (some ⟨b1, 0, none⟩) 1 1, .slice (some ⟨b2, 0, none⟩) 2 2, .slice (some ⟨b3, 0, none⟩) 2 2] 28)) := Ext.alloc1 _ _
  have hb : w.heap.size < (w.alloc (.cells #[.slice (some ⟨b0, 0, none⟩) 1 1, .slice (some ⟨b1, 0, none⟩) 1 1, .slice (some ⟨b2, 0, none⟩) 2 2, .slice (some ⟨b3, 0, none⟩) 2 2] 28)).heap.size := by rw [World.size_alloc]; omega
  refine ⟨some ⟨w.heap.size, 0, none⟩, 4, 4, rfl, ?_⟩
  refine RdV.lit (R := WS) (ws := [l0, l1, l2, l3]) (vs := [.slice (some ⟨b0, 0, none⟩) 1 1, .slice (some ⟨b1, 0, none⟩) 1 1, .slice (some ⟨b2, 0, none⟩) 2 2, .slice (some ⟨b3, 0, none⟩) 2 2]) hb (fun j u hu => by
    have h := World.alloc_heap_new w (.cells #[.slice (some ⟨b0, 0, none⟩) 1 1, .slice (some ⟨b1, 0, none⟩) 1 1, .slice (some ⟨b2, 0, none⟩) 2 2, .slice (some ⟨b3, 0, none⟩) 2 2] 28)
    simp only [World.cell?, h]
    rw [← Array.getElem?_toList]
    exact hu) rfl (by show 4 ≤ maxLen; unfold maxLen; omega) (fun i v x hv hx' => ?_) rfl
  match i with
  | 0 => simp at hv hx'; subst hv hx'; exact ⟨_, _, _, rfl, r0.ext hx⟩
  | 1 => simp at hv hx'; subst hv hx'; exact ⟨_, _, _, rfl, r1.ext hx⟩
  | 2 => simp at hv hx'; subst hv hx'; exact ⟨_, _, _, rfl, r2.ext hx⟩
  | 3 => simp at hv hx'; subst hv hx'; exact ⟨_, _, _, rfl, r3.ext hx⟩
  | i + 4 => simp at hv
theorem exB_any {w : World} {s a b : Nat} (hS : RdS w (some ⟨s, 0, none⟩) 3 3 exS) (hP : RdPt w (exP (some ⟨a, 0, none⟩) (some ⟨b, 0, none⟩))) :
    (∀ W, Ext w W → Calls Try.prog 35 #[patV (exP (some ⟨a, 0, none⟩) (some ⟨b, 0, none⟩)), .slice (some ⟨s, 0, none⟩) 3 3] W (RetBu exA W)) ∧ (∀ W, Ext w W → Calls Try.prog 35 #[patV exQ, .slice (some ⟨s, 0, none⟩) 3 3] W (RetBu exB W)) := by
  obtain ⟨n1, n2, n3, n4⟩ := exG_net
  obtain ⟨m1, m2, m3, m4⟩ := exH_net
  obtain ⟨p1, p2, p3, p4, p5, _⟩ := exA_build
  obtain ⟨q1, q2, q3, q4, q5, _⟩ := exB_build
  obtain ⟨o1, o2, o3⟩ := ex_ok (some ⟨a, 0, none⟩) (some ⟨b, 0, none⟩)
  obtain ⟨r1, r2, r3⟩ := exQ_ok
  refine ⟨fun W hW => ?_, fun W hW => ?_⟩
  · have := build_any (exP (some ⟨a, 0, none⟩) (some ⟨b, 0, none⟩)) o1 o2 (some ⟨s, 0, none⟩) 3 3 exS W (hP.ext hW) (hS.ext hW) o3 exG 5 (exG_lay _ _) n1 n2 n3 n4 4 1 (by decide) p1 exA0 p2 p3 p4
    rwa [p5] at this
  · have := build_any exQ r1 r2 (some ⟨s, 0, none⟩) 3 3 exS W (oneP_rd _ W) (hS.ext hW) r3 exH 1 exH_lay m1 m2 m3 m4 3 1 (by decide) q1 exB0 q2 q3 q4
    rwa [q5] at this
set_option maxHeartbeats 1000000 in
set_option maxRecDepth 20000 in
theorem works_any (w : World) : Calls Try.prog 17 #[] w fun e w' => e = .returned (.bool true) ∧ Ext w w' := by
  go_enter Try.func17, Try.ntmps17
  go_wp2_with fail
  refine (example_any w).mono ?_
  rintro e w1 ⟨s, a, b, rfl, hS, hP, hx1⟩
  obtain ⟨hbA, hbB⟩ := exB_any hS hP
  obtain ⟨_, _, e, _, hc⟩ := hS.pos (by decide)
  cases e
  have c0 : w1.cell? ⟨s, 0, none⟩ = some (.int .u32 2) := hc 0 _ rfl 0 _ rfl
  have c1 : w1.cell? ⟨s, 1, none⟩ = some (.int .u32 5) := hc 0 _ rfl 1 _ rfl
  have c2 : w1.cell? ⟨s, 2, none⟩ = some (.int .u32 3) := hc 1 _ rfl 0 _ rfl
  have c3 : w1.cell? ⟨s, 3, none⟩ = some (.int .u32 4) := hc 1 _ rfl 1 _ rfl
  have c4 : w1.cell? ⟨s, 4, none⟩ = some (.int .u32 5) := hc 2 _ rfl 0 _ rfl
  have c5 : w1.cell? ⟨s, 5, none⟩ = some (.int .u32 2) := hc 2 _ rfl 1 _ rfl
  obtain ⟨_, _, x, e, hx, hal, _, q0, q1, q2, q3, q4, q5, q6⟩ := hP.at (i := 0) (by show 0 < 3; decide)
  cases e
  obtain rfl : exQ = x := Option.some.inj hx.out
  change w1.cell? ⟨a, 0, none⟩ = some (.int .i64 1) at q0
  change w1.cell? ⟨a, 1, none⟩ = some (.int .u32 2) at q1
  change w1.cell? ⟨a, 2, none⟩ = some (.int .u32 0) at q2
  change w1.cell? ⟨a, 3, none⟩ = some (.bool false) at q3
  change w1.cell? ⟨a, 4, none⟩ = some (.int .i64 0) at q4
  change w1.cell? ⟨a, 5, none⟩ = some (.int .i64 0) at q5
  change w1.cell? ⟨a, 6, none⟩ = some (.slice none 0 0) at q6
  have hS' := Lib.hid hS
  clear hc hx hS hP
  go_wp2_with fail
  refine (hbA _ (Ext.alloc1 _ _)).mono ?_
  clear hbA
  rintro e w2 ⟨ba, rfl, hA, hx2⟩
  have cL0 : (w1.alloc (.cells #[.int .i64 3, .int .u32 0, .int .u32 0, .bool false, .int .i64 0, .int .i64 0, .slice (some ⟨a, 0, none⟩) 3 3] 27)).cell? ⟨w1.heap.size, 6, none⟩ = some (.slice (some ⟨a, 0, none⟩) 3 3) := by go_simp
  have cL := hx2.cellv cL0
  have hxp := (Ext.alloc1 w1 _).trans hx2
  have p0 := hxp.cellv q0
  have p1 := hxp.cellv q1
  have p2 := hxp.cellv q2
  have p3 := hxp.cellv q3
  have p4 := hxp.cellv q4
  have p5 := hxp.cellv q5
  have p6 := hxp.cellv q6
  have hbB2 := hbB _ hxp
  clear q0 q1 q2 q3 q4 q5 q6 cL0 hbB hx2
  go_wp2_with fail
  refine hbB2.mono ?_
  clear hbB2 p0 p1 p2 p3 p4 p5 p6 cL
  rintro e w3 ⟨bb, rfl, hB, hx3⟩
  have hxp3 := hxp.trans hx3
  replace hA := hA.ext hx3
  have hcnt := count_any exA exA_build.2.2.2.2.2 3 rfl (by decide) (by decide) w3 ba hA 2 (by decide)
  rw [exA_cnt, if_neg (by decide), if_neg (by decide)] at hcnt
  have hA' := Lib.hid hA
  have hB' := Lib.hid hB
  clear hxp hx3 hA hB
  go_wp2_with fail
  refine hcnt.mono ?_
  clear hcnt
  rintro e w4 ⟨rfl, hx4⟩
  have hdif : Calls Try.prog 37 #[.pointer (some ⟨ba, 0, none⟩), .pointer (some ⟨bb, 0, none⟩)] w4 (RetDi (wordsAll exC [0, 1, 2]) w4) := by
    obtain ⟨t1, t2, t3, t4, t5, t6⟩ := exC_tog
    have := togD_any exA exB exA_build.2.2.2.2.2 exB_build.2.2.2.2.2 rfl 3 3 rfl rfl (by decide) (by decide) (by decide) 4 2 (by decide) t1 exD t2 t3 t4 w4 ba bb (hA'.out.ext hx4) (hB'.out.ext hx4)
    rw [t5] at this
    exact differ_ok t6 4 rfl (by decide) (by decide) 3 rfl (by decide) [0, 1, 2] exOrd this
  obtain ⟨wl, hwl⟩ := exC_words
  rw [hwl] at hdif
  replace hwl := Lib.hid hwl
  go_wp2_with fail
  refine hdif.mono ?_
  clear hdif
  rintro e w5 ⟨a1, n1, k1, rfl, hr1, hx5⟩
  have hn1 : n1 = 2 := hr1.len.symm
  have hx45 := hx4.trans hx5
  have hA5 := hA'.out.ext hx45
  have hx15 := hxp3.trans hx45
  have s0 := Ext.cellv hx15 c0
  have s1 := Ext.cellv hx15 c1
  have s2 := Ext.cellv hx15 c2
  have s3 := Ext.cellv hx15 c3
  have s4 := Ext.cellv hx15 c4
  have s5 := Ext.cellv hx15 c5
  have hsl := cell_lt s0
  have hr1' := Lib.hid hr1
  have hA5' := Lib.hid hA5
  replace hn1 := Lib.hid hn1
  clear hr1 hA5
  go_wp2_with fail
  have hr1 := hr1'.out
  have hA5 := hA5'.out
  refine wp_spec tauW (relW ba s a1 n1 k1) (by kernel_rfl) (by kernel_rfl) (by kernel_rfl) ?does ?fin
  case does =>
    have hmono := fun j => stab_rel (relW_st ba s a1 n1 k1) j
    have hGm := fun (x y : World) (h : Ext w5 x) (hx : Ext x y) => h.trans hx
    clear hx4 hx5 hx45 hx15 hxp3 hx1 hA' hB' hS'
    refine ⟨?_, ?_, ?_, ?_, ?_, ?_, ?_, ?_, ?_, ?_, ?_, ?_, ?_, ?_, ?_, ?_, ?_, ?_, ?_, ?_, ?_, ?_, ?_, ?_, ?_, ?_, ?_, ?_, ?_, ?_, ?_, ?_, ?_, ?_, ?_, ?_, ?_, ?_, ?_, ?_, ?_, ?_, ?_, ?_, ?_, ?_, ?_, ?_, ?_, ?_, ?_, ?_, ?_, ?_, ?_, ?_, ?_, ?_, ?_, ?_, ?_, ?_, ?_, ?_, ?_, ?_, ?_, ?_, ?_, ?_, ?_, ?_, ?_, ?_, ?_, ?_, ?_, ?_, ?_, ?_, ?_, trivial⟩
    · refine does_valG (N := 137) rfl rfl rfl (by decide) (fun ax wx hold hdep hG => ⟨rfl, _, ?_, rfl⟩)
      have h3 := gd (show ax.tmps.getD 3 undef = .pointer (some ⟨ba, 0, none⟩) from hold 3 (out_of (by kernel_rfl)))
      clear hdep hold
      go_simp
    · refine does_callG (f := 19) (N := 137) rfl rfl rfl (by decide) hmono hGm (fun ax wx hold hdep hG => ?_)
      have h57 := gd (show ax.tmps.getD 57 undef = .pointer (some ⟨ba, 0, none⟩) from hdep 0 (by kernel_rfl))
      refine ⟨rfl, #[.pointer (some ⟨ba, 0, none⟩)], by clear hdep hold; go_simp, ?_⟩
      exact (states_any exA wx ba (hA5.ext hG)).mono fun e w' ⟨h, hx⟩ => ⟨⟨_, h, rfl⟩, hx⟩
    · refine does_valG (N := 137) rfl rfl rfl (by decide) (fun ax wx hold hdep hG => ⟨rfl, _, ?_, rfl⟩)
      have h58 := gd (show ax.tmps.getD 58 undef = .int .i64 3 from hdep 1 (by kernel_rfl))
      clear hdep hold
      go_simp
    · refine does_valG (N := 137) rfl rfl rfl (by decide) (fun ax wx hold hdep hG => ⟨rfl, _, ?_, rfl⟩)
      have h59 := gd (show ax.tmps.getD 59 undef = .bool true from hdep 2 (by kernel_rfl))
      clear hdep hold
      go_simp
    · refine does_valG (N := 137) rfl rfl rfl (by decide) (fun ax wx hold hdep hG => ⟨wanted_g rfl rfl rfl (show ax.tmps.getD 60 undef = .bool true from hdep 3 (by kernel_rfl)), _, ?_, rfl⟩)
      have h3 := gd (show ax.tmps.getD 3 undef = .pointer (some ⟨ba, 0, none⟩) from hold 3 (out_of (by kernel_rfl)))
      clear hdep hold
      go_simp
    · refine does_valG (N := 137) rfl rfl rfl (by decide) (fun ax wx hold hdep hG => ⟨wanted_g rfl rfl rfl (show ax.tmps.getD 60 undef = .bool true from hdep 3 (by kernel_rfl)), _, ?_, rfl⟩)
      have h1 := gd (show ax.tmps.getD 1 undef = .slice (some ⟨s, 0, none⟩) 3 3 from hold 1 (out_of (by kernel_rfl)))
      clear hdep hold
      go_simp
    · refine does_valG (N := 137) rfl rfl rfl (by decide) (fun ax wx hold hdep hG => ⟨wanted_g rfl rfl rfl (show ax.tmps.getD 60 undef = .bool true from hdep 3 (by kernel_rfl)), _, ?_, rfl⟩)
      have h62 := gd (show ax.tmps.getD 62 undef = .slice (some ⟨s, 0, none⟩) 3 3 from hdep 5 (by kernel_rfl))
      clear hdep hold
      go_simp
    · refine does_valG (N := 137) rfl rfl rfl (by decide) (fun ax wx hold hdep hG => ⟨wanted_g rfl rfl rfl (show ax.tmps.getD 60 undef = .bool true from hdep 3 (by kernel_rfl)), _, ?_, rfl⟩)
      have h63 := gd (show ax.tmps.getD 63 undef = .pointer (some ⟨s, 0, none⟩) from hdep 6 (by kernel_rfl))
      have z0 := hG.cellv s0
      have z1 := hG.cellv s1
      clear hdep hold
      go_simp
    · refine does_valG (N := 137) rfl rfl rfl (by decide) (fun ax wx hold hdep hG => ⟨wanted_g rfl rfl rfl (show ax.tmps.getD 60 undef = .bool true from hdep 3 (by kernel_rfl)), _, ?_, rfl⟩)
      have h1 := gd (show ax.tmps.getD 1 undef = .slice (some ⟨s, 0, none⟩) 3 3 from hold 1 (out_of (by kernel_rfl)))
      clear hdep hold
      go_simp
    · refine does_valG (N := 137) rfl rfl rfl (by decide) (fun ax wx hold hdep hG => ⟨wanted_g rfl rfl rfl (show ax.tmps.getD 60 undef = .bool true from hdep 3 (by kernel_rfl)), _, ?_, rfl⟩)
      have h65 := gd (show ax.tmps.getD 65 undef = .slice (some ⟨s, 0, none⟩) 3 3 from hdep 8 (by kernel_rfl))
      clear hdep hold
      go_simp
    · refine does_valG (N := 137) rfl rfl rfl (by decide) (fun ax wx hold hdep hG => ⟨wanted_g rfl rfl rfl (show ax.tmps.getD 60 undef = .bool true from hdep 3 (by kernel_rfl)), _, ?_, rfl⟩)
      have h66 := gd (show ax.tmps.getD 66 undef = .pointer (some ⟨s, 4, none⟩) from hdep 9 (by kernel_rfl))
      have z4 := hG.cellv s4
      have z5 := hG.cellv s5
      clear hdep hold
      go_simp
    · refine does_valG (N := 137) rfl rfl rfl (by decide) (fun ax wx hold hdep hG => ⟨wanted_g rfl rfl rfl (show ax.tmps.getD 60 undef = .bool true from hdep 3 (by kernel_rfl)), _, ?_, rfl⟩)
      have h1 := gd (show ax.tmps.getD 1 undef = .slice (some ⟨s, 0, none⟩) 3 3 from hold 1 (out_of (by kernel_rfl)))
      clear hdep hold
      go_simp
    · refine does_valG (N := 137) rfl rfl rfl (by decide) (fun ax wx hold hdep hG => ⟨wanted_g rfl rfl rfl (show ax.tmps.getD 60 undef = .bool true from hdep 3 (by kernel_rfl)), _, ?_, rfl⟩)
      have h68 := gd (show ax.tmps.getD 68 undef = .slice (some ⟨s, 0, none⟩) 3 3 from hdep 11 (by kernel_rfl))
      clear hdep hold
      go_simp
    · refine does_valG (N := 137) rfl rfl rfl (by decide) (fun ax wx hold hdep hG => ⟨wanted_g rfl rfl rfl (show ax.tmps.getD 60 undef = .bool true from hdep 3 (by kernel_rfl)), _, ?_, rfl⟩)
      have h69 := gd (show ax.tmps.getD 69 undef = .pointer (some ⟨s, 4, none⟩) from hdep 12 (by kernel_rfl))
      have z4 := hG.cellv s4
      have z5 := hG.cellv s5
      clear hdep hold
      go_simp
    · refine does_newG (N := 137) rfl rfl rfl (by decide) hmono hGm (fun ax wx hold hdep hG => ⟨wanted_g rfl rfl rfl (show ax.tmps.getD 60 undef = .bool true from hdep 3 (by kernel_rfl)), _, _, ?_, ⟨wx.heap.size, rfl, rd_block Snd.len (World.alloc_heap_new wx _) rfl rfl (by unfold maxLen; omega)⟩, Ext.alloc1 _ (.cells #[.int .u32 2, .int .u32 5, .int .u32 5, .int .u32 2, .int .u32 5, .int .u32 2] 24)⟩)
      have h64 := gd (show ax.tmps.getD 64 undef = .agg #[.int .u32 2, .int .u32 5] from hdep 7 (by kernel_rfl))
      have h67 := gd (show ax.tmps.getD 67 undef = .agg #[.int .u32 5, .int .u32 2] from hdep 10 (by kernel_rfl))
      have h70 := gd (show ax.tmps.getD 70 undef = .agg #[.int .u32 5, .int .u32 2] from hdep 13 (by kernel_rfl))
      clear hdep hold
      go_simp
      rfl
    · refine does_callG (f := 21) (N := 137) rfl rfl rfl (by decide) hmono hGm (fun ax wx hold hdep hG => ?_)
      have h61 := gd (show ax.tmps.getD 61 undef = .pointer (some ⟨ba, 0, none⟩) from hdep 4 (by kernel_rfl))
      obtain ⟨b0, e0, r0⟩ := (show SlV 3 [⟨2#32, 5#32⟩, ⟨5#32, 2#32⟩, ⟨5#32, 2#32⟩] (ax.tmps.getD 71 undef) wx from hdep 14 (by kernel_rfl))
      replace e0 := gd e0
      refine ⟨wanted_g rfl rfl rfl (show ax.tmps.getD 60 undef = .bool true from hdep 3 (by kernel_rfl)), #[.pointer (some ⟨ba, 0, none⟩), .slice (some ⟨b0, 0, none⟩) 3 3], by clear hdep hold; go_simp, ?_⟩
      have hc := accepts_any exA exA_build.2.2.2.2.2 wx ba (hA5.ext hG) (some ⟨b0, 0, none⟩) 3 3 [⟨2#32, 5#32⟩, ⟨5#32, 2#32⟩, ⟨5#32, 2#32⟩] r0
      rw [exA_acc.1] at hc
      exact hc.mono fun e w' ⟨h, hx⟩ => ⟨⟨_, h, rfl⟩, hx⟩
    · refine does_valG (N := 137) rfl rfl rfl (by decide) (fun ax wx hold hdep hG => ⟨rfl, _, ?_, rfl⟩)
      have h60 := gd (show ax.tmps.getD 60 undef = .bool true from hdep 3 (by kernel_rfl))
      have h72 := gd (show ax.tmps.getD 72 undef = .bool true from hdep 15 (by kernel_rfl))
      clear hdep hold
      go_simp
    · refine does_valG (N := 137) rfl rfl rfl (by decide) (fun ax wx hold hdep hG => ⟨rfl, _, ?_, rfl⟩)
      have h73 := gd (show ax.tmps.getD 73 undef = .bool true from hdep 16 (by kernel_rfl))
      clear hdep hold
      go_simp
    · refine does_valG (N := 137) rfl rfl rfl (by decide) (fun ax wx hold hdep hG => ⟨wanted_g rfl rfl rfl (show ax.tmps.getD 74 undef = .bool true from hdep 17 (by kernel_rfl)), _, ?_, rfl⟩)
      have h3 := gd (show ax.tmps.getD 3 undef = .pointer (some ⟨ba, 0, none⟩) from hold 3 (out_of (by kernel_rfl)))
      clear hdep hold
      go_simp
    · refine does_valG (N := 137) rfl rfl rfl (by decide) (fun ax wx hold hdep hG => ⟨wanted_g rfl rfl rfl (show ax.tmps.getD 74 undef = .bool true from hdep 17 (by kernel_rfl)), _, ?_, rfl⟩)
      have h1 := gd (show ax.tmps.getD 1 undef = .slice (some ⟨s, 0, none⟩) 3 3 from hold 1 (out_of (by kernel_rfl)))
      clear hdep hold
      go_simp
    · refine does_valG (N := 137) rfl rfl rfl (by decide) (fun ax wx hold hdep hG => ⟨wanted_g rfl rfl rfl (show ax.tmps.getD 74 undef = .bool true from hdep 17 (by kernel_rfl)), _, ?_, rfl⟩)
      have h76 := gd (show ax.tmps.getD 76 undef = .slice (some ⟨s, 0, none⟩) 3 3 from hdep 19 (by kernel_rfl))
      clear hdep hold
      go_simp
    · refine does_valG (N := 137) rfl rfl rfl (by decide) (fun ax wx hold hdep hG => ⟨wanted_g rfl rfl rfl (show ax.tmps.getD 74 undef = .bool true from hdep 17 (by kernel_rfl)), _, ?_, rfl⟩)
      have h77 := gd (show ax.tmps.getD 77 undef = .pointer (some ⟨s, 4, none⟩) from hdep 20 (by kernel_rfl))
      have z4 := hG.cellv s4
      have z5 := hG.cellv s5
      clear hdep hold
      go_simp
    · refine does_newG (N := 137) rfl rfl rfl (by decide) hmono hGm (fun ax wx hold hdep hG => ⟨wanted_g rfl rfl rfl (show ax.tmps.getD 74 undef = .bool true from hdep 17 (by kernel_rfl)), _, _, ?_, ⟨wx.heap.size, rfl, rd_block Snd.len (World.alloc_heap_new wx _) rfl rfl (by unfold maxLen; omega)⟩, Ext.alloc1 _ (.cells #[.int .u32 5, .int .u32 2] 24)⟩)
      have h78 := gd (show ax.tmps.getD 78 undef = .agg #[.int .u32 5, .int .u32 2] from hdep 21 (by kernel_rfl))
      clear hdep hold
      go_simp
      rfl
    · refine does_callG (f := 21) (N := 137) rfl rfl rfl (by decide) hmono hGm (fun ax wx hold hdep hG => ?_)
      have h75 := gd (show ax.tmps.getD 75 undef = .pointer (some ⟨ba, 0, none⟩) from hdep 18 (by kernel_rfl))
      obtain ⟨b0, e0, r0⟩ := (show SlV 1 [⟨5#32, 2#32⟩] (ax.tmps.getD 79 undef) wx from hdep 22 (by kernel_rfl))
      replace e0 := gd e0
      refine ⟨wanted_g rfl rfl rfl (show ax.tmps.getD 74 undef = .bool true from hdep 17 (by kernel_rfl)), #[.pointer (some ⟨ba, 0, none⟩), .slice (some ⟨b0, 0, none⟩) 1 1], by clear hdep hold; go_simp, ?_⟩
      have hc := accepts_any exA exA_build.2.2.2.2.2 wx ba (hA5.ext hG) (some ⟨b0, 0, none⟩) 1 1 [⟨5#32, 2#32⟩] r0
      rw [exA_acc.2] at hc
      exact hc.mono fun e w' ⟨h, hx⟩ => ⟨⟨_, h, rfl⟩, hx⟩
    · refine does_valG (N := 137) rfl rfl rfl (by decide) (fun ax wx hold hdep hG => ⟨wanted_g rfl rfl rfl (show ax.tmps.getD 74 undef = .bool true from hdep 17 (by kernel_rfl)), _, ?_, rfl⟩)
      have h80 := gd (show ax.tmps.getD 80 undef = .bool false from hdep 23 (by kernel_rfl))
      clear hdep hold
      go_simp
    · refine does_valG (N := 137) rfl rfl rfl (by decide) (fun ax wx hold hdep hG => ⟨rfl, _, ?_, rfl⟩)
      have h74 := gd (show ax.tmps.getD 74 undef = .bool true from hdep 17 (by kernel_rfl))
      have h81 := gd (show ax.tmps.getD 81 undef = .bool true from hdep 24 (by kernel_rfl))
      clear hdep hold
      go_simp
    · refine does_valG (N := 137) rfl rfl rfl (by decide) (fun ax wx hold hdep hG => ⟨rfl, _, ?_, rfl⟩)
      have h82 := gd (show ax.tmps.getD 82 undef = .bool true from hdep 25 (by kernel_rfl))
      clear hdep hold
      go_simp
    · refine does_valG (N := 137) rfl rfl rfl (by decide) (fun ax wx hold hdep hG => ⟨wanted_g rfl rfl rfl (show ax.tmps.getD 83 undef = .bool true from hdep 26 (by kernel_rfl)), _, ?_, rfl⟩)
      have h7 := gd (show ax.tmps.getD 7 undef = .int .i64 ((2 : Nat) : Int) from hold 7 (out_of (by kernel_rfl)))
      clear hdep hold
      go_simp
    · refine does_valG (N := 137) rfl rfl rfl (by decide) (fun ax wx hold hdep hG => ⟨wanted_g rfl rfl rfl (show ax.tmps.getD 83 undef = .bool true from hdep 26 (by kernel_rfl)), _, ?_, rfl⟩)
      have h84 := gd (show ax.tmps.getD 84 undef = .int .i64 ((2 : Nat) : Int) from hdep 27 (by kernel_rfl))
      clear hdep hold
      go_simp
    · refine does_valG (N := 137) rfl rfl rfl (by decide) (fun ax wx hold hdep hG => ⟨rfl, _, ?_, rfl⟩)
      have h83 := gd (show ax.tmps.getD 83 undef = .bool true from hdep 26 (by kernel_rfl))
      have h85 := gd (show ax.tmps.getD 85 undef = .bool true from hdep 28 (by kernel_rfl))
      clear hdep hold
      go_simp
    · refine does_valG (N := 137) rfl rfl rfl (by decide) (fun ax wx hold hdep hG => ⟨rfl, _, ?_, rfl⟩)
      have h86 := gd (show ax.tmps.getD 86 undef = .bool true from hdep 29 (by kernel_rfl))
      clear hdep hold
      go_simp
    · refine does_valG (N := 137) rfl rfl rfl (by decide) (fun ax wx hold hdep hG => ⟨wanted_g rfl rfl rfl (show ax.tmps.getD 87 undef = .bool true from hdep 30 (by kernel_rfl)), _, ?_, rfl⟩)
      have h8 := gd (show ax.tmps.getD 8 undef = .int .i64 ((0 : Nat) : Int) from hold 8 (out_of (by kernel_rfl)))
      clear hdep hold
      go_simp
    · refine does_valG (N := 137) rfl rfl rfl (by decide) (fun ax wx hold hdep hG => ⟨wanted_g rfl rfl rfl (show ax.tmps.getD 87 undef = .bool true from hdep 30 (by kernel_rfl)), _, ?_, rfl⟩)
      have h88 := gd (show ax.tmps.getD 88 undef = .int .i64 ((0 : Nat) : Int) from hdep 31 (by kernel_rfl))
      clear hdep hold
      go_simp
    · refine does_valG (N := 137) rfl rfl rfl (by decide) (fun ax wx hold hdep hG => ⟨rfl, _, ?_, rfl⟩)
      have h87 := gd (show ax.tmps.getD 87 undef = .bool true from hdep 30 (by kernel_rfl))
      have h89 := gd (show ax.tmps.getD 89 undef = .bool true from hdep 32 (by kernel_rfl))
      clear hdep hold
      go_simp
    · refine does_valG (N := 137) rfl rfl rfl (by decide) (fun ax wx hold hdep hG => ⟨rfl, _, ?_, rfl⟩)
      have h90 := gd (show ax.tmps.getD 90 undef = .bool true from hdep 33 (by kernel_rfl))
      clear hdep hold
      go_simp
    · refine does_valG (N := 137) rfl rfl rfl (by decide) (fun ax wx hold hdep hG => ⟨wanted_g rfl rfl rfl (show ax.tmps.getD 91 undef = .bool true from hdep 34 (by kernel_rfl)), _, ?_, rfl⟩)
      have h10 := gd (show ax.tmps.getD 10 undef = .bool true from hold 10 (out_of (by kernel_rfl)))
      clear hdep hold
      go_simp
    · refine does_valG (N := 137) rfl rfl rfl (by decide) (fun ax wx hold hdep hG => ⟨rfl, _, ?_, rfl⟩)
      have h91 := gd (show ax.tmps.getD 91 undef = .bool true from hdep 34 (by kernel_rfl))
      have h92 := gd (show ax.tmps.getD 92 undef = .bool true from hdep 35 (by kernel_rfl))
      clear hdep hold
      go_simp
    · refine does_valG (N := 137) rfl rfl rfl (by decide) (fun ax wx hold hdep hG => ⟨rfl, _, ?_, rfl⟩)
      have h93 := gd (show ax.tmps.getD 93 undef = .bool true from hdep 36 (by kernel_rfl))
      clear hdep hold
      go_simp
    · refine does_valG (N := 137) rfl rfl rfl (by decide) (fun ax wx hold hdep hG => ⟨wanted_g rfl rfl rfl (show ax.tmps.getD 94 undef = .bool true from hdep 37 (by kernel_rfl)), _, ?_, rfl⟩)
      have h11 := gd (show ax.tmps.getD 11 undef = .int .i64 0 from hold 11 (out_of (by kernel_rfl)))
      clear hdep hold
      go_simp
    · refine does_valG (N := 137) rfl rfl rfl (by decide) (fun ax wx hold hdep hG => ⟨wanted_g rfl rfl rfl (show ax.tmps.getD 94 undef = .bool true from hdep 37 (by kernel_rfl)), _, ?_, rfl⟩)
      have h95 := gd (show ax.tmps.getD 95 undef = .int .i64 0 from hdep 38 (by kernel_rfl))
      clear hdep hold
      go_simp
    · refine does_valG (N := 137) rfl rfl rfl (by decide) (fun ax wx hold hdep hG => ⟨rfl, _, ?_, rfl⟩)
      have h94 := gd (show ax.tmps.getD 94 undef = .bool true from hdep 37 (by kernel_rfl))
      have h96 := gd (show ax.tmps.getD 96 undef = .bool true from hdep 39 (by kernel_rfl))
      clear hdep hold
      go_simp
    · refine does_valG (N := 137) rfl rfl rfl (by decide) (fun ax wx hold hdep hG => ⟨rfl, _, ?_, rfl⟩)
      have h97 := gd (show ax.tmps.getD 97 undef = .bool true from hdep 40 (by kernel_rfl))
      clear hdep hold
      go_simp
    · refine does_valG (N := 137) rfl rfl rfl (by decide) (fun ax wx hold hdep hG => ⟨wanted_g rfl rfl rfl (show ax.tmps.getD 98 undef = .bool true from hdep 41 (by kernel_rfl)), _, ?_, rfl⟩)
      have h9 := gd (show ax.tmps.getD 9 undef = .slice a1 n1 k1 from hold 9 (out_of (by kernel_rfl)))
      clear hdep hold
      go_simp
    · refine does_valG (N := 137) rfl rfl rfl (by decide) (fun ax wx hold hdep hG => ⟨wanted_g rfl rfl rfl (show ax.tmps.getD 98 undef = .bool true from hdep 41 (by kernel_rfl)), _, ?_, rfl⟩)
      have h1 := gd (show ax.tmps.getD 1 undef = .slice (some ⟨s, 0, none⟩) 3 3 from hold 1 (out_of (by kernel_rfl)))
      clear hdep hold
      go_simp
    · refine does_valG (N := 137) rfl rfl rfl (by decide) (fun ax wx hold hdep hG => ⟨wanted_g rfl rfl rfl (show ax.tmps.getD 98 undef = .bool true from hdep 41 (by kernel_rfl)), _, ?_, rfl⟩)
      have h100 := gd (show ax.tmps.getD 100 undef = .slice (some ⟨s, 0, none⟩) 3 3 from hdep 43 (by kernel_rfl))
      clear hdep hold
      go_simp
    · refine does_valG (N := 137) rfl rfl rfl (by decide) (fun ax wx hold hdep hG => ⟨wanted_g rfl rfl rfl (show ax.tmps.getD 98 undef = .bool true from hdep 41 (by kernel_rfl)), _, ?_, rfl⟩)
      have h101 := gd (show ax.tmps.getD 101 undef = .pointer (some ⟨s, 0, none⟩) from hdep 44 (by kernel_rfl))
      have z0 := hG.cellv s0
      have z1 := hG.cellv s1
      clear hdep hold
      go_simp
    · refine does_valG (N := 137) rfl rfl rfl (by decide) (fun ax wx hold hdep hG => ⟨wanted_g rfl rfl rfl (show ax.tmps.getD 98 undef = .bool true from hdep 41 (by kernel_rfl)), _, ?_, rfl⟩)
      have h1 := gd (show ax.tmps.getD 1 undef = .slice (some ⟨s, 0, none⟩) 3 3 from hold 1 (out_of (by kernel_rfl)))
      clear hdep hold
      go_simp
    · refine does_valG (N := 137) rfl rfl rfl (by decide) (fun ax wx hold hdep hG => ⟨wanted_g rfl rfl rfl (show ax.tmps.getD 98 undef = .bool true from hdep 41 (by kernel_rfl)), _, ?_, rfl⟩)
      have h103 := gd (show ax.tmps.getD 103 undef = .slice (some ⟨s, 0, none⟩) 3 3 from hdep 46 (by kernel_rfl))
      clear hdep hold
      go_simp
    · refine does_valG (N := 137) rfl rfl rfl (by decide) (fun ax wx hold hdep hG => ⟨wanted_g rfl rfl rfl (show ax.tmps.getD 98 undef = .bool true from hdep 41 (by kernel_rfl)), _, ?_, rfl⟩)
      have h104 := gd (show ax.tmps.getD 104 undef = .pointer (some ⟨s, 4, none⟩) from hdep 47 (by kernel_rfl))
      have z4 := hG.cellv s4
      have z5 := hG.cellv s5
      clear hdep hold
      go_simp
    · refine does_newG (N := 137) rfl rfl rfl (by decide) hmono hGm (fun ax wx hold hdep hG => ⟨wanted_g rfl rfl rfl (show ax.tmps.getD 98 undef = .bool true from hdep 41 (by kernel_rfl)), _, _, ?_, ⟨wx.heap.size, rfl, rd_block Snd.len (World.alloc_heap_new wx _) rfl rfl (by unfold maxLen; omega)⟩, Ext.alloc1 _ (.cells #[.int .u32 2, .int .u32 5, .int .u32 5, .int .u32 2] 24)⟩)
      have h102 := gd (show ax.tmps.getD 102 undef = .agg #[.int .u32 2, .int .u32 5] from hdep 45 (by kernel_rfl))
      have h105 := gd (show ax.tmps.getD 105 undef = .agg #[.int .u32 5, .int .u32 2] from hdep 48 (by kernel_rfl))
      clear hdep hold
      go_simp
      rfl
    · refine does_callG (f := 30) (N := 137) rfl rfl rfl (by decide) hmono hGm (fun ax wx hold hdep hG => ?_)
      have h99 := gd (show ax.tmps.getD 99 undef = .slice a1 n1 k1 from hdep 42 (by kernel_rfl))
      obtain ⟨b0, e0, r0⟩ := (show SlV 2 [⟨2#32, 5#32⟩, ⟨5#32, 2#32⟩] (ax.tmps.getD 106 undef) wx from hdep 49 (by kernel_rfl))
      replace e0 := gd e0
      refine ⟨wanted_g rfl rfl rfl (show ax.tmps.getD 98 undef = .bool true from hdep 41 (by kernel_rfl)), #[.slice a1 n1 k1, .slice (some ⟨b0, 0, none⟩) 2 2], by clear hdep hold; go_simp, ?_⟩
      have hc := req_any a1 (some ⟨b0, 0, none⟩) n1 k1 2 2 [⟨2#32, 5#32⟩, ⟨5#32, 2#32⟩] [⟨2#32, 5#32⟩, ⟨5#32, 2#32⟩] wx (hr1.ext hG) r0
      rw [decide_eq_true rfl] at hc
      exact hc.mono fun e w' ⟨h, hx⟩ => ⟨⟨_, h, rfl⟩, hx⟩
    · refine does_valG (N := 137) rfl rfl rfl (by decide) (fun ax wx hold hdep hG => ⟨rfl, _, ?_, rfl⟩)
      have h98 := gd (show ax.tmps.getD 98 undef = .bool true from hdep 41 (by kernel_rfl))
      have h107 := gd (show ax.tmps.getD 107 undef = .bool true from hdep 50 (by kernel_rfl))
      clear hdep hold
      go_simp
    · refine does_valG (N := 137) rfl rfl rfl (by decide) (fun ax wx hold hdep hG => ⟨rfl, _, ?_, rfl⟩)
      have h108 := gd (show ax.tmps.getD 108 undef = .bool true from hdep 51 (by kernel_rfl))
      clear hdep hold
      go_simp
    · refine does_valG (N := 137) rfl rfl rfl (by decide) (fun ax wx hold hdep hG => ⟨wanted_g rfl rfl rfl (show ax.tmps.getD 109 undef = .bool true from hdep 52 (by kernel_rfl)), _, ?_, rfl⟩)
      have h3 := gd (show ax.tmps.getD 3 undef = .pointer (some ⟨ba, 0, none⟩) from hold 3 (out_of (by kernel_rfl)))
      clear hdep hold
      go_simp
    · refine does_callG (f := 28) (N := 137) rfl rfl rfl (by decide) hmono hGm (fun ax wx hold hdep hG => ?_)
      have h110 := gd (show ax.tmps.getD 110 undef = .pointer (some ⟨ba, 0, none⟩) from hdep 53 (by kernel_rfl))
      refine ⟨wanted_g rfl rfl rfl (show ax.tmps.getD 109 undef = .bool true from hdep 52 (by kernel_rfl)), #[.pointer (some ⟨ba, 0, none⟩), .int .i64 4], by clear hdep hold; go_simp, ?_⟩
      have hc := wordsA_any exA exA_build.2.2.2.2.2 3 rfl (by decide) (by decide) 3 rfl (by decide) [0, 1, 2] exOrd wx ba (hA5.ext hG) 4 4 (by decide) (by decide)
      rw [exA_words] at hc
      exact hc.mono fun e w' ⟨a, n, cap, h, hr, hx⟩ => ⟨⟨_, h, a, n, cap, rfl, hr⟩, hx⟩
    · refine does_valG (N := 137) rfl rfl rfl (by decide) (fun ax wx hold hdep hG => ⟨wanted_g rfl rfl rfl (show ax.tmps.getD 109 undef = .bool true from hdep 52 (by kernel_rfl)), _, ?_, rfl⟩)
      have h1 := gd (show ax.tmps.getD 1 undef = .slice (some ⟨s, 0, none⟩) 3 3 from hold 1 (out_of (by kernel_rfl)))
      clear hdep hold
      go_simp
    · refine does_valG (N := 137) rfl rfl rfl (by decide) (fun ax wx hold hdep hG => ⟨wanted_g rfl rfl rfl (show ax.tmps.getD 109 undef = .bool true from hdep 52 (by kernel_rfl)), _, ?_, rfl⟩)
      have h112 := gd (show ax.tmps.getD 112 undef = .slice (some ⟨s, 0, none⟩) 3 3 from hdep 55 (by kernel_rfl))
      clear hdep hold
      go_simp
    · refine does_valG (N := 137) rfl rfl rfl (by decide) (fun ax wx hold hdep hG => ⟨wanted_g rfl rfl rfl (show ax.tmps.getD 109 undef = .bool true from hdep 52 (by kernel_rfl)), _, ?_, rfl⟩)
      have h113 := gd (show ax.tmps.getD 113 undef = .pointer (some ⟨s, 0, none⟩) from hdep 56 (by kernel_rfl))
      have z0 := hG.cellv s0
      have z1 := hG.cellv s1
      clear hdep hold
      go_simp
    · refine does_newG (N := 137) rfl rfl rfl (by decide) hmono hGm (fun ax wx hold hdep hG => ⟨wanted_g rfl rfl rfl (show ax.tmps.getD 109 undef = .bool true from hdep 52 (by kernel_rfl)), _, _, ?_, ⟨wx.heap.size, rfl, rd_block Snd.len (World.alloc_heap_new wx _) rfl rfl (by unfold maxLen; omega)⟩, Ext.alloc1 _ (.cells #[.int .u32 2, .int .u32 5] 24)⟩)
      have h114 := gd (show ax.tmps.getD 114 undef = .agg #[.int .u32 2, .int .u32 5] from hdep 57 (by kernel_rfl))
      clear hdep hold
      go_simp
      rfl
    · refine does_valG (N := 137) rfl rfl rfl (by decide) (fun ax wx hold hdep hG => ⟨wanted_g rfl rfl rfl (show ax.tmps.getD 109 undef = .bool true from hdep 52 (by kernel_rfl)), _, ?_, rfl⟩)
      have h1 := gd (show ax.tmps.getD 1 undef = .slice (some ⟨s, 0, none⟩) 3 3 from hold 1 (out_of (by kernel_rfl)))
      clear hdep hold
      go_simp
    · refine does_valG (N := 137) rfl rfl rfl (by decide) (fun ax wx hold hdep hG => ⟨wanted_g rfl rfl rfl (show ax.tmps.getD 109 undef = .bool true from hdep 52 (by kernel_rfl)), _, ?_, rfl⟩)
      have h116 := gd (show ax.tmps.getD 116 undef = .slice (some ⟨s, 0, none⟩) 3 3 from hdep 59 (by kernel_rfl))
      clear hdep hold
      go_simp
    · refine does_valG (N := 137) rfl rfl rfl (by decide) (fun ax wx hold hdep hG => ⟨wanted_g rfl rfl rfl (show ax.tmps.getD 109 undef = .bool true from hdep 52 (by kernel_rfl)), _, ?_, rfl⟩)
      have h117 := gd (show ax.tmps.getD 117 undef = .pointer (some ⟨s, 2, none⟩) from hdep 60 (by kernel_rfl))
      have z2 := hG.cellv s2
      have z3 := hG.cellv s3
      clear hdep hold
      go_simp
    · refine does_newG (N := 137) rfl rfl rfl (by decide) hmono hGm (fun ax wx hold hdep hG => ⟨wanted_g rfl rfl rfl (show ax.tmps.getD 109 undef = .bool true from hdep 52 (by kernel_rfl)), _, _, ?_, ⟨wx.heap.size, rfl, rd_block Snd.len (World.alloc_heap_new wx _) rfl rfl (by unfold maxLen; omega)⟩, Ext.alloc1 _ (.cells #[.int .u32 3, .int .u32 4] 24)⟩)
      have h118 := gd (show ax.tmps.getD 118 undef = .agg #[.int .u32 3, .int .u32 4] from hdep 61 (by kernel_rfl))
      clear hdep hold
      go_simp
      rfl
    · refine does_valG (N := 137) rfl rfl rfl (by decide) (fun ax wx hold hdep hG => ⟨wanted_g rfl rfl rfl (show ax.tmps.getD 109 undef = .bool true from hdep 52 (by kernel_rfl)), _, ?_, rfl⟩)
      have h1 := gd (show ax.tmps.getD 1 undef = .slice (some ⟨s, 0, none⟩) 3 3 from hold 1 (out_of (by kernel_rfl)))
      clear hdep hold
      go_simp
    · refine does_valG (N := 137) rfl rfl rfl (by decide) (fun ax wx hold hdep hG => ⟨wanted_g rfl rfl rfl (show ax.tmps.getD 109 undef = .bool true from hdep 52 (by kernel_rfl)), _, ?_, rfl⟩)
      have h120 := gd (show ax.tmps.getD 120 undef = .slice (some ⟨s, 0, none⟩) 3 3 from hdep 63 (by kernel_rfl))
      clear hdep hold
      go_simp
    · refine does_valG (N := 137) rfl rfl rfl (by decide) (fun ax wx hold hdep hG => ⟨wanted_g rfl rfl rfl (show ax.tmps.getD 109 undef = .bool true from hdep 52 (by kernel_rfl)), _, ?_, rfl⟩)
      have h121 := gd (show ax.tmps.getD 121 undef = .pointer (some ⟨s, 0, none⟩) from hdep 64 (by kernel_rfl))
      have z0 := hG.cellv s0
      have z1 := hG.cellv s1
      clear hdep hold
      go_simp
    · refine does_valG (N := 137) rfl rfl rfl (by decide) (fun ax wx hold hdep hG => ⟨wanted_g rfl rfl rfl (show ax.tmps.getD 109 undef = .bool true from hdep 52 (by kernel_rfl)), _, ?_, rfl⟩)
      have h1 := gd (show ax.tmps.getD 1 undef = .slice (some ⟨s, 0, none⟩) 3 3 from hold 1 (out_of (by kernel_rfl)))
      clear hdep hold
      go_simp
    · refine does_valG (N := 137) rfl rfl rfl (by decide) (fun ax wx hold hdep hG => ⟨wanted_g rfl rfl rfl (show ax.tmps.getD 109 undef = .bool true from hdep 52 (by kernel_rfl)), _, ?_, rfl⟩)
      have h123 := gd (show ax.tmps.getD 123 undef = .slice (some ⟨s, 0, none⟩) 3 3 from hdep 66 (by kernel_rfl))
      clear hdep hold
      go_simp
    · refine does_valG (N := 137) rfl rfl rfl (by decide) (fun ax wx hold hdep hG => ⟨wanted_g rfl rfl rfl (show ax.tmps.getD 109 undef = .bool true from hdep 52 (by kernel_rfl)), _, ?_, rfl⟩)
      have h124 := gd (show ax.tmps.getD 124 undef = .pointer (some ⟨s, 4, none⟩) from hdep 67 (by kernel_rfl))
      have z4 := hG.cellv s4
      have z5 := hG.cellv s5
      clear hdep hold
      go_simp
    · refine does_newG (N := 137) rfl rfl rfl (by decide) hmono hGm (fun ax wx hold hdep hG => ⟨wanted_g rfl rfl rfl (show ax.tmps.getD 109 undef = .bool true from hdep 52 (by kernel_rfl)), _, _, ?_, ⟨wx.heap.size, rfl, rd_block Snd.len (World.alloc_heap_new wx _) rfl rfl (by unfold maxLen; omega)⟩, Ext.alloc1 _ (.cells #[.int .u32 2, .int .u32 5, .int .u32 5, .int .u32 2] 24)⟩)
      have h122 := gd (show ax.tmps.getD 122 undef = .agg #[.int .u32 2, .int .u32 5] from hdep 65 (by kernel_rfl))
      have h125 := gd (show ax.tmps.getD 125 undef = .agg #[.int .u32 5, .int .u32 2] from hdep 68 (by kernel_rfl))
      clear hdep hold
      go_simp
      rfl
    · refine does_valG (N := 137) rfl rfl rfl (by decide) (fun ax wx hold hdep hG => ⟨wanted_g rfl rfl rfl (show ax.tmps.getD 109 undef = .bool true from hdep 52 (by kernel_rfl)), _, ?_, rfl⟩)
      have h1 := gd (show ax.tmps.getD 1 undef = .slice (some ⟨s, 0, none⟩) 3 3 from hold 1 (out_of (by kernel_rfl)))
      clear hdep hold
      go_simp
    · refine does_valG (N := 137) rfl rfl rfl (by decide) (fun ax wx hold hdep hG => ⟨wanted_g rfl rfl rfl (show ax.tmps.getD 109 undef = .bool true from hdep 52 (by kernel_rfl)), _, ?_, rfl⟩)
      have h127 := gd (show ax.tmps.getD 127 undef = .slice (some ⟨s, 0, none⟩) 3 3 from hdep 70 (by kernel_rfl))
      clear hdep hold
      go_simp
    · refine does_valG (N := 137) rfl rfl rfl (by decide) (fun ax wx hold hdep hG => ⟨wanted_g rfl rfl rfl (show ax.tmps.getD 109 undef = .bool true from hdep 52 (by kernel_rfl)), _, ?_, rfl⟩)
      have h128 := gd (show ax.tmps.getD 128 undef = .pointer (some ⟨s, 2, none⟩) from hdep 71 (by kernel_rfl))
      have z2 := hG.cellv s2
      have z3 := hG.cellv s3
      clear hdep hold
      go_simp
    · refine does_valG (N := 137) rfl rfl rfl (by decide) (fun ax wx hold hdep hG => ⟨wanted_g rfl rfl rfl (show ax.tmps.getD 109 undef = .bool true from hdep 52 (by kernel_rfl)), _, ?_, rfl⟩)
      have h1 := gd (show ax.tmps.getD 1 undef = .slice (some ⟨s, 0, none⟩) 3 3 from hold 1 (out_of (by kernel_rfl)))
      clear hdep hold
      go_simp
    · refine does_valG (N := 137) rfl rfl rfl (by decide) (fun ax wx hold hdep hG => ⟨wanted_g rfl rfl rfl (show ax.tmps.getD 109 undef = .bool true from hdep 52 (by kernel_rfl)), _, ?_, rfl⟩)
      have h130 := gd (show ax.tmps.getD 130 undef = .slice (some ⟨s, 0, none⟩) 3 3 from hdep 73 (by kernel_rfl))
      clear hdep hold
      go_simp
    · refine does_valG (N := 137) rfl rfl rfl (by decide) (fun ax wx hold hdep hG => ⟨wanted_g rfl rfl rfl (show ax.tmps.getD 109 undef = .bool true from hdep 52 (by kernel_rfl)), _, ?_, rfl⟩)
      have h131 := gd (show ax.tmps.getD 131 undef = .pointer (some ⟨s, 4, none⟩) from hdep 74 (by kernel_rfl))
      have z4 := hG.cellv s4
      have z5 := hG.cellv s5
      clear hdep hold
      go_simp
    · refine does_newG (N := 137) rfl rfl rfl (by decide) hmono hGm (fun ax wx hold hdep hG => ⟨wanted_g rfl rfl rfl (show ax.tmps.getD 109 undef = .bool true from hdep 52 (by kernel_rfl)), _, _, ?_, ⟨wx.heap.size, rfl, rd_block Snd.len (World.alloc_heap_new wx _) rfl rfl (by unfold maxLen; omega)⟩, Ext.alloc1 _ (.cells #[.int .u32 3, .int .u32 4, .int .u32 5, .int .u32 2] 24)⟩)
      have h129 := gd (show ax.tmps.getD 129 undef = .agg #[.int .u32 3, .int .u32 4] from hdep 72 (by kernel_rfl))
      have h132 := gd (show ax.tmps.getD 132 undef = .agg #[.int .u32 5, .int .u32 2] from hdep 75 (by kernel_rfl))
      clear hdep hold
      go_simp
      rfl
    · refine does_newG (N := 137) rfl rfl rfl (by decide) hmono hGm (fun ax wx hold hdep hG => ?_)
      obtain ⟨b0, e0, r0⟩ := (show SlV 1 [⟨2#32, 5#32⟩] (ax.tmps.getD 115 undef) wx from hdep 58 (by kernel_rfl))
      obtain ⟨b1, e1, r1⟩ := (show SlV 1 [⟨3#32, 4#32⟩] (ax.tmps.getD 119 undef) wx from hdep 62 (by kernel_rfl))
      obtain ⟨b2, e2, r2⟩ := (show SlV 2 [⟨2#32, 5#32⟩, ⟨5#32, 2#32⟩] (ax.tmps.getD 126 undef) wx from hdep 69 (by kernel_rfl))
      obtain ⟨b3, e3, r3⟩ := (show SlV 2 [⟨3#32, 4#32⟩, ⟨5#32, 2#32⟩] (ax.tmps.getD 133 undef) wx from hdep 76 (by kernel_rfl))
      replace e0 := gd e0
      replace e1 := gd e1
      replace e2 := gd e2
      replace e3 := gd e3
      refine ⟨wanted_g rfl rfl rfl (show ax.tmps.getD 109 undef = .bool true from hdep 52 (by kernel_rfl)), .slice (some ⟨wx.heap.size, 0, none⟩) 4 4, wx.alloc (.cells #[.slice (some ⟨b0, 0, none⟩) 1 1, .slice (some ⟨b1, 0, none⟩) 1 1, .slice (some ⟨b2, 0, none⟩) 2 2, .slice (some ⟨b3, 0, none⟩) 2 2] 28), ?_, ws4_new r0 r1 r2 r3, Ext.alloc1 wx (.cells #[.slice (some ⟨b0, 0, none⟩) 1 1, .slice (some ⟨b1, 0, none⟩) 1 1, .slice (some ⟨b2, 0, none⟩) 2 2, .slice (some ⟨b3, 0, none⟩) 2 2] 28)⟩
      clear hdep hold r0 r1 r2 r3
      go_simp
    · refine does_callG (f := 27) (N := 137) rfl rfl rfl (by decide) hmono hGm (fun ax wx hold hdep hG => ?_)
      obtain ⟨a2, n2, c2, e2, r2⟩ := (show WsV exW4 (ax.tmps.getD 111 undef) wx from hdep 54 (by kernel_rfl))
      obtain ⟨a3, n3, c3, e3, r3⟩ := (show WsV exW4 (ax.tmps.getD 134 undef) wx from hdep 77 (by kernel_rfl))
      replace e2 := gd e2
      replace e3 := gd e3
      refine ⟨wanted_g rfl rfl rfl (show ax.tmps.getD 109 undef = .bool true from hdep 52 (by kernel_rfl)), #[.slice a2 n2 c2, .slice a3 n3 c3], by clear hdep hold; go_simp, ?_⟩
      have hc := wsame_any a2 a3 n2 c2 n3 c3 exW4 exW4 wx r2 r3
      rw [decide_eq_true rfl] at hc
      exact hc.mono fun e w' ⟨h, hx⟩ => ⟨⟨_, h, rfl⟩, hx⟩
    · refine does_valG (N := 137) rfl rfl rfl (by decide) (fun ax wx hold hdep hG => ⟨rfl, _, ?_, rfl⟩)
      have h109 := gd (show ax.tmps.getD 109 undef = .bool true from hdep 52 (by kernel_rfl))
      have h135 := gd (show ax.tmps.getD 135 undef = .bool true from hdep 78 (by kernel_rfl))
      clear hdep hold
      go_simp
    · refine does_valG (N := 137) rfl rfl rfl (by decide) (fun ax wx hold hdep hG => ⟨rfl, _, ?_, rfl⟩)
      have h136 := gd (show ax.tmps.getD 136 undef = .bool true from hdep 79 (by kernel_rfl))
      clear hdep hold
      go_simp
  case fin =>
    intro f wz hrel hval hxz
    have v80 : f 80 = .bool true := hval 80 _ 0 rfl rfl
    clear hrel hval
    refine (by assumption : ∀ (a : Act) (w : World), Code.wp Try.prog Code.ret _ a w → _) _ _ ?_
    generalize hZ : putAll _ f 0 _ = Z
    have zv : Z.tmps.getD 0 undef = .bool true := by rw [← hZ, ← v80]; exact putAll_at 80 (of_decide_eq_true (by kernel_rfl)) (by kernel_rfl) (by kernel_rfl)
    have zd : Z.defers = [] := by rw [← hZ]; exact (putAll_size _ f 0 _).2
    clear hZ
    go_wp2_with fail
    refine bodyPost_ret (results_tmp rfl _ _ _) zd ?_
    exact ⟨congrArg Ending.returned zv, hx1.trans (hx15.trans hxz)⟩
end Go.Proofs.Ytilkemdecenibaa
