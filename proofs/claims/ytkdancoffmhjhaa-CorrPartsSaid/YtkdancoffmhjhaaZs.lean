/-
  What is known of the list that Reflexes hands back. Plain Lean: no program.
  The law CorrParts: the walk.
-/
import Derived.Test.YtkdancoffmhjhaaZq
import Derived.Test.YtkdancoffmhjhaaLp
import Derived.Test.YtkdancoffmhjhaaSpc
namespace Go.Proofs.Ytkdancoffmhjhaa
theorem fac_mem {l : List HCo} {f t : Nat} {x : Cl} {z : HCo} (hz : z ∈ facL f t x l) : ∃ y ∈ l, selB f t x y = true ∧ z = faceH t y := by
  obtain ⟨y, hy, rfl⟩ := List.mem_map.1 hz
  exact ⟨y, (List.mem_filter.1 hy).1, (List.mem_filter.1 hy).2, rfl⟩
theorem cntK_sel {F : List HCo} (hF : ∀ z ∈ F, z.x = [z.x.getD 0 nulC]) (c : Cl) : cntK (F.map kp) [c] = cntSel (isB c) F := by
  unfold cntK cntSel
  rw [List.filter_map, List.map_map]
  have : F.filter ((fun x : List Cl × Int => decide (x.1 = [c])) ∘ kp) = F.filter (isB c) := List.filter_congr fun z hz => by
    have h := hF z hz
    show decide (z.x = [c]) = decide (z.x.getD 0 nulC = c)
    by_cases e : z.x.getD 0 nulC = c
    · rw [h, e]; simp
    · rw [h]; simp
  rw [this]; rfl
theorem cntSel_all (F : List HCo) : ((F.map kp).map (·.2)).sum = cntSel (fun _ => true) F := by
  unfold cntSel
  rw [List.map_map, List.filter_eq_self.2 (fun _ _ => rfl)]; rfl
theorem perm_sum : ∀ {A B : List Int}, A.Perm B → A.sum = B.sum := by
  intro A B h
  induction h with
  | nil => rfl
  | cons x _ ih => simp only [List.sum_cons, ih]
  | swap x y l => simp only [List.sum_cons]; omega
  | trans _ _ h1 h2 => exact h1.trans h2
/-- What is known of one row of the answer. -/
structure Part (l : List HCo) (f t : Int) (x : Cl) (z : HCo) : Prop where
  one : z.x = [z.x.getD 0 nulC]
  pos : 1 ≤ z.cnt
  ask : askE l f t x (z.x.getD 0 nulC) = 0
  cnt : nS l f.toNat t.toNat x (z.x.getD 0 nulC) = z.cnt
theorem refl_facts {l hs : List HCo} {f t : Int} {x : Cl} {L : List (List Cl × Int)} (hn : ∀ y ∈ l, y.x.length = y.n) (h0 : askE l f t x x = 0) (hL : SumK cmpCs ((facL f.toNat t.toNat x l).map kp) L) (hB : ByCnt L (hs.map kp)) :
    (∀ z ∈ hs, Part l f t x z) ∧ sumC hs = dS l f.toNat t.toNat x ∧ hs.Pairwise (fun y z => z.cnt ≤ y.cnt) := by
  obtain ⟨hE, hf1, hf2, ht1, ht2, hx1, hx2, _⟩ := askE_zero h0
  obtain ⟨hlim, hcor⟩ := chkE_all hE
  have hfl : [l].flatten = l := by simp
  rw [hfl] at hcor
  have hF : ∀ z ∈ facL f.toNat t.toNat x l, z.x = [z.x.getD 0 nulC] := fun z hz => by
    obtain ⟨y, _, _, rfl⟩ := fac_mem hz
    rfl
  have hcell : ∀ z ∈ facL f.toNat t.toNat x l, askE l f t x (z.x.getD 0 nulC) = 0 ∧ 1 ≤ z.cnt := fun z hz => by
    obtain ⟨y, hy, hsel, rfl⟩ := fac_mem hz
    obtain ⟨h1, h2, h3, h4⟩ := hcor y hy
    refine ⟨?_, h2⟩
    show askE l f t x (y.x.getD t.toNat nulC) = 0
    unfold selB at hsel
    rw [Bool.and_eq_true, decide_eq_true_eq, decide_eq_true_eq] at hsel
    have hlt : t.toNat < y.x.length := by rw [hn y hy, h1]; omega
    have hok : (y.x.getD t.toNat nulC).ok = true := by
      rw [List.getD_eq_getElem?_getD, List.getElem?_eq_getElem hlt]
      exact List.all_eq_true.1 h4 _ (List.getElem_mem hlt)
    unfold askE
    rw [if_neg (show ¬ chkE [l] ≠ 0 from fun h => h hE), if_neg (by omega), if_neg]
    rintro (h | h | h | h)
    · rw [hx1] at h; cases h
    · exact hx2 h
    · rw [hok] at h; cases h
    · exact hsel.2 h
  refine ⟨fun z hz => ?_, ?_, ?_⟩
  · have hm : kp z ∈ L := hB.1.mem_iff.1 (List.mem_map.2 ⟨z, hz, rfl⟩)
    obtain ⟨h1, y, hy, h2⟩ := hL.2.1 _ hm
    obtain ⟨u, hu, rfl⟩ := List.mem_map.1 hy
    have hzx : z.x = u.x := h2.symm
    have e1 : z.x = [z.x.getD 0 nulC] := by rw [hzx]; exact hF u hu
    have hc := hcell u hu
    rw [← hzx] at hc
    have h1 : z.cnt = cntK ((facL f.toNat t.toNat x l).map kp) z.x := h1
    refine ⟨e1, ?_, hc.1, ?_⟩
    · rw [h1]
      refine cntK_ge (fun p hp => ?_) ⟨kp u, List.mem_map.2 ⟨u, hu, rfl⟩, h2⟩
      obtain ⟨v, hv, rfl⟩ := List.mem_map.1 hp
      exact (hcell v hv).2
    · rw [nS_fac, ← cntK_sel hF, ← e1]; exact h1.symm
  · have h1 : (((hs.map kp).map (·.2)).sum : Int) = (L.map (·.2)).sum := perm_sum (hB.1.map (·.2))
    rw [sumC_kp, h1, sumK_is hL, dS_fac, ← cntSel_all]
    exact sumL_tot _
  · have := List.pairwise_map.1 hB.2
    refine this.imp fun {a b} h => ?_
    unfold cmpT cmpI at h
    show b.cnt ≤ a.cnt
    have e1 : (kp a).2 = a.cnt := rfl
    have e2 : (kp b).2 = b.cnt := rfl
    rw [e1, e2] at h
    refine Decidable.byContradiction fun hn => ?_
    have h3 : ¬ b.cnt < a.cnt := by omega
    have h4 : ¬ b.cnt = a.cnt := by omega
    have h5 : a.cnt < b.cnt := by omega
    simp [h3, h5] at h
/-- The arithmetic of the law. -/
theorem part_arith {n d : Int} (hn : 1 ≤ n) (hd : n ≤ d) : 1 ≤ (shF n d).2 ∧ (shF n d).1 * (d / (shF n d).2) = n ∧ d % (shF n d).2 = 0 ∧ 0 ≤ (shF n d).1 ∧ (shF n d).1 ≤ n ∧ (shF n d).2 ≤ d ∧ 0 ≤ d / (shF n d).2 ∧ d / (shF n d).2 ≤ d := by
  obtain ⟨a, rfl⟩ : ∃ a : Nat, n = a := ⟨n.toNat, by omega⟩
  obtain ⟨b, rfl⟩ : ∃ b : Nat, d = b := ⟨d.toNat, by omega⟩
  unfold shF
  rw [if_neg (by omega), Int.toNat_natCast, Int.toNat_natCast]
  simp only
  obtain ⟨g, hg⟩ : ∃ g, g = Nat.gcd a b := ⟨_, rfl⟩
  rw [← hg]
  have hg1 : g ∣ a := hg ▸ Nat.gcd_dvd_left a b
  have hg2 : g ∣ b := hg ▸ Nat.gcd_dvd_right a b
  have hgp : 0 < g := hg ▸ Nat.gcd_pos_of_pos_left b (by omega)
  obtain ⟨u, rfl⟩ := hg1
  obtain ⟨v, rfl⟩ := hg2
  have e1 : ((g * u : Nat) : Int) / (g : Int) = (u : Int) := by rw [← Int.natCast_ediv, Nat.mul_div_cancel_left u hgp]
  have e2 : ((g * v : Nat) : Int) / (g : Int) = (v : Int) := by rw [← Int.natCast_ediv, Nat.mul_div_cancel_left v hgp]
  have hv : 0 < v := Nat.pos_of_ne_zero fun e => by subst e; simp at hd; omega
  have hu : u ≤ g * u := Nat.le_mul_of_pos_left u hgp
  have hv2 : v ≤ g * v := Nat.le_mul_of_pos_left v hgp
  have hg3 : g ≤ g * v := Nat.le_mul_of_pos_right g hv
  have e3 : ((g * v : Nat) : Int) / (v : Int) = (g : Int) := by rw [← Int.natCast_ediv, Nat.mul_div_cancel g hv]
  have e4 : ((g * v : Nat) : Int) % (v : Int) = 0 := by rw [← Int.natCast_emod, Nat.mul_mod_left]; rfl
  rw [e1, e2, e3, e4]
  refine ⟨by omega, by rw [Nat.mul_comm, Int.natCast_mul], rfl, by omega, by omega, by omega, by omega, by omega⟩
end Go.Proofs.Ytkdancoffmhjhaa
namespace Go.Proofs.Ytkdancoffmhjhaa
open Go.RowKit Go.Shelf
/-- A fraction in a block of its own. -/
def FrB (w : World) (B : Nat) (u v : Int) : Prop := w.heap[B]? = some (.cells #[.int .i64 u, .int .i64 v] 44 (0, 0))
def FracAt (b : Nat) : Pr := fun v w => ∃ B u1 u2, v = .pointer (some ⟨B, 0, none⟩) ∧ b ≤ B ∧ FrB w B u1 u2
def FracIs (b : Nat) (u1 u2 : Int) : Pr := fun v w => ∃ B, v = .pointer (some ⟨B, 0, none⟩) ∧ b ≤ B ∧ FrB w B u1 u2
theorem stab_fracAt (b : Nat) : Stab (FracAt b) := fun _ _ _ ⟨B, u1, u2, hv, hb, h⟩ hx => ⟨B, u1, u2, hv, hb, (Below.block hx.bel B (Array.getElem?_eq_some_iff.1 h).1).trans h⟩
theorem stab_fracIs (b : Nat) (u1 u2 : Int) : Stab (FracIs b u1 u2) := fun _ _ _ ⟨B, hv, hb, h⟩ hx => ⟨B, hv, hb, (Below.block hx.bel B (Array.getElem?_eq_some_iff.1 h).1).trans h⟩
theorem fr_set {w : World} {B : Nat} {u1 u2 : Int} (h : FrB w B u1 u2) (v1 v2 : Int) : FrB ((w.setCell ⟨B, 0, none⟩ (.int .i64 v1)).setCell ⟨B, 1, none⟩ (.int .i64 v2)) B v1 v2 := heap_set (heap_set h _) _
theorem fr_cells {w : World} {B : Nat} {u1 u2 : Int} (h : FrB w B u1 u2) : w.cell? ⟨B, 0, none⟩ = some (.int .i64 u1) ∧ w.cell? ⟨B, 1, none⟩ = some (.int .i64 u2) := by
  unfold FrB at h
  refine ⟨?_, ?_⟩ <;> simp only [World.cell?] <;> rw [h] <;> rfl
theorem frz2 {w : World} {B : Nat} {u1 u2 : Int} (h : FrB w B u1 u2) : (∀ i, w.frozen? ⟨B, i, none⟩ = false) ∧ (∀ i (j : Nat) v, (w.setCell ⟨B, j, none⟩ v).frozen? ⟨B, i, none⟩ = false) :=
  ⟨fun i => frozen_of_row w B i _ _ h, fun i _ v => frozen_of_row _ B i _ _ (heap_set h v)⟩
def StabF (p : Pr) : Prop := ∀ (v : Value) (w : World) (B : Nat) (u1 u2 v1 v2 : Int), FrB w B u1 u2 → p v w → p v ((w.setCell ⟨B, 0, none⟩ (.int .i64 v1)).setCell ⟨B, 1, none⟩ (.int .i64 v2))
theorem stabF_eq (c : Value) : StabF (EqV c) := fun _ _ _ _ _ _ _ _ h => h
theorem stabF_at (b : Nat) : StabF (FracAt b) := fun v w B u1 u2 v1 v2 hB ⟨B', x1, x2, hv, hb, h⟩ => by
  by_cases e : B' = B
  · subst e; exact ⟨B', v1, v2, hv, hb, fr_set hB v1 v2⟩
  · refine ⟨B', x1, x2, hv, hb, ?_⟩
    unfold FrB; rw [heap_set' (Ne.symm e), heap_set' (Ne.symm e)]; exact h
def tauP : List Nat := [89, 90, 91, 92, 93, 94, 95, 96, 97, 98, 99, 100, 101, 102, 88, 103, 104, 12, 12, 13]
def relP (vs : List Value) (b : Nat) (u1 u2 : Int) (ve : Value) : List Pr := vs.map EqV ++ [FracAt b, FracIs b u1 u2, EqV ve]
theorem relP_st (vs : List Value) (b : Nat) (u1 u2 : Int) (ve : Value) : ∀ p ∈ relP vs b u1 u2 ve, Stab p := by
  intro p hp
  rcases List.mem_append.1 hp with h | h
  · obtain ⟨v, _, rfl⟩ := List.mem_map.1 h; exact stab_eq v
  · simp only [List.mem_cons, List.not_mem_nil, or_false] at h
    rcases h with rfl | rfl | rfl
    · exact stab_fracAt _
    · exact stab_fracIs _ _ _
    · exact stab_eq _
theorem relP_stF {vs : List Value} {b : Nat} {u1 u2 : Int} {ve : Value} (hv : vs.length = 17) (j : Nat) (hj : j ≠ 18) : StabF (relL (relP vs b u1 u2 ve) j) := by
  unfold relL relP
  rw [List.getD_eq_getElem?_getD, List.getElem?_append, List.length_map, hv]
  by_cases h : j < 17
  · rw [if_pos h, List.getElem?_map, List.getElem?_eq_getElem (by omega)]
    exact stabF_eq _
  · rw [if_neg h]
    obtain ⟨k, rfl⟩ : ∃ k, j = 17 + k := ⟨j - 17, by omega⟩
    rw [Nat.add_sub_cancel_left]
    match k with
    | 0 => exact stabF_at _
    | 1 => exact absurd rfl hj
    | 2 => exact stabF_eq _
    | k + 3 => exact fun _ _ _ _ _ _ _ _ _ => trivial
theorem sumC_app2 (l m : List HCo) : sumC (l ++ m) = sumC l + sumC m := by
  induction l with
  | nil => simp [sumC]
  | cons y l ih => simp only [List.cons_append, sumC, ih]; omega
theorem sumC_take {hs : List HCo} {k : Nat} {y : HCo} (h : hs[k]? = some y) : sumC (hs.take (k + 1)) = sumC (hs.take k) + y.cnt := by
  rw [take_succ_at h, sumC_app2]; simp [sumC]
theorem sumC_pos : ∀ {hs : List HCo}, (∀ z ∈ hs, 1 ≤ z.cnt) → 0 ≤ sumC hs ∧ ∀ z ∈ hs, z.cnt ≤ sumC hs
  | [], _ => ⟨Int.le_refl _, fun z hz => by cases hz⟩
  | y :: hs, h => by
    obtain ⟨h1, h2⟩ := sumC_pos (hs := hs) fun z hz => h z (List.mem_cons_of_mem _ hz)
    have h3 := h y List.mem_cons_self
    refine ⟨by simp only [sumC]; omega, fun z hz => ?_⟩
    simp only [sumC]
    rcases List.mem_cons.1 hz with rfl | hz
    · omega
    · have := h2 z hz; omega
theorem sumC_take_le {hs : List HCo} (h : ∀ z ∈ hs, 1 ≤ z.cnt) (k : Nat) : sumC (hs.take k) ≤ sumC hs := by
  have h1 : sumC hs = sumC (hs.take k) + sumC (hs.drop k) := by rw [← sumC_app2, List.take_append_drop]
  have := (sumC_pos (hs := hs.drop k) fun z hz => h z (List.mem_of_mem_drop hz)).1
  omega
set_option maxHeartbeats 4000000 in
set_option maxRecDepth 20000 in
theorem corrParts_any (a : Option Addr) (n cap : Nat) (l : List HCo) (f t : Int) (x : Cl) (w : World) (hr : RdH w a n cap l) :
    Calls Try.prog 7 #[.slice a n cap, .agg #[.int .i64 f, .int .i64 t], clV x] w fun e w' => e = .returned (.bool true) ∧ Ext w w' := by
  have hm1 := hr.max
  by_cases h1 : n ≤ 60
  · have d1 : decide ((60 : Int) < (n : Int)) = false := by simp; omega
    have q0 : ((w.alloc (.cells #[.int .i64 f, .int .i64 t] 34)).alloc (.cells #[.int .i64 x.kind, .int .u32 x.s.p.toNat, .int .u32 x.s.m.toNat] 39)).cell? ⟨w.heap.size, 0, none⟩ = some (.int .i64 f) := by go_simp
    have q1 : ((w.alloc (.cells #[.int .i64 f, .int .i64 t] 34)).alloc (.cells #[.int .i64 x.kind, .int .u32 x.s.p.toNat, .int .u32 x.s.m.toNat] 39)).cell? ⟨w.heap.size, 1, none⟩ = some (.int .i64 t) := by go_simp
    have q2 : ((w.alloc (.cells #[.int .i64 f, .int .i64 t] 34)).alloc (.cells #[.int .i64 x.kind, .int .u32 x.s.p.toNat, .int .u32 x.s.m.toNat] 39)).cell? ⟨w.heap.size + 1, 0, none⟩ = some (.int .i64 x.kind) := by go_simp
    have q3 : ((w.alloc (.cells #[.int .i64 f, .int .i64 t] 34)).alloc (.cells #[.int .i64 x.kind, .int .u32 x.s.p.toNat, .int .u32 x.s.m.toNat] 39)).cell? ⟨w.heap.size + 1, 1, none⟩ = some (.int .u32 x.s.p.toNat) := by go_simp
    have q4 : ((w.alloc (.cells #[.int .i64 f, .int .i64 t] 34)).alloc (.cells #[.int .i64 x.kind, .int .u32 x.s.p.toNat, .int .u32 x.s.m.toNat] 39)).cell? ⟨w.heap.size + 1, 2, none⟩ = some (.int .u32 x.s.m.toNat) := by go_simp
    have hxB : Ext w ((w.alloc (.cells #[.int .i64 f, .int .i64 t] 34)).alloc (.cells #[.int .i64 x.kind, .int .u32 x.s.p.toNat, .int .u32 x.s.m.toNat] 39)) := (by repeat (first | exact Ext.refl _ | refine Ext.drew ?_ | refine Ext.drewN ?_ _ | refine Ext.alloc ?_ _))
    go_enter Try.func7, Try.ntmps7
    go_wp2_with fail
    generalize ((w.alloc (.cells #[.int .i64 f, .int .i64 t] 34)).alloc (.cells #[.int .i64 x.kind, .int .u32 x.s.p.toNat, .int .u32 x.s.m.toNat] 39)) = wB at *
    refine (reflexes_any a n cap l f t x _ (hr.ext hxB)).mono ?_
    rintro e w1 (⟨h0, rfl, hx1⟩ | ⟨h0, L, hL, v, hs, rfl, ho, h2, h3, hx1⟩)
    · have hd : (askE l f t x x != 0) = true := by simpa using h0
      generalize askE l f t x x = E at *
      replace h0 := Lib.hid h0
      have hxw1 := hxB.trans hx1
      clear q0 q1 q2 q3 q4
      go_wp2_with fail
      refine (works_any _).mono ?_
      rintro e wz ⟨rfl, hxz⟩
      go_wp2_with fail
      go_ret
      exact ⟨rfl, (by repeat (first | exact Ext.refl _ | assumption | refine Ext.drew ?_ | refine Ext.drewN ?_ _ | refine Ext.alloc ?_ _ | refine Ext.trans ?_ (by assumption)))⟩
    · obtain ⟨a1, n1, c1, hn1, rfl, hr1'⟩ := OwnK.rdn HCo.len ho.own
      have hr1 : RdH w1 a1 n1 c1 hs := ⟨hr1', ho.ok⟩
      have hxw1 := hxB.trans hx1
      by_cases h7 : sumE L = 0
      · obtain ⟨hP, hS, hD⟩ := refl_facts (fun y hy => (hr.ok y hy).len) h0 hL (h2 h7)
        rw [h7]
        have hsh := fun W (z : Ext w W) (c : Cl) => share_any a n cap l f t x c W (hr.ext z)
        unfold ShRet at hsh
        have hcor := (chkE_all (askE_zero h0).1).2
        have hfl : [l].flatten = l := by simp
        rw [hfl] at hcor
        have hbd : dS l f.toNat t.toNat x ≤ 2147483647 * 60 := by
          have h5 := (cntSel_bd (p := selB f.toNat t.toNat x) (l := l) (fun y hy => by have := hcor y hy; omega)).2
          rw [hr.rd.len] at h5
          unfold dS; omega
        rw [← hS] at hbd
        have hlen : hs.length ≤ 60 := by
          have h5 := (h2 h7).1.length_eq
          have h6 := SumK.len_le hL
          rw [List.length_map] at h5 h6
          have h7 : (facL f.toNat t.toNat x l).length ≤ l.length := by unfold facL; rw [List.length_map]; exact List.length_filter_le _ _
          rw [hr.rd.len] at h7
          omega
        have hpos := fun z (hz : z ∈ hs) => (hP z hz).pos
        have hsum0 := (sumC_pos hpos).1
        have hcle := (sumC_pos hpos).2
        have htk := fun k => sumC_take_le hpos k
        have htk0 := fun k => (sumC_pos (hs := hs.take k) fun z hz => hpos z (List.mem_of_mem_take hz)).1
        have s0 := hx1.cellv q0
        have s1 := hx1.cellv q1
        have s2 := hx1.cellv q2
        have s3 := hx1.cellv q3
        have s4 := hx1.cellv q4
        have hl0 := cell_lt s0
        have hl1 := cell_lt s2
        simp only at hl0 hl1
        obtain ⟨S, hSS⟩ : ∃ S, S = sumC hs := ⟨_, rfl⟩
        rw [← hSS] at hbd hsum0 hcle htk
        have hn60 : n1 ≤ 60 := by omega
        replace hP := Lib.hid hP
        replace hD := Lib.hid hD
        replace hpos := Lib.hid hpos
        replace hcle := Lib.hid hcle
        replace htk := Lib.hid htk
        replace htk0 := Lib.hid htk0
        replace hSS := Lib.hid hSS
        replace hS := Lib.hid hS
        replace h0 := Lib.hid h0
        replace hn1 := Lib.hid hn1
        clear q0 q1 q2 q3 q4 hcor hfl hlen hL h2 h3 ho hr1' h7
        go_wp2_with fail
        go_loopw [9, 10] (fun s i wr => ∃ k : Nat, k ≤ n1 ∧ i = .int .i64 k ∧ s = .int .i64 (sumC (hs.take k)) ∧ Ext w1 wr) (fun _ i _ => n1 - (intOf i).toNat)
        case atStart => exact ⟨0, Nat.zero_le _, rfl, rfl, Ext.refl _⟩
        case round =>
          obtain ⟨k, hk, rfl, rfl, hxr⟩ := hrel
          by_cases hlt : k < n1
          · obtain ⟨b, off, y, rfl, hy, hb, hc0, hc1, hcy⟩ := (hr1.ext hxr).at hlt
            have hym := List.mem_of_getElem? hy.out
            have hyn : y.n = 1 := by rw [← hcy.len, (hP.out y hym).one]; rfl
            have hyp := hpos.out y hym
            have hst := sumC_take hy.out
            have hb1 := htk.out (k + 1)
            have hb2 := htk0.out k
            have hb3 := htk0.out (k + 1)
            have hki : (k : Int) < (n1 : Int) := by omega
            rw [hyn] at hc0
            rw [hst] at hb1 hb3
            have hwS : IntKind.i64.wrap (sumC (hs.take k) + y.cnt) = sumC (hs.take k) + y.cnt := IntWalk.i64_in _ (by omega)
            have hwS2 : -9223372036854775808 ≤ sumC (hs.take k) + y.cnt ∧ sumC (hs.take k) + y.cnt ≤ 9223372036854775807 := by omega
            have dy : decide (y.cnt < 1) = false := by simp; omega
            have r0 := fun z : ExtOf wr => z.cell hc0
            have r1 := fun z : ExtOf wr => z.cell hc1
            by_cases hk0 : k = 0
            · have k00 : ¬ (0 < k) := by omega
              have d00 : decide (0 < k) = false := by simp; omega
              have d01 : decide ((0 : Int) < (k : Int)) = false := by simp; omega
              replace hk0 := Lib.hid hk0
              replace hst := Lib.hid hst
              clear hb1 hb2 hb3
              generalize sumC (hs.take k) = S0 at *
              go_wp2_with fail
              (refine wp_region_qx (by kernel_rfl) (by kernel_rfl) ?_
               repeat (go_big_quiet_step (fail))
               refine wpQuiet_nil ?_
               intro wq hw'
               have hxq := ext_of_ex hw'
               clear hw')
              have hc1 := hxq.cellv hc1
              clear r0 r1
              go_wp2_with fail
              (first | exact ⟨⟨k + 1, by omega, by go_num, by rw [hst.out], hxr.trans hxq⟩, (by simp [intOf]; omega)⟩ | (go_roundw; case rel => exact ⟨k + 1, by omega, by go_num, by rw [hst.out], hxr.trans hxq⟩; case measure => exact (by simp [intOf]; omega)))
            · obtain ⟨K, hK⟩ : ∃ K, K = k - 1 := ⟨_, rfl⟩
              have eK : (k : Int) - 1 = (K : Int) := by omega
              have hwK : IntKind.i64.wrap (K : Int) = K := IntWalk.i64_in _ (by omega)
              obtain ⟨_, _, u, he, hu, _, g0, g1, _⟩ := (hr1.ext hxr).at (i := K) (by omega)
              cases he
              have hKi : (K : Int) < (n1 : Int) := by omega
              have k00 : 0 < k := by omega
              have d00 : decide (0 < k) = true := by simp; omega
              have d01 : decide ((0 : Int) < (k : Int)) = true := by simp; omega
              have hdy : y.cnt ≤ u.cnt := by
                obtain ⟨hu1, hu2⟩ := List.getElem?_eq_some_iff.1 hu.out
                obtain ⟨hy1, hy2⟩ := List.getElem?_eq_some_iff.1 hy.out
                have := (List.pairwise_iff_getElem.1 hD.out) K k hu1 hy1 (by omega)
                rwa [hu2, hy2] at this
              have du : decide (u.cnt < y.cnt) = false := by simp; omega
              have r2 := fun z : ExtOf wr => z.cell g1
              replace hK := Lib.hid hK
              replace hk0 := Lib.hid hk0
              replace hst := Lib.hid hst
              clear hb1 hb2 hb3 g0
              generalize sumC (hs.take k) = S0 at *
              go_wp2_with fail
              (refine wp_region_qx (by kernel_rfl) (by kernel_rfl) ?_
               repeat (go_big_quiet_step (fail))
               refine wpQuiet_nil ?_
               intro wq hw'
               have hxq := ext_of_ex hw'
               clear hw')
              have hc1 := hxq.cellv hc1
              clear r0 r1 r2 g1
              go_wp2_with fail
              (first | exact ⟨⟨k + 1, by omega, by go_num, by rw [hst.out], hxr.trans hxq⟩, (by simp [intOf]; omega)⟩ | (go_roundw; case rel => exact ⟨k + 1, by omega, by go_num, by rw [hst.out], hxr.trans hxq⟩; case measure => exact (by simp [intOf]; omega)))
          · obtain rfl : k = n1 := by omega
            have hful : sumC (hs.take k) = S := by rw [List.take_of_length_le (by rw [hn1.out]; exact Nat.le_refl _)]; exact hSS.out.symm
            rw [hful]
            clear hful
            have hxw := hxw1.trans hxr
            obtain ⟨wo, rfl⟩ : ∃ wo : World, wo = wr := ⟨_, rfl⟩
            obtain ⟨n1, rfl⟩ : ∃ n1 : Nat, n1 = k := ⟨_, rfl⟩
            replace s0 := hxr.cellv s0
            replace s1 := hxr.cellv s1
            replace s2 := hxr.cellv s2
            replace s3 := hxr.cellv s3
            replace s4 := hxr.cellv s4
            replace hl0 := cell_lt s0
            replace hl1 := cell_lt s2
            simp only at hl0 hl1
            have hr1 := hr1.ext hxr
            clear hxr
            go_wp2_with fail
            go_loopw [11] (fun i wr => ∃ k : Nat, k ≤ n1 ∧ i = .int .i64 k ∧ Ext wo wr) (fun i _ => n1 - (intOf i).toNat)
            case atStart => exact ⟨0, Nat.zero_le _, rfl, Ext.refl _⟩
            case round =>
              obtain ⟨k, hk, rfl, hxr⟩ := hrel
              by_cases hlt : k < n1
              · obtain ⟨b, off, ⟨ya, yn, cc, ycnt, yx⟩, rfl, hy, hb, hc0, hc1, hcy⟩ := (hr1.ext hxr).at hlt
                simp only at hc0 hc1 hcy
                have hym := List.mem_of_getElem? hy.out
                have hP1 := hP.out _ hym
                have hle := hcle.out _ hym
                obtain ⟨e1, e2, e3, e4⟩ := hP1
                simp only at e1 e2 e3 e4 hle
                have hyn : yn = 1 := by rw [← hcy.len, e1]; rfl
                subst hyn
                obtain ⟨bc, oc, c, rfl, hc, hbc, p0, p1, p2⟩ := hcy.cl (i := 0) (by omega)
                have hcg : yx.getD 0 nulC = c := by rw [List.getD_eq_getElem?_getD, hc.out]; rfl
                rw [hcg] at e3 e4
                have hV : shareV l f t x c = shF ycnt S := by unfold shareV; rw [if_pos e3, e4, ← hS.out, ← hSS.out]
                obtain ⟨m1, m2, m3, m4, m5, m6, m7, m8⟩ := part_arith e2 hle
                obtain ⟨V1, hV1⟩ : ∃ V1, V1 = (shF ycnt S).1 := ⟨_, rfl⟩
                obtain ⟨V2, hV2⟩ : ∃ V2, V2 = (shF ycnt S).2 := ⟨_, rfl⟩
                have hshc := fun W (z : Ext w W) => hsh W z c
                rw [hV, e3, ← hV1, ← hV2] at hshc
                rw [← hV1, ← hV2] at m2
                rw [← hV2] at m1 m3 m6 m7 m8
                rw [← hV1] at m4 m5
                have hsh2 := fun W (z : Ext wr W) => (hshc W ((hxw.trans hxr).trans z))
                simp only [Nat.zero_mul, Nat.add_zero] at p0 p1 p2
                have z0 := hxr.cellv s0
                have z1 := hxr.cellv s1
                have z2 := hxr.cellv s2
                have z3 := hxr.cellv s3
                have z4 := hxr.cellv s4
                have hki : (k : Int) < (n1 : Int) := by omega
                replace hV := Lib.hid hV
                replace hV1 := Lib.hid hV1
                replace hV2 := Lib.hid hV2
                replace e1 := Lib.hid e1
                replace e3 := Lib.hid e3
                replace e4 := Lib.hid e4
                clear hcg hshc
                go_wp2_with fail
                obtain ⟨vs, hvs0⟩ : ∃ vs : List Value, vs = [.slice a n cap, .pointer (some ⟨w.heap.size, 0, none⟩), .int .i64 f, .pointer (some ⟨w.heap.size, 1, none⟩), .int .i64 t, clV x, .slice (some ⟨b, off, none⟩) n1 c1, .int .i64 k, .pointer (some ⟨b, off + k * 2, none⟩), .pointer (some ⟨b, off + k * 2, none⟩), .slice (some ⟨bc, oc, none⟩) 1 cc, .pointer (some ⟨bc, oc, none⟩), clV c, .tuple #[.agg #[.int .i64 V1, .int .i64 V2], .int .i64 0], .tuple #[.agg #[.int .i64 V1, .int .i64 V2], .int .i64 0], .agg #[.int .i64 V1, .int .i64 V2], .int .i64 0] := ⟨_, rfl⟩
                have hvs : vs.length = 17 := by rw [hvs0]; rfl
                refine wp_spec tauP (relP [.slice a n cap, .pointer (some ⟨w.heap.size, 0, none⟩), .int .i64 f, .pointer (some ⟨w.heap.size, 1, none⟩), .int .i64 t, clV x, .slice (some ⟨b, off, none⟩) n1 c1, .int .i64 k, .pointer (some ⟨b, off + k * 2, none⟩), .pointer (some ⟨b, off + k * 2, none⟩), .slice (some ⟨bc, oc, none⟩) 1 cc, .pointer (some ⟨bc, oc, none⟩), clV c, .tuple #[.agg #[.int .i64 V1, .int .i64 V2], .int .i64 0], .tuple #[.agg #[.int .i64 V1, .int .i64 V2], .int .i64 0], .agg #[.int .i64 V1, .int .i64 V2], .int .i64 0] wr.heap.size V1 V2 (.int .i64 0)) (by kernel_rfl) (by kernel_rfl) (by kernel_rfl) ?does ?fin
                case does =>
                  rw [← hvs0]
                  have hmono := fun j => stab_rel (relP_st vs wr.heap.size V1 V2 (.int .i64 0)) j
                  have hGm := fun (u v : World) (h : Ext wr u) (hx : Ext u v) => h.trans hx
                  rw [hvs0]
                  rw [hvs0] at hmono hvs
                  refine ⟨?_, ?_, ?_, ?_, ?_, ?_, ?_, ?_, ?_, ?_, ?_, ?_, ?_, ?_, ?_, ?_, ?_, ?_, ?_, ?_, trivial⟩
                  · refine does_val (N := 135) rfl rfl rfl rfl (by decide) (fun ax wx hold hdep hG => ⟨_, ?_, rfl⟩)
                    have h0 := gd (show ax.tmps.getD 0 undef = .slice a n cap from hold 0 (out_of (by kernel_rfl)))
                    clear hdep hold
                    go_simp
                  · refine does_val (N := 135) rfl rfl rfl rfl (by decide) (fun ax wx hold hdep hG => ⟨_, ?_, rfl⟩)
                    have h4 := gd (show ax.tmps.getD 4 undef = .pointer (some ⟨w.heap.size, 0, none⟩) from hold 4 (out_of (by kernel_rfl)))
                    clear hdep hold
                    go_simp
                  · refine does_val (N := 135) rfl rfl rfl rfl (by decide) (fun ax wx hold hdep hG => ⟨_, ?_, rfl⟩)
                    have h90 := gd (show ax.tmps.getD 90 undef = .pointer (some ⟨w.heap.size, 0, none⟩) from hdep 1 (by kernel_rfl))
                    have z0' := hG.cellv z0
                    have z1' := hG.cellv z1
                    have z2' := hG.cellv z2
                    have z3' := hG.cellv z3
                    have z4' := hG.cellv z4
                    have hc0' := hG.cellv hc0
                    have p0' := hG.cellv p0
                    have p1' := hG.cellv p1
                    have p2' := hG.cellv p2
                    clear hdep hold
                    go_simp
                  · refine does_val (N := 135) rfl rfl rfl rfl (by decide) (fun ax wx hold hdep hG => ⟨_, ?_, rfl⟩)
                    have h4 := gd (show ax.tmps.getD 4 undef = .pointer (some ⟨w.heap.size, 0, none⟩) from hold 4 (out_of (by kernel_rfl)))
                    clear hdep hold
                    go_simp
                  · refine does_val (N := 135) rfl rfl rfl rfl (by decide) (fun ax wx hold hdep hG => ⟨_, ?_, rfl⟩)
                    have h92 := gd (show ax.tmps.getD 92 undef = .pointer (some ⟨w.heap.size, 1, none⟩) from hdep 3 (by kernel_rfl))
                    have z0' := hG.cellv z0
                    have z1' := hG.cellv z1
                    have z2' := hG.cellv z2
                    have z3' := hG.cellv z3
                    have z4' := hG.cellv z4
                    have hc0' := hG.cellv hc0
                    have p0' := hG.cellv p0
                    have p1' := hG.cellv p1
                    have p2' := hG.cellv p2
                    clear hdep hold
                    go_simp
                  · refine does_val (N := 135) rfl rfl rfl rfl (by decide) (fun ax wx hold hdep hG => ⟨_, ?_, rfl⟩)
                    have h5 := gd (show ax.tmps.getD 5 undef = .pointer (some ⟨w.heap.size + 1, 0, none⟩) from hold 5 (out_of (by kernel_rfl)))
                    have z0' := hG.cellv z0
                    have z1' := hG.cellv z1
                    have z2' := hG.cellv z2
                    have z3' := hG.cellv z3
                    have z4' := hG.cellv z4
                    have hc0' := hG.cellv hc0
                    have p0' := hG.cellv p0
                    have p1' := hG.cellv p1
                    have p2' := hG.cellv p2
                    clear hdep hold
                    go_simp
                  · refine does_val (N := 135) rfl rfl rfl rfl (by decide) (fun ax wx hold hdep hG => ⟨_, ?_, rfl⟩)
                    have h7 := gd (show ax.tmps.getD 7 undef = .slice (some ⟨b, off, none⟩) n1 c1 from hold 7 (out_of (by kernel_rfl)))
                    clear hdep hold
                    go_simp
                  · refine does_val (N := 135) rfl rfl rfl rfl (by decide) (fun ax wx hold hdep hG => ⟨_, ?_, rfl⟩)
                    have h11 := gd (show ax.tmps.getD 11 undef = .int .i64 k from hold 11 (out_of (by kernel_rfl)))
                    clear hdep hold
                    go_simp
                  · refine does_val (N := 135) rfl rfl rfl rfl (by decide) (fun ax wx hold hdep hG => ⟨_, ?_, rfl⟩)
                    have h95 := gd (show ax.tmps.getD 95 undef = .slice (some ⟨b, off, none⟩) n1 c1 from hdep 6 (by kernel_rfl))
                    have h96 := gd (show ax.tmps.getD 96 undef = .int .i64 k from hdep 7 (by kernel_rfl))
                    clear hdep hold
                    go_simp
                  · refine does_val (N := 135) rfl rfl rfl rfl (by decide) (fun ax wx hold hdep hG => ⟨_, ?_, rfl⟩)
                    have h97 := gd (show ax.tmps.getD 97 undef = .pointer (some ⟨b, off + k * 2, none⟩) from hdep 8 (by kernel_rfl))
                    clear hdep hold
                    go_simp
                  · refine does_val (N := 135) rfl rfl rfl rfl (by decide) (fun ax wx hold hdep hG => ⟨_, ?_, rfl⟩)
                    have h98 := gd (show ax.tmps.getD 98 undef = .pointer (some ⟨b, off + k * 2, none⟩) from hdep 9 (by kernel_rfl))
                    have z0' := hG.cellv z0
                    have z1' := hG.cellv z1
                    have z2' := hG.cellv z2
                    have z3' := hG.cellv z3
                    have z4' := hG.cellv z4
                    have hc0' := hG.cellv hc0
                    have p0' := hG.cellv p0
                    have p1' := hG.cellv p1
                    have p2' := hG.cellv p2
                    clear hdep hold
                    go_simp
                  · refine does_val (N := 135) rfl rfl rfl rfl (by decide) (fun ax wx hold hdep hG => ⟨_, ?_, rfl⟩)
                    have h99 := gd (show ax.tmps.getD 99 undef = .slice (some ⟨bc, oc, none⟩) 1 cc from hdep 10 (by kernel_rfl))
                    clear hdep hold
                    go_simp
                  · refine does_val (N := 135) rfl rfl rfl rfl (by decide) (fun ax wx hold hdep hG => ⟨_, ?_, rfl⟩)
                    have h100 := gd (show ax.tmps.getD 100 undef = .pointer (some ⟨bc, oc, none⟩) from hdep 11 (by kernel_rfl))
                    have z0' := hG.cellv z0
                    have z1' := hG.cellv z1
                    have z2' := hG.cellv z2
                    have z3' := hG.cellv z3
                    have z4' := hG.cellv z4
                    have hc0' := hG.cellv hc0
                    have p0' := hG.cellv p0
                    have p1' := hG.cellv p1
                    have p2' := hG.cellv p2
                    clear hdep hold
                    go_simp
                  · refine does_call (f := 26) (N := 135) rfl rfl rfl rfl (by decide) hmono hGm (fun ax wx hold hdep hG => ?_)
                    have h89 := gd (show ax.tmps.getD 89 undef = .slice a n cap from hdep 0 (by kernel_rfl))
                    have h91 := gd (show ax.tmps.getD 91 undef = .int .i64 f from hdep 2 (by kernel_rfl))
                    have h93 := gd (show ax.tmps.getD 93 undef = .int .i64 t from hdep 4 (by kernel_rfl))
                    have h94 := gd (show ax.tmps.getD 94 undef = clV x from hdep 5 (by kernel_rfl))
                    have h101 := gd (show ax.tmps.getD 101 undef = clV c from hdep 12 (by kernel_rfl))
                    refine ⟨#[.slice a n cap, .int .i64 f, .int .i64 t, clV x, clV c], ?_, (hsh2 wx hG).mono fun e w' h => ⟨⟨_, h.1, rfl⟩, h.2⟩⟩
                    clear hdep hold
                    go_simp
                  · refine does_val (N := 135) rfl rfl rfl rfl (by decide) (fun ax wx hold hdep hG => ⟨_, ?_, rfl⟩)
                    have h102 := gd (show ax.tmps.getD 102 undef = .tuple #[.agg #[.int .i64 V1, .int .i64 V2], .int .i64 0] from hdep 13 (by kernel_rfl))
                    clear hdep hold
                    go_simp
                  · refine does_val (N := 135) rfl rfl rfl rfl (by decide) (fun ax wx hold hdep hG => ⟨_, ?_, rfl⟩)
                    have h88 := gd (show ax.tmps.getD 88 undef = .tuple #[.agg #[.int .i64 V1, .int .i64 V2], .int .i64 0] from hdep 14 (by kernel_rfl))
                    clear hdep hold
                    go_simp
                  · refine does_val (N := 135) rfl rfl rfl rfl (by decide) (fun ax wx hold hdep hG => ⟨_, ?_, rfl⟩)
                    have h88 := gd (show ax.tmps.getD 88 undef = .tuple #[.agg #[.int .i64 V1, .int .i64 V2], .int .i64 0] from hdep 14 (by kernel_rfl))
                    clear hdep hold
                    go_simp
                  · exact does_new (N := 135) rfl rfl rfl rfl (by decide) hmono hGm (fun ax wx hold hdep hG => ⟨.pointer (some ⟨wx.heap.size, 0, none⟩), wx.alloc (.cells #[.int .i64 0, .int .i64 0] 44), by clear hdep hold; go_simp, ⟨wx.heap.size, 0, 0, rfl, hG.le, World.alloc_heap_new wx _⟩, Ext.alloc1 _ _⟩)
                  · intro ax wx hsz hold hdep hG
                    have h103 := gd (show ax.tmps.getD 103 undef = .agg #[.int .i64 V1, .int .i64 V2] from hdep 15 (by kernel_rfl))
                    obtain ⟨B, u1, u2, hv, hBb, hB⟩ := (show FracAt wr.heap.size (ax.tmps.getD 12 undef) wx from hdep 17 (by kernel_rfl))
                    have h12 := gd hv
                    have hBl := (Array.getElem?_eq_some_iff.1 hB).1
                    have hG' : Ext wr ((wx.setCell ⟨B, 0, none⟩ (.int .i64 V1)).setCell ⟨B, 1, none⟩ (.int .i64 V2)) := (hG.setCell (p := ⟨B, 0, none⟩) hBb _).setCell (p := ⟨B, 1, none⟩) hBb _
                    refine ⟨rfl, ?_⟩
                    refine Oper.wp_mono (K := fun a2 w2 => a2 = ax.put none undef ∧ w2 = ((wx.setCell ⟨B, 0, none⟩ (.int .i64 V1)).setCell ⟨B, 1, none⟩ (.int .i64 V2))) ?_ ?_
                    · rintro a2 w2 ⟨rfl, rfl⟩
                      exact ⟨undef, rfl, hG', ⟨B, hv, hBb, fr_set hB V1 V2⟩, fun j u hj h => relP_stF hvs j hj u wx B u1 u2 V1 V2 hB h⟩
                    · obtain ⟨f0, f1⟩ := frz2 hB
                      obtain ⟨q0, q1⟩ := fr_cells hB
                      clear hsz hv hG' hmono hGm
                      clear hdep hold
                      go_simp
                  · refine does_val (N := 135) rfl rfl rfl rfl (by decide) (fun ax wx hold hdep hG => ⟨_, ?_, rfl⟩)
                    have h104 := gd (show ax.tmps.getD 104 undef = .int .i64 0 from hdep 16 (by kernel_rfl))
                    clear hdep hold
                    go_simp
                case fin =>
                  intro ff wz hrel hval hxz
                  have v0 : ff 0 = _ := hval 0 _ 89 rfl rfl
                  have v1 : ff 1 = _ := hval 1 _ 90 rfl rfl
                  have v2 : ff 2 = _ := hval 2 _ 91 rfl rfl
                  have v3 : ff 3 = _ := hval 3 _ 92 rfl rfl
                  have v4 : ff 4 = _ := hval 4 _ 93 rfl rfl
                  have v5 : ff 5 = _ := hval 5 _ 94 rfl rfl
                  have v6 : ff 6 = _ := hval 6 _ 95 rfl rfl
                  have v7 : ff 7 = _ := hval 7 _ 96 rfl rfl
                  have v8 : ff 8 = _ := hval 8 _ 97 rfl rfl
                  have v9 : ff 9 = _ := hval 9 _ 98 rfl rfl
                  have v10 : ff 10 = _ := hval 10 _ 99 rfl rfl
                  have v11 : ff 11 = _ := hval 11 _ 100 rfl rfl
                  have v12 : ff 12 = _ := hval 12 _ 101 rfl rfl
                  have v13 : ff 13 = _ := hval 13 _ 102 rfl rfl
                  have v14 : ff 14 = _ := hval 14 _ 88 rfl rfl
                  have v15 : ff 15 = _ := hval 15 _ 103 rfl rfl
                  have v16 : ff 16 = _ := hval 16 _ 104 rfl rfl
                  have v19 : ff 19 = _ := hval 19 _ 13 rfl rfl
                  obtain ⟨B, hB, hBb, hBc⟩ : FracIs wr.heap.size V1 V2 (ff 17) wz := hrel 18 17 (by decide) rfl
                  clear hrel hval
                  simp only [putAll, v0, v1, v2, v3, v4, v5, v6, v7, v8, v9, v10, v11, v12, v13, v14, v15, v16, v19, hB]
                  clear v0 v1 v2 v3 v4 v5 v6 v7 v8 v9 v10 v11 v12 v13 v14 v15 v16 v19 hB
                  go_simp
                  clear ff
                  obtain ⟨g0, g1⟩ := fr_cells hBc
                  have hBl := (Array.getElem?_eq_some_iff.1 hBc).1
                  have y1 := hxz.cellv hc1
                  have r0 := fun z : ExtOf wz => z.cell g0
                  have r1 := fun z : ExtOf wz => z.cell g1
                  have r2 := fun z : ExtOf wz => z.cell y1
                  have dV : decide (V2 < 1) = false := by simp; omega
                  have nV : ¬ V2 = 0 := by omega
                  clear z0 z1 z2 z3 z4 hc0 p0 p1 p2 hsh2 hcy
                  go_wp2_with fail
                  refine wp_region_qx (by kernel_rfl) (by kernel_rfl) ?_
                  repeat (go_big_quiet_step (fail))
                  refine wpQuiet_nil ?_
                  intro wq hw'
                  have hxq := ext_of_ex hw'
                  clear hw' r0 r1 r2
                  go_wp2_with fail
                  (first | exact ⟨⟨k + 1, by omega, by go_num, (hxr.trans hxz).trans hxq⟩, (by simp [intOf]; omega)⟩ | (go_roundw; case rel => exact ⟨k + 1, by omega, by go_num, (hxr.trans hxz).trans hxq⟩; case measure => exact (by simp [intOf]; omega)))
              · go_wp2_with fail
                have hxz0 := hxw.trans hxr
                refine (works_any _).mono ?_
                rintro e wz ⟨rfl, hxz⟩
                go_wp2_with fail
                go_ret
                exact ⟨rfl, (by repeat (first | exact Ext.refl _ | assumption | refine Ext.drew ?_ | refine Ext.drewN ?_ _ | refine Ext.alloc ?_ _ | refine Ext.trans ?_ (by assumption)))⟩
      · have hh := h3 h7
        have hn0 : n1 = 0 := by rw [hn1, hh]; rfl
        have hd : (sumE L != 0) = true := by simpa using h7
        subst hn0
        generalize sumE L = E at *
        replace h7 := Lib.hid h7
        clear q0 q1 q2 q3 q4 h3 h2 hn1
        go_wp2_with fail
        refine (works_any _).mono ?_
        rintro e wz ⟨rfl, hxz⟩
        go_wp2_with fail
        go_ret
        exact ⟨rfl, (by repeat (first | exact Ext.refl _ | assumption | refine Ext.drew ?_ | refine Ext.drewN ?_ _ | refine Ext.alloc ?_ _ | refine Ext.trans ?_ (by assumption)))⟩
  · have d1 : decide ((60 : Int) < (n : Int)) = true := by simp; omega
    go_enter Try.func7, Try.ntmps7
    go_wp2_with fail
    refine (works_any _).mono ?_
    rintro e wz ⟨rfl, hxz⟩
    go_wp2_with fail
    go_ret
    exact ⟨rfl, (by repeat (first | exact Ext.refl _ | assumption | refine Ext.drew ?_ | refine Ext.drewN ?_ _ | refine Ext.alloc ?_ _ | refine Ext.trans ?_ (by assumption)))⟩
end Go.Proofs.Ytkdancoffmhjhaa
