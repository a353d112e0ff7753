/-
  The law CorrReflexes: the walk.
-/
import Derived.Test.YtkdancoffmhjhaaZq
import Derived.Test.YtkdancoffmhjhaaZd
import Derived.Test.YtkdancoffmhjhaaLn
namespace Go.Proofs.Ytkdancoffmhjhaa
open Go.RowKit Go.Shelf
open Classical in
/-- The list by count, if it can be put so. -/
noncomputable def byCnt (L : List (List Cl × Int)) : List (List Cl × Int) := if h : ∃ A, ByCnt L A then h.choose else []
theorem byCnt_is {L A : List (List Cl × Int)} (h : ByCnt L A) : A = byCnt L := by
  unfold byCnt
  rw [dif_pos ⟨A, h⟩]
  exact byCnt_uniq h (Exists.choose_spec (⟨A, h⟩ : ∃ A, ByCnt L A))
/-- What the chosen ones add up to. -/
def facS (l : List HCo) (f t : Int) (x : Cl) : List (List Cl × Int) := sumL ((facL f.toNat t.toNat x l).map kp)
def reflE (l : List HCo) (f t : Int) (x : Cl) : Int := if askE l f t x x = 0 then sumE (facS l f t x) else askE l f t x x
noncomputable def reflL (l : List HCo) (f t : Int) (x : Cl) : List (List Cl × Int) := if askE l f t x x = 0 then (if sumE (facS l f t x) = 0 then byCnt (facS l f t x) else []) else []
theorem refl_v {l : List HCo} {f t : Int} {x : Cl} {w : World} {e : Ending} {w' : World} (h : ReflRet l f t x w e w') : ListRet (reflL l f t x) (reflE l f t x) w e w' := by
  rcases h with ⟨h0, rfl, hx⟩ | ⟨h0, L, hL, v, hs, rfl, ho, h1, h2, hx⟩
  · refine ⟨none, 0, 0, [], ?_, rdh_none _, ?_, hx⟩
    · unfold reflE; rw [if_neg h0]
    · unfold reflL; rw [if_neg h0]; rfl
  · have hL2 : L = facS l f t x := sumK_is hL
    subst hL2
    obtain ⟨a, n, cap, hn, rfl, hr⟩ := OwnK.rdn HCo.len ho.own
    refine ⟨a, n, cap, hs, ?_, ⟨hr, ho.ok⟩, ?_, hx⟩
    · unfold reflE; rw [if_pos h0]
    · unfold reflL; rw [if_pos h0]
      by_cases h7 : sumE (facS l f t x) = 0
      · rw [if_pos h7]; exact byCnt_is (h1 h7)
      · rw [if_neg h7, h2 h7]; rfl
theorem reflexes_any (a : Option Addr) (n cap : Nat) (l : List HCo) (f t : Int) (x : Cl) (w : World) (hr : RdH w a n cap l) :
    Calls Try.prog 24 #[.slice a n cap, .int .i64 f, .int .i64 t, clV x] w (ReflRet l f t x w) :=
  reflexes_of stab_all a n cap l f t x w hr fun h0 => by
    have := ((chkE_all (askE_zero h0).1).1 l (by simp)).1
    omega
set_option maxHeartbeats 1000000 in
theorem corrReflexes_any (a : Option Addr) (n cap : Nat) (l : List HCo) (f t : Int) (x : Cl) (w : World) (hr : RdH w a n cap l) :
    Calls Try.prog 5 #[.slice a n cap, .agg #[.int .i64 f, .int .i64 t], clV x] w fun e w' => e = .returned (.bool true) ∧ Ext w w' := by
  have hm1 := hr.max
  have hA := fun W (z : Ext w W) => (reflexes_any a n cap l f t x W (hr.ext z)).mono (fun _ _ h => refl_v h)
  have hB := fun W (z : Ext w W) => (rreflexes_any a n cap l f t x W (hr.ext z)).mono (fun _ _ h => refl_v h)
  unfold ListRet at hA hB
  generalize reflL l f t x = L at *
  generalize reflE l f t x = E at *
  have hw0 : (E == E) = true := by simp
  by_cases h1 : n ≤ 60 ∨ 4096 < n ∧ n ≤ 5000
  · have d1 : decide (n ≤ 60 ∨ 4096 < n ∧ n ≤ 5000) = true := decide_eq_true h1
    replace h1 := Lib.hid h1
    replace d1 := Lib.hid d1
    have q0 : ((w.alloc (.cells #[.int .i64 f, .int .i64 t] 34)).alloc (.cells #[.int .i64 x.kind, .int .u32 x.s.p.toNat, .int .u32 x.s.m.toNat] 39)).cell? ⟨w.heap.size, 0, none⟩ = some (.int .i64 f) := by go_simp
    have q1 : ((w.alloc (.cells #[.int .i64 f, .int .i64 t] 34)).alloc (.cells #[.int .i64 x.kind, .int .u32 x.s.p.toNat, .int .u32 x.s.m.toNat] 39)).cell? ⟨w.heap.size, 1, none⟩ = some (.int .i64 t) := by go_simp
    have q2 : ((w.alloc (.cells #[.int .i64 f, .int .i64 t] 34)).alloc (.cells #[.int .i64 x.kind, .int .u32 x.s.p.toNat, .int .u32 x.s.m.toNat] 39)).cell? ⟨w.heap.size + 1, 0, none⟩ = some (.int .i64 x.kind) := by go_simp
    have q3 : ((w.alloc (.cells #[.int .i64 f, .int .i64 t] 34)).alloc (.cells #[.int .i64 x.kind, .int .u32 x.s.p.toNat, .int .u32 x.s.m.toNat] 39)).cell? ⟨w.heap.size + 1, 1, none⟩ = some (.int .u32 x.s.p.toNat) := by go_simp
    have q4 : ((w.alloc (.cells #[.int .i64 f, .int .i64 t] 34)).alloc (.cells #[.int .i64 x.kind, .int .u32 x.s.p.toNat, .int .u32 x.s.m.toNat] 39)).cell? ⟨w.heap.size + 1, 2, none⟩ = some (.int .u32 x.s.m.toNat) := by go_simp
    have hxB : Ext w ((w.alloc (.cells #[.int .i64 f, .int .i64 t] 34)).alloc (.cells #[.int .i64 x.kind, .int .u32 x.s.p.toNat, .int .u32 x.s.m.toNat] 39)) := (by repeat (first | exact Ext.refl _ | refine Ext.drew ?_ | refine Ext.drewN ?_ _ | refine Ext.alloc ?_ _))
    go_enter Try.func5, Try.ntmps5
    go_wp2_with fail
    generalize ((w.alloc (.cells #[.int .i64 f, .int .i64 t] 34)).alloc (.cells #[.int .i64 x.kind, .int .u32 x.s.p.toNat, .int .u32 x.s.m.toNat] 39)) = wB at *
    refine (few_any _ n _ _ (by assumption)).mono ?_
    rintro e wf ⟨rfl, hwf⟩
    subst wf
    rw [d1.out]
    go_wp2_with fail
    have hA1 := hA _ hxB
    refine hA1.mono ?_
    rintro e w1 ⟨a1, n1, c1, hs1, rfl, hr1, hk1, hx1⟩
    have s0 := hx1.cellv q0
    have s1 := hx1.cellv q1
    have s2 := hx1.cellv q2
    have s3 := hx1.cellv q3
    have s4 := hx1.cellv q4
    have hl0 := cell_lt s0
    have hl1 := cell_lt s2
    simp only at hl0 hl1
    have hB1 := hB _ (hxB.trans hx1)
    clear q0 q1 q2 q3 q4 hA hB hA1
    go_wp2_with fail
    refine hB1.mono ?_
    rintro e w2 ⟨a2, n2, c2, hs2, rfl, hr2, hk2, hx2⟩
    have hsame := same_any a1 n1 c1 hs1 a2 n2 c2 hs2 w2 (hr1.ext hx2) hr2
    rw [hk1, hk2, decide_eq_true rfl] at hsame
    have hxw2 := (hxB.trans hx1).trans hx2
    clear s0 s1 s2 s3 s4 hB1 hk1 hk2
    go_wp2_with fail
    refine hsame.mono ?_
    rintro e w3 ⟨rfl, hx3⟩
    go_wp2_with fail
    refine (works_any _).mono ?_
    rintro e wz ⟨rfl, hxz⟩
    go_wp2_with fail
    go_ret
    exact ⟨rfl, (by repeat (first | exact Ext.refl _ | assumption | refine Ext.drew ?_ | refine Ext.drewN ?_ _ | refine Ext.alloc ?_ _ | refine Ext.trans ?_ (by assumption)))⟩
  · have d1 : decide (n ≤ 60 ∨ 4096 < n ∧ n ≤ 5000) = false := decide_eq_false h1
    replace h1 := Lib.hid h1
    replace d1 := Lib.hid d1
    go_enter Try.func5, Try.ntmps5
    go_wp2_with fail
    refine (few_any _ n _ _ (by assumption)).mono ?_
    rintro e wf ⟨rfl, hwf⟩
    subst wf
    rw [d1.out]
    go_wp2_with fail
    refine (works_any _).mono ?_
    rintro e wz ⟨rfl, hxz⟩
    go_wp2_with fail
    go_ret
    exact ⟨rfl, (by repeat (first | exact Ext.refl _ | assumption | refine Ext.drew ?_ | refine Ext.drewN ?_ _ | refine Ext.alloc ?_ _ | refine Ext.trans ?_ (by assumption)))⟩
end Go.Proofs.Ytkdancoffmhjhaa
