/-
  The reference of chapter 20: Merge, Total, width, asked.
-/
import Derived.Test.YtkdancoffmhjhaaKa2
namespace Go.Proofs.Ytkdancoffmhjhaa
open Go.RowKit
theorem chkE_all {ls : List (List HCo)} (h : chkE ls = 0) : (∀ l ∈ ls, l.length ≤ 4096 ∧ ∀ y ∈ l, y.n ≤ 64) ∧ ∀ y ∈ ls.flatten, y.n = widH ls.flatten ∧ 1 ≤ y.cnt ∧ y.cnt ≤ 2147483647 ∧ y.x.all Cl.ok = true := by
  unfold chkE at h
  split at h
  · cases h
  · rename_i h1
    split at h
    · rename_i h2
      refine ⟨fun l hl => ?_, fun y hy => ?_⟩
      · have : manyB l = false := by
          rw [Bool.not_eq_true, List.any_eq_false] at h1
          simpa using h1 l hl
        simp [manyB] at this
        exact this
      · have := List.all_eq_true.1 h2 y hy
        simp only [corB, cntB, Bool.and_eq_true, decide_eq_true_eq] at this
        exact ⟨this.1, this.2.1.1, this.2.1.2, this.2.2⟩
    · cases h
/-- A sum handed back, or an error. -/
def OrSum (E : Int) (l : List (List Cl × Int)) (w : World) (e : Ending) (w' : World) : Prop :=
  (E ≠ 0 ∧ e = .returned (.tuple #[.slice none 0 0, .int .i64 E]) ∧ Ext w w') ∨ (E = 0 ∧ SumRet l w e w')
set_option maxHeartbeats 2000000 in
theorem rmerge_any (a : Option Addr) (n cap : Nat) (l : List HCo) (b : Option Addr) (m cap2 : Nat) (l2 : List HCo) (w : World) (hr : RdH w a n cap l) (hs : RdH w b m cap2 l2) :
    Calls Try.prog 23 #[.slice a n cap, .slice b m cap2] w (OrSum (chkE [l, l2]) ((l ++ l2).map kp) w) := by
  have hchk := rcheck_any2 a n cap l b m cap2 l2 w hr hs
  have hl := hr.rd.len
  have hl2 := hs.rd.len
  by_cases h0 : chkE [l, l2] = 0
  · obtain ⟨h1, h2⟩ := chkE_all h0
    have hfl : [l, l2].flatten = l ++ l2 := by simp
    rw [hfl] at h2
    obtain ⟨hn1, hw1⟩ := h1 l (by simp)
    obtain ⟨hn2, hw2⟩ := h1 l2 (by simp)
    rw [hl] at hn1
    rw [hl2] at hn2
    have hsum := fun (a3 : Option Addr) (n3 c3 : Nat) W (hr3 : RdH W a3 n3 c3 (l ++ l2)) => rsum_any a3 n3 c3 (l ++ l2) W hr3 (by have := hr3.rd.len; rw [List.length_append, hl, hl2] at this; omega) (fun y hy => by
      rcases List.mem_append.1 hy with h | h
      · exact hw1 y h
      · exact hw2 y h) (fun y hy => ⟨by have := (h2 y hy).2.1; omega, (h2 y hy).2.2.1⟩)
    rw [h0] at hchk
    unfold OrSum
    replace h0 := Lib.hid h0
    replace hl := Lib.hid hl
    replace hl2 := Lib.hid hl2
    clear h1 h2 hfl hw1 hw2
    go_enter Try.func23, Try.ntmps23
    go_wp2_with fail
    refine hchk.mono ?_
    rintro e w1 ⟨rfl, hx1⟩
    have hown : OwnK 2 HCo.enc w1.heap.size 49 (w1.alloc (.cells #[] 49)) (.slice (some ⟨w1.heap.size, 0, none⟩) 0 0) [] := OwnK.base (World.ownsRow_lit w1 #[] 0 (Nat.le_refl _) (Nat.zero_le _) rfl) (Nat.le_refl _)
    clear hchk
    go_wp2_with (first | (at_builtin; refine wp_appN w1 _ l rfl _ _ 24 rfl 49 Try.underlying24 info_corr rfl (by decide) _ _ rfl hown (Ext.alloc1 _ _) a n cap rfl ((hr.rd.ext hx1).ext (Ext.alloc1 _ _)) HCo.len HCo.one (by simp; omega) (by unfold maxLen; simp; omega) ?_; intro v1 w2 ho1 hx2 _) | (at_builtin; refine wp_appN w1 _ l2 rfl _ _ 24 rfl 49 Try.underlying24 info_corr rfl (by decide) _ _ rfl ho1 hx2 b m cap2 rfl ((hs.rd.ext hx1).ext hx2) HCo.len HCo.one (by rw [List.nil_append, hl.out]; omega) (by unfold maxLen; rw [List.nil_append, hl.out]; omega) ?_; intro v2 w3 ho2 hx3 _; obtain ⟨a3, n3, c3, hn3, rfl, hr3⟩ := OwnK.rdn HCo.len ho2; replace hn3 := Lib.hid hn3))
    rw [List.nil_append] at hr3
    have hr4 : RdH w3 a3 n3 c3 (l ++ l2) := ⟨hr3, fun y hy => by
      rcases List.mem_append.1 hy with h | h
      · exact ((hr.ok y h).ext hx1).ext hx3
      · exact ((hs.ok y h).ext hx1).ext hx3⟩
    have hcall := hsum a3 n3 c3 w3 hr4
    clear hsum hr3 hr4 ho1 ho2 hown hx2
    unfold SumRet at hcall
    refine hcall.mono ?_
    rintro e w4 ⟨L, hL, v, hs', rfl, hown', hk', hx4⟩
    replace hk' := Lib.hid hk'
    go_wp2_with fail
    go_ret2
    exact .inr ⟨h0.out, L, hL, v, hs', rfl, OwnL.base hown' (by have := hx1.le; have := hx3.le; omega), hk'.out, (hx1.trans hx3).trans hx4⟩
  · unfold OrSum
    generalize chkE [l, l2] = er at *
    have hd : (er != 0) = true := by simpa using h0
    replace h0 := Lib.hid h0
    replace hl := Lib.hid hl
    replace hl2 := Lib.hid hl2
    go_enter Try.func23, Try.ntmps23
    go_wp2_with fail
    refine hchk.mono ?_
    rintro e w1 ⟨rfl, hx1⟩
    go_wp2_with fail
    go_ret2
    exact .inl ⟨h0.out, rfl, hx1⟩
theorem chkE_nil (l : List HCo) : chkE [l, []] = chkE [l] := by
  unfold chkE
  have e1 : [l, ([] : List HCo)].any manyB = [l].any manyB := by simp [manyB]
  have e2 : [l, ([] : List HCo)].flatten = [l].flatten := by simp
  rw [e1, e2]
theorem rcheck_one (a : Option Addr) (n cap : Nat) (l : List HCo) (w : World) (hr : RdH w a n cap l) :
    Calls Try.prog 41 #[.slice a n cap, .slice none 0 0] w fun e w' => e = .returned (.int .i64 (chkE [l])) ∧ Ext w w' := by
  have := rcheck_any2 a n cap l none 0 0 [] w hr ⟨RdK.nilS w, fun y hy => by cases hy⟩
  rwa [chkE_nil] at this
theorem sumC_succ {l : List HCo} {j : Nat} {y : HCo} (h : l[j]? = some y) : sumC (l.take (j + 1)) = sumC (l.take j) + y.cnt := by rw [take_succ_at h, sumC_snoc]
set_option maxHeartbeats 1000000 in
theorem rtotal_any (a : Option Addr) (m cap : Nat) (l : List HCo) (w : World) (hr : RdH w a m cap l) :
    Calls Try.prog 31 #[.slice a m cap] w fun e w' => e = .returned (.tuple #[.int .i64 (if chkE [l] = 0 then sumC l else 0), .int .i64 (chkE [l])]) ∧ Ext w w' := by
  have hchk := rcheck_one a m cap l w hr
  have hl := hr.rd.len
  by_cases h0 : chkE [l] = 0
  · obtain ⟨hlen, hcnt⟩ := chkE_zero h0
    rw [h0] at hchk
    rw [h0, if_pos rfl]
    have hbd := fun j => sumC_bd (l := l.take j) (fun y hy => hcnt y (List.mem_of_mem_take hy))
    have hlt2 := fun j : Nat => (show (l.take j).length ≤ 4096 by rw [List.length_take]; omega)
    rw [hl] at hlen
    replace h0 := Lib.hid h0
    replace hl := Lib.hid hl
    replace hbd := Lib.hid hbd
    replace hlt2 := Lib.hid hlt2
    clear hcnt
    go_enter Try.func31, Try.ntmps31
    go_wp2_with fail
    refine hchk.mono ?_
    rintro e w1 ⟨rfl, hx1⟩
    clear hchk
    go_wp2_with fail
    go_loopw [5, 6] (fun s i wr => ∃ (j : Nat) (z : Int), j ≤ m ∧ i = .int .i64 j ∧ s = .int .i64 z ∧ Hid (z = sumC (l.take j)) ∧ Ext w1 wr) (fun _ i _ => m - (intOf i).toNat)
    case atStart => exact ⟨0, 0, Nat.zero_le _, rfl, rfl, Lib.hid (by simp [sumC]), Ext.refl _⟩
    case round =>
      obtain ⟨j, z, hj, rfl, rfl, hz, hxr⟩ := hrel
      by_cases hlt : j < m
      · obtain ⟨b, off, y, rfl, hy, hb, hc0, hc1, hcy⟩ := (hr.ext (hx1.trans hxr)).at hlt
        have hs := Lib.hid (sumC_succ hy.out)
        have hb1 := hbd.out j
        have hb2 := hbd.out (j + 1)
        have hl1 := hlt2.out j
        have hl2 := hlt2.out (j + 1)
        rw [hs.out] at hb2
        rw [← hz.out] at hb1 hb2
        have hwr : IntKind.i64.wrap (z + y.cnt) = z + y.cnt := IntWalk.i64_in _ (by omega)
        have hb3 : -9223372036854775808 ≤ z + y.cnt ∧ z + y.cnt ≤ 9223372036854775807 := by omega
        clear hb1 hb2 hl1 hl2
        go_wp2_with fail
        (first | exact ⟨⟨j + 1, z + y.cnt, by omega, by go_num, rfl, Lib.hid (by rw [hs.out, ← hz.out]), hxr⟩, (by simp [intOf]; omega)⟩ | (go_roundw; case rel => exact ⟨j + 1, z + y.cnt, by omega, by go_num, rfl, Lib.hid (by rw [hs.out, ← hz.out]), hxr⟩; case measure => exact (by simp [intOf]; omega)))
      · have hfin : Hid (z = sumC l) := Lib.hid (by
          have := hz.out
          rwa [List.take_of_length_le (by rw [hl.out]; omega)] at this)
        go_wp2_with fail
        go_ret2
        exact ⟨by rw [hfin.out]; rfl, hx1.trans hxr⟩
  · rw [if_neg h0]
    generalize chkE [l] = er at *
    have hd : (er != 0) = true := by simpa using h0
    replace h0 := Lib.hid h0
    replace hl := Lib.hid hl
    go_enter Try.func31, Try.ntmps31
    go_wp2_with fail
    refine hchk.mono ?_
    rintro e w1 ⟨rfl, hx1⟩
    go_wp2_with fail
    go_ret2
    exact ⟨rfl, hx1⟩
theorem rwidth_any (a : Option Addr) (n cap : Nat) (l : List HCo) (w : World) (hr : RdH w a n cap l) :
    Calls Try.prog 62 #[.slice a n cap] w fun e w' => e = .returned (.int .i64 (widH l : Nat)) ∧ w' = w := by
  have hl := hr.rd.len
  by_cases h0 : n = 0
  · have hw : widH l = 0 := by
      have : l = [] := List.eq_nil_of_length_eq_zero (by omega)
      subst this; rfl
    have hd : ((n : Int) == 0) = true := by simp; omega
    rw [hw]
    replace h0 := Lib.hid h0
    replace hl := Lib.hid hl
    clear hw
    go_enter Try.func62, Try.ntmps62
    go_wp2_with fail
    go_ret
    exact ⟨rfl, rfl⟩
  · obtain ⟨b, off, y, rfl, hy, hb, hc0, hc1, hcy⟩ := hr.at (show 0 < n by omega)
    have hw := corB_head hy.out
    have hd : ((n : Int) == 0) = false := by simp; omega
    have h0n : 0 < n := by omega
    simp only [Nat.zero_mul, Nat.add_zero] at hc0
    rw [hw]
    replace h0 := Lib.hid h0
    replace hl := Lib.hid hl
    clear hw
    go_enter Try.func62, Try.ntmps62
    go_wp2_with fail
    go_ret
    exact ⟨rfl, rfl⟩
/-! ### A question about two languages -/
def askE (l : List HCo) (f t : Int) (x y : Cl) : Int :=
  if chkE [l] ≠ 0 then chkE [l] else if f < 0 ∨ (widH l : Int) ≤ f ∨ t < 0 ∨ (widH l : Int) ≤ t then 3 else if x.ok = false ∨ x.kind = 0 ∨ y.ok = false ∨ y.kind = 0 then 2 else 0
set_option maxHeartbeats 4000000 in
theorem rasked_any (a : Option Addr) (n cap : Nat) (l : List HCo) (f t : Int) (x y : Cl) (w : World) (hr : RdH w a n cap l) :
    Calls Try.prog 55 #[.slice a n cap, .int .i64 f, .int .i64 t, clV x, clV y] w fun e w' => e = .returned (.int .i64 (askE l f t x y)) ∧ Ext w w' := by
  have hchk := fun W (z : Ext w W) => rcheck_one a n cap l W (hr.ext z)
  by_cases h0 : chkE [l] = 0
  · rw [h0] at hchk
    have hA : askE l f t x y = if f < 0 ∨ (widH l : Int) ≤ f ∨ t < 0 ∨ (widH l : Int) ≤ t then 3 else if x.ok = false ∨ x.kind = 0 ∨ y.ok = false ∨ y.kind = 0 then 2 else 0 := by
      unfold askE; rw [if_neg (by simp [h0])]
    rw [hA]
    clear hA
    replace h0 := Lib.hid h0
    by_cases h1 : f < 0 ∨ (widH l : Int) ≤ f ∨ t < 0 ∨ (widH l : Int) ≤ t
    · rw [if_pos h1]
      by_cases c1 : f < 0
      · have d1 : decide (f < 0) = true := by simpa using c1
        clear h1
        go_enter Try.func55, Try.ntmps55
        go_wp2_with fail
        have bx0 : (((w.alloc (.cells #[.int .i64 x.kind, .int .u32 x.s.p.toNat, .int .u32 x.s.m.toNat] 39)).alloc (.cells #[.int .i64 y.kind, .int .u32 y.s.p.toNat, .int .u32 y.s.m.toNat] 39))).cell? ⟨w.heap.size, 0, none⟩ = some (.int .i64 x.kind) := by go_simp
        have bx1 : (((w.alloc (.cells #[.int .i64 x.kind, .int .u32 x.s.p.toNat, .int .u32 x.s.m.toNat] 39)).alloc (.cells #[.int .i64 y.kind, .int .u32 y.s.p.toNat, .int .u32 y.s.m.toNat] 39))).cell? ⟨w.heap.size, 1, none⟩ = some (.int .u32 x.s.p.toNat) := by go_simp
        have bx2 : (((w.alloc (.cells #[.int .i64 x.kind, .int .u32 x.s.p.toNat, .int .u32 x.s.m.toNat] 39)).alloc (.cells #[.int .i64 y.kind, .int .u32 y.s.p.toNat, .int .u32 y.s.m.toNat] 39))).cell? ⟨w.heap.size, 2, none⟩ = some (.int .u32 x.s.m.toNat) := by go_simp
        have by0 : (((w.alloc (.cells #[.int .i64 x.kind, .int .u32 x.s.p.toNat, .int .u32 x.s.m.toNat] 39)).alloc (.cells #[.int .i64 y.kind, .int .u32 y.s.p.toNat, .int .u32 y.s.m.toNat] 39))).cell? ⟨w.heap.size + 1, 0, none⟩ = some (.int .i64 y.kind) := by go_simp
        have by1 : (((w.alloc (.cells #[.int .i64 x.kind, .int .u32 x.s.p.toNat, .int .u32 x.s.m.toNat] 39)).alloc (.cells #[.int .i64 y.kind, .int .u32 y.s.p.toNat, .int .u32 y.s.m.toNat] 39))).cell? ⟨w.heap.size + 1, 1, none⟩ = some (.int .u32 y.s.p.toNat) := by go_simp
        have by2 : (((w.alloc (.cells #[.int .i64 x.kind, .int .u32 x.s.p.toNat, .int .u32 x.s.m.toNat] 39)).alloc (.cells #[.int .i64 y.kind, .int .u32 y.s.p.toNat, .int .u32 y.s.m.toNat] 39))).cell? ⟨w.heap.size + 1, 2, none⟩ = some (.int .u32 y.s.m.toNat) := by go_simp
        have hxB : Ext w (((w.alloc (.cells #[.int .i64 x.kind, .int .u32 x.s.p.toNat, .int .u32 x.s.m.toNat] 39)).alloc (.cells #[.int .i64 y.kind, .int .u32 y.s.p.toNat, .int .u32 y.s.m.toNat] 39))) := (by repeat (first | exact Ext.refl _ | refine Ext.drew ?_ | refine Ext.drewN ?_ _ | refine Ext.alloc ?_ _))
        generalize (((w.alloc (.cells #[.int .i64 x.kind, .int .u32 x.s.p.toNat, .int .u32 x.s.m.toNat] 39)).alloc (.cells #[.int .i64 y.kind, .int .u32 y.s.p.toNat, .int .u32 y.s.m.toNat] 39))) = wB at *
        generalize w.heap.size = Bx at *
        generalize Bx + 1 = By at *
        refine (hchk _ hxB).mono ?_
        rintro e w1 ⟨rfl, hx1⟩
        have hxw1 : Ext w w1 := hxB.trans hx1
        have cx0 := (hx1).cellv bx0
        have cx1 := (hx1).cellv bx1
        have cx2 := (hx1).cellv bx2
        have cy0 := (hx1).cellv by0
        have cy1 := (hx1).cellv by1
        have cy2 := (hx1).cellv by2
        have clx := cell_lt cx0
        have cly := cell_lt cy0
        simp only at clx cly
        clear bx0 bx1 bx2 by0 by1 by2
        clear hx1 hxB
        go_wp2_with fail
        refine (rwidth_any a n cap l _ (hr.ext hxw1)).mono ?_
        rintro e w2 ⟨rfl, rfl⟩
        go_wp2_with fail
        go_ret
        exact ⟨rfl, hxw1⟩
      have d1 : decide (f < 0) = false := by simpa using c1
      by_cases c2 : (widH l : Int) ≤ f
      · have d2 : decide ((widH l : Int) ≤ f) = true := by simpa using c2
        clear h1
        go_enter Try.func55, Try.ntmps55
        go_wp2_with fail
        have bx0 : (((w.alloc (.cells #[.int .i64 x.kind, .int .u32 x.s.p.toNat, .int .u32 x.s.m.toNat] 39)).alloc (.cells #[.int .i64 y.kind, .int .u32 y.s.p.toNat, .int .u32 y.s.m.toNat] 39))).cell? ⟨w.heap.size, 0, none⟩ = some (.int .i64 x.kind) := by go_simp
        have bx1 : (((w.alloc (.cells #[.int .i64 x.kind, .int .u32 x.s.p.toNat, .int .u32 x.s.m.toNat] 39)).alloc (.cells #[.int .i64 y.kind, .int .u32 y.s.p.toNat, .int .u32 y.s.m.toNat] 39))).cell? ⟨w.heap.size, 1, none⟩ = some (.int .u32 x.s.p.toNat) := by go_simp
        have bx2 : (((w.alloc (.cells #[.int .i64 x.kind, .int .u32 x.s.p.toNat, .int .u32 x.s.m.toNat] 39)).alloc (.cells #[.int .i64 y.kind, .int .u32 y.s.p.toNat, .int .u32 y.s.m.toNat] 39))).cell? ⟨w.heap.size, 2, none⟩ = some (.int .u32 x.s.m.toNat) := by go_simp
        have by0 : (((w.alloc (.cells #[.int .i64 x.kind, .int .u32 x.s.p.toNat, .int .u32 x.s.m.toNat] 39)).alloc (.cells #[.int .i64 y.kind, .int .u32 y.s.p.toNat, .int .u32 y.s.m.toNat] 39))).cell? ⟨w.heap.size + 1, 0, none⟩ = some (.int .i64 y.kind) := by go_simp
        have by1 : (((w.alloc (.cells #[.int .i64 x.kind, .int .u32 x.s.p.toNat, .int .u32 x.s.m.toNat] 39)).alloc (.cells #[.int .i64 y.kind, .int .u32 y.s.p.toNat, .int .u32 y.s.m.toNat] 39))).cell? ⟨w.heap.size + 1, 1, none⟩ = some (.int .u32 y.s.p.toNat) := by go_simp
        have by2 : (((w.alloc (.cells #[.int .i64 x.kind, .int .u32 x.s.p.toNat, .int .u32 x.s.m.toNat] 39)).alloc (.cells #[.int .i64 y.kind, .int .u32 y.s.p.toNat, .int .u32 y.s.m.toNat] 39))).cell? ⟨w.heap.size + 1, 2, none⟩ = some (.int .u32 y.s.m.toNat) := by go_simp
        have hxB : Ext w (((w.alloc (.cells #[.int .i64 x.kind, .int .u32 x.s.p.toNat, .int .u32 x.s.m.toNat] 39)).alloc (.cells #[.int .i64 y.kind, .int .u32 y.s.p.toNat, .int .u32 y.s.m.toNat] 39))) := (by repeat (first | exact Ext.refl _ | refine Ext.drew ?_ | refine Ext.drewN ?_ _ | refine Ext.alloc ?_ _))
        generalize (((w.alloc (.cells #[.int .i64 x.kind, .int .u32 x.s.p.toNat, .int .u32 x.s.m.toNat] 39)).alloc (.cells #[.int .i64 y.kind, .int .u32 y.s.p.toNat, .int .u32 y.s.m.toNat] 39))) = wB at *
        generalize w.heap.size = Bx at *
        generalize Bx + 1 = By at *
        refine (hchk _ hxB).mono ?_
        rintro e w1 ⟨rfl, hx1⟩
        have hxw1 : Ext w w1 := hxB.trans hx1
        have cx0 := (hx1).cellv bx0
        have cx1 := (hx1).cellv bx1
        have cx2 := (hx1).cellv bx2
        have cy0 := (hx1).cellv by0
        have cy1 := (hx1).cellv by1
        have cy2 := (hx1).cellv by2
        have clx := cell_lt cx0
        have cly := cell_lt cy0
        simp only at clx cly
        clear bx0 bx1 bx2 by0 by1 by2
        clear hx1 hxB
        go_wp2_with fail
        refine (rwidth_any a n cap l _ (hr.ext hxw1)).mono ?_
        rintro e w2 ⟨rfl, rfl⟩
        generalize widH l = W at *
        go_wp2_with fail
        go_ret
        exact ⟨rfl, hxw1⟩
      have d2 : decide ((widH l : Int) ≤ f) = false := by simpa using c2
      by_cases c3 : t < 0
      · have d3 : decide (t < 0) = true := by simpa using c3
        clear h1
        go_enter Try.func55, Try.ntmps55
        go_wp2_with fail
        have bx0 : (((w.alloc (.cells #[.int .i64 x.kind, .int .u32 x.s.p.toNat, .int .u32 x.s.m.toNat] 39)).alloc (.cells #[.int .i64 y.kind, .int .u32 y.s.p.toNat, .int .u32 y.s.m.toNat] 39))).cell? ⟨w.heap.size, 0, none⟩ = some (.int .i64 x.kind) := by go_simp
        have bx1 : (((w.alloc (.cells #[.int .i64 x.kind, .int .u32 x.s.p.toNat, .int .u32 x.s.m.toNat] 39)).alloc (.cells #[.int .i64 y.kind, .int .u32 y.s.p.toNat, .int .u32 y.s.m.toNat] 39))).cell? ⟨w.heap.size, 1, none⟩ = some (.int .u32 x.s.p.toNat) := by go_simp
        have bx2 : (((w.alloc (.cells #[.int .i64 x.kind, .int .u32 x.s.p.toNat, .int .u32 x.s.m.toNat] 39)).alloc (.cells #[.int .i64 y.kind, .int .u32 y.s.p.toNat, .int .u32 y.s.m.toNat] 39))).cell? ⟨w.heap.size, 2, none⟩ = some (.int .u32 x.s.m.toNat) := by go_simp
        have by0 : (((w.alloc (.cells #[.int .i64 x.kind, .int .u32 x.s.p.toNat, .int .u32 x.s.m.toNat] 39)).alloc (.cells #[.int .i64 y.kind, .int .u32 y.s.p.toNat, .int .u32 y.s.m.toNat] 39))).cell? ⟨w.heap.size + 1, 0, none⟩ = some (.int .i64 y.kind) := by go_simp
        have by1 : (((w.alloc (.cells #[.int .i64 x.kind, .int .u32 x.s.p.toNat, .int .u32 x.s.m.toNat] 39)).alloc (.cells #[.int .i64 y.kind, .int .u32 y.s.p.toNat, .int .u32 y.s.m.toNat] 39))).cell? ⟨w.heap.size + 1, 1, none⟩ = some (.int .u32 y.s.p.toNat) := by go_simp
        have by2 : (((w.alloc (.cells #[.int .i64 x.kind, .int .u32 x.s.p.toNat, .int .u32 x.s.m.toNat] 39)).alloc (.cells #[.int .i64 y.kind, .int .u32 y.s.p.toNat, .int .u32 y.s.m.toNat] 39))).cell? ⟨w.heap.size + 1, 2, none⟩ = some (.int .u32 y.s.m.toNat) := by go_simp
        have hxB : Ext w (((w.alloc (.cells #[.int .i64 x.kind, .int .u32 x.s.p.toNat, .int .u32 x.s.m.toNat] 39)).alloc (.cells #[.int .i64 y.kind, .int .u32 y.s.p.toNat, .int .u32 y.s.m.toNat] 39))) := (by repeat (first | exact Ext.refl _ | refine Ext.drew ?_ | refine Ext.drewN ?_ _ | refine Ext.alloc ?_ _))
        generalize (((w.alloc (.cells #[.int .i64 x.kind, .int .u32 x.s.p.toNat, .int .u32 x.s.m.toNat] 39)).alloc (.cells #[.int .i64 y.kind, .int .u32 y.s.p.toNat, .int .u32 y.s.m.toNat] 39))) = wB at *
        generalize w.heap.size = Bx at *
        generalize Bx + 1 = By at *
        refine (hchk _ hxB).mono ?_
        rintro e w1 ⟨rfl, hx1⟩
        have hxw1 : Ext w w1 := hxB.trans hx1
        have cx0 := (hx1).cellv bx0
        have cx1 := (hx1).cellv bx1
        have cx2 := (hx1).cellv bx2
        have cy0 := (hx1).cellv by0
        have cy1 := (hx1).cellv by1
        have cy2 := (hx1).cellv by2
        have clx := cell_lt cx0
        have cly := cell_lt cy0
        simp only at clx cly
        clear bx0 bx1 bx2 by0 by1 by2
        clear hx1 hxB
        go_wp2_with fail
        refine (rwidth_any a n cap l _ (hr.ext hxw1)).mono ?_
        rintro e w2 ⟨rfl, rfl⟩
        generalize widH l = W at *
        go_wp2_with fail
        go_ret
        exact ⟨rfl, hxw1⟩
      have d3 : decide (t < 0) = false := by simpa using c3
      have c4 : (widH l : Int) ≤ t := by omega
      have d4 : decide ((widH l : Int) ≤ t) = true := by simpa using c4
      clear h1
      go_enter Try.func55, Try.ntmps55
      go_wp2_with fail
      have bx0 : (((w.alloc (.cells #[.int .i64 x.kind, .int .u32 x.s.p.toNat, .int .u32 x.s.m.toNat] 39)).alloc (.cells #[.int .i64 y.kind, .int .u32 y.s.p.toNat, .int .u32 y.s.m.toNat] 39))).cell? ⟨w.heap.size, 0, none⟩ = some (.int .i64 x.kind) := by go_simp
      have bx1 : (((w.alloc (.cells #[.int .i64 x.kind, .int .u32 x.s.p.toNat, .int .u32 x.s.m.toNat] 39)).alloc (.cells #[.int .i64 y.kind, .int .u32 y.s.p.toNat, .int .u32 y.s.m.toNat] 39))).cell? ⟨w.heap.size, 1, none⟩ = some (.int .u32 x.s.p.toNat) := by go_simp
      have bx2 : (((w.alloc (.cells #[.int .i64 x.kind, .int .u32 x.s.p.toNat, .int .u32 x.s.m.toNat] 39)).alloc (.cells #[.int .i64 y.kind, .int .u32 y.s.p.toNat, .int .u32 y.s.m.toNat] 39))).cell? ⟨w.heap.size, 2, none⟩ = some (.int .u32 x.s.m.toNat) := by go_simp
      have by0 : (((w.alloc (.cells #[.int .i64 x.kind, .int .u32 x.s.p.toNat, .int .u32 x.s.m.toNat] 39)).alloc (.cells #[.int .i64 y.kind, .int .u32 y.s.p.toNat, .int .u32 y.s.m.toNat] 39))).cell? ⟨w.heap.size + 1, 0, none⟩ = some (.int .i64 y.kind) := by go_simp
      have by1 : (((w.alloc (.cells #[.int .i64 x.kind, .int .u32 x.s.p.toNat, .int .u32 x.s.m.toNat] 39)).alloc (.cells #[.int .i64 y.kind, .int .u32 y.s.p.toNat, .int .u32 y.s.m.toNat] 39))).cell? ⟨w.heap.size + 1, 1, none⟩ = some (.int .u32 y.s.p.toNat) := by go_simp
      have by2 : (((w.alloc (.cells #[.int .i64 x.kind, .int .u32 x.s.p.toNat, .int .u32 x.s.m.toNat] 39)).alloc (.cells #[.int .i64 y.kind, .int .u32 y.s.p.toNat, .int .u32 y.s.m.toNat] 39))).cell? ⟨w.heap.size + 1, 2, none⟩ = some (.int .u32 y.s.m.toNat) := by go_simp
      have hxB : Ext w (((w.alloc (.cells #[.int .i64 x.kind, .int .u32 x.s.p.toNat, .int .u32 x.s.m.toNat] 39)).alloc (.cells #[.int .i64 y.kind, .int .u32 y.s.p.toNat, .int .u32 y.s.m.toNat] 39))) := (by repeat (first | exact Ext.refl _ | refine Ext.drew ?_ | refine Ext.drewN ?_ _ | refine Ext.alloc ?_ _))
      generalize (((w.alloc (.cells #[.int .i64 x.kind, .int .u32 x.s.p.toNat, .int .u32 x.s.m.toNat] 39)).alloc (.cells #[.int .i64 y.kind, .int .u32 y.s.p.toNat, .int .u32 y.s.m.toNat] 39))) = wB at *
      generalize w.heap.size = Bx at *
      generalize Bx + 1 = By at *
      refine (hchk _ hxB).mono ?_
      rintro e w1 ⟨rfl, hx1⟩
      have hxw1 : Ext w w1 := hxB.trans hx1
      have cx0 := (hx1).cellv bx0
      have cx1 := (hx1).cellv bx1
      have cx2 := (hx1).cellv bx2
      have cy0 := (hx1).cellv by0
      have cy1 := (hx1).cellv by1
      have cy2 := (hx1).cellv by2
      have clx := cell_lt cx0
      have cly := cell_lt cy0
      simp only at clx cly
      clear bx0 bx1 bx2 by0 by1 by2
      clear hx1 hxB
      go_wp2_with fail
      refine (rwidth_any a n cap l _ (hr.ext hxw1)).mono ?_
      rintro e w2 ⟨rfl, rfl⟩
      generalize widH l = W at *
      go_wp2_with fail
      go_ret
      exact ⟨rfl, hxw1⟩
    · rw [if_neg h1]
      have d1 : decide (f < 0) = false := by simp; omega
      have d2 : decide ((widH l : Int) ≤ f) = false := by simp; omega
      have d3 : decide (t < 0) = false := by simp; omega
      have d4 : decide ((widH l : Int) ≤ t) = false := by simp; omega
      clear h1
      have hvx := fun W => rcvalid_any x W
      have hvy := fun W => rcvalid_any y W
      cases e1 : x.ok
      · rw [if_pos (.inl rfl)]
        rw [e1] at hvx
        replace e1 := Lib.hid e1
        go_enter Try.func55, Try.ntmps55
        go_wp2_with fail
        have bx0 : (((w.alloc (.cells #[.int .i64 x.kind, .int .u32 x.s.p.toNat, .int .u32 x.s.m.toNat] 39)).alloc (.cells #[.int .i64 y.kind, .int .u32 y.s.p.toNat, .int .u32 y.s.m.toNat] 39))).cell? ⟨w.heap.size, 0, none⟩ = some (.int .i64 x.kind) := by go_simp
        have bx1 : (((w.alloc (.cells #[.int .i64 x.kind, .int .u32 x.s.p.toNat, .int .u32 x.s.m.toNat] 39)).alloc (.cells #[.int .i64 y.kind, .int .u32 y.s.p.toNat, .int .u32 y.s.m.toNat] 39))).cell? ⟨w.heap.size, 1, none⟩ = some (.int .u32 x.s.p.toNat) := by go_simp
        have bx2 : (((w.alloc (.cells #[.int .i64 x.kind, .int .u32 x.s.p.toNat, .int .u32 x.s.m.toNat] 39)).alloc (.cells #[.int .i64 y.kind, .int .u32 y.s.p.toNat, .int .u32 y.s.m.toNat] 39))).cell? ⟨w.heap.size, 2, none⟩ = some (.int .u32 x.s.m.toNat) := by go_simp
        have by0 : (((w.alloc (.cells #[.int .i64 x.kind, .int .u32 x.s.p.toNat, .int .u32 x.s.m.toNat] 39)).alloc (.cells #[.int .i64 y.kind, .int .u32 y.s.p.toNat, .int .u32 y.s.m.toNat] 39))).cell? ⟨w.heap.size + 1, 0, none⟩ = some (.int .i64 y.kind) := by go_simp
        have by1 : (((w.alloc (.cells #[.int .i64 x.kind, .int .u32 x.s.p.toNat, .int .u32 x.s.m.toNat] 39)).alloc (.cells #[.int .i64 y.kind, .int .u32 y.s.p.toNat, .int .u32 y.s.m.toNat] 39))).cell? ⟨w.heap.size + 1, 1, none⟩ = some (.int .u32 y.s.p.toNat) := by go_simp
        have by2 : (((w.alloc (.cells #[.int .i64 x.kind, .int .u32 x.s.p.toNat, .int .u32 x.s.m.toNat] 39)).alloc (.cells #[.int .i64 y.kind, .int .u32 y.s.p.toNat, .int .u32 y.s.m.toNat] 39))).cell? ⟨w.heap.size + 1, 2, none⟩ = some (.int .u32 y.s.m.toNat) := by go_simp
        have hxB : Ext w (((w.alloc (.cells #[.int .i64 x.kind, .int .u32 x.s.p.toNat, .int .u32 x.s.m.toNat] 39)).alloc (.cells #[.int .i64 y.kind, .int .u32 y.s.p.toNat, .int .u32 y.s.m.toNat] 39))) := (by repeat (first | exact Ext.refl _ | refine Ext.drew ?_ | refine Ext.drewN ?_ _ | refine Ext.alloc ?_ _))
        generalize (((w.alloc (.cells #[.int .i64 x.kind, .int .u32 x.s.p.toNat, .int .u32 x.s.m.toNat] 39)).alloc (.cells #[.int .i64 y.kind, .int .u32 y.s.p.toNat, .int .u32 y.s.m.toNat] 39))) = wB at *
        generalize w.heap.size = Bx at *
        generalize Bx + 1 = By at *
        refine (hchk _ hxB).mono ?_
        rintro e w1 ⟨rfl, hx1⟩
        have hxw1 : Ext w w1 := hxB.trans hx1
        have cx0 := (hx1).cellv bx0
        have cx1 := (hx1).cellv bx1
        have cx2 := (hx1).cellv bx2
        have cy0 := (hx1).cellv by0
        have cy1 := (hx1).cellv by1
        have cy2 := (hx1).cellv by2
        have clx := cell_lt cx0
        have cly := cell_lt cy0
        simp only at clx cly
        clear bx0 bx1 bx2 by0 by1 by2
        clear hx1 hxB
        go_wp2_with fail
        refine (rwidth_any a n cap l _ (hr.ext hxw1)).mono ?_
        rintro e w2 ⟨rfl, rfl⟩
        generalize widH l = W at *
        go_wp2_with fail
        refine (hvx _).mono ?_
        rintro e w3 ⟨rfl, hx3⟩
        go_wp2_with fail
        go_ret
        exact ⟨rfl, hxw1.trans hx3⟩
      rw [e1] at hvx
      replace e1 := Lib.hid e1
      by_cases e2 : x.kind = 0
      · rw [if_pos (.inr (.inl e2))]
        have d5 : (x.kind == 0) = true := by simpa using e2
        replace e2 := Lib.hid e2
        go_enter Try.func55, Try.ntmps55
        go_wp2_with fail
        have bx0 : (((w.alloc (.cells #[.int .i64 x.kind, .int .u32 x.s.p.toNat, .int .u32 x.s.m.toNat] 39)).alloc (.cells #[.int .i64 y.kind, .int .u32 y.s.p.toNat, .int .u32 y.s.m.toNat] 39))).cell? ⟨w.heap.size, 0, none⟩ = some (.int .i64 x.kind) := by go_simp
        have bx1 : (((w.alloc (.cells #[.int .i64 x.kind, .int .u32 x.s.p.toNat, .int .u32 x.s.m.toNat] 39)).alloc (.cells #[.int .i64 y.kind, .int .u32 y.s.p.toNat, .int .u32 y.s.m.toNat] 39))).cell? ⟨w.heap.size, 1, none⟩ = some (.int .u32 x.s.p.toNat) := by go_simp
        have bx2 : (((w.alloc (.cells #[.int .i64 x.kind, .int .u32 x.s.p.toNat, .int .u32 x.s.m.toNat] 39)).alloc (.cells #[.int .i64 y.kind, .int .u32 y.s.p.toNat, .int .u32 y.s.m.toNat] 39))).cell? ⟨w.heap.size, 2, none⟩ = some (.int .u32 x.s.m.toNat) := by go_simp
        have by0 : (((w.alloc (.cells #[.int .i64 x.kind, .int .u32 x.s.p.toNat, .int .u32 x.s.m.toNat] 39)).alloc (.cells #[.int .i64 y.kind, .int .u32 y.s.p.toNat, .int .u32 y.s.m.toNat] 39))).cell? ⟨w.heap.size + 1, 0, none⟩ = some (.int .i64 y.kind) := by go_simp
        have by1 : (((w.alloc (.cells #[.int .i64 x.kind, .int .u32 x.s.p.toNat, .int .u32 x.s.m.toNat] 39)).alloc (.cells #[.int .i64 y.kind, .int .u32 y.s.p.toNat, .int .u32 y.s.m.toNat] 39))).cell? ⟨w.heap.size + 1, 1, none⟩ = some (.int .u32 y.s.p.toNat) := by go_simp
        have by2 : (((w.alloc (.cells #[.int .i64 x.kind, .int .u32 x.s.p.toNat, .int .u32 x.s.m.toNat] 39)).alloc (.cells #[.int .i64 y.kind, .int .u32 y.s.p.toNat, .int .u32 y.s.m.toNat] 39))).cell? ⟨w.heap.size + 1, 2, none⟩ = some (.int .u32 y.s.m.toNat) := by go_simp
        have hxB : Ext w (((w.alloc (.cells #[.int .i64 x.kind, .int .u32 x.s.p.toNat, .int .u32 x.s.m.toNat] 39)).alloc (.cells #[.int .i64 y.kind, .int .u32 y.s.p.toNat, .int .u32 y.s.m.toNat] 39))) := (by repeat (first | exact Ext.refl _ | refine Ext.drew ?_ | refine Ext.drewN ?_ _ | refine Ext.alloc ?_ _))
        generalize (((w.alloc (.cells #[.int .i64 x.kind, .int .u32 x.s.p.toNat, .int .u32 x.s.m.toNat] 39)).alloc (.cells #[.int .i64 y.kind, .int .u32 y.s.p.toNat, .int .u32 y.s.m.toNat] 39))) = wB at *
        generalize w.heap.size = Bx at *
        generalize Bx + 1 = By at *
        refine (hchk _ hxB).mono ?_
        rintro e w1 ⟨rfl, hx1⟩
        have hxw1 : Ext w w1 := hxB.trans hx1
        have cx0 := (hx1).cellv bx0
        have cx1 := (hx1).cellv bx1
        have cx2 := (hx1).cellv bx2
        have cy0 := (hx1).cellv by0
        have cy1 := (hx1).cellv by1
        have cy2 := (hx1).cellv by2
        have clx := cell_lt cx0
        have cly := cell_lt cy0
        simp only at clx cly
        clear bx0 bx1 bx2 by0 by1 by2
        clear hx1 hxB
        go_wp2_with fail
        refine (rwidth_any a n cap l _ (hr.ext hxw1)).mono ?_
        rintro e w2 ⟨rfl, rfl⟩
        generalize widH l = W at *
        go_wp2_with fail
        refine (hvx _).mono ?_
        rintro e w3 ⟨rfl, hx3⟩
        have dx0 := (hx3).cellv cx0
        have dx1 := (hx3).cellv cx1
        have dx2 := (hx3).cellv cx2
        have dy0 := (hx3).cellv cy0
        have dy1 := (hx3).cellv cy1
        have dy2 := (hx3).cellv cy2
        have dlx := cell_lt dx0
        have dly := cell_lt dy0
        simp only at dlx dly
        clear cx0 cx1 cx2 cy0 cy1 cy2
        go_wp2_with fail
        go_ret
        exact ⟨rfl, hxw1.trans hx3⟩
      have d5 : (x.kind == 0) = false := by simpa using e2
      cases e3 : y.ok
      · rw [if_pos (.inr (.inr (.inl rfl)))]
        rw [e3] at hvy
        replace e2 := Lib.hid e2
        replace e3 := Lib.hid e3
        go_enter Try.func55, Try.ntmps55
        go_wp2_with fail
        have bx0 : (((w.alloc (.cells #[.int .i64 x.kind, .int .u32 x.s.p.toNat, .int .u32 x.s.m.toNat] 39)).alloc (.cells #[.int .i64 y.kind, .int .u32 y.s.p.toNat, .int .u32 y.s.m.toNat] 39))).cell? ⟨w.heap.size, 0, none⟩ = some (.int .i64 x.kind) := by go_simp
        have bx1 : (((w.alloc (.cells #[.int .i64 x.kind, .int .u32 x.s.p.toNat, .int .u32 x.s.m.toNat] 39)).alloc (.cells #[.int .i64 y.kind, .int .u32 y.s.p.toNat, .int .u32 y.s.m.toNat] 39))).cell? ⟨w.heap.size, 1, none⟩ = some (.int .u32 x.s.p.toNat) := by go_simp
        have bx2 : (((w.alloc (.cells #[.int .i64 x.kind, .int .u32 x.s.p.toNat, .int .u32 x.s.m.toNat] 39)).alloc (.cells #[.int .i64 y.kind, .int .u32 y.s.p.toNat, .int .u32 y.s.m.toNat] 39))).cell? ⟨w.heap.size, 2, none⟩ = some (.int .u32 x.s.m.toNat) := by go_simp
        have by0 : (((w.alloc (.cells #[.int .i64 x.kind, .int .u32 x.s.p.toNat, .int .u32 x.s.m.toNat] 39)).alloc (.cells #[.int .i64 y.kind, .int .u32 y.s.p.toNat, .int .u32 y.s.m.toNat] 39))).cell? ⟨w.heap.size + 1, 0, none⟩ = some (.int .i64 y.kind) := by go_simp
        have by1 : (((w.alloc (.cells #[.int .i64 x.kind, .int .u32 x.s.p.toNat, .int .u32 x.s.m.toNat] 39)).alloc (.cells #[.int .i64 y.kind, .int .u32 y.s.p.toNat, .int .u32 y.s.m.toNat] 39))).cell? ⟨w.heap.size + 1, 1, none⟩ = some (.int .u32 y.s.p.toNat) := by go_simp
        have by2 : (((w.alloc (.cells #[.int .i64 x.kind, .int .u32 x.s.p.toNat, .int .u32 x.s.m.toNat] 39)).alloc (.cells #[.int .i64 y.kind, .int .u32 y.s.p.toNat, .int .u32 y.s.m.toNat] 39))).cell? ⟨w.heap.size + 1, 2, none⟩ = some (.int .u32 y.s.m.toNat) := by go_simp
        have hxB : Ext w (((w.alloc (.cells #[.int .i64 x.kind, .int .u32 x.s.p.toNat, .int .u32 x.s.m.toNat] 39)).alloc (.cells #[.int .i64 y.kind, .int .u32 y.s.p.toNat, .int .u32 y.s.m.toNat] 39))) := (by repeat (first | exact Ext.refl _ | refine Ext.drew ?_ | refine Ext.drewN ?_ _ | refine Ext.alloc ?_ _))
        generalize (((w.alloc (.cells #[.int .i64 x.kind, .int .u32 x.s.p.toNat, .int .u32 x.s.m.toNat] 39)).alloc (.cells #[.int .i64 y.kind, .int .u32 y.s.p.toNat, .int .u32 y.s.m.toNat] 39))) = wB at *
        generalize w.heap.size = Bx at *
        generalize Bx + 1 = By at *
        refine (hchk _ hxB).mono ?_
        rintro e w1 ⟨rfl, hx1⟩
        have hxw1 : Ext w w1 := hxB.trans hx1
        have cx0 := (hx1).cellv bx0
        have cx1 := (hx1).cellv bx1
        have cx2 := (hx1).cellv bx2
        have cy0 := (hx1).cellv by0
        have cy1 := (hx1).cellv by1
        have cy2 := (hx1).cellv by2
        have clx := cell_lt cx0
        have cly := cell_lt cy0
        simp only at clx cly
        clear bx0 bx1 bx2 by0 by1 by2
        clear hx1 hxB
        go_wp2_with fail
        refine (rwidth_any a n cap l _ (hr.ext hxw1)).mono ?_
        rintro e w2 ⟨rfl, rfl⟩
        generalize widH l = W at *
        go_wp2_with fail
        refine (hvx _).mono ?_
        rintro e w3 ⟨rfl, hx3⟩
        have dx0 := (hx3).cellv cx0
        have dx1 := (hx3).cellv cx1
        have dx2 := (hx3).cellv cx2
        have dy0 := (hx3).cellv cy0
        have dy1 := (hx3).cellv cy1
        have dy2 := (hx3).cellv cy2
        have dlx := cell_lt dx0
        have dly := cell_lt dy0
        simp only at dlx dly
        clear cx0 cx1 cx2 cy0 cy1 cy2
        go_wp2_with fail
        refine (hvy _).mono ?_
        rintro e w4 ⟨rfl, hx4⟩
        go_wp2_with fail
        go_ret
        exact ⟨rfl, (hxw1.trans hx3).trans hx4⟩
      rw [e3] at hvy
      by_cases e4 : y.kind = 0
      · rw [if_pos (.inr (.inr (.inr e4)))]
        have d6 : (y.kind == 0) = true := by simpa using e4
        replace e2 := Lib.hid e2
        replace e3 := Lib.hid e3
        replace e4 := Lib.hid e4
        go_enter Try.func55, Try.ntmps55
        go_wp2_with fail
        have bx0 : (((w.alloc (.cells #[.int .i64 x.kind, .int .u32 x.s.p.toNat, .int .u32 x.s.m.toNat] 39)).alloc (.cells #[.int .i64 y.kind, .int .u32 y.s.p.toNat, .int .u32 y.s.m.toNat] 39))).cell? ⟨w.heap.size, 0, none⟩ = some (.int .i64 x.kind) := by go_simp
        have bx1 : (((w.alloc (.cells #[.int .i64 x.kind, .int .u32 x.s.p.toNat, .int .u32 x.s.m.toNat] 39)).alloc (.cells #[.int .i64 y.kind, .int .u32 y.s.p.toNat, .int .u32 y.s.m.toNat] 39))).cell? ⟨w.heap.size, 1, none⟩ = some (.int .u32 x.s.p.toNat) := by go_simp
        have bx2 : (((w.alloc (.cells #[.int .i64 x.kind, .int .u32 x.s.p.toNat, .int .u32 x.s.m.toNat] 39)).alloc (.cells #[.int .i64 y.kind, .int .u32 y.s.p.toNat, .int .u32 y.s.m.toNat] 39))).cell? ⟨w.heap.size, 2, none⟩ = some (.int .u32 x.s.m.toNat) := by go_simp
        have by0 : (((w.alloc (.cells #[.int .i64 x.kind, .int .u32 x.s.p.toNat, .int .u32 x.s.m.toNat] 39)).alloc (.cells #[.int .i64 y.kind, .int .u32 y.s.p.toNat, .int .u32 y.s.m.toNat] 39))).cell? ⟨w.heap.size + 1, 0, none⟩ = some (.int .i64 y.kind) := by go_simp
        have by1 : (((w.alloc (.cells #[.int .i64 x.kind, .int .u32 x.s.p.toNat, .int .u32 x.s.m.toNat] 39)).alloc (.cells #[.int .i64 y.kind, .int .u32 y.s.p.toNat, .int .u32 y.s.m.toNat] 39))).cell? ⟨w.heap.size + 1, 1, none⟩ = some (.int .u32 y.s.p.toNat) := by go_simp
        have by2 : (((w.alloc (.cells #[.int .i64 x.kind, .int .u32 x.s.p.toNat, .int .u32 x.s.m.toNat] 39)).alloc (.cells #[.int .i64 y.kind, .int .u32 y.s.p.toNat, .int .u32 y.s.m.toNat] 39))).cell? ⟨w.heap.size + 1, 2, none⟩ = some (.int .u32 y.s.m.toNat) := by go_simp
        have hxB : Ext w (((w.alloc (.cells #[.int .i64 x.kind, .int .u32 x.s.p.toNat, .int .u32 x.s.m.toNat] 39)).alloc (.cells #[.int .i64 y.kind, .int .u32 y.s.p.toNat, .int .u32 y.s.m.toNat] 39))) := (by repeat (first | exact Ext.refl _ | refine Ext.drew ?_ | refine Ext.drewN ?_ _ | refine Ext.alloc ?_ _))
        generalize (((w.alloc (.cells #[.int .i64 x.kind, .int .u32 x.s.p.toNat, .int .u32 x.s.m.toNat] 39)).alloc (.cells #[.int .i64 y.kind, .int .u32 y.s.p.toNat, .int .u32 y.s.m.toNat] 39))) = wB at *
        generalize w.heap.size = Bx at *
        generalize Bx + 1 = By at *
        refine (hchk _ hxB).mono ?_
        rintro e w1 ⟨rfl, hx1⟩
        have hxw1 : Ext w w1 := hxB.trans hx1
        have cx0 := (hx1).cellv bx0
        have cx1 := (hx1).cellv bx1
        have cx2 := (hx1).cellv bx2
        have cy0 := (hx1).cellv by0
        have cy1 := (hx1).cellv by1
        have cy2 := (hx1).cellv by2
        have clx := cell_lt cx0
        have cly := cell_lt cy0
        simp only at clx cly
        clear bx0 bx1 bx2 by0 by1 by2
        clear hx1 hxB
        go_wp2_with fail
        refine (rwidth_any a n cap l _ (hr.ext hxw1)).mono ?_
        rintro e w2 ⟨rfl, rfl⟩
        generalize widH l = W at *
        go_wp2_with fail
        refine (hvx _).mono ?_
        rintro e w3 ⟨rfl, hx3⟩
        have dx0 := (hx3).cellv cx0
        have dx1 := (hx3).cellv cx1
        have dx2 := (hx3).cellv cx2
        have dy0 := (hx3).cellv cy0
        have dy1 := (hx3).cellv cy1
        have dy2 := (hx3).cellv cy2
        have dlx := cell_lt dx0
        have dly := cell_lt dy0
        simp only at dlx dly
        clear cx0 cx1 cx2 cy0 cy1 cy2
        go_wp2_with fail
        refine (hvy _).mono ?_
        rintro e w4 ⟨rfl, hx4⟩
        have fx0 := (hx4).cellv dx0
        have fx1 := (hx4).cellv dx1
        have fx2 := (hx4).cellv dx2
        have fy0 := (hx4).cellv dy0
        have fy1 := (hx4).cellv dy1
        have fy2 := (hx4).cellv dy2
        have flx := cell_lt fx0
        have fly := cell_lt fy0
        simp only at flx fly
        clear dx0 dx1 dx2 dy0 dy1 dy2
        go_wp2_with fail
        go_ret
        exact ⟨rfl, (hxw1.trans hx3).trans hx4⟩
      · have d6 : (y.kind == 0) = false := by simpa using e4
        rw [if_neg (by rintro (h | h | h | h) <;> first | cases h | exact e2 h | exact e4 h)]
        replace e2 := Lib.hid e2
        replace e3 := Lib.hid e3
        replace e4 := Lib.hid e4
        go_enter Try.func55, Try.ntmps55
        go_wp2_with fail
        have bx0 : (((w.alloc (.cells #[.int .i64 x.kind, .int .u32 x.s.p.toNat, .int .u32 x.s.m.toNat] 39)).alloc (.cells #[.int .i64 y.kind, .int .u32 y.s.p.toNat, .int .u32 y.s.m.toNat] 39))).cell? ⟨w.heap.size, 0, none⟩ = some (.int .i64 x.kind) := by go_simp
        have bx1 : (((w.alloc (.cells #[.int .i64 x.kind, .int .u32 x.s.p.toNat, .int .u32 x.s.m.toNat] 39)).alloc (.cells #[.int .i64 y.kind, .int .u32 y.s.p.toNat, .int .u32 y.s.m.toNat] 39))).cell? ⟨w.heap.size, 1, none⟩ = some (.int .u32 x.s.p.toNat) := by go_simp
        have bx2 : (((w.alloc (.cells #[.int .i64 x.kind, .int .u32 x.s.p.toNat, .int .u32 x.s.m.toNat] 39)).alloc (.cells #[.int .i64 y.kind, .int .u32 y.s.p.toNat, .int .u32 y.s.m.toNat] 39))).cell? ⟨w.heap.size, 2, none⟩ = some (.int .u32 x.s.m.toNat) := by go_simp
        have by0 : (((w.alloc (.cells #[.int .i64 x.kind, .int .u32 x.s.p.toNat, .int .u32 x.s.m.toNat] 39)).alloc (.cells #[.int .i64 y.kind, .int .u32 y.s.p.toNat, .int .u32 y.s.m.toNat] 39))).cell? ⟨w.heap.size + 1, 0, none⟩ = some (.int .i64 y.kind) := by go_simp
        have by1 : (((w.alloc (.cells #[.int .i64 x.kind, .int .u32 x.s.p.toNat, .int .u32 x.s.m.toNat] 39)).alloc (.cells #[.int .i64 y.kind, .int .u32 y.s.p.toNat, .int .u32 y.s.m.toNat] 39))).cell? ⟨w.heap.size + 1, 1, none⟩ = some (.int .u32 y.s.p.toNat) := by go_simp
        have by2 : (((w.alloc (.cells #[.int .i64 x.kind, .int .u32 x.s.p.toNat, .int .u32 x.s.m.toNat] 39)).alloc (.cells #[.int .i64 y.kind, .int .u32 y.s.p.toNat, .int .u32 y.s.m.toNat] 39))).cell? ⟨w.heap.size + 1, 2, none⟩ = some (.int .u32 y.s.m.toNat) := by go_simp
        have hxB : Ext w (((w.alloc (.cells #[.int .i64 x.kind, .int .u32 x.s.p.toNat, .int .u32 x.s.m.toNat] 39)).alloc (.cells #[.int .i64 y.kind, .int .u32 y.s.p.toNat, .int .u32 y.s.m.toNat] 39))) := (by repeat (first | exact Ext.refl _ | refine Ext.drew ?_ | refine Ext.drewN ?_ _ | refine Ext.alloc ?_ _))
        generalize (((w.alloc (.cells #[.int .i64 x.kind, .int .u32 x.s.p.toNat, .int .u32 x.s.m.toNat] 39)).alloc (.cells #[.int .i64 y.kind, .int .u32 y.s.p.toNat, .int .u32 y.s.m.toNat] 39))) = wB at *
        generalize w.heap.size = Bx at *
        generalize Bx + 1 = By at *
        refine (hchk _ hxB).mono ?_
        rintro e w1 ⟨rfl, hx1⟩
        have hxw1 : Ext w w1 := hxB.trans hx1
        have cx0 := (hx1).cellv bx0
        have cx1 := (hx1).cellv bx1
        have cx2 := (hx1).cellv bx2
        have cy0 := (hx1).cellv by0
        have cy1 := (hx1).cellv by1
        have cy2 := (hx1).cellv by2
        have clx := cell_lt cx0
        have cly := cell_lt cy0
        simp only at clx cly
        clear bx0 bx1 bx2 by0 by1 by2
        clear hx1 hxB
        go_wp2_with fail
        refine (rwidth_any a n cap l _ (hr.ext hxw1)).mono ?_
        rintro e w2 ⟨rfl, rfl⟩
        generalize widH l = W at *
        go_wp2_with fail
        refine (hvx _).mono ?_
        rintro e w3 ⟨rfl, hx3⟩
        have dx0 := (hx3).cellv cx0
        have dx1 := (hx3).cellv cx1
        have dx2 := (hx3).cellv cx2
        have dy0 := (hx3).cellv cy0
        have dy1 := (hx3).cellv cy1
        have dy2 := (hx3).cellv cy2
        have dlx := cell_lt dx0
        have dly := cell_lt dy0
        simp only at dlx dly
        clear cx0 cx1 cx2 cy0 cy1 cy2
        go_wp2_with fail
        refine (hvy _).mono ?_
        rintro e w4 ⟨rfl, hx4⟩
        have fx0 := (hx4).cellv dx0
        have fx1 := (hx4).cellv dx1
        have fx2 := (hx4).cellv dx2
        have fy0 := (hx4).cellv dy0
        have fy1 := (hx4).cellv dy1
        have fy2 := (hx4).cellv dy2
        have flx := cell_lt fx0
        have fly := cell_lt fy0
        simp only at flx fly
        clear dx0 dx1 dx2 dy0 dy1 dy2
        go_wp2_with fail
        go_ret
        exact ⟨rfl, (hxw1.trans hx3).trans hx4⟩
  · have hA : askE l f t x y = chkE [l] := by unfold askE; rw [if_pos h0]
    rw [hA]
    clear hA
    generalize chkE [l] = er at *
    have hd : (er != 0) = true := by simpa using h0
    replace h0 := Lib.hid h0
    go_enter Try.func55, Try.ntmps55
    go_wp2_with fail
    have bx0 : (((w.alloc (.cells #[.int .i64 x.kind, .int .u32 x.s.p.toNat, .int .u32 x.s.m.toNat] 39)).alloc (.cells #[.int .i64 y.kind, .int .u32 y.s.p.toNat, .int .u32 y.s.m.toNat] 39))).cell? ⟨w.heap.size, 0, none⟩ = some (.int .i64 x.kind) := by go_simp
    have bx1 : (((w.alloc (.cells #[.int .i64 x.kind, .int .u32 x.s.p.toNat, .int .u32 x.s.m.toNat] 39)).alloc (.cells #[.int .i64 y.kind, .int .u32 y.s.p.toNat, .int .u32 y.s.m.toNat] 39))).cell? ⟨w.heap.size, 1, none⟩ = some (.int .u32 x.s.p.toNat) := by go_simp
    have bx2 : (((w.alloc (.cells #[.int .i64 x.kind, .int .u32 x.s.p.toNat, .int .u32 x.s.m.toNat] 39)).alloc (.cells #[.int .i64 y.kind, .int .u32 y.s.p.toNat, .int .u32 y.s.m.toNat] 39))).cell? ⟨w.heap.size, 2, none⟩ = some (.int .u32 x.s.m.toNat) := by go_simp
    have by0 : (((w.alloc (.cells #[.int .i64 x.kind, .int .u32 x.s.p.toNat, .int .u32 x.s.m.toNat] 39)).alloc (.cells #[.int .i64 y.kind, .int .u32 y.s.p.toNat, .int .u32 y.s.m.toNat] 39))).cell? ⟨w.heap.size + 1, 0, none⟩ = some (.int .i64 y.kind) := by go_simp
    have by1 : (((w.alloc (.cells #[.int .i64 x.kind, .int .u32 x.s.p.toNat, .int .u32 x.s.m.toNat] 39)).alloc (.cells #[.int .i64 y.kind, .int .u32 y.s.p.toNat, .int .u32 y.s.m.toNat] 39))).cell? ⟨w.heap.size + 1, 1, none⟩ = some (.int .u32 y.s.p.toNat) := by go_simp
    have by2 : (((w.alloc (.cells #[.int .i64 x.kind, .int .u32 x.s.p.toNat, .int .u32 x.s.m.toNat] 39)).alloc (.cells #[.int .i64 y.kind, .int .u32 y.s.p.toNat, .int .u32 y.s.m.toNat] 39))).cell? ⟨w.heap.size + 1, 2, none⟩ = some (.int .u32 y.s.m.toNat) := by go_simp
    have hxB : Ext w (((w.alloc (.cells #[.int .i64 x.kind, .int .u32 x.s.p.toNat, .int .u32 x.s.m.toNat] 39)).alloc (.cells #[.int .i64 y.kind, .int .u32 y.s.p.toNat, .int .u32 y.s.m.toNat] 39))) := (by repeat (first | exact Ext.refl _ | refine Ext.drew ?_ | refine Ext.drewN ?_ _ | refine Ext.alloc ?_ _))
    generalize (((w.alloc (.cells #[.int .i64 x.kind, .int .u32 x.s.p.toNat, .int .u32 x.s.m.toNat] 39)).alloc (.cells #[.int .i64 y.kind, .int .u32 y.s.p.toNat, .int .u32 y.s.m.toNat] 39))) = wB at *
    generalize w.heap.size = Bx at *
    generalize Bx + 1 = By at *
    refine (hchk _ hxB).mono ?_
    rintro e w1 ⟨rfl, hx1⟩
    have hxw1 : Ext w w1 := hxB.trans hx1
    have cx0 := (hx1).cellv bx0
    have cx1 := (hx1).cellv bx1
    have cx2 := (hx1).cellv bx2
    have cy0 := (hx1).cellv by0
    have cy1 := (hx1).cellv by1
    have cy2 := (hx1).cellv by2
    have clx := cell_lt cx0
    have cly := cell_lt cy0
    simp only at clx cly
    clear bx0 bx1 bx2 by0 by1 by2
    clear hx1 hxB
    go_wp2_with fail
    go_ret
    exact ⟨rfl, hxw1⟩
end Go.Proofs.Ytkdancoffmhjhaa
