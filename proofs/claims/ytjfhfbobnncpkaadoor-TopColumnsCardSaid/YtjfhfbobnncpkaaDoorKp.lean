/-
  The order of correspondences: the program's.
-/
import Derived.Test.YtjfhfbobnncpkaaDoorKo
import Derived.Test.YtjfhfbobnncpkaaDoorSq
namespace Go.Proofs.YtjfhfbobnncpkaaDoor
open Go.RowKit
theorem cmpInt_any (x y : Int) (w : World) : Calls Tryd.prog 51 #[.int .i64 x, .int .i64 y] w fun e w' => e = .returned (.int .i64 (cmpI x y)) ∧ w' = w := by
  have hx : (x != x) = false := by simp
  have hy : (y != y) = false := by simp
  by_cases h1 : x < y
  · go_enter Tryd.func51, Tryd.ntmps51
    go_wp2
    go_ret
    exact ⟨ret_int (cmpI_lt h1).symm, rfl⟩
  by_cases h2 : y < x
  · go_enter Tryd.func51, Tryd.ntmps51
    go_wp2
    go_ret
    exact ⟨ret_int (cmpI_gt h2).symm, rfl⟩
  · go_enter Tryd.func51, Tryd.ntmps51
    go_wp2
    go_ret
    exact ⟨ret_int (cmpI_eq (by omega)).symm, rfl⟩
theorem ord1_anyD (c d : Cl) (w : World) : Calls Tryd.prog 50 #[clV c, clV d] w fun e w' => e = .returned (.int .i64 (cmpC c d)) ∧ ExtD w w' := by
  by_cases hkd : c.kind = d.kind
  · have h0 : cmpI c.kind d.kind = 0 := cmpI_eq hkd
    have e1 : (cmpI c.kind d.kind != 0) = false := by simp [h0]
    have hsm := Lib.hid (cmpC_same hkd)
    replace hkd := Lib.hid hkd
    replace h0 := Lib.hid h0
    go_enter Tryd.func50, Tryd.ntmps50
    go_wp2_with fail
    refine (cmpInt_any _ _ _).mono ?_
    rintro e w1 ⟨rfl, rfl⟩
    go_wp2_with fail
    refine (order_anyD _ _ _).mono ?_
    rintro e w1 ⟨rfl, hx1⟩
    go_wp2_with fail
    go_ret
    exact ⟨ret_int hsm.out.symm, (by repeat (first | exact ExtD.refl _ | assumption | refine ExtD.drew ?_ | refine ExtD.drewN ?_ _ | refine ExtD.alloc ?_ _ | refine ExtD.trans ?_ (by assumption)))⟩
  · obtain ⟨h1, h2⟩ := cmpC_kind hkd
    have e1 : (cmpI c.kind d.kind != 0) = true := by rw [← h1]; simpa using h2
    replace h1 := Lib.hid h1
    clear h2
    replace hkd := Lib.hid hkd
    go_enter Tryd.func50, Tryd.ntmps50
    go_wp2_with fail
    refine (cmpInt_any _ _ _).mono ?_
    rintro e w1 ⟨rfl, rfl⟩
    go_wp2_with fail
    go_ret
    exact ⟨ret_int h1.out.symm, (by repeat (first | exact ExtD.refl _ | assumption | refine ExtD.drew ?_ | refine ExtD.drewN ?_ _ | refine ExtD.alloc ?_ _ | refine ExtD.trans ?_ (by assumption)))⟩
set_option maxHeartbeats 2000000 in
theorem cmpF_anyD (a : Option Addr) (n cap : Nat) (x : List Cl) (b : Option Addr) (m cap2 : Nat) (y : List Cl) (w : World) (hr : RdC w a n cap x) (hs : RdC w b m cap2 y) :
    Calls Tryd.prog 49 #[.slice a n cap, .slice b m cap2, .func (.func 50) #[] #[]] w fun e w' => e = .returned (.int .i64 (cmpCs x y)) ∧ ExtD w w' := by
  have hl := hr.len
  have hl2 := hs.len
  have hm1 := len_int' hr
  have hm2 := len_int' hs
  replace hl := Lib.hid hl
  replace hl2 := Lib.hid hl2
  go_enter Tryd.func49, Tryd.ntmps49
  go_wp2_with fail
  go_loopw [7, 8, 9, 10, 13] (fun _ _ _ _ i wr => ∃ k : Nat, k ≤ n ∧ k ≤ m ∧ i = .int .i64 k ∧ Hid (cmpCs x y = cmpCs (x.drop k) (y.drop k)) ∧ ExtD w wr) (fun _ _ _ _ i _ => n - (intOf i).toNat)
  case atStart => exact ⟨0, Nat.zero_le _, Nat.zero_le _, rfl, Lib.hid rfl, ExtD.refl _⟩
  case round =>
    obtain ⟨k, hk, hk2, rfl, hc, hx⟩ := hrel
    by_cases h1 : k < n
    · have i1 : (k : Int) < (n : Int) := by omega
      obtain ⟨b1, o1, c, rfl, hcc, hb1, p0, p1, p2⟩ := (hr.ext hx.ext).cl h1
      by_cases h2 : k < m
      · have e2 : decide (m ≤ k) = false := by simpa using h2
        have i2 : (k : Int) < (m : Int) := by omega
        obtain ⟨b2, o2, d, rfl, hdd, hb2, q0, q1, q2⟩ := (hs.ext hx.ext).cl h2
        have hst := Lib.hid (cmpCs_step hc.out hcc.out hdd.out)
        by_cases hz : cmpC c d = 0
        · have e4 : (cmpC c d != 0) = false := by simp [hz]
          have hnew : Hid (cmpCs x y = cmpCs (x.drop (k + 1)) (y.drop (k + 1))) := Lib.hid (by rw [hst.out, if_pos hz])
          replace hz := Lib.hid hz
          go_wp2_with fail
          refine (ord1_anyD c d _).mono ?_
          rintro e w1 ⟨rfl, hx1⟩
          go_wp2_with fail
          (first | exact ⟨⟨k + 1, by omega, by omega, by go_num, hnew, hx.trans (ExtD.trans (by repeat (first | exact ExtD.refl _ | assumption | refine ExtD.drew ?_ | refine ExtD.drewN ?_ _ | refine ExtD.alloc ?_ _ | refine ExtD.trans ?_ (by assumption))) hx1)⟩, (by simp [intOf]; omega)⟩ | (go_roundw; case rel => exact ⟨k + 1, by omega, by omega, by go_num, hnew, hx.trans (ExtD.trans (by repeat (first | exact ExtD.refl _ | assumption | refine ExtD.drew ?_ | refine ExtD.drewN ?_ _ | refine ExtD.alloc ?_ _ | refine ExtD.trans ?_ (by assumption))) hx1)⟩; case measure => exact (by simp [intOf]; omega)))
        · have e4 : (cmpC c d != 0) = true := by simp [hz]
          have hfin : Hid (cmpC c d = cmpCs x y) := Lib.hid (by rw [hst.out, if_neg hz])
          replace hz := Lib.hid hz
          go_wp2_with fail
          refine (ord1_anyD c d _).mono ?_
          rintro e w1 ⟨rfl, hx1⟩
          go_wp2_with fail
          go_ret
          exact ⟨ret_int hfin.out, hx.trans (ExtD.trans (by repeat (first | exact ExtD.refl _ | assumption | refine ExtD.drew ?_ | refine ExtD.drewN ?_ _ | refine ExtD.alloc ?_ _ | refine ExtD.trans ?_ (by assumption))) hx1)⟩
      · have e2 : decide (m ≤ k) = true := by simpa using h2
        have hfin : Hid (1 = cmpCs x y) := Lib.hid (by
          rw [hc.out, drop_cons hcc.out, List.drop_of_length_le (l := y) (by rw [hl2.out]; omega)]; rfl)
        go_wp2_with fail
        go_ret
        exact ⟨ret_int hfin.out, hx.alloc _⟩
    · by_cases h2 : k < m
      · have e5 : decide (n < m) = true := by simp; omega
        have hfin : Hid (-1 = cmpCs x y) := Lib.hid (by
          obtain ⟨d, hdd⟩ : ∃ c, y[k]? = some c := ⟨y[k]'(by rw [hl2.out]; omega), List.getElem?_eq_getElem _⟩
          rw [hc.out, drop_cons hdd, List.drop_of_length_le (l := x) (by rw [hl.out]; omega)]; rfl)
        go_wp2_with fail
        go_ret
        exact ⟨ret_int hfin.out, hx⟩
      · have e5 : decide (n < m) = false := by simp; omega
        have hfin : Hid (0 = cmpCs x y) := Lib.hid (by
          rw [hc.out, List.drop_of_length_le (l := x) (by rw [hl.out]; omega), List.drop_of_length_le (l := y) (by rw [hl2.out]; omega)]; rfl)
        go_wp2_with fail
        go_ret
        exact ⟨ret_int hfin.out, hx⟩
theorem cord_anyD (a : Option Addr) (n cap : Nat) (x : List Cl) (b : Option Addr) (m cap2 : Nat) (y : List Cl) (w : World) (hr : RdC w a n cap x) (hs : RdC w b m cap2 y) :
    Calls Tryd.prog 40 #[.slice a n cap, .slice b m cap2] w fun e w' => e = .returned (.int .i64 (cmpCs x y)) ∧ ExtD w w' := by
  go_enter Tryd.func40, Tryd.ntmps40
  go_wp2_with fail
  refine (cmpF_anyD a n cap x b m cap2 y _ hr hs).mono ?_
  rintro e w1 ⟨rfl, hx1⟩
  go_wp2_with fail
  go_ret
  exact ⟨rfl, hx1⟩
end Go.Proofs.YtjfhfbobnncpkaaDoor
