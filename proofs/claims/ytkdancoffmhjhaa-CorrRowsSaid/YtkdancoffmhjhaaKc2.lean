/-
  Collect: the program's, the reference's.
-/
import Derived.Test.YtkdancoffmhjhaaKm
namespace Go.Proofs.Ytkdancoffmhjhaa
open Go.RowKit Go.Shelf
/-- A header that leads to cells. -/
structure HW where
  a : Option Addr
  n : Nat
  cap : Nat
  x : List Cl
def HW.enc (h : HW) : List Value := [.slice h.a h.n h.cap]
structure RdHW (w : World) (a : Option Addr) (n cap : Nat) (hs : List HW) : Prop where
  rd : RdK 1 HW.enc w a n cap hs
  ok : ∀ h ∈ hs, RdC w h.a h.n h.cap h.x
theorem RdHW.ext {w w' : World} {a : Option Addr} {n cap : Nat} {hs : List HW} (h : RdHW w a n cap hs) (hx : Ext w w') : RdHW w' a n cap hs := ⟨h.rd.ext hx, fun y hy => (h.ok y hy).ext hx⟩
theorem RdHW.at {w : World} {a : Option Addr} {n cap : Nat} {hs : List HW} (h : RdHW w a n cap hs) {i : Nat} (hi : i < n) :
    ∃ b off y, a = some ⟨b, off, none⟩ ∧ Hid (hs[i]? = some y) ∧ b < w.heap.size ∧ w.cell? ⟨b, off + i, none⟩ = some (.slice y.a y.n y.cap) ∧ RdC w y.a y.n y.cap y.x := by
  obtain ⟨b, off, x, ha, hx, hb, hc⟩ := h.rd.get hi
  exact ⟨b, off, x, ha, hx, hb, by have := hc 0 _ rfl; simpa using this, h.ok x (List.mem_of_getElem? hx)⟩
/-- Counted once. -/
def HW.co1 (h : HW) : HCo := ⟨h.a, h.n, h.cap, 1, h.x⟩
theorem take_co {hs : List HW} {j : Nat} {h : HW} (hj : hs[j]? = some h) : (hs.take (j + 1)).map HW.co1 = (hs.take j).map HW.co1 ++ [h.co1] := by
  rw [take_succ_at hj, List.map_append]; rfl
theorem rdh_none (w : World) : RdH w none 0 0 [] := ⟨RdK.nilS w, fun y hy => by cases hy⟩
set_option maxHeartbeats 2000000 in
theorem collect_any (a : Option Addr) (n cap : Nat) (hs : List HW) (w : World) (hr : RdHW w a n cap hs) (hn : n ≤ 60000) :
    Calls Try.prog 16 #[.slice a n cap] w (OrSum (chkE [hs.map HW.co1]) ((hs.map HW.co1).map kp) w) := by
  have hl := hr.rd.len
  replace hl := Lib.hid hl
  unfold OrSum SumRet
  generalize hE : chkE [hs.map HW.co1] = er
  replace hE := Lib.hid hE
  go_enter Try.func16, Try.ntmps16
  go_wp2_with fail
  go_loopw [4, 6, 9] (fun v _ i wr => ∃ j : Nat, j ≤ n ∧ i = .int .i64 j ∧ OwnK 2 HCo.enc w.heap.size 49 wr v ((hs.take j).map HW.co1) ∧ Ext w wr) (fun _ _ i _ => n - (intOf i).toNat)
  case atStart => exact ⟨0, Nat.zero_le _, rfl, OwnK.nil _ _ _, Ext.refl _⟩
  case round =>
    obtain ⟨j, hj, rfl, hown, hx⟩ := hrel
    have hjl : Hid (((hs.take j).map HW.co1).length = j) := Lib.hid (by rw [List.length_map, List.length_take, hl.out]; omega)
    by_cases hlt : j < n
    · obtain ⟨b, off, h, rfl, hh, hb, hc0, hrc⟩ := (hr.ext hx).at hlt
      have hsu := Lib.hid (take_co hh.out)
      go_wp2_with (at_builtin; refine wp_app1 w wr h.co1 rfl _ _ 24 rfl 49 Try.underlying24 info_corr rfl (by decide) _ _ rfl hown hx rfl rfl (HCo.one _) (by rw [hjl.out]; omega) (by rw [hjl.out]; unfold maxLen; omega) ?_; intro v1 w1 ho1 hx1 _)
      rw [← hsu.out] at ho1
      (first | exact ⟨⟨j + 1, by omega, by go_num, ho1, hx1⟩, (by simp [intOf]; omega)⟩ | (go_roundw; case rel => exact ⟨j + 1, by omega, by go_num, ho1, hx1⟩; case measure => exact (by simp [intOf]; omega)))
    · obtain rfl : j = n := by omega
      rw [List.take_of_length_le (by rw [hl.out]; exact Nat.le_refl _)] at hown
      obtain ⟨a3, n3, c3, hn3, rfl, hr3⟩ := OwnK.rdn HCo.len hown
      have hrm : RdH wr a3 n3 c3 (hs.map HW.co1) := ⟨hr3, fun y hy => by
        obtain ⟨u, hu, rfl⟩ := List.mem_map.1 hy
        exact (hr.ok u hu).ext hx⟩
      have hm := merge_any a3 n3 c3 (hs.map HW.co1) none 0 0 [] wr hrm (rdh_none wr)
      rw [chkE_nil, List.append_nil, hE.out] at hm
      replace hn3 := Lib.hid hn3
      clear hr3 hrm hown hjl
      unfold OrSum SumRet at hm
      go_wp2_with fail
      refine hm.mono ?_
      rintro e w4 (⟨h0, rfl, hx4⟩ | ⟨h0, L, hL, v, hs', rfl, hown', hk', hx4⟩)
      · replace h0 := Lib.hid h0
        go_wp2_with fail
        go_ret2
        exact .inl ⟨h0.out, rfl, hx.trans hx4⟩
      · replace hk' := Lib.hid hk'
        replace h0 := Lib.hid h0
        go_wp2_with fail
        go_ret2
        exact .inr ⟨h0.out, L, hL, v, hs', rfl, OwnL.base hown' hx.le, hk'.out, hx.trans hx4⟩
set_option maxHeartbeats 2000000 in
theorem rcollect_any (a : Option Addr) (n cap : Nat) (hs : List HW) (w : World) (hr : RdHW w a n cap hs) (hn : n ≤ 60000) :
    Calls Try.prog 17 #[.slice a n cap] w (OrSum (chkE [hs.map HW.co1]) ((hs.map HW.co1).map kp) w) := by
  have hl := hr.rd.len
  replace hl := Lib.hid hl
  unfold OrSum SumRet
  generalize hE : chkE [hs.map HW.co1] = er
  replace hE := Lib.hid hE
  generalize hKL : (hs.map HW.co1).map kp = KL
  replace hKL := Lib.hid hKL
  go_enter Try.func17, Try.ntmps17
  go_wp2_with fail
  go_loopw [4, 5] (fun v i wr => ∃ j : Nat, j ≤ n ∧ i = .int .i64 j ∧ OwnK 2 HCo.enc w.heap.size 49 wr v ((hs.take j).map HW.co1) ∧ Ext w wr) (fun _ i _ => n - (intOf i).toNat)
  case atStart => exact ⟨0, Nat.zero_le _, rfl, OwnK.nil _ _ _, Ext.refl _⟩
  case round =>
    obtain ⟨j, hj, rfl, hown, hx⟩ := hrel
    have hjl : Hid (((hs.take j).map HW.co1).length = j) := Lib.hid (by rw [List.length_map, List.length_take, hl.out]; omega)
    by_cases hlt : j < n
    · obtain ⟨b, off, h, rfl, hh, hb, hc0, hrc⟩ := (hr.ext hx).at hlt
      have hsu := Lib.hid (take_co hh.out)
      go_wp2_with (at_builtin; refine wp_app1 w wr h.co1 rfl _ _ 24 rfl 49 Try.underlying24 info_corr rfl (by decide) _ _ rfl hown hx rfl rfl (HCo.one _) (by rw [hjl.out]; omega) (by rw [hjl.out]; unfold maxLen; omega) ?_; intro v1 w1 ho1 hx1 _)
      rw [← hsu.out] at ho1
      (first | exact ⟨⟨j + 1, by omega, by go_num, ho1, hx1⟩, (by simp [intOf]; omega)⟩ | (go_roundw; case rel => exact ⟨j + 1, by omega, by go_num, ho1, hx1⟩; case measure => exact (by simp [intOf]; omega)))
    · obtain rfl : j = n := by omega
      rw [List.take_of_length_le (by rw [hl.out]; exact Nat.le_refl _)] at hown
      obtain ⟨a3, n3, c3, hn3, rfl, hr3⟩ := OwnK.rdn HCo.len hown
      have hrm : RdH wr a3 n3 c3 (hs.map HW.co1) := ⟨hr3, fun y hy => by
        obtain ⟨u, hu, rfl⟩ := List.mem_map.1 hy
        exact (hr.ok u hu).ext hx⟩
      have hck := rcheck_one a3 n3 c3 (hs.map HW.co1) wr hrm
      rw [hE.out] at hck
      replace hn3 := Lib.hid hn3
      clear hr3 hown hjl
      by_cases h0 : er = 0
      · obtain ⟨h1, h2⟩ := chkE_all (hE.out.trans h0)
        rw [h0] at hck
        replace h0 := Lib.hid h0
        have hfl : [hs.map HW.co1].flatten = hs.map HW.co1 := by simp
        rw [hfl] at h2
        obtain ⟨hn1, hw1⟩ := h1 (hs.map HW.co1) (by simp)
        rw [List.length_map, hl.out] at hn1
        have hsum := fun W (z : Ext wr W) => rsum_any a3 n3 c3 (hs.map HW.co1) W (hrm.ext z) (by rw [hn3.out, List.length_map, hl.out]; omega) hw1 (fun y hy => ⟨by have := (h2 y hy).2.1; omega, (h2 y hy).2.2.1⟩)
        rw [hKL.out] at hsum
        clear h1 h2 hfl hw1 hrm
        go_wp2_with fail
        refine hck.mono ?_
        rintro e w4 ⟨rfl, hx4⟩
        replace hsum := hsum w4 hx4
        clear hck
        unfold SumRet at hsum
        go_wp2_with fail
        refine hsum.mono ?_
        rintro e w5 ⟨L, hL, v, hs', rfl, hown', hk', hx5⟩
        replace hk' := Lib.hid hk'
        go_wp2_with fail
        go_ret2
        exact .inr ⟨h0.out, L, hL, v, hs', rfl, OwnL.base hown' (Nat.le_trans hx.le hx4.le), hk'.out, (hx.trans hx4).trans hx5⟩
      · have hd : (er != 0) = true := by simpa using h0
        replace h0 := Lib.hid h0
        clear hrm
        go_wp2_with fail
        refine hck.mono ?_
        rintro e w4 ⟨rfl, hx4⟩
        clear hck
        go_wp2_with fail
        go_ret2
        exact .inl ⟨h0.out, rfl, hx.trans hx4⟩
end Go.Proofs.Ytkdancoffmhjhaa
