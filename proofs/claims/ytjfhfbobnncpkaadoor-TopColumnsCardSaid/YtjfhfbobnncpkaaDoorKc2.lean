/-
  Collect: the program's, the reference's.
-/
import Derived.Test.YtjfhfbobnncpkaaDoorKm
namespace Go.Proofs.YtjfhfbobnncpkaaDoor
open Go.RowKit Go.Shelf
/-- A header that leads to cells. -/
structure HW where
  a : Option Addr
  n : Nat
  cap : Nat
  x : List Cl
def HW.enc (h : HW) : List Value := [.slice h.a h.n h.cap]
structure RdHW (w : World) (a : Option Addr) (n cap : Nat) (hs : List HW) : Prop where
  rd : RdK 1 HW.enc w a n cap hs
  ok : ∀ h ∈ hs, RdC w h.a h.n h.cap h.x
theorem RdHW.ext {w w' : World} {a : Option Addr} {n cap : Nat} {hs : List HW} (h : RdHW w a n cap hs) (hx : Ext w w') : RdHW w' a n cap hs := ⟨h.rd.ext hx, fun y hy => (h.ok y hy).ext hx⟩
theorem RdHW.at {w : World} {a : Option Addr} {n cap : Nat} {hs : List HW} (h : RdHW w a n cap hs) {i : Nat} (hi : i < n) :
    ∃ b off y, a = some ⟨b, off, none⟩ ∧ Hid (hs[i]? = some y) ∧ b < w.heap.size ∧ w.cell? ⟨b, off + i, none⟩ = some (.slice y.a y.n y.cap) ∧ RdC w y.a y.n y.cap y.x := by
  obtain ⟨b, off, x, ha, hx, hb, hc⟩ := h.rd.get hi
  exact ⟨b, off, x, ha, hx, hb, by have := hc 0 _ rfl; simpa using this, h.ok x (List.mem_of_getElem? hx)⟩
/-- Counted once. -/
def HW.co1 (h : HW) : HCo := ⟨h.a, h.n, h.cap, 1, h.x⟩
theorem take_co {hs : List HW} {j : Nat} {h : HW} (hj : hs[j]? = some h) : (hs.take (j + 1)).map HW.co1 = (hs.take j).map HW.co1 ++ [h.co1] := by
  rw [take_succ_at hj, List.map_append]; rfl
theorem rdh_none (w : World) : RdH w none 0 0 [] := ⟨RdK.nilS w, fun y hy => by cases hy⟩
set_option maxHeartbeats 2000000 in
theorem collect_any (a : Option Addr) (n cap : Nat) (hs : List HW) (w : World) (hr : RdHW w a n cap hs) (hn : n ≤ 60000) :
    Calls Tryd.prog 6 #[.slice a n cap] w (OrSum (chkE [hs.map HW.co1]) ((hs.map HW.co1).map kp) w) := by
  have hl := hr.rd.len
  replace hl := Lib.hid hl
  unfold OrSum SumRet
  generalize hE : chkE [hs.map HW.co1] = er
  replace hE := Lib.hid hE
  go_enter Tryd.func6, Tryd.ntmps6
  go_wp2_with fail
  go_loopw [4, 6, 9] (fun v _ i wr => ∃ j : Nat, j ≤ n ∧ i = .int .i64 j ∧ OwnK 2 HCo.enc w.heap.size 45 wr v ((hs.take j).map HW.co1) ∧ Ext w wr) (fun _ _ i _ => n - (intOf i).toNat)
  case atStart => exact ⟨0, Nat.zero_le _, rfl, OwnK.nil _ _ _, Ext.refl _⟩
  case round =>
    obtain ⟨j, hj, rfl, hown, hx⟩ := hrel
    have hjl : Hid (((hs.take j).map HW.co1).length = j) := Lib.hid (by rw [List.length_map, List.length_take, hl.out]; omega)
    by_cases hlt : j < n
    · obtain ⟨b, off, h, rfl, hh, hb, hc0, hrc⟩ := (hr.ext hx).at hlt
      have hsu := Lib.hid (take_co hh.out)
      go_wp2_with (at_builtin; refine wp_app1 w wr h.co1 rfl _ _ 37 rfl 45 Tryd.underlying37 info_corr rfl (by decide) _ _ rfl hown hx rfl rfl (HCo.one _) (by rw [hjl.out]; omega) (by rw [hjl.out]; unfold maxLen; omega) ?_; intro v1 w1 ho1 hx1 _)
      rw [← hsu.out] at ho1
      (first | exact ⟨⟨j + 1, by omega, by go_num, ho1, hx1⟩, (by simp [intOf]; omega)⟩ | (go_roundw; case rel => exact ⟨j + 1, by omega, by go_num, ho1, hx1⟩; case measure => exact (by simp [intOf]; omega)))
    · obtain rfl : j = n := by omega
      rw [List.take_of_length_le (by rw [hl.out]; exact Nat.le_refl _)] at hown
      obtain ⟨a3, n3, c3, hn3, rfl, hr3⟩ := OwnK.rdn HCo.len hown
      have hrm : RdH wr a3 n3 c3 (hs.map HW.co1) := ⟨hr3, fun y hy => by
        obtain ⟨u, hu, rfl⟩ := List.mem_map.1 hy
        exact (hr.ok u hu).ext hx⟩
      have hm := merge_any a3 n3 c3 (hs.map HW.co1) none 0 0 [] wr hrm (rdh_none wr)
      rw [chkE_nil, List.append_nil, hE.out] at hm
      replace hn3 := Lib.hid hn3
      clear hr3 hrm hown hjl
      unfold OrSum SumRet at hm
      go_wp2_with fail
      refine hm.mono ?_
      rintro e w4 (⟨h0, rfl, hx4⟩ | ⟨h0, L, hL, v, hs', rfl, hown', hk', hx4⟩)
      · replace h0 := Lib.hid h0
        go_wp2_with fail
        go_ret2
        exact .inl ⟨h0.out, rfl, hx.trans hx4⟩
      · replace hk' := Lib.hid hk'
        replace h0 := Lib.hid h0
        go_wp2_with fail
        go_ret2
        exact .inr ⟨h0.out, L, hL, v, hs', rfl, OwnL.base hown' hx.le, hk'.out, hx.trans hx4⟩
end Go.Proofs.YtjfhfbobnncpkaaDoor
