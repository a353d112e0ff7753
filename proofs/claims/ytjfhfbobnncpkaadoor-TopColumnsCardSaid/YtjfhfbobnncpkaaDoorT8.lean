/-
  ablauttop: the cells of an entry's aligned words.
-/
import Derived.Test.YtjfhfbobnncpkaaDoorT7
namespace Go.Proofs.YtjfhfbobnncpkaaDoor
open Go.RowKit
def AlRet (fs : List HF) (w : World) (e : Ending) (w' : World) : Prop :=
  ∃ v b hs, e = .returned (.tuple #[v, .bool b]) ∧ (b = true → OwnHW w.heap.size w' v hs ∧ GoodR fs (hs.map HW.x)) ∧ Ext w w'
theorem AlRet.no {fs : List HF} {w w' : World} (v : Value) (hx : Ext w w') : AlRet fs w (.returned (.tuple #[v, .bool false])) w' := ⟨v, false, [], rfl, (fun h => by cases h), hx⟩
/-- The forms up to i are looked at. -/
def FormI (fs : List HF) (i : Nat) : Prop := ∀ (j : Nat) (f : HF), j < i → fs[j]? = some f → f.n ≤ 8 ∧ checkS f.x = 0 ∧ (f.has = false → f.n = 0)
theorem FormI.succ {fs : List HF} {i : Nat} {f : HF} (h : FormI fs i) (hf : fs[i]? = some f) (h1 : f.n ≤ 8) (h2 : checkS f.x = 0) (h3 : f.has = false → f.n = 0) : FormI fs (i + 1) := fun j g hj hg => by
  by_cases e : j = i
  · subst e; rw [hf] at hg; cases hg; exact ⟨h1, h2, h3⟩
  · exact h j g (by omega) hg
theorem HF.one (h : HF) : ∀ u ∈ HF.enc h, u.oneCell' = true := by intro u hu; simp [HF.enc] at hu; rcases hu with rfl | rfl <;> rfl
set_option maxHeartbeats 4000000 in
set_option maxRecDepth 20000 in
theorem taligned_any (g : ByteArray) (a : Option Addr) (n cap : Nat) (fs : List HF) (ac : Option Addr) (nc cc : Nat) (ws : List Int) (gp : Int) (w : World) (hr : RdF w a n cap fs) (hc : RdI w ac nc cc ws) (hT : TabOk w) (hS : StepsOk w) :
    Calls Tryd.prog 5 #[.agg #[.string g, .slice a n cap], .agg #[.slice ac nc cc, .int .i64 gp]] w (AlRet fs w) := by
  have hl := hr.rd.len
  have hxB : Ext w ((w.alloc (.cells #[.string g, .slice a n cap] 31)).alloc (.cells #[.slice ac nc cc, .int .i64 gp] 25)) := (by repeat (first | exact Ext.refl _ | refine Ext.drew ?_ | refine Ext.drewN ?_ _ | refine Ext.alloc ?_ _))
  have q0 : ((w.alloc (.cells #[.string g, .slice a n cap] 31)).alloc (.cells #[.slice ac nc cc, .int .i64 gp] 25)).cell? ⟨w.heap.size, 0, none⟩ = some (.string g) := by go_simp
  have q1 : ((w.alloc (.cells #[.string g, .slice a n cap] 31)).alloc (.cells #[.slice ac nc cc, .int .i64 gp] 25)).cell? ⟨w.heap.size, 1, none⟩ = some (.slice a n cap) := by go_simp
  have q2 : ((w.alloc (.cells #[.string g, .slice a n cap] 31)).alloc (.cells #[.slice ac nc cc, .int .i64 gp] 25)).cell? ⟨w.heap.size + 1, 0, none⟩ = some (.slice ac nc cc) := by go_simp
  have q3 : ((w.alloc (.cells #[.string g, .slice a n cap] 31)).alloc (.cells #[.slice ac nc cc, .int .i64 gp] 25)).cell? ⟨w.heap.size + 1, 1, none⟩ = some (.int .i64 gp) := by go_simp
  replace hl := Lib.hid hl
  by_cases h5 : 5 < n
  · have d5 : decide ((5 : Int) < (n : Int)) = true := by simp; omega
    go_enter Tryd.func5, Tryd.ntmps5
    go_wp2_with fail
    go_ret2
    exact AlRet.no _ hxB
  · have d5 : decide ((5 : Int) < (n : Int)) = false := by simp; omega
    have hcst := costs_any ac nc cc ws gp ((w.alloc (.cells #[.string g, .slice a n cap] 31)).alloc (.cells #[.slice ac nc cc, .int .i64 gp] 25)) (hc.ext hxB)
    by_cases hws : costsB ws gp = true
    · have hE : costsE ws gp = 0 := by unfold costsE; rw [if_pos hws]
      rw [hE] at hcst
      have hmax : n ≤ 9223372036854775807 := by omega
      replace hws := Lib.hid hws
      go_enter Tryd.func5, Tryd.ntmps5
      go_wp2_with fail
      refine hcst.mono ?_
      rintro e w1 ⟨rfl, hx1⟩
      have hxw := hxB.trans hx1
      replace q0 := hx1.cellv q0
      replace q1 := hx1.cellv q1
      replace q2 := hx1.cellv q2
      replace q3 := hx1.cellv q3
      have hlew := Ext.le hxw
      clear hcst hxB hx1
      go_wp2_with fail
      go_loopw [6, 7] (fun lv iv wr => ∃ i : Nat, i ≤ n ∧ iv = .int .i64 i ∧ OwnK 1 HS.enc w1.heap.size 34 wr lv (wordsOf (fs.take i)) ∧ Hid (FormI fs i) ∧ Ext w1 wr) (fun _ iv _ => n - (intOf iv).toNat)
      case atStart => exact ⟨0, Nat.zero_le _, rfl, OwnK.nil _ _ _, Lib.hid (fun j f hj => absurd hj (Nat.not_lt_zero _)), Ext.refl _⟩
      case round =>
        obtain ⟨i, hi, rfl, hown, hF, hx⟩ := hrel
        have k1 := hx.cellv q1
        by_cases hlt : i < n
        · obtain ⟨b, off, ⟨fh, fa, fn, fc, fx⟩, rfl, hf, hb, c0, c1, hrd⟩ := (hr.ext (hxw.trans hx)).at hlt
          simp only at c0 c1 hrd
          have hfl := hrd.len
          have hki : (i : Int) < (n : Int) := by omega
          have hsu := wordsOf_succ hf.out
          have hwl : (wordsOf (fs.take i)).length ≤ i := rk_le fs i
          have hf1 := hf.out
          replace hf := Lib.hid hf.out
          replace hfl := Lib.hid hfl
          replace hsu := Lib.hid hsu
          by_cases h8 : 8 < fn
          · have d8 : decide ((8 : Int) < (fn : Int)) = true := by simp; omega
            replace hf1 := Lib.hid hf1
            go_wp2_with fail
            go_ret2
            exact AlRet.no _ (hxw.trans (hx.alloc _))
          · have d8 : decide ((8 : Int) < (fn : Int)) = false := by simp; omega
            have hwc := wcheck_any fa fn fc fx (wr.alloc (.cells #[.bool fh, .slice fa fn fc] 36)) (hrd.ext (Ext.alloc1 _ _))
            by_cases hck : checkS fx = 0
            · rw [hck] at hwc
              cases fh with
              | true =>
                have hF2 := Lib.hid (hF.out.succ hf1 (by simpa using h8) hck (by simp))
                replace hf1 := Lib.hid hf1
                replace hck := Lib.hid hck
                go_wp2_with fail
                refine hwc.mono ?_
                rintro e w2 ⟨rfl, hx2⟩
                have k2 : w2.cell? ⟨wr.heap.size, 0, none⟩ = some (.bool true) := hx2.cellv (by go_simp)
                have k3 : w2.cell? ⟨wr.heap.size, 1, none⟩ = some (.slice fa fn fc) := hx2.cellv (by go_simp)
                have hxa : Ext w1 w2 := (hx.alloc _).trans hx2
                have hoa := (hown.kept (Ext.alloc1 _ _)).kept hx2
                clear hwc hown
                go_wp2_with (at_builtin; refine wp_app1 w1 w2 (⟨fa, fn, fc, fx⟩ : HS) rfl _ _ 53 rfl 34 Tryd.underlying53 info_hs rfl (by decide) _ _ rfl hoa hxa rfl (HS.len _) (HS.one _) (by omega) (by unfold maxLen; omega) ?_; intro v5 w10 o5 x5 hgA)
                have o6 : OwnK 1 HS.enc w1.heap.size 34 w10 v5 (wordsOf (fs.take (i + 1))) := by rw [hsu.out, if_pos (by trivial)]; exact o5
                clear o5
                (first | exact ⟨⟨i + 1, by omega, by go_num, o6, hF2, x5⟩, (by simp [intOf]; omega)⟩ | (go_roundw; case rel => exact ⟨i + 1, by omega, by go_num, o6, hF2, x5⟩; case measure => exact (by simp [intOf]; omega)))
              | false =>
                by_cases hz : fn = 0
                · subst hz
                  have hF2 := Lib.hid (hF.out.succ hf1 (by simp) hck (fun _ => rfl))
                  have o6 : ∀ W, Ext wr W → OwnK 1 HS.enc w1.heap.size 34 W _ (wordsOf (fs.take (i + 1))) := fun W hW => by rw [hsu.out, if_neg (by simp), List.append_nil]; exact hown.kept hW
                  replace hf1 := Lib.hid hf1
                  replace hck := Lib.hid hck
                  replace o6 := Lib.hid o6
                  go_wp2_with fail
                  refine hwc.mono ?_
                  rintro e w2 ⟨rfl, hx2⟩
                  have k2 : w2.cell? ⟨wr.heap.size, 0, none⟩ = some (.bool false) := hx2.cellv (by go_simp)
                  have k3 : w2.cell? ⟨wr.heap.size, 1, none⟩ = some (.slice fa 0 fc) := hx2.cellv (by go_simp)
                  clear hwc hown
                  go_wp2_with fail
                  (first | exact ⟨⟨i + 1, by omega, by go_num, o6.out _ (Ext.trans (Ext.alloc1 _ _) hx2), hF2, (hx.alloc _).trans hx2⟩, (by simp [intOf]; omega)⟩ | (go_roundw; case rel => exact ⟨i + 1, by omega, by go_num, o6.out _ (Ext.trans (Ext.alloc1 _ _) hx2), hF2, (hx.alloc _).trans hx2⟩; case measure => exact (by simp [intOf]; omega)))
                · have dz : decide ((0 : Int) < (fn : Int)) = true := by simp; omega
                  replace hf1 := Lib.hid hf1
                  replace hck := Lib.hid hck
                  go_wp2_with fail
                  refine hwc.mono ?_
                  rintro e w2 ⟨rfl, hx2⟩
                  have k2 : w2.cell? ⟨wr.heap.size, 0, none⟩ = some (.bool false) := hx2.cellv (by go_simp)
                  have k3 : w2.cell? ⟨wr.heap.size, 1, none⟩ = some (.slice fa fn fc) := hx2.cellv (by go_simp)
                  go_wp2_with fail
                  go_ret2
                  exact AlRet.no _ (hxw.trans ((hx.alloc _).trans hx2))
            · generalize checkS fx = E at *
              have dE : (E != 0) = true := by simpa using hck
              replace hf1 := Lib.hid hf1
              replace hck := Lib.hid hck
              go_wp2_with fail
              refine hwc.mono ?_
              rintro e w2 ⟨rfl, hx2⟩
              go_wp2_with fail
              go_ret2
              exact AlRet.no _ (hxw.trans ((hx.alloc _).trans hx2))
        · obtain rfl : i = n := by omega
          rw [List.take_of_length_le (by rw [hl.out]; exact Nat.le_refl _)] at hown
          obtain ⟨a2, n2, c2, hn2, rfl, hr2⟩ := OwnK.rdn HS.len hown
          have hrw : RdW wr a2 n2 c2 (wordsOf fs) := ⟨hr2, fun h hh => by
            unfold wordsOf at hh
            obtain ⟨f, hf, rfl⟩ := List.mem_map.1 hh
            exact (hr.ok f (List.mem_filter.1 hf).1).ext (hxw.trans hx)⟩
          have hwd : ∀ y ∈ wordsOf fs, checkS y.x = 0 ∧ y.n ≤ 8 := fun h hh => by
            unfold wordsOf at hh
            obtain ⟨f, hf, rfl⟩ := List.mem_map.1 hh
            obtain ⟨j, hj⟩ := List.getElem?_of_mem (List.mem_filter.1 hf).1
            obtain ⟨h1, h2, _⟩ := hF.out j f (by have := (List.getElem?_eq_some_iff.1 hj).1; rw [hl.out] at this; exact this) hj
            exact ⟨h2, h1⟩
          have hno : ∀ f ∈ fs, f.has = false → f.n = 0 := fun f hf => by
            obtain ⟨j, hj⟩ := List.getElem?_of_mem hf
            exact (hF.out j f (by have := (List.getElem?_eq_some_iff.1 hj).1; rw [hl.out] at this; exact this) hj).2.2
          have hn25 : n2 ≤ 5 := by
            have : (wordsOf fs).length ≤ fs.length := by rw [← rk_full]; exact rk_le fs _
            rw [hl.out] at this; omega
          have hfl : ∀ f ∈ fs, f.x.length = f.n := fun f hf => (hr.ok f hf).len
          have hpro := progressive_any wr a2 n2 c2 (wordsOf fs) hrw ac nc cc ws gp (hc.ext (hxw.trans hx)) (hT.ext (hxw.trans hx)) (hS.ext (hxw.trans hx)) hws.out (fun y hy => (hwd y hy).1) hn25 (fun y hy => (hwd y hy).2)
          have k2 := hx.cellv q2
          have k3 := hx.cellv q3
          replace hn2 := Lib.hid hn2
          replace hwd := Lib.hid hwd
          replace hno := Lib.hid hno
          replace hfl := Lib.hid hfl
          go_wp2_with fail
          refine hpro.mono ?_
          rintro e w2 ⟨v2, hs2, rfl, hO2, hlen2, hx2⟩
          obtain ⟨b3, m3, c3, hm3, rfl, hC3⟩ := hO2.rd
          have hxa := (hxw.trans hx).trans hx2
          have hcl := cells_any g a i cap fs b3 m3 c3 hs2 w2 (hr.ext hxa) hC3
          have k4 := hx2.cellv (hx.cellv q0)
          have k5 := hx2.cellv k1
          replace hm3 := Lib.hid hm3
          clear hpro k1 k2 k3
          go_wp2_with fail
          refine hcl.mono ?_
          rintro e w3 ⟨v3, hs3, rfl, hO3, hL3, hx3⟩
          clear hcl k4 k5
          by_cases hE : cellsE fs hs2 = 0
          · have hgood := good_of hfl.out hno.out hE
            have hlenL : hs3.length = hs2.length := by
              have := congrArg List.length hL3
              unfold cellsL at this
              rw [if_pos hE, List.length_map, List.length_map] at this
              exact this
            obtain ⟨b4, m4, c4, hm4, rfl, _⟩ := OwnK.rdn HW.len hO3.own
            rw [hE]
            have hmm : m4 = m3 := by rw [hm4, hlenL, hm3.out]
            subst hmm
            rw [← hL3] at hgood
            have hO4 : OwnHW w.heap.size w3 _ hs3 := hO3.base (Ext.le hxa)
            replace hm4 := Lib.hid hm4
            replace hL3 := Lib.hid hL3
            replace hE := Lib.hid hE
            replace hlenL := Lib.hid hlenL
            go_wp2_with fail
            go_ret2
            exact ⟨_, true, hs3, rfl, (fun _ => ⟨hO4, hgood⟩), hxa.trans hx3⟩
          · have dE : (cellsE fs hs2 == 0) = false := by simpa using hE
            replace hL3 := Lib.hid hL3
            generalize cellsE fs hs2 = E at *
            replace hE := Lib.hid hE
            go_wp2_with fail
            go_ret2
            exact AlRet.no _ (hxa.trans hx3)
    · have hE : costsE ws gp = 2 := costsE_bad (by simpa using hws)
      rw [hE] at hcst
      replace hws := Lib.hid hws
      go_enter Tryd.func5, Tryd.ntmps5
      go_wp2_with fail
      refine hcst.mono ?_
      rintro e w1 ⟨rfl, hx1⟩
      go_wp2_with fail
      go_ret2
      exact AlRet.no _ (hxB.trans hx1)
end Go.Proofs.YtjfhfbobnncpkaaDoor
