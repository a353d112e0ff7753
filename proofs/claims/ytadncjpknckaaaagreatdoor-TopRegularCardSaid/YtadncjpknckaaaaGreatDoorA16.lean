/-
  DERIVED: THE SHELF's CONTRACTS AT THIS DUMP, IN PLAIN WORDS (tools/lay-plain.mjs out of 'YtadncjpknckaaaaGreatDoorTrim.lean', which tools/lay-shelf.mjs wrote): THE SAME DECLARATIONS UNDER THE SAME NAMES: 'import', 'namespace', 'open', 'def', 'theorem' AND NOTHING ELSE: no command of the shelf's: FOR A HAND-IN. Each laying: the table of numbers ('.._ren') and one theorem, a field a fact of the dump's own or the kernel's comparison; each contract: ONE APPLICATION.
  Valid laws: law.fits, named, Check.
  Valid laws: law.Check, law.check.
-/
import Derived.Ground.NamesProg
import Derived.Shelf.Strings.SlTrimAscii
import Derived.Test.YtadncjpknckaaaaGreatDoorProg
import Derived.Test.YtadncjpknckaaaaGreatDoorA15
namespace Go.Proofs
open Go.Shelf
def Tryz.trimL_ren : Go.Shelf.Ren := ⟨fun | 160 => 71 | 232 => 86 | 231 => 85 | 227 => 87 | 234 => 89 | 233 => 88 | 236 => 91 | 235 => 90 | 228 => 101 | 271 => 104 | 151 => 103 | 197 => 102 | 120 => 110 | 152 => 109 | 260 => 108 | 137 => 115 | 119 => 116 | 224 => 117 | 225 => 118 | 217 => 119 | 266 => 120 | n => n, fun | 9 => 9 | 4 => 4 | 3 => 3 | 5 => 5 | 117 => 158 | 116 => 157 | 0 => 0 | 124 => 161 | 21 => 21 | 105 => 167 | 46 => 111 | 119 => 184 | 139 => 187 | 138 => 186 | n => n, fun | 3 => 0 | 4 => 1 | n => n⟩
theorem Tryz.trimL : Go.Proofs.Lays.n160 Tryz.prog Tryz.trimL_ren := {
  mixed := by kernel_rfl
  f119 := Tryz.func116.trans (congrArg some (by kernel_rfl))
  f120 := Tryz.func110.trans (congrArg some (by kernel_rfl))
  f137 := Tryz.func115.trans (congrArg some (by kernel_rfl))
  f151 := Tryz.func103.trans (congrArg some (by kernel_rfl))
  f152 := Tryz.func109.trans (congrArg some (by kernel_rfl))
  f160 := Tryz.func71.trans (congrArg some (by kernel_rfl))
  f197 := Tryz.func102.trans (congrArg some (by kernel_rfl))
  f217 := Tryz.func119.trans (congrArg some (by kernel_rfl))
  f224 := Tryz.func117.trans (congrArg some (by kernel_rfl))
  f225 := Tryz.func118.trans (congrArg some (by kernel_rfl))
  f227 := Tryz.func87.trans (congrArg some (by kernel_rfl))
  f228 := Tryz.func101.trans (congrArg some (by kernel_rfl))
  f231 := Tryz.func85.trans (congrArg some (by kernel_rfl))
  f232 := Tryz.func86.trans (congrArg some (by kernel_rfl))
  f233 := Tryz.func88.trans (congrArg some (by kernel_rfl))
  f234 := Tryz.func89.trans (congrArg some (by kernel_rfl))
  f235 := Tryz.func90.trans (congrArg some (by kernel_rfl))
  f236 := Tryz.func91.trans (congrArg some (by kernel_rfl))
  f260 := Tryz.func108.trans (congrArg some (by kernel_rfl))
  f266 := Tryz.func120.trans (congrArg some (by kernel_rfl))
  f271 := Tryz.func104.trans (congrArg some (by kernel_rfl))
  t0 := Tryz.underlying0
  a0 := Tryz.isAgg0
  z0 := Tryz.sizeOf0
  v0 := Tryz.zeroValue0
  t3 := Tryz.underlying3
  a3 := Tryz.isAgg3
  z3 := Tryz.sizeOf3
  v3 := Tryz.zeroValue3
  t4 := Tryz.underlying4
  a4 := Tryz.isAgg4
  z4 := Tryz.sizeOf4
  v4 := Tryz.zeroValue4
  t5 := Tryz.underlying5
  a5 := Tryz.isAgg5
  z5 := Tryz.sizeOf5
  v5 := Tryz.zeroValue5
  t9 := Tryz.underlying9
  a9 := Tryz.isAgg9
  z9 := Tryz.sizeOf9
  v9 := Tryz.zeroValue9
  t21 := Tryz.underlying21
  a21 := Tryz.isAgg21
  z21 := Tryz.sizeOf21
  v21 := Tryz.zeroValue21
  t46 := Tryz.underlying111
  a46 := Tryz.isAgg111
  z46 := Tryz.sizeOf111
  v46 := Tryz.zeroValue111
  t105 := Tryz.underlying167
  a105 := Tryz.isAgg167
  z105 := Tryz.sizeOf167
  v105 := Tryz.zeroValue167
  t116 := Tryz.underlying157
  a116 := Tryz.isAgg157
  z116 := Tryz.sizeOf157
  t117 := Tryz.underlying158
  a117 := Tryz.isAgg158
  z117 := Tryz.sizeOf158
  v117 := Tryz.zeroValue158
  t119 := Tryz.underlying184
  a119 := Tryz.isAgg184
  z119 := Tryz.sizeOf184
  t124 := Tryz.underlying161
  a124 := Tryz.isAgg161
  z124 := Tryz.sizeOf161
  v124 := Tryz.zeroValue161
  t138 := Tryz.underlying186
  a138 := Tryz.isAgg186
  z138 := Tryz.sizeOf186
  v138 := Tryz.zeroValue186
  t139 := Tryz.underlying187
  a139 := Tryz.isAgg187
  z139 := Tryz.sizeOf187
  v139 := Tryz.zeroValue187
  g3 := by kernel_rfl
  g4 := by kernel_rfl }
end Go.Proofs
namespace Go.Proofs.YtadncjpknckaaaaGreatDoor
open Go.RowKit
set_option maxHeartbeats 1000000 in
theorem fits_any (fr : Int) (cl : BitVec 32) (st : Snd) (tk : BitVec 32) (ix : Int) (k : Nat) (w : World) :
    Calls Tryz.prog 52 #[.agg #[.int .i64 fr, .int .u32 cl.toNat, .int .u32 st.p.toNat, .int .u32 st.m.toNat, .int .u32 tk.toNat, .int .i64 ix], .int .i64 (k : Int)] w fun e w' => e = .returned (.bool (fitsB k ⟨fr, cl, st, tk, ix⟩)) ∧ Ext w w' := by
  rcases Int.lt_or_le fr (-1) with h1 | h1
  · have g1 : ¬ -1 ≤ fr := by omega
    have hb : fitsB k ⟨fr, cl, st, tk, ix⟩ = false := by simp [fitsB, g1]
    replace hb := Lib.hid hb
    go_enter Tryz.func52, Tryz.ntmps52
    go_wp2_with fail
    go_ret
    exact ⟨by rw [hb.out]; rfl, (by repeat (first | exact Ext.refl _ | assumption | refine Ext.drew ?_ | refine Ext.drewN ?_ _ | refine Ext.alloc ?_ _ | refine Ext.trans ?_ (by assumption)))⟩
  have g1 : ¬ fr < -1 := by omega
  rcases Int.lt_or_le fr (k : Int) with h2 | h2
  rotate_left
  · have g2 : ¬ fr < (k : Int) := by omega
    have hb : fitsB k ⟨fr, cl, st, tk, ix⟩ = false := by simp [fitsB, g2]
    replace hb := Lib.hid hb
    replace h1 := Lib.hid h1
    go_enter Tryz.func52, Tryz.ntmps52
    go_wp2_with fail
    go_ret
    exact ⟨by rw [hb.out]; rfl, (by repeat (first | exact Ext.refl _ | assumption | refine Ext.drew ?_ | refine Ext.drewN ?_ _ | refine Ext.alloc ?_ _ | refine Ext.trans ?_ (by assumption)))⟩
  have g2 : ¬ (k : Int) ≤ fr := by omega
  cases h3 : st.ok
  · have hb : fitsB k ⟨fr, cl, st, tk, ix⟩ = false := by simp [fitsB, h3]
    replace hb := Lib.hid hb
    replace h1 := Lib.hid h1
    replace h2 := Lib.hid h2
    go_enter Tryz.func52, Tryz.ntmps52
    go_wp2_with fail
    refine (cbool (fvalid_any st _) h3).mono ?_
    rintro e w1 ⟨rfl, hx1⟩
    go_wp2_with fail
    go_ret
    exact ⟨by rw [hb.out]; rfl, (by repeat (first | exact Ext.refl _ | assumption | refine Ext.drew ?_ | refine Ext.drewN ?_ _ | refine Ext.alloc ?_ _ | refine Ext.trans ?_ (by assumption)))⟩
  have hB : Hid (fitsB k ⟨fr, cl, st, tk, ix⟩ = (decide ((cl ||| tk) &&& ~~~(16777215#32) = 0#32) && (decide (cl &&& hasM st = 0#32) && (decide (tk &&& (hasM st ||| cl) = 0#32) &&
    (if tk = 0#32 then decide (ix = 0) else decide (0 ≤ ix) && decide (ix < k)))))) := Lib.hid (by simp [fitsB, h1, h2, h3])
  replace h1 := Lib.hid h1
  replace h2 := Lib.hid h2
  obtain ⟨R, hR⟩ : ∃ R, R = fitsB k ⟨fr, cl, st, tk, ix⟩ := ⟨_, rfl⟩
  rw [← hR] at hB ⊢
  replace hR := Lib.hid hR
  have hxB : Ext w (w.alloc (.cells #[.int .i64 fr, .int .u32 cl.toNat, .int .u32 st.p.toNat, .int .u32 st.m.toNat, .int .u32 tk.toNat, .int .i64 ix] 122)) := Ext.alloc1 _ _
  have g7 : (w.alloc (.cells #[.int .i64 fr, .int .u32 cl.toNat, .int .u32 st.p.toNat, .int .u32 st.m.toNat, .int .u32 tk.toNat, .int .i64 ix] 122)).heap[w.heap.size]? = some (.cells #[.int .i64 fr, .int .u32 cl.toNat, .int .u32 st.p.toNat, .int .u32 st.m.toNat, .int .u32 tk.toNat, .int .i64 ix] 122 (0, 0)) := World.alloc_heap_new w _
  go_enter Tryz.func52, Tryz.ntmps52
  go_wp2_with fail
  generalize w.alloc (.cells #[.int .i64 fr, .int .u32 cl.toNat, .int .u32 st.p.toNat, .int .u32 st.m.toNat, .int .u32 tk.toNat, .int .i64 ix] 122) = w1 at *
  refine (cbool (fvalid_any st w1) h3).mono ?_
  rintro e w2 ⟨rfl, hx2⟩
  have g8 : w2.heap[w.heap.size]? = some (.cells #[.int .i64 fr, .int .u32 cl.toNat, .int .u32 st.p.toNat, .int .u32 st.m.toNat, .int .u32 tk.toNat, .int .i64 ix] 122 (0, 0)) := (Below.block hx2.bel _ (Array.getElem?_eq_some_iff.1 g7).1).trans g7
  have m1 : w2.cell? ⟨w.heap.size, 1, none⟩ = some (.int .u32 cl.toNat) := by simp [World.cell?, g8]
  have m4 : w2.cell? ⟨w.heap.size, 4, none⟩ = some (.int .u32 tk.toNat) := by simp [World.cell?, g8]
  have m5 : w2.cell? ⟨w.heap.size, 5, none⟩ = some (.int .i64 ix) := by simp [World.cell?, g8]
  have hX := hxB.trans hx2
  clear g7 g8 hxB hx2
  generalize w.heap.size = b2 at *
  have e1 : bits .andNot .u32 ((cl.toNat ||| tk.toNat : Nat) : Int) 16777215 = ((((cl ||| tk) &&& ~~~(16777215#32)).toNat : Nat) : Int) := by
    have := bits_andNot_u32 (cl ||| tk) 16777215#32
    rw [BitVec.toNat_or] at this
    exact this
  have e2 : bits .and .u32 (cl.toNat : Int) ((st.p.toNat ||| st.m.toNat : Nat) : Int) = (((cl &&& hasM st).toNat : Nat) : Int) := by
    have := bits_and_u32 cl (hasM st)
    unfold hasM at this ⊢
    rw [BitVec.toNat_or] at this
    exact this
  have e3 : bits .and .u32 (tk.toNat : Int) (bits .or .u32 ((st.p.toNat ||| st.m.toNat : Nat) : Int) (cl.toNat : Int)) = (((tk &&& (hasM st ||| cl)).toNat : Nat) : Int) := by
    have h1 := bits_or_u32 (hasM st) cl
    have h2 := bits_and_u32 tk (hasM st ||| cl)
    unfold hasM at h1 h2 ⊢
    rw [BitVec.toNat_or] at h1
    rw [h1]; exact h2
  rcases Decidable.em ((cl ||| tk) &&& ~~~(16777215#32) = 0#32) with c1 | c1
  rotate_left
  · have hF : Hid (R = false) := Lib.hid (by rw [hB.out]; simp only [c1, decide_false, Bool.false_and])
    obtain ⟨x1, hx1⟩ : ∃ x1 : Nat, x1 = ((cl ||| tk) &&& ~~~(16777215#32)).toNat := ⟨_, rfl⟩
    rw [← hx1] at e1
    have hx0 : ¬ x1 = 0 := fun h => c1 (BitVec.eq_of_toNat_eq (by rw [← hx1, h]; rfl))
    have hx2 : ((x1 : Int) == 0) = false := by simp; omega
    have hx3 : ((x1 : Int) != 0) = true := by simp; omega
    have hx4 : ¬ (x1 : Int) = 0 := by omega
    replace hx0 := Lib.hid hx0
    replace hx1 := Lib.hid hx1
    replace c1 := Lib.hid c1
    clear e2 e3 hB
    go_wp2_with fail
    go_ret
    exact ⟨by rw [hF.out]; rfl, hX⟩
  rw [c1] at e1
  have hB1 : Hid (R = (decide (cl &&& hasM st = 0#32) && (decide (tk &&& (hasM st ||| cl) = 0#32) &&
    (if tk = 0#32 then decide (ix = 0) else decide (0 ≤ ix) && decide (ix < k))))) := Lib.hid (by rw [hB.out, decide_eq_true c1, Bool.true_and])
  replace c1 := Lib.hid c1
  clear hB
  change _ = (0 : Int) at e1
  rcases Decidable.em (cl &&& hasM st = 0#32) with c2 | c2
  rotate_left
  · have hF : Hid (R = false) := Lib.hid (by rw [hB1.out]; simp only [c2, decide_false, Bool.false_and])
    obtain ⟨x1, hx1⟩ : ∃ x1 : Nat, x1 = (cl &&& hasM st).toNat := ⟨_, rfl⟩
    rw [← hx1] at e2
    have hx0 : ¬ x1 = 0 := fun h => c2 (BitVec.eq_of_toNat_eq (by rw [← hx1, h]; rfl))
    have hx2 : ((x1 : Int) == 0) = false := by simp; omega
    have hx3 : ((x1 : Int) != 0) = true := by simp; omega
    have hx4 : ¬ (x1 : Int) = 0 := by omega
    replace hx0 := Lib.hid hx0
    replace hx1 := Lib.hid hx1
    replace c2 := Lib.hid c2
    clear e3 hB1
    go_wp2_with fail
    go_ret
    exact ⟨by rw [hF.out]; rfl, hX⟩
  rw [c2] at e2
  have hB2 : Hid (R = (decide (tk &&& (hasM st ||| cl) = 0#32) &&
    (if tk = 0#32 then decide (ix = 0) else decide (0 ≤ ix) && decide (ix < k)))) := Lib.hid (by rw [hB1.out, decide_eq_true c2, Bool.true_and])
  replace c2 := Lib.hid c2
  clear hB1
  change _ = (0 : Int) at e2
  rcases Decidable.em (tk &&& (hasM st ||| cl) = 0#32) with c3 | c3
  rotate_left
  · have hF : Hid (R = false) := Lib.hid (by rw [hB2.out]; simp only [c3, decide_false, Bool.false_and])
    obtain ⟨x1, hx1⟩ : ∃ x1 : Nat, x1 = (tk &&& (hasM st ||| cl)).toNat := ⟨_, rfl⟩
    rw [← hx1] at e3
    have hx0 : ¬ x1 = 0 := fun h => c3 (BitVec.eq_of_toNat_eq (by rw [← hx1, h]; rfl))
    have hx2 : ((x1 : Int) == 0) = false := by simp; omega
    have hx3 : ((x1 : Int) != 0) = true := by simp; omega
    have hx4 : ¬ (x1 : Int) = 0 := by omega
    replace hx0 := Lib.hid hx0
    replace hx1 := Lib.hid hx1
    replace c3 := Lib.hid c3
    clear hB2
    go_wp2_with fail
    go_ret
    exact ⟨by rw [hF.out]; rfl, hX⟩
  rw [c3] at e3
  have hB3 : Hid (R = (if tk = 0#32 then decide (ix = 0) else decide (0 ≤ ix) && decide (ix < k))) := Lib.hid (by rw [hB2.out, decide_eq_true c3, Bool.true_and])
  replace c3 := Lib.hid c3
  clear hB2
  change _ = (0 : Int) at e3
  rcases Decidable.em (tk = 0#32) with c4 | c4
  · have hz1 : ((tk.toNat : Int) == 0) = true := by rw [u32_beq0]; simpa using c4
    have hF : Hid (R = (ix == 0)) := Lib.hid (by rw [hB3.out, if_pos c4, Bool.eq_iff_iff]; simp)
    replace c4 := Lib.hid c4
    clear hB3
    go_wp2_with fail
    go_ret
    exact ⟨by rw [hF.out]; rfl, hX⟩
  · have hz1 : ((tk.toNat : Int) == 0) = false := by rw [u32_beq0]; simpa using c4
    have hz2 : ¬ (tk.toNat : Int) = 0 := fun e => c4 ((u32_zero _).1 e)
    have hF : Hid (R = (decide (0 ≤ ix) && decide (ix < (k : Int)))) := Lib.hid (by rw [hB3.out, if_neg c4])
    replace c4 := Lib.hid c4
    clear hB3
    rcases Int.lt_or_le ix 0 with c5 | c5
    · have c6 : ¬ 0 ≤ ix := by omega
      replace c5 := Lib.hid c5
      go_wp2_with fail
      go_ret
      exact ⟨by rw [hF.out, decide_eq_false (show ¬ 0 ≤ ix by have := c5.out; omega)]; rfl, hX⟩
    · go_wp2_with fail
      go_ret
      exact ⟨by rw [hF.out, decide_eq_true c5]; rfl, hX⟩
/-! ### Names -/
def lettersA : List UInt8 := [97, 98, 99, 100, 101, 102, 103, 104, 105, 106, 107, 108, 109, 110, 111, 112, 113, 114, 115, 116, 117, 118, 119, 120, 121, 122, 65, 66, 67, 68, 69, 70, 71, 72, 73, 74, 75, 76, 77, 78, 79, 80, 81, 82, 83, 84, 85, 86, 87, 88, 89, 90, 48, 49, 50, 51, 52, 53, 54, 55, 56, 57, 45]
def trimA (s : ByteArray) : ByteArray := ⟨(Lib.trimS s.data.toList lettersA).toArray⟩
def nameB (s : ByteArray) : Bool := !s.toList.isEmpty && (decide (s.size ≤ 24) && (trimA s).toList.isEmpty)
set_option maxHeartbeats 1000000 in
theorem named2_any (s : ByteArray) (w : World) : Calls Tryz.prog 55 #[.string s] w fun e w' => e = .returned (.bool (nameB s)) ∧ Ext w w' := by
  by_cases h0 : s.toList = []
  · have hb : nameB s = false := by simp [nameB, h0]
    replace hb := Lib.hid hb
    go_enter Tryz.func55, Tryz.ntmps55
    go_wp2_with fail
    go_ret
    exact ⟨by rw [hb.out]; rfl, (by repeat (first | exact Ext.refl _ | assumption | refine Ext.drew ?_ | refine Ext.drewN ?_ _ | refine Ext.alloc ?_ _ | refine Ext.trans ?_ (by assumption)))⟩
  by_cases h24 : s.size ≤ 24
  · have hcon := Any.strings_Trim_laid Tryz.trimL (by kernel_rfl) s ⟨lettersA.toArray⟩ w (by omega) (by decide) (ascii_of_all (by decide))
    change Calls Tryz.prog 71 _ _ (fun e w' => e = .returned (.string (trimA s)) ∧ Below w.heap.size w w') at hcon
    have hb : nameB s = (trimA s).toList.isEmpty := by
      have : s.toList.isEmpty = false := by simpa using h0
      simp only [nameB, this, h24, decide_true, Bool.not_false, Bool.true_and]
    have h24' : (s.size : Int) ≤ 24 := by omega
    generalize trimA s = r at *
    replace hb := Lib.hid hb
    go_enter Tryz.func55, Tryz.ntmps55
    go_wp2_with fail
    refine hcon.mono ?_
    rintro e w1 ⟨rfl, hB⟩
    go_wp2_with fail
    go_ret
    exact ⟨by rw [hb.out]; simp [h0], ⟨hB⟩⟩
  · have hb : nameB s = false := by simp [nameB, h24]
    have h24' : ¬ (s.size : Int) ≤ 24 := by omega
    replace hb := Lib.hid hb
    replace h24 := Lib.hid h24
    go_enter Tryz.func55, Tryz.ntmps55
    go_wp2_with fail
    go_ret
    exact ⟨by rw [hb.out]; rfl, (by repeat (first | exact Ext.refl _ | assumption | refine Ext.drew ?_ | refine Ext.drewN ?_ _ | refine Ext.alloc ?_ _ | refine Ext.trans ?_ (by assumption)))⟩
/-! ### The lists of a law -/
theorem RdK.ou {w : World} {a : Option Addr} {n cap : Nat} {xs : List Ou} (h : RdK 6 Ou.enc w a n cap xs) {i : Nat} (hi : i < n) :
    ∃ b off x, a = some ⟨b, off, none⟩ ∧ Hid (xs[i]? = some x) ∧ b < w.heap.size ∧ w.cell? ⟨b, off + i * 6, none⟩ = some (.int .i64 x.fr) ∧ w.cell? ⟨b, off + i * 6 + 1, none⟩ = some (.int .u32 x.cl.toNat) ∧ w.cell? ⟨b, off + i * 6 + 2, none⟩ = some (.int .u32 x.st.p.toNat) ∧
      w.cell? ⟨b, off + i * 6 + 3, none⟩ = some (.int .u32 x.st.m.toNat) ∧ w.cell? ⟨b, off + i * 6 + 4, none⟩ = some (.int .u32 x.tk.toNat) ∧ w.cell? ⟨b, off + i * 6 + 5, none⟩ = some (.int .i64 x.ix) := by
  obtain ⟨b, off, x, ha, hx, hb, hc⟩ := h.get hi
  exact ⟨b, off, x, ha, hx, hb, by simpa using hc 0 _ rfl, hc 1 _ rfl, hc 2 _ rfl, hc 3 _ rfl, hc 4 _ rfl, hc 5 _ rfl⟩
theorem check1_any (x : Ou) (k bk : Nat) (w : World) (hk : w.cell? ⟨bk, 0, none⟩ = some (.int .i64 (k : Int))) :
    Calls Tryz.prog 51 #[.agg #[.int .i64 x.fr, .int .u32 x.cl.toNat, .int .u32 x.st.p.toNat, .int .u32 x.st.m.toNat, .int .u32 x.tk.toNat, .int .i64 x.ix], .pointer (some ⟨bk, 0, none⟩)] w fun e w' => e = .returned (.bool (!fitsB k x)) ∧ Ext w w' := by
  have hbk := cell_lt hk
  have hk2 := (Ext.alloc1 w (.cells #[.int .i64 x.fr, .int .u32 x.cl.toNat, .int .u32 x.st.p.toNat, .int .u32 x.st.m.toNat, .int .u32 x.tk.toNat, .int .i64 x.ix] 122)).cellv hk
  have hne : bk ≠ w.heap.size := Nat.ne_of_lt hbk
  go_enter Tryz.func51, Tryz.ntmps51
  go_wp2_with fail
  refine (fits_any x.fr x.cl x.st x.tk x.ix k _).mono ?_
  rintro e w1 ⟨rfl, hx1⟩
  go_wp2_with fail
  go_ret
  exact ⟨rfl, (by repeat (first | exact Ext.refl _ | assumption | refine Ext.drew ?_ | refine Ext.drewN ?_ _ | refine Ext.alloc ?_ _ | refine Ext.trans ?_ (by assumption)))⟩
theorem indexO_any (a : Option Addr) (n cap : Nat) (xs : List Ou) (kk bk : Nat) (w : World) (hr : RdK 6 Ou.enc w a n cap xs) (hk : w.cell? ⟨bk, 0, none⟩ = some (.int .i64 (kk : Int))) :
    Calls Tryz.prog 75 #[.slice a n cap, .func (.func 51) #[] #[.pointer (some ⟨bk, 0, none⟩)]] w fun e w' => ∃ r : Int, e = .returned (.int .i64 r) ∧ decide (0 ≤ r) = xs.any (fun y => !fitsB kk y) ∧ Ext w w' := by
  have any_of_at := @any_of_atG Ou
  have any_none := @any_noneG Ou
  have hkk := fun W (h : Ext w W) => h.cellv hk
  have hl := hr.len
  have hmax : n ≤ 9223372036854775807 := by have := hr.le; have := hr.most; unfold maxLen at this; omega
  replace hl := Lib.hid hl
  go_enter Tryz.func75, Tryz.ntmps75
  go_wp2_with fail
  go_loopw [8] (fun i wr => ∃ k : Nat, k ≤ n ∧ i = .int .i64 k ∧ Ext w wr ∧ Hid (∀ (i : Nat) (y : _), i < k → xs[i]? = some y → (!(fun y : Ou => !fitsB kk y) y) = true)) (fun i _ => n - (intOf i).toNat)
  case atStart => exact ⟨0, Nat.zero_le _, rfl, Ext.refl _, fun i x hi => absurd hi (Nat.not_lt_zero _)⟩
  case round =>
    obtain ⟨k, hk, rfl, hx, hall⟩ := hrel
    by_cases hlt : k < n
    · obtain ⟨b, off, y, rfl, hs, hb, q0, q1, q2, q3, q4, q5⟩ := (hr.ext hx).ou hlt
      cases hp : (fun y : Ou => !fitsB kk y) y
      · have hnew := Lib.hid (all_succ (p := fun y => !(fun y : Ou => !fitsB kk y) y) hall.out hs.out (by show (!(fun y : Ou => !fitsB kk y) y) = true; rw [hp]; rfl))
        go_wp2_with fail
        refine (cbool (check1_any y kk bk _ (hkk _ hx)) hp).mono ?_
        rintro e w1 ⟨rfl, hx1⟩
        clear hp
        go_wp2_with fail
        (first | exact ⟨⟨k + 1, by omega, by go_num, hx.trans hx1, hnew⟩, (by simp [intOf]; omega)⟩ | (go_roundw; case rel => exact ⟨k + 1, by omega, by go_num, hx.trans hx1, hnew⟩; case measure => exact (by simp [intOf]; omega)))
      · have hany := Lib.hid (any_of_at (p := fun y : Ou => !fitsB kk y) hs.out hp)
        go_wp2_with fail
        refine (cbool (check1_any y kk bk _ (hkk _ hx)) hp).mono ?_
        rintro e w1 ⟨rfl, hx1⟩
        clear hp
        go_wp2_with fail
        go_ret
        exact ⟨(k : Int), rfl, by rw [hany.out]; simp, hx.trans hx1⟩
    · go_wp2_with fail
      go_ret
      exact ⟨-1, rfl, by rw [any_none (p := fun y : Ou => !fitsB kk y) hl.out (fun i y hi => hall.out i y (by omega))]; simp, hx⟩
theorem containsO_any (a : Option Addr) (n cap : Nat) (xs : List Ou) (k bk : Nat) (w : World) (hr : RdK 6 Ou.enc w a n cap xs) (hk : w.cell? ⟨bk, 0, none⟩ = some (.int .i64 (k : Int))) :
    Calls Tryz.prog 58 #[.slice a n cap, .func (.func 51) #[] #[.pointer (some ⟨bk, 0, none⟩)]] w fun e w' => e = .returned (.bool (xs.any fun y => !fitsB k y)) ∧ Ext w w' := by
  go_enter Tryz.func58, Tryz.ntmps58
  go_wp2_with fail
  refine (indexO_any a n cap xs k bk _ hr hk).mono ?_
  rintro e w1 ⟨r, rfl, hd, hx1⟩
  replace hd := Lib.hid hd
  go_wp2_with fail
  go_ret
  exact ⟨ret_bool hd.out, hx1⟩
theorem check2_any (s : Snd) (w : World) : Calls Tryz.prog 53 #[sndV s] w fun e w' => e = .returned (.bool (!s.ok)) ∧ Ext w w' := by
  go_enter Tryz.func53, Tryz.ntmps53
  go_wp2_with fail
  refine (fvalid_any s _).mono ?_
  rintro e w1 ⟨rfl, hx1⟩
  go_wp2_with fail
  go_ret
  exact ⟨rfl, (by repeat (first | exact Ext.refl _ | assumption | refine Ext.drew ?_ | refine Ext.drewN ?_ _ | refine Ext.alloc ?_ _ | refine Ext.trans ?_ (by assumption)))⟩
theorem indexL_any (a : Option Addr) (n cap : Nat) (xs : List Snd) (w : World) (hr : RdS w a n cap xs) :
    Calls Tryz.prog 74 #[.slice a n cap, .func (.func 53) #[] #[]] w fun e w' => ∃ r : Int, e = .returned (.int .i64 r) ∧ decide (0 ≤ r) = xs.any (fun y => !y.ok) ∧ Ext w w' := by
  have any_of_at := @any_of_atG Snd
  have any_none := @any_noneG Snd
  have hl := hr.len
  have hmax : n ≤ 9223372036854775807 := by have := hr.le; have := hr.most; unfold maxLen at this; omega
  replace hl := Lib.hid hl
  go_enter Tryz.func74, Tryz.ntmps74
  go_wp2_with fail
  go_loopw [8] (fun i wr => ∃ k : Nat, k ≤ n ∧ i = .int .i64 k ∧ Ext w wr ∧ Hid (∀ (i : Nat) (y : _), i < k → xs[i]? = some y → (!(fun y : Snd => !y.ok) y) = true)) (fun i _ => n - (intOf i).toNat)
  case atStart => exact ⟨0, Nat.zero_le _, rfl, Ext.refl _, fun i x hi => absurd hi (Nat.not_lt_zero _)⟩
  case round =>
    obtain ⟨k, hk, rfl, hx, hall⟩ := hrel
    by_cases hlt : k < n
    · obtain ⟨b, off, y, rfl, hs, hb, hc0, hc1⟩ := (hr.ext hx).snd hlt
      cases hp : (fun y : Snd => !y.ok) y
      · have hnew := Lib.hid (all_succ (p := fun y => !(fun y : Snd => !y.ok) y) hall.out hs.out (by show (!(fun y : Snd => !y.ok) y) = true; rw [hp]; rfl))
        go_wp2_with fail
        refine (cbool (check2_any y _) hp).mono ?_
        rintro e w1 ⟨rfl, hx1⟩
        clear hp
        go_wp2_with fail
        (first | exact ⟨⟨k + 1, by omega, by go_num, hx.trans hx1, hnew⟩, (by simp [intOf]; omega)⟩ | (go_roundw; case rel => exact ⟨k + 1, by omega, by go_num, hx.trans hx1, hnew⟩; case measure => exact (by simp [intOf]; omega)))
      · have hany := Lib.hid (any_of_at (p := fun y : Snd => !y.ok) hs.out hp)
        go_wp2_with fail
        refine (cbool (check2_any y _) hp).mono ?_
        rintro e w1 ⟨rfl, hx1⟩
        clear hp
        go_wp2_with fail
        go_ret
        exact ⟨(k : Int), rfl, by rw [hany.out]; simp, hx.trans hx1⟩
    · go_wp2_with fail
      go_ret
      exact ⟨-1, rfl, by rw [any_none (p := fun y : Snd => !y.ok) hl.out (fun i y hi => hall.out i y (by omega))]; simp, hx⟩
theorem containsL_any (a : Option Addr) (n cap : Nat) (xs : List Snd) (w : World) (hr : RdS w a n cap xs) :
    Calls Tryz.prog 57 #[.slice a n cap, .func (.func 53) #[] #[]] w fun e w' => e = .returned (.bool (xs.any fun y => !y.ok)) ∧ Ext w w' := by
  go_enter Tryz.func57, Tryz.ntmps57
  go_wp2_with fail
  refine (indexL_any a n cap xs _ hr).mono ?_
  rintro e w1 ⟨r, rfl, hd, hx1⟩
  replace hd := Lib.hid hd
  go_wp2_with fail
  go_ret
  exact ⟨ret_bool hd.out, hx1⟩
end Go.Proofs.YtadncjpknckaaaaGreatDoor
namespace Go.Proofs.YtadncjpknckaaaaGreatDoor
open Go.RowKit
/-! ### Check -/
def lawOkB (L : HL) : Bool := nameB L.name && (chkB L.left && (chkB L.right && (decide (L.ifs.length ≤ 4) && (decide (L.outs.length ≤ 6) && (decide (L.ifs.length + L.outs.length ≠ 0) && ((decide (1 ≤ L.mode) && decide (L.mode ≤ 3)) && ((!L.ifs.any fun y => !y.ok) && !L.outs.any fun y => !fitsB L.ifs.length y)))))))
def lawE (L : HL) : Int := if lawOkB L then 0 else 17
set_option maxHeartbeats 2000000 in
set_option maxRecDepth 20000 in
theorem lcheck_any (L : HL) (w : World) (hL : RdLw w L) : Calls Tryz.prog 38 #[lawV L] w fun e w' => e = .returned (.int .i64 (lawE L)) ∧ Ext w w' := by
  have hB : LawB ((w.alloc (.cells #[.string L.name, .int .i64 L.left.kind, .int .u32 L.left.is.p.toNat, .int .u32 L.left.is.m.toNat, .bool L.left.neg, .int .i64 L.left.mn, .int .i64 L.left.mx, .slice L.left.a L.left.n L.left.cap, .int .i64 L.right.kind, .int .u32 L.right.is.p.toNat, .int .u32 L.right.is.m.toNat, .bool L.right.neg, .int .i64 L.right.mn, .int .i64 L.right.mx, .slice L.right.a L.right.n L.right.cap, .slice L.ia L.ifs.length L.icap, .slice L.oa L.outs.length L.ocap, .int .i64 L.mode] 58)).alloc (.cells #[.int .i64 (L.ifs.length : Int)] 3)) w.heap.size L := (LawB.new w L).ext (Ext.alloc1 _ _)
  have hX : Ext w ((w.alloc (.cells #[.string L.name, .int .i64 L.left.kind, .int .u32 L.left.is.p.toNat, .int .u32 L.left.is.m.toNat, .bool L.left.neg, .int .i64 L.left.mn, .int .i64 L.left.mx, .slice L.left.a L.left.n L.left.cap, .int .i64 L.right.kind, .int .u32 L.right.is.p.toNat, .int .u32 L.right.is.m.toNat, .bool L.right.neg, .int .i64 L.right.mn, .int .i64 L.right.mx, .slice L.right.a L.right.n L.right.cap, .slice L.ia L.ifs.length L.icap, .slice L.oa L.outs.length L.ocap, .int .i64 L.mode] 58)).alloc (.cells #[.int .i64 (L.ifs.length : Int)] 3)) := (by repeat (first | exact Ext.refl _ | refine Ext.drew ?_ | refine Ext.drewN ?_ _ | refine Ext.alloc ?_ _))
  have hk : ((w.alloc (.cells #[.string L.name, .int .i64 L.left.kind, .int .u32 L.left.is.p.toNat, .int .u32 L.left.is.m.toNat, .bool L.left.neg, .int .i64 L.left.mn, .int .i64 L.left.mx, .slice L.left.a L.left.n L.left.cap, .int .i64 L.right.kind, .int .u32 L.right.is.p.toNat, .int .u32 L.right.is.m.toNat, .bool L.right.neg, .int .i64 L.right.mn, .int .i64 L.right.mx, .slice L.right.a L.right.n L.right.cap, .slice L.ia L.ifs.length L.icap, .slice L.oa L.outs.length L.ocap, .int .i64 L.mode] 58)).alloc (.cells #[.int .i64 (L.ifs.length : Int)] 3)).cell? ⟨w.heap.size + 1, 0, none⟩ = some (.int .i64 (L.ifs.length : Int)) := by
    have h := Boxed.new (w.alloc (.cells #[.string L.name, .int .i64 L.left.kind, .int .u32 L.left.is.p.toNat, .int .u32 L.left.is.m.toNat, .bool L.left.neg, .int .i64 L.left.mn, .int .i64 L.left.mx, .slice L.left.a L.left.n L.left.cap, .int .i64 L.right.kind, .int .u32 L.right.is.p.toNat, .int .u32 L.right.is.m.toNat, .bool L.right.neg, .int .i64 L.right.mn, .int .i64 L.right.mx, .slice L.right.a L.right.n L.right.cap, .slice L.ia L.ifs.length L.icap, .slice L.oa L.outs.length L.ocap, .int .i64 L.mode] 58)) 3 (.int .i64 (L.ifs.length : Int))
    rw [World.size_alloc] at h
    exact h.cell
  obtain ⟨d0, d1, d2, d3⟩ := hB.c
  clear d1 d2 d3
  obtain ⟨b1, hb1⟩ : ∃ b, b = w.heap.size := ⟨_, rfl⟩
  obtain ⟨b2, hb2⟩ : ∃ b, b = w.heap.size + 1 := ⟨_, rfl⟩
  rw [← hb2] at hk
  rw [← hb1] at hB d0
  have hrl := hL.left.ext hX
  have hrr := hL.right.ext hX
  have hri := hL.ifs.ext hX
  have hro := hL.outs.ext hX
  have hmax1 : L.ifs.length ≤ 9223372036854775807 := by have := hri.le; have := hri.most; unfold maxLen at this; omega
  have hmax2 : L.outs.length ≤ 9223372036854775807 := by have := hro.le; have := hro.most; unfold maxLen at this; omega
  go_enter Tryz.func38, Tryz.ntmps38
  go_wp2_with fail
  rw [← hb2]
  rw [← hb1]
  replace hb1 := Lib.hid hb1
  replace hb2 := Lib.hid hb2
  generalize ((w.alloc (.cells #[.string L.name, .int .i64 L.left.kind, .int .u32 L.left.is.p.toNat, .int .u32 L.left.is.m.toNat, .bool L.left.neg, .int .i64 L.left.mn, .int .i64 L.left.mx, .slice L.left.a L.left.n L.left.cap, .int .i64 L.right.kind, .int .u32 L.right.is.p.toNat, .int .u32 L.right.is.m.toNat, .bool L.right.neg, .int .i64 L.right.mn, .int .i64 L.right.mx, .slice L.right.a L.right.n L.right.cap, .slice L.ia L.ifs.length L.icap, .slice L.oa L.outs.length L.ocap, .int .i64 L.mode] 58)).alloc (.cells #[.int .i64 (L.ifs.length : Int)] 3)) = w1 at *
  cases h1 : nameB L.name
  · have hF : lawE L = 17 := by simp [lawE, lawOkB, h1]
    replace hF := Lib.hid hF
    refine (cbool (named2_any L.name w1) h1).mono ?_
    rintro e w2 ⟨rfl, hx2⟩
    replace hX := hX.trans hx2
    clear d0
    go_wp2_with fail
    go_ret
    exact ⟨by rw [hF.out]; rfl, hX⟩
  refine (cbool (named2_any L.name w1) h1).mono ?_
  rintro e w2 ⟨rfl, hx2⟩
  replace hX := hX.trans hx2
  replace hB := hB.ext hx2
  replace hk := hx2.cellv hk
  replace hrl := hrl.ext hx2
  replace hrr := hrr.ext hx2
  replace hri := hri.ext hx2
  replace hro := hro.ext hx2
  clear hx2
  obtain ⟨l0, l1, l2, l3, l4, l5, l6⟩ := hB.cl
  clear d0
  go_wp2_with fail
  refine (check_full L.left w2 hrl).mono ?_
  rintro e w3 ⟨r, rfl, hr0, hx2⟩
  replace hX := hX.trans hx2
  replace hB := hB.ext hx2
  replace hk := hx2.cellv hk
  replace hrl := hrl.ext hx2
  replace hrr := hrr.ext hx2
  replace hri := hri.ext hx2
  replace hro := hro.ext hx2
  clear hx2
  clear l0 l1 l2 l3 l4 l5 l6
  rcases Decidable.em (r = 0) with h2 | h2
  rotate_left
  · have hc : chkB L.left = false := by rw [Bool.eq_false_iff]; exact fun h => h2 (hr0.2 h)
    have hF : lawE L = 17 := by simp [lawE, lawOkB, hc]
    replace hF := Lib.hid hF
    have dr : (r == 0) = false := by simpa using h2
    replace hr0 := Lib.hid hr0
    replace h2 := Lib.hid h2
    go_wp2_with fail
    go_ret
    exact ⟨by rw [hF.out]; rfl, hX⟩
  have hc2 := hr0.1 h2
  subst h2
  clear hr0
  obtain ⟨l0, l1, l2, l3, l4, l5, l6⟩ := hB.cr
  go_wp2_with fail
  refine (check_full L.right w3 hrr).mono ?_
  rintro e w4 ⟨r, rfl, hr0, hx2⟩
  replace hX := hX.trans hx2
  replace hB := hB.ext hx2
  replace hk := hx2.cellv hk
  replace hrl := hrl.ext hx2
  replace hrr := hrr.ext hx2
  replace hri := hri.ext hx2
  replace hro := hro.ext hx2
  clear hx2
  clear l0 l1 l2 l3 l4 l5 l6
  rcases Decidable.em (r = 0) with h2 | h2
  rotate_left
  · have hc : chkB L.right = false := by rw [Bool.eq_false_iff]; exact fun h => h2 (hr0.2 h)
    have hF : lawE L = 17 := by simp [lawE, lawOkB, hc]
    replace hF := Lib.hid hF
    have dr : (r == 0) = false := by simpa using h2
    replace hr0 := Lib.hid hr0
    replace h2 := Lib.hid h2
    go_wp2_with fail
    go_ret
    exact ⟨by rw [hF.out]; rfl, hX⟩
  have hc3 := hr0.1 h2
  subst h2
  clear hr0
  rcases Nat.lt_or_ge 4 L.ifs.length with h3 | h3
  · have g3 : ¬ L.ifs.length ≤ 4 := by omega
    have hF : lawE L = 17 := by simp [lawE, lawOkB, g3]
    replace hF := Lib.hid hF
    have g4 : (4 : Int) < (L.ifs.length : Int) := by omega
    replace h3 := Lib.hid h3
    replace g3 := Lib.hid g3
    go_wp2_with fail
    go_ret
    exact ⟨by rw [hF.out]; rfl, hX⟩
  have g4 : ¬ (4 : Int) < (L.ifs.length : Int) := by omega
  obtain ⟨d0, d1, d2, d3⟩ := hB.c
  clear d0
  rcases Nat.lt_or_ge 6 L.outs.length with h5 | h5
  · have g3 : ¬ L.outs.length ≤ 6 := by omega
    have hF : lawE L = 17 := by simp [lawE, lawOkB, g3]
    replace hF := Lib.hid hF
    have g5 : (6 : Int) < (L.outs.length : Int) := by omega
    replace h3 := Lib.hid h3
    replace h5 := Lib.hid h5
    replace g3 := Lib.hid g3
    go_wp2_with fail
    go_ret
    exact ⟨by rw [hF.out]; rfl, hX⟩
  have g5 : ¬ (6 : Int) < (L.outs.length : Int) := by omega
  rcases Decidable.em (L.ifs.length + L.outs.length = 0) with h6 | h6
  · have hF : lawE L = 17 := by simp [lawE, lawOkB, h6]
    replace hF := Lib.hid hF
    have e6 : ((L.ifs.length : Int) + (L.outs.length : Int) == 0) = true := by simp; omega
    have e6' : (L.ifs.length : Int) + (L.outs.length : Int) = 0 := by omega
    replace h3 := Lib.hid h3
    replace h5 := Lib.hid h5
    replace h6 := Lib.hid h6
    go_wp2_with fail
    go_ret
    exact ⟨by rw [hF.out]; rfl, hX⟩
  have e6 : ((L.ifs.length : Int) + (L.outs.length : Int) == 0) = false := by simp; omega
  have e6' : ¬ (L.ifs.length : Int) + (L.outs.length : Int) = 0 := by omega
  have p3 : L.ifs.length ≤ 4 := by omega
  have p5 : L.outs.length ≤ 6 := by omega
  replace h3 := Lib.hid h3
  replace h5 := Lib.hid h5
  replace h6 := Lib.hid h6
  rcases Int.lt_or_le L.mode 1 with h7 | h7
  · have g7 : ¬ 1 ≤ L.mode := by omega
    have hF : lawE L = 17 := by simp [lawE, lawOkB, g7]
    replace hF := Lib.hid hF
    replace g7 := Lib.hid g7
    go_wp2_with fail
    go_ret
    exact ⟨by rw [hF.out]; rfl, hX⟩
  have g7 : ¬ L.mode < 1 := by omega
  rcases Int.lt_or_le 3 L.mode with h8 | h8
  · have g8 : ¬ L.mode ≤ 3 := by omega
    have hF : lawE L = 17 := by simp [lawE, lawOkB, g8]
    replace hF := Lib.hid hF
    replace g8 := Lib.hid g8
    replace h7 := Lib.hid h7
    go_wp2_with fail
    go_ret
    exact ⟨by rw [hF.out]; rfl, hX⟩
  have g8 : ¬ 3 < L.mode := by omega
  have h7' := Lib.hid h7
  have h8' := Lib.hid h8
  clear h7 h8
  go_wp2_with fail
  cases h9 : L.ifs.any fun y => !y.ok
  rotate_left
  · have hF : lawE L = 17 := by simp [lawE, lawOkB, h9]
    replace hF := Lib.hid hF
    refine (cbool (containsL_any L.ia L.ifs.length L.icap L.ifs w4 hri) h9).mono ?_
    rintro e w5 ⟨rfl, hx2⟩
    replace hX := hX.trans hx2
    go_wp2_with fail
    go_ret
    exact ⟨by rw [hF.out]; rfl, hX⟩
  refine (cbool (containsL_any L.ia L.ifs.length L.icap L.ifs w4 hri) h9).mono ?_
  rintro e w5 ⟨rfl, hx2⟩
  clear d1 d2 d3
  replace hX := hX.trans hx2
  replace hB := hB.ext hx2
  replace hk := hx2.cellv hk
  replace hrl := hrl.ext hx2
  replace hrr := hrr.ext hx2
  replace hri := hri.ext hx2
  replace hro := hro.ext hx2
  clear hx2
  obtain ⟨d0, d1, d2, d3⟩ := hB.c
  clear d0 d1 d3
  go_wp2_with fail
  cases h10 : L.outs.any fun y => !fitsB L.ifs.length y
  rotate_left
  · have hF : lawE L = 17 := by simp [lawE, lawOkB, h10]
    replace hF := Lib.hid hF
    refine (cbool (containsO_any L.oa L.outs.length L.ocap L.outs L.ifs.length b2 w5 hro hk) h10).mono ?_
    rintro e w6 ⟨rfl, hx2⟩
    replace hX := hX.trans hx2
    go_wp2_with fail
    go_ret
    exact ⟨by rw [hF.out]; rfl, hX⟩
  have hF : lawE L = 0 := by
    have e1 : L.ifs.length + L.outs.length ≠ 0 := h6.out
    simp only [lawE, lawOkB, h1, hc2, hc3, p3, p5, h7'.out, h8'.out, h9, h10, decide_true, Bool.true_and, Bool.not_false, ne_eq, e1, not_false_eq_true, if_true]
  replace hF := Lib.hid hF
  refine (cbool (containsO_any L.oa L.outs.length L.ocap L.outs L.ifs.length b2 w5 hro hk) h10).mono ?_
  rintro e w6 ⟨rfl, hx2⟩
  replace hX := hX.trans hx2
  go_wp2_with fail
  go_ret
  exact ⟨by rw [hF.out]; rfl, hX⟩
theorem lawE_zero {L : HL} : lawE L = 0 ↔ lawOkB L = true := by
  unfold lawE
  cases lawOkB L <;> simp
/-- The parts of a valid law. -/
theorem lawOk_parts {L : HL} (h : lawOkB L = true) : chkB L.left = true ∧ chkB L.right = true ∧ L.ifs.length ≤ 4 ∧ L.outs.length ≤ 6 ∧ L.ifs.length + L.outs.length ≠ 0 ∧ 1 ≤ L.mode ∧ L.mode ≤ 3 ∧ ∀ y ∈ L.outs, fitsB L.ifs.length y = true := by
  simp only [lawOkB, Bool.and_eq_true, decide_eq_true_eq, Bool.not_eq_true'] at h
  obtain ⟨_, h1, h2, h3, h4, h5, ⟨h6, h7⟩, h8, h9⟩ := h
  refine ⟨h1, h2, h3, h4, h5, h6, h7, fun y hy => ?_⟩
  have := List.any_eq_false.1 h9 y hy
  simpa using this
theorem fits_out {k : Nat} {x : Ou} (h : fitsB k x = true) : OutOk k x := by
  simp only [fitsB, Bool.and_eq_true, decide_eq_true_eq] at h
  obtain ⟨h1, h2, _, _, _, _, h7⟩ := h
  refine ⟨h2, fun ht => ?_⟩
  rw [if_neg ht] at h7
  simpa using h7
end Go.Proofs.YtadncjpknckaaaaGreatDoor
