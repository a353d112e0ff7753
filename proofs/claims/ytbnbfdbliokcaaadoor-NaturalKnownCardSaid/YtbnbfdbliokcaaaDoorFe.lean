/-
  Layer 1: the lowest feature of a set (math/bits.TrailingZeros32 by its table); Diff, Get of the reference (cut from Fc and Fd: no iterator, no costs).
-/
import Derived.Test.YtbnbfdbliokcaaaDoorFv
import Derived.Lib.TrailingZeros
namespace Go.Proofs.YtbnbfdbliokcaaaDoor
open Go.RowKit
/-- The table of math/bits as its initialiser lays it. -/
def TabOk (w : World) : Prop := ∀ j, j < 32 → w.cell? ⟨0, j, none⟩ = some (.int .u8 (Lib.deBruijn32tab.getD j 0 : Nat))
theorem TabOk.ext {w w' : World} (h : TabOk w) (hx : Ext w w') : TabOk w' := fun j hj => by rw [hx.cell j (cell_lt (h j hj))]; exact h j hj
theorem tz_key (x : BitVec 32) {a : Nat} (hx0 : x.toNat ≠ 0) (hlow : x.toNat &&& (4294967296 - x.toNat) = a) :
    bits .and .u32 (x.toNat : Int) (-(x.toNat : Int) % 4294967296) * 125613361 % 4294967296 / 134217728 = ((a * 125613361 % 4294967296 / 134217728 : Nat) : Int) := by
  have hx := x.isLt
  have e1 : -(x.toNat : Int) % 4294967296 = ((-x).toNat : Int) := by rw [BitVec.toNat_neg]; omega
  have e2 : (x &&& -x).toNat = a := by
    rw [BitVec.toNat_and, BitVec.toNat_neg, ← hlow]; congr 1; omega
  rw [e1, bits_and_u32, e2]
  omega
set_option maxHeartbeats 1000000 in
theorem tz_core (x k idx : Nat) (w : World) (hx0 : ((x : Int) == 0) = false) (key : bits BinOp.and IntKind.u32 (x : Int) (-(x : Int) % 4294967296) * 125613361 % 4294967296 / 134217728 = (idx : Int))
    (hi : idx < 32) (_hk : k < 32) (hcell : w.cell? ⟨0, idx, none⟩ = some (.int .u8 k)) : Calls Tryd.prog 61 #[.int .u32 x] w fun e w' => e = .returned (.int .i64 k) ∧ w' = w := by
  go_enter Tryd.func61, Tryd.ntmps61
  go_wp2_with (simp only [key])
  go_ret
  exact ⟨rfl, rfl⟩
theorem tz_any (x : BitVec 32) (hx0 : x.toNat ≠ 0) (w : World) (hT : TabOk w) :
    Calls Tryd.prog 61 #[.int .u32 x.toNat] w fun e w' => e = .returned (.int .i64 (Lib.ctz 32 x.toNat : Nat)) ∧ w' = w := by
  obtain ⟨hlow, hk⟩ := Lib.lowest_bit 32 x.toNat hx0 x.isLt
  obtain ⟨hi, htab⟩ := Lib.deBruijn32_at _ hk
  have hcell := hT _ hi
  rw [htab] at hcell
  have hlow' : x.toNat &&& (4294967296 - x.toNat) = 2 ^ Lib.ctz 32 x.toNat := by simpa using hlow
  exact tz_core x.toNat _ _ w (by simp; omega) (tz_key x hx0 hlow') hi hk hcell
/-! ### Diff, Get -/
def diffS (a b : Snd) : BitVec 32 := (a.p ^^^ b.p) ||| (a.m ^^^ b.m)
theorem diff_any (a b : Snd) (w : World) (ha : a.ok = true) (hb : b.ok = true) :
    Calls Tryd.prog 32 #[.agg #[.int .u32 a.p.toNat, .int .u32 a.m.toNat], .agg #[.int .u32 b.p.toNat, .int .u32 b.m.toNat]] w fun e w' => e = .returned (.int .u32 (diffS a b).toNat) ∧ Ext w w' := by
  go_enter Tryd.func32, Tryd.ntmps32
  go_wp2_with fail
  refine (cbool (fvalid_any a _) ha).mono ?_
  rintro e w1 ⟨rfl, hx1⟩
  have hcl1 := fun b o (h : b < _) => Ext.cell hx1 (b := b) o h
  go_wp2_with fail
  refine (cbool (fvalid_any b _) hb).mono ?_
  rintro e w1 ⟨rfl, hx2⟩
  replace hx1 := Ext.trans hx1 (Ext.trans (by repeat (first | exact Ext.refl _ | refine Ext.drew ?_ | refine Ext.drewN ?_ _ | refine Ext.alloc ?_ _)) hx2)
  replace hcl1 := fun b o (h : b < _) => Ext.cell hx1 (b := b) o h
  clear hx2
  go_wp2_with fail
  go_ret
  exact ⟨ret_int (by have := bits_or_u32 (a.p ^^^ b.p) (a.m ^^^ b.m); simpa [diffS] using this), (by repeat (first | exact Ext.refl _ | assumption | refine Ext.drew ?_ | refine Ext.drewN ?_ _ | refine Ext.alloc ?_ _ | refine Ext.trans ?_ (by assumption)))⟩
theorem feature_any (f : Nat) (hf : f < 24) (w : World) : Calls Tryd.prog 79 #[.int .i64 f] w fun e w' => e = .returned (.bool true) ∧ w' = w := by
  have hd : decide ((f : Int) < 24) = true := by simp; omega
  go_enter Tryd.func79, Tryd.ntmps79
  go_wp2
  go_ret
  exact ⟨rfl, rfl⟩
/-- The value of a feature. -/
def getS (s : Snd) (f : Nat) : Int := if s.p.getLsbD f then 1 else if s.m.getLsbD f then -1 else 0
theorem get_any (s : Snd) (f : Nat) (hs : s.ok = true) (hf : f < 24) (w : World) :
    Calls Tryd.prog 64 #[.agg #[.int .u32 s.p.toNat, .int .u32 s.m.toNat], .int .i64 f] w fun e w' => e = .returned (.int .i64 (getS s f)) ∧ Ext w w' := by
  cases hp : s.p.getLsbD f
  · cases hm : s.m.getLsbD f
    all_goals
      have hg : getS s f = if s.m.getLsbD f then -1 else 0 := by simp [getS, hp]
      rw [hm] at hg
      replace hg := Lib.hid hg
      have hp2 := shr_nil hp
      first | have hm2 := shr_nil hm | have hm2 := shr_one hm
      clear hp hm
      go_enter Tryd.func64, Tryd.ntmps64
      go_wp2_with fail
      refine (cbool (rvalid1_any s _) hs).mono ?_
      rintro e w1 ⟨rfl, hx1⟩
      have hcl1 := fun b o (h : b < _) => Ext.cell hx1 (b := b) o h
      go_wp2_with fail
      refine (feature_any f hf _).mono ?_
      rintro e w2 ⟨rfl, rfl⟩
      go_wp2_with fail
      go_ret
      exact ⟨ret_int hg.out.symm, (by repeat (first | exact Ext.refl _ | assumption | refine Ext.drew ?_ | refine Ext.drewN ?_ _ | refine Ext.alloc ?_ _ | refine Ext.trans ?_ (by assumption)))⟩
  · have hg : getS s f = 1 := by simp [getS, hp]
    replace hg := Lib.hid hg
    have hp2 := shr_one hp
    clear hp
    go_enter Tryd.func64, Tryd.ntmps64
    go_wp2_with fail
    refine (cbool (rvalid1_any s _) hs).mono ?_
    rintro e w1 ⟨rfl, hx1⟩
    have hcl1 := fun b o (h : b < _) => Ext.cell hx1 (b := b) o h
    go_wp2_with fail
    refine (feature_any f hf _).mono ?_
    rintro e w2 ⟨rfl, rfl⟩
    go_wp2_with fail
    go_ret
    exact ⟨ret_int hg.out.symm, (by repeat (first | exact Ext.refl _ | assumption | refine Ext.drew ?_ | refine Ext.drewN ?_ _ | refine Ext.alloc ?_ _ | refine Ext.trans ?_ (by assumption)))⟩
theorem get_ne {a b : Snd} (ha : a.ok = true) (hb : b.ok = true) {f : Nat} (hf : f < 24) : (getS a f != getS b f) = (diffS a b).getLsbD f := by
  have h1 := (ok_iff_feats a).1 ha f (by omega)
  have h2 := (ok_iff_feats b).1 hb f (by omega)
  have e : (diffS a b).getLsbD f = ((a.p.getLsbD f ^^ b.p.getLsbD f) || (a.m.getLsbD f ^^ b.m.getLsbD f)) := by simp [diffS]
  rw [e]
  simp only [featOk, getS] at *
  revert h1 h2
  generalize a.p.getLsbD f = x1
  generalize a.m.getLsbD f = x2
  generalize b.p.getLsbD f = x3
  generalize b.m.getLsbD f = x4
  cases x1 <;> cases x2 <;> cases x3 <;> cases x4 <;> simp
theorem get2 (p m : BitVec 32) (f : Nat) (hs : (Snd.mk p m).ok = true) (hf : f < 24) (w : World) :
    Calls Tryd.prog 64 #[.agg #[.int .u32 p.toNat, .int .u32 m.toNat], .int .i64 f] w fun e w' => e = .returned (.int .i64 (getS ⟨p, m⟩ f)) ∧ Ext w w' := get_any ⟨p, m⟩ f hs hf w
abbrev sndV (s : Snd) : Value := .agg #[.int .u32 s.p.toNat, .int .u32 s.m.toNat]
end Go.Proofs.YtbnbfdbliokcaaaDoor
