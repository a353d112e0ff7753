/-
  Layer 1 of the reference: put, Meet, Diff, With; With of the program.
-/
import Derived.Test.YtbnbfdbliokcaaaDoorJd
namespace Go.Proofs.YtbnbfdbliokcaaaDoor
open Go.RowKit
/-- A feature's bit. -/
def bt (f : Nat) : BitVec 32 := 1#32 <<< f
theorem bt_nat {f : Nat} (_hf : f < 24) : (2 : Int) ^ f % 4294967296 = ((bt f).toNat : Int) := by
  have h : (bt f).toNat = 2 ^ f % 4294967296 := by unfold bt; rw [BitVec.toNat_shiftLeft]; simp [Nat.shiftLeft_eq]
  rw [h]
  have h2 : ((2 ^ f : Nat) : Int) = (2 : Int) ^ f := by simp
  omega
theorem bt_bit (f i : Nat) (hi : i < 32) (hf : f < 32) : (bt f).getLsbD i = decide (i = f) := by
  unfold bt
  rw [BitVec.getLsbD_shiftLeft]
  by_cases e : i = f
  · subst e; simp [hi]
  · simp only [hi, e, decide_true, decide_false, Bool.true_and]
    by_cases h : i < f
    · simp [h]
    · simp only [h, decide_false, Bool.not_false, Bool.true_and]
      rw [BitVec.getLsbD_one]
      simp; omega
/-- A sound with another value of a feature. -/
def putS (s : Snd) (f : Nat) (v : Int) : Snd := ⟨(s.p &&& ~~~bt f) ||| (if v = 1 then bt f else 0#32), (s.m &&& ~~~bt f) ||| (if v = -1 then bt f else 0#32)⟩
theorem snd_mid (w : World) (c0 c2 : Obj) (S : Snd) : SndB (((w.alloc c0).alloc (.cells #[.int .u32 S.p.toNat, .int .u32 S.m.toNat] 27)).alloc c2) (w.heap.size + 1) S := by
  have := (SndB.new (w.alloc c0) S).ext (Ext.alloc1 _ c2)
  rwa [World.size_alloc] at this
theorem snd_top (w : World) (c0 c1 : Obj) (S : Snd) : SndB (((w.alloc c0).alloc c1).alloc (.cells #[.int .u32 S.p.toNat, .int .u32 S.m.toNat] 27)) (w.heap.size + 1 + 1) S := by
  have := SndB.new ((w.alloc c0).alloc c1) S
  rwa [World.size_alloc, World.size_alloc] at this
theorem or_nat (x y : BitVec 32) : bits .or .u32 (x.toNat : Int) (y.toNat : Int) = (((x ||| y).toNat : Nat) : Int) := bits_or_u32 x y
set_option maxHeartbeats 1000000 in
theorem put_any (s : Snd) (f : Nat) (v : Int) (w : World) (hf : f < 24) (hv : v = 0 ∨ v = 1 ∨ v = -1) :
    Calls Tryd.prog 80 #[sndV s, .int .i64 f, .int .i64 v] w fun e w' => e = .returned (sndV (putS s f v)) ∧ Ext w w' := by
  have hb := bt_nat hf
  unfold putS
  generalize bt f = b at *
  rcases hv with rfl | rfl | rfl
  all_goals
    go_enter Tryd.func80, Tryd.ntmps80
    go_wp2_with fail
    simp only [andn_nat, or_nat]
    refine bodyPost_ret (ret_snd rfl _ _ (w.heap.size + 1) _ rfl (snd_mid _ _ _ ⟨_, _⟩)) rfl ⟨?_, (by repeat (first | exact Ext.refl _ | assumption | refine Ext.drew ?_ | refine Ext.drewN ?_ _ | refine Ext.alloc ?_ _ | refine Ext.trans ?_ (by assumption)))⟩
    simp
theorem and_nat (y z : BitVec 32) : y.toNat &&& z.toNat = (y &&& z).toNat := (BitVec.toNat_and ..).symm
theorem mix_any (s t : Snd) (x : BitVec 32) (w : World) :
    Calls Tryd.prog 72 #[sndV s, sndV t, .int .u32 x.toNat] w fun e w' => e = .returned (sndV ⟨(s.p &&& ~~~x) ||| (t.p &&& x), (s.m &&& ~~~x) ||| (t.m &&& x)⟩) ∧ Ext w w' := by
  go_enter Tryd.func72, Tryd.ntmps72
  go_wp2_with fail
  simp only [andn_nat, and_nat, or_nat]
  exact bodyPost_ret (ret_snd rfl _ _ (w.heap.size + 1 + 1) _ rfl (snd_top _ _ _ ⟨_, _⟩)) rfl ⟨rfl, (by repeat (first | exact Ext.refl _ | assumption | refine Ext.drew ?_ | refine Ext.drewN ?_ _ | refine Ext.alloc ?_ _ | refine Ext.trans ?_ (by assumption)))⟩
end Go.Proofs.YtbnbfdbliokcaaaDoor
