/-
  Layer 1 of the reference: Satisfies, put, Meet, Diff, With; With of the program.
-/
import Derived.Test.YtbnbfdbliokcaaaDoorJc
namespace Go.Proofs.YtbnbfdbliokcaaaDoor
open Go.RowKit
/-! ### Bits -/
theorem andn_iff (x y : BitVec 32) : (x &&& ~~~y == 0#32) = true ↔ ∀ i, i < 32 → x.getLsbD i = true → y.getLsbD i = true := by
  rw [beq_iff_eq]
  constructor
  · intro h i hi hx
    have := congrArg (fun z : BitVec 32 => z.getLsbD i) h
    simp only [BitVec.getLsbD_and, BitVec.getLsbD_not, hx, Bool.true_and] at this
    simpa [hi] using this
  · intro h
    refine BitVec.eq_of_getLsbD_eq fun i hi => ?_
    have h1 := h i hi
    cases hx : x.getLsbD i
    · simp [hx]
    · simp [hx, h1 hx]
theorem ok_bits {s : Snd} (h : s.ok = true) {i : Nat} (hi : i < 32) : ¬ (s.p.getLsbD i = true ∧ s.m.getLsbD i = true) ∧ (s.p.getLsbD i = true ∨ s.m.getLsbD i = true → i < 24) := by
  have h1 := (ok_iff_feats s).1 h i hi
  unfold featOk at h1
  revert h1
  cases s.p.getLsbD i <;> cases s.m.getLsbD i <;> simp
theorem getS_pos {s : Snd} {f : Nat} : getS s f = 1 ↔ s.p.getLsbD f = true := by
  unfold getS
  cases s.p.getLsbD f <;> cases s.m.getLsbD f <;> simp
theorem getS_neg {s : Snd} {f : Nat} (h : s.ok = true) (hf : f < 32) : getS s f = -1 ↔ s.m.getLsbD f = true := by
  have := (ok_bits h hf).1
  unfold getS
  revert this
  cases s.p.getLsbD f <;> cases s.m.getLsbD f <;> simp
theorem getS_range (s : Snd) (f : Nat) : getS s f = 0 ∨ getS s f = 1 ∨ getS s f = -1 := by
  unfold getS
  cases s.p.getLsbD f <;> cases s.m.getLsbD f <;> simp
theorem sat_iff {s c : Snd} (hs : s.ok = true) (hc : c.ok = true) : satB s c = true ↔ ∀ f, f < 24 → getS c f = 0 ∨ getS s f = getS c f := by
  unfold satB
  rw [Bool.and_eq_true, andn_iff, andn_iff]
  constructor
  · rintro ⟨h1, h2⟩ f hf
    rcases getS_range c f with h | h | h
    · exact .inl h
    · refine .inr ?_
      rw [h]; exact getS_pos.2 (h1 f (by omega) (getS_pos.1 h))
    · refine .inr ?_
      rw [h]; exact (getS_neg hs (by omega)).2 (h2 f (by omega) ((getS_neg hc (by omega)).1 h))
  · intro h
    refine ⟨fun i hi hp => ?_, fun i hi hm => ?_⟩
    · have hi24 := (ok_bits hc hi).2 (.inl hp)
      have h1 := getS_pos.2 hp
      rcases h i hi24 with h2 | h2
      · rw [h1] at h2; cases h2
      · rw [h1] at h2; exact getS_pos.1 h2
    · have hi24 := (ok_bits hc hi).2 (.inr hm)
      have h1 := (getS_neg hc hi).2 hm
      rcases h i hi24 with h2 | h2
      · rw [h1] at h2; cases h2
      · rw [h1] at h2; exact (getS_neg hs hi).1 h2
/-! ### Satisfies of the reference -/
theorem getV_any (s : Snd) (f : Nat) (hs : s.ok = true) (hf : f < 24) (w : World) :
    Calls Tryd.prog 64 #[sndV s, .int .i64 f] w fun e w' => e = .returned (.int .i64 (getS s f)) ∧ Ext w w' := get_any s f hs hf w
set_option maxHeartbeats 1000000 in
theorem rsat_any (s c : Snd) (w : World) (hs : s.ok = true) (hc : c.ok = true) :
    Calls Tryd.prog 75 #[sndV s, sndV c] w fun e w' => e = .returned (.bool (satB s c)) ∧ Ext w w' := by
  have hiff := sat_iff hs hc
  have q0 : SndB ((w.alloc (.cells #[.int .u32 s.p.toNat, .int .u32 s.m.toNat] 27)).alloc (.cells #[.int .u32 c.p.toNat, .int .u32 c.m.toNat] 27)) w.heap.size s := (SndB.new w s).ext (Ext.alloc1 _ _)
  have q1 : SndB ((w.alloc (.cells #[.int .u32 s.p.toNat, .int .u32 s.m.toNat] 27)).alloc (.cells #[.int .u32 c.p.toNat, .int .u32 c.m.toNat] 27)) (w.heap.size + 1) c := by
    have := SndB.new (w.alloc (.cells #[.int .u32 s.p.toNat, .int .u32 s.m.toNat] 27)) c
    rwa [World.size_alloc] at this
  have hxB : Ext w ((w.alloc (.cells #[.int .u32 s.p.toNat, .int .u32 s.m.toNat] 27)).alloc (.cells #[.int .u32 c.p.toNat, .int .u32 c.m.toNat] 27)) := (by repeat (first | exact Ext.refl _ | refine Ext.drew ?_ | refine Ext.drewN ?_ _ | refine Ext.alloc ?_ _))
  replace hiff := Lib.hid hiff
  go_enter Tryd.func75, Tryd.ntmps75
  go_wp2_with fail
  generalize ((w.alloc (.cells #[.int .u32 s.p.toNat, .int .u32 s.m.toNat] 27)).alloc (.cells #[.int .u32 c.p.toNat, .int .u32 c.m.toNat] 27)) = wB at *
  refine (cbool (rvalid1_any s _) hs).mono ?_
  rintro e w1 ⟨rfl, hx1⟩
  obtain ⟨c0, c1⟩ := (q1.ext hx1).cells
  go_wp2_with fail
  refine (cbool (rvalid1_any c _) hc).mono ?_
  rintro e w2 ⟨rfl, hx2⟩
  have hx := hx1.trans hx2
  have q0 := q0.ext hx
  have q1 := q1.ext hx
  have hxw := hxB.trans hx
  clear hx hx1 hx2 c0 c1 hxB
  go_wp2_with fail
  go_loopw [5] (fun i wr => ∃ k : Nat, k ≤ 24 ∧ i = .int .i64 k ∧ Hid (∀ f, f < k → getS c f = 0 ∨ getS s f = getS c f) ∧ Ext w2 wr) (fun i _ => 24 - (intOf i).toNat)
  case atStart => exact ⟨0, Nat.zero_le _, rfl, Lib.hid (fun f h => absurd h (Nat.not_lt_zero _)), Ext.refl _⟩
  case round =>
    obtain ⟨k, hk, rfl, hall, hxr⟩ := hrel
    have q0 := q0.ext hxr
    have q1 := q1.ext hxr
    obtain ⟨c0, c1⟩ := q1.cells
    by_cases hlt : k < 24
    · have hki : (k : Int) < 24 := by omega
      have hg1 := getV_any c k hc hlt wr
      have hgr := getS_range c k
      have hgr2 := getS_range s k
      by_cases h0 : getS c k = 0
      · have d0 : (getS c k != 0) = false := by simpa using h0
        have hall2 : Hid (∀ f, f < k + 1 → getS c f = 0 ∨ getS s f = getS c f) := Lib.hid fun f hf => by
          by_cases e : f = k
          · subst e; exact .inl h0
          · exact hall.out f (by omega)
        rw [h0] at hg1
        replace h0 := Lib.hid h0
        clear hgr hgr2 d0
        go_wp2_with fail
        refine hg1.mono ?_
        rintro e w3 ⟨rfl, hx3⟩
        clear hg1
        go_wp2_with fail
        (first | exact ⟨⟨k + 1, by omega, by go_num, hall2, hxr.trans hx3⟩, (by simp [intOf]; omega)⟩ | (go_roundw; case rel => exact ⟨k + 1, by omega, by go_num, hall2, hxr.trans hx3⟩; case measure => exact (by simp [intOf]; omega)))
      · have d0 : (getS c k != 0) = true := by simpa using h0
        have hg2 := fun W => getV_any s k hs hlt W
        by_cases h1 : getS s k = getS c k
        · have d1 : (getS s k != getS c k) = false := by simpa using h1
          have hall2 : Hid (∀ f, f < k + 1 → getS c f = 0 ∨ getS s f = getS c f) := Lib.hid fun f hf => by
            by_cases e : f = k
            · subst e; exact .inr h1
            · exact hall.out f (by omega)
          generalize getS c k = A at *
          generalize getS s k = B at *
          replace h0 := Lib.hid h0
          replace h1 := Lib.hid h1
          clear hgr hgr2
          go_wp2_with fail
          refine hg1.mono ?_
          rintro e w3 ⟨rfl, hx3⟩
          obtain ⟨c2, c3⟩ := (q0.ext hx3).cells
          clear hg1
          go_wp2_with fail
          refine (hg2 _).mono ?_
          rintro e w4 ⟨rfl, hx4⟩
          clear hg2
          go_wp2_with fail
          (first | exact ⟨⟨k + 1, by omega, by go_num, hall2, (hxr.trans hx3).trans hx4⟩, (by simp [intOf]; omega)⟩ | (go_roundw; case rel => exact ⟨k + 1, by omega, by go_num, hall2, (hxr.trans hx3).trans hx4⟩; case measure => exact (by simp [intOf]; omega)))
        · have d1 : (getS s k != getS c k) = true := by simpa using h1
          have hno : satB s c = false := by
            rw [Bool.eq_false_iff]
            intro h
            rcases hiff.out.1 h k hlt with h2 | h2
            · exact h0 h2
            · exact h1 h2
          generalize getS c k = A at *
          generalize getS s k = B at *
          replace h0 := Lib.hid h0
          replace h1 := Lib.hid h1
          replace hno := Lib.hid hno
          clear hgr hgr2
          go_wp2_with fail
          refine hg1.mono ?_
          rintro e w3 ⟨rfl, hx3⟩
          obtain ⟨c2, c3⟩ := (q0.ext hx3).cells
          clear hg1
          go_wp2_with fail
          refine (hg2 _).mono ?_
          rintro e w4 ⟨rfl, hx4⟩
          clear hg2
          go_wp2_with fail
          go_ret
          exact ⟨ret_bool hno.out.symm, ((hxw.trans hxr).trans hx3).trans hx4⟩
    · have hyes : satB s c = true := hiff.out.2 fun f hf => hall.out f (by omega)
      replace hyes := Lib.hid hyes
      go_wp2_with fail
      go_ret
      exact ⟨ret_bool hyes.out.symm, hxw.trans hxr⟩
end Go.Proofs.YtbnbfdbliokcaaaDoor
