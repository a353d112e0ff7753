/-
  Walks of layer 2: Inside of the program; Common.
-/
import Derived.Test.YtphfnmmdfnfnaaaWg
namespace Go.Proofs.Ytphfnmmdfnfnaaa
open Go.RowKit
theorem eatW_yes0 {vs ys : List Snd} {k : Nat} {s : Snd} {r : List Snd} (h : r = eatW vs (ys.drop k)) (h1 : vs[0]? = some s) (h2 : ys[k]? = some s) {m : Nat} (hm : vs.length = m) : r = eatW ((vs.take m).drop 1) (ys.drop (k + 1)) := by
  rw [List.take_of_length_le (by omega)]
  have := eatW_yes (j := 0) (v := vs) (by simpa using h) h1 h2
  simpa using this
theorem eatW_no0 {vs ys : List Snd} {k : Nat} {s t : Snd} {r : List Snd} (h : r = eatW vs (ys.drop k)) (h1 : vs[0]? = some s) (h2 : ys[k]? = some t) (hst : s ≠ t) : r = eatW vs (ys.drop (k + 1)) := by
  have := eatW_no (j := 0) (v := vs) (by simpa using h) h1 h2 hst
  simpa using this
theorem eatW_done0 {vs ys : List Snd} {k : Nat} {r : List Snd} (h : r = eatW vs (ys.drop k)) (h1 : vs.length = 0) : r = eatW vs (ys.drop (k + 1)) := by
  have : vs = [] := List.eq_nil_of_length_eq_zero h1
  subst this; rw [h, eatW_nil, eatW_nil]
theorem insideW_end0 {v vs ys : List Snd} {k m : Nat} (h : eatW v ys = eatW vs (ys.drop k)) (hk : ys.length ≤ k) (hm : vs.length = m) : insideW v ys = decide (m = 0) := by
  rw [insideW, h, List.drop_of_length_le hk, eatW_end, Bool.eq_iff_iff]; simp only [decide_eq_true_eq, ← hm]; exact List.length_eq_zero_iff.symm
theorem run_sub_1 {P : Program} {t : TypeId} (ht : P.underlying t = some (.slice (P.elem t))) {k : Nat} (hs : ∀ w, (sizeOf (P.elem t)).run P w = .ok k w) (a : Option Addr) (len cap : Nat) (h2 : 1 ≤ len) (w : World) :
    (Instr.slice t (.slice a len cap) (some (.int .i64 1)) none none).run P w = .ok (.slice (subA k a cap 1) (len - 1) (cap - 1)) w := run_sub_l ht hs a len cap 1 h2 w
theorem inside_any (a a' : Option Addr) (m cap n cap' : Nat) (xs ys : List Snd) (w : World) (hr : RdS w a m cap xs) (hr' : RdS w a' n cap' ys) (hn : n ≤ 60000) (hm : m ≤ 60000) :
    Calls Try.prog 26 #[.slice a m cap, .slice a' n cap'] w fun e w' => e = .returned (.bool (insideW xs ys)) ∧ Ext w w' := by
  have he := eql_snd
  go_enter Try.func26, Try.ntmps26
  go_wp2_with fail
  go_loopw [0, 9] (fun v i wr => ∃ (k m0 cap0 : Nat) (a0 : Option Addr) (vs : List Snd), k ≤ n ∧ m0 ≤ 60000 ∧ i = .int .i64 k ∧ v = .slice a0 m0 cap0 ∧ RdS wr a0 m0 cap0 vs ∧ Ext w wr ∧ Hid (eatW xs ys = eatW vs (ys.drop k))) (fun _ i _ => n - (intOf i).toNat)
  case atStart => exact ⟨0, m, cap, a, xs, Nat.zero_le _, hm, rfl, rfl, hr, Ext.refl _, rfl⟩
  case round =>
    obtain ⟨k, m0, cap0, a0, vs, hk, hm0, rfl, rfl, hv, hx, hall⟩ := hrel
    by_cases hlt : k < n
    · obtain ⟨b', off', s', rfl, hs', hb', hc0', hc1'⟩ := (hr'.ext hx).snd hlt
      by_cases hlq : 0 < m0
      · obtain ⟨b, off, s, rfl, hs, hb, hc0, hc1⟩ := hv.snd hlq
        simp only [Nat.zero_mul, Nat.add_zero] at hc0 hc1
        have hsl := run_sub_1 (P := Try.prog) elem_snds size_snds (some ⟨b, off, none⟩) m0 cap0 (by omega)
        have hsub := hv.sub (l := 1) (m := m0) (by omega) (by omega)
        by_cases hst : s = s'
        · subst hst
          go_wp2_with fail
          go_quiet (fail)
          go_wp2_with fail
          (first | exact ⟨⟨k + 1, m0 - 1, cap0 - 1, _, _, by omega, by omega, by go_num, rfl, hsub.ext (((Ext.alloc1 _ _).drewN _)), (by repeat (first | exact Ext.refl _ | assumption | refine Ext.drew ?_ | refine Ext.drewN ?_ _ | refine Ext.alloc ?_ _ | refine Ext.trans ?_ (by assumption))), eatW_yes0 hall hs hs' hv.len⟩, (by simp [intOf]; omega)⟩ | (go_roundw; case rel => exact ⟨k + 1, m0 - 1, cap0 - 1, _, _, by omega, by omega, by go_num, rfl, hsub.ext (((Ext.alloc1 _ _).drewN _)), (by repeat (first | exact Ext.refl _ | assumption | refine Ext.drew ?_ | refine Ext.drewN ?_ _ | refine Ext.alloc ?_ _ | refine Ext.trans ?_ (by assumption))), eatW_yes0 hall hs hs' hv.len⟩; case measure => exact (by simp [intOf]; omega)))
        · have hd : decide (s = s') = false := by simpa using hst
          go_wp2_with fail
          go_quiet (fail)
          go_wp2_with fail
          (first | exact ⟨⟨k + 1, m0, cap0, _, _, by omega, by omega, by go_num, rfl, hv.ext (((Ext.alloc1 _ _).drewN _)), (by repeat (first | exact Ext.refl _ | assumption | refine Ext.drew ?_ | refine Ext.drewN ?_ _ | refine Ext.alloc ?_ _ | refine Ext.trans ?_ (by assumption))), eatW_no0 hall hs hs' hst⟩, (by simp [intOf]; omega)⟩ | (go_roundw; case rel => exact ⟨k + 1, m0, cap0, _, _, by omega, by omega, by go_num, rfl, hv.ext (((Ext.alloc1 _ _).drewN _)), (by repeat (first | exact Ext.refl _ | assumption | refine Ext.drew ?_ | refine Ext.drewN ?_ _ | refine Ext.alloc ?_ _ | refine Ext.trans ?_ (by assumption))), eatW_no0 hall hs hs' hst⟩; case measure => exact (by simp [intOf]; omega)))
      · have h0 : m0 = 0 := by omega
        subst h0
        have hd : decide ((0 : Int) < ((0 : Nat) : Int)) = false := by simp
        go_wp2_with fail
        go_quiet (fail)
        go_wp2_with fail
        (first | exact ⟨⟨k + 1, 0, cap0, _, _, by omega, by omega, by go_num, rfl, hv.ext (((Ext.alloc1 _ _).drewN _)), (by repeat (first | exact Ext.refl _ | assumption | refine Ext.drew ?_ | refine Ext.drewN ?_ _ | refine Ext.alloc ?_ _ | refine Ext.trans ?_ (by assumption))), eatW_done0 hall hv.len⟩, (by simp [intOf]; omega)⟩ | (go_roundw; case rel => exact ⟨k + 1, 0, cap0, _, _, by omega, by omega, by go_num, rfl, hv.ext (((Ext.alloc1 _ _).drewN _)), (by repeat (first | exact Ext.refl _ | assumption | refine Ext.drew ?_ | refine Ext.drewN ?_ _ | refine Ext.alloc ?_ _ | refine Ext.trans ?_ (by assumption))), eatW_done0 hall hv.len⟩; case measure => exact (by simp [intOf]; omega)))
    · have hfin := Lib.hid (insideW_end0 hall (by rw [hr'.len]; omega) hv.len)
      by_cases hqm : m0 = 0
      · subst hqm
        go_wp2_with fail
        go_ret
        exact ⟨ret_bool (by rw [hfin.out]; simp), hx⟩
      · have hd : ((m0 : Int) == 0) = false := by simp; omega
        go_wp2_with fail
        go_ret
        exact ⟨ret_bool (by rw [hfin.out]; simpa using hqm), hx⟩
end Go.Proofs.Ytphfnmmdfnfnaaa
