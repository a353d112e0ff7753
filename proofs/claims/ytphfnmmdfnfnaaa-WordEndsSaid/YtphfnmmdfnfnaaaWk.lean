/-
  Walks of layer 2: the words of the examples.
-/
import Derived.Test.YtphfnmmdfnfnaaaWc
import Derived.RegionTactic
namespace Go.Proofs.Ytphfnmmdfnfnaaa
open Go.RowKit
def sndF (f : Nat) : Snd := ⟨(1#32) <<< f, (1#32) <<< (f + 4)⟩
theorem sound0 (w : World) : Calls Try.prog 60 #[.int .i64 0] w fun e w' => e = .returned (.agg #[.int .u32 (sndF 0).p.toNat, .int .u32 (sndF 0).m.toNat]) ∧ Ext w w' := by
  go_enter Try.func60, Try.ntmps60
  go_wp2_with fail
  go_region
  go_wp2_with fail
  exact bodyPost_ret (v := .agg #[.int .u32 1, .int .u32 16]) (by simp [results, Try.results60, go_sem]) rfl ⟨rfl, (Ext.alloc1 _ _).drew⟩
theorem sound1 (w : World) : Calls Try.prog 60 #[.int .i64 1] w fun e w' => e = .returned (.agg #[.int .u32 (sndF 1).p.toNat, .int .u32 (sndF 1).m.toNat]) ∧ Ext w w' := by
  go_enter Try.func60, Try.ntmps60
  go_wp2_with fail
  go_region
  go_wp2_with fail
  exact bodyPost_ret (v := .agg #[.int .u32 2, .int .u32 32]) (by simp [results, Try.results60, go_sem]) rfl ⟨rfl, (Ext.alloc1 _ _).drew⟩
theorem sound2 (w : World) : Calls Try.prog 60 #[.int .i64 2] w fun e w' => e = .returned (.agg #[.int .u32 (sndF 2).p.toNat, .int .u32 (sndF 2).m.toNat]) ∧ Ext w w' := by
  go_enter Try.func60, Try.ntmps60
  go_wp2_with fail
  go_region
  go_wp2_with fail
  exact bodyPost_ret (v := .agg #[.int .u32 4, .int .u32 64]) (by simp [results, Try.results60, go_sem]) rfl ⟨rfl, (Ext.alloc1 _ _).drew⟩
def spell1 (c : UInt8) : Snd := if c = 112 then sndF 0 else if c = 97 then sndF 1 else sndF 2
def spellL (l : List UInt8) : List Snd := l.map spell1
theorem byte_ne {b c : UInt8} (h : ¬ b = c) : ((b.toNat : Int) == (c.toNat : Int)) = false := by
  rw [beq_eq_false_iff_ne]; intro e; exact h (UInt8.toNat_inj.1 (by omega))
theorem spell_snoc {l : List UInt8} {k : Nat} {c : UInt8} (h : l[k]? = some c) {s : Snd} (hs : spell1 c = s) : spellL (l.take k) ++ [s] = spellL (l.take (k + 1)) := by
  subst hs; rw [← take_snoc_at h]; simp [spellL]
theorem spell_any (s : ByteArray) (w : World) (hs : s.size ≤ 60000) :
    Calls Try.prog 45 #[.string s] w (RetS (spellL s.data.toList) w) := by
  go_enter Try.func45, Try.ntmps45
  go_wp2_with fail
  go_loopw [3, 4] (fun v i wr => ∃ k : Nat, k ≤ s.size ∧ i = .int .i64 k ∧ Ext w wr ∧ OwnS w.heap.size 39 wr v (spellL (s.data.toList.take k))) (fun _ i _ => s.size - (intOf i).toNat)
  case atStart => exact ⟨0, Nat.zero_le _, rfl, Ext.refl _, OwnK.nil _ _ _⟩
  case round =>
    obtain ⟨k, hk, rfl, hx, hown⟩ := hrel
    by_cases hlt : k < s.size
    · have hlen : (spellL (s.data.toList.take k)).length = k := by simp [spellL]; omega
      have Hlen := Lib.hid hlen; clear hlen
      have hsk : s.data.toList[k]? = some s[k] := by rw [List.getElem?_eq_getElem (by simpa using hlt)]; rfl
      have Hsk := Lib.hid hsk; clear hsk
      by_cases h1 : s[k] = 112
      · have e1 : ((s[k].toNat : Int) == 112) = true := by rw [h1]; rfl
        have H1 := Lib.hid h1; clear h1
        go_wp2_with (first | (go_at_call 60; refine (sound0 _).mono ?_; rintro e w1 ⟨rfl, hx1⟩) | (at_builtin; refine wp_app1 w w1 (sndF 0) rfl _ _ 22 rfl 39 Try.underlying22 info_snd rfl (by decide) _ _ rfl (OwnK.kept hown hx1) (hx.trans hx1) rfl rfl (Snd.one _) (by rw [Hlen.out]; omega) (by rw [Hlen.out]; unfold maxLen; omega) ?_; intro v' w2 hown1 hx2 _))
        (first | exact ⟨⟨k + 1, by omega, by go_num, hx2, by rw [spell_snoc Hsk.out (by simp [spell1, H1.out])] at hown1; exact hown1⟩, (by simp [intOf]; omega)⟩ | (go_roundw; case rel => exact ⟨k + 1, by omega, by go_num, hx2, by rw [spell_snoc Hsk.out (by simp [spell1, H1.out])] at hown1; exact hown1⟩; case measure => exact (by simp [intOf]; omega)))
      · have e1 : ((s[k].toNat : Int) == 112) = false := byte_ne (c := 112) h1
        have H1 := Lib.hid h1; clear h1
        by_cases h2 : s[k] = 97
        · have e2 : ((s[k].toNat : Int) == 97) = true := by rw [h2]; rfl
          have H2 := Lib.hid h2; clear h2
          go_wp2_with (first | (go_at_call 60; refine (sound1 _).mono ?_; rintro e w1 ⟨rfl, hx1⟩) | (at_builtin; refine wp_app1 w w1 (sndF 1) rfl _ _ 22 rfl 39 Try.underlying22 info_snd rfl (by decide) _ _ rfl (OwnK.kept hown hx1) (hx.trans hx1) rfl rfl (Snd.one _) (by rw [Hlen.out]; omega) (by rw [Hlen.out]; unfold maxLen; omega) ?_; intro v' w2 hown1 hx2 _))
          (first | exact ⟨⟨k + 1, by omega, by go_num, hx2, by rw [spell_snoc Hsk.out (by rw [spell1, if_neg H1.out, if_pos H2.out])] at hown1; exact hown1⟩, (by simp [intOf]; omega)⟩ | (go_roundw; case rel => exact ⟨k + 1, by omega, by go_num, hx2, by rw [spell_snoc Hsk.out (by rw [spell1, if_neg H1.out, if_pos H2.out])] at hown1; exact hown1⟩; case measure => exact (by simp [intOf]; omega)))
        · have e2 : ((s[k].toNat : Int) == 97) = false := byte_ne (c := 97) h2
          have H2 := Lib.hid h2; clear h2
          go_wp2_with (first | (go_at_call 60; refine (sound2 _).mono ?_; rintro e w1 ⟨rfl, hx1⟩) | (at_builtin; refine wp_app1 w w1 (sndF 2) rfl _ _ 22 rfl 39 Try.underlying22 info_snd rfl (by decide) _ _ rfl (OwnK.kept hown hx1) (hx.trans hx1) rfl rfl (Snd.one _) (by rw [Hlen.out]; omega) (by rw [Hlen.out]; unfold maxLen; omega) ?_; intro v' w2 hown1 hx2 _))
          (first | exact ⟨⟨k + 1, by omega, by go_num, hx2, by rw [spell_snoc Hsk.out (by rw [spell1, if_neg H1.out, if_neg H2.out])] at hown1; exact hown1⟩, (by simp [intOf]; omega)⟩ | (go_roundw; case rel => exact ⟨k + 1, by omega, by go_num, hx2, by rw [spell_snoc Hsk.out (by rw [spell1, if_neg H1.out, if_neg H2.out])] at hown1; exact hown1⟩; case measure => exact (by simp [intOf]; omega)))
    · go_wp2_with fail
      go_ret
      exact ⟨_, rfl, by rw [List.take_of_length_le (by simp; omega)] at hown; exact hown, hx⟩
end Go.Proofs.Ytphfnmmdfnfnaaa
