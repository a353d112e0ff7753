/-
  Walks of layer 2: what is left when sounds are left out; Inside is 'being a sublist'.
-/
import Derived.Test.YtphfnmmdfnfnaaaWc
import Derived.Test.YtphfnmmdfnfnaaaWg
namespace Go.Proofs.Ytphfnmmdfnfnaaa
open Go.RowKit
theorem insideW_iff : ∀ {v ys : List Snd}, insideW v ys = true ↔ v.Sublist ys := by
  intro v ys
  simp only [insideW, decide_eq_true_eq]
  induction ys generalizing v with
  | nil => rw [eatW_end]; exact List.sublist_nil.symm
  | cons t ys ih =>
    cases v with
    | nil => simp [eatW_nil]
    | cons s v =>
      rw [eatW]
      by_cases h : s = t
      · subst h; rw [if_pos rfl, ih, List.cons_sublist_cons]
      · rw [if_neg h, ih, List.sublist_cons_iff]
        constructor
        · exact .inl
        · rintro (h1 | ⟨r, h1, _⟩)
          · exact h1
          · simp at h1; exact absurd h1.1 h
theorem insideW_yes {v ys : List Snd} (h : v.Sublist ys) : insideW v ys = true := insideW_iff.2 h
theorem insideW_longer {v ys : List Snd} (h : ys.length < v.length) : insideW v ys = false := by
  rw [Bool.eq_false_iff]; intro h1; have := (insideW_iff.1 h1).length_le; omega
theorem left_any (a : Option Addr) (n cap bits : Nat) (xs : List Snd) (w : World) (hr : RdS w a n cap xs) (hn : n ≤ 60000) :
    Calls Try.prog 33 #[.slice a n cap, .int .u16 bits] w fun e w' => ∃ v ys, e = .returned v ∧ ys.Sublist xs ∧ OwnS w.heap.size 39 w' v ys ∧ Ext w w' := by
  go_enter Try.func33, Try.ntmps33
  go_wp2_with fail
  go_loopw [5, 6] (fun v i wr => ∃ (k : Nat) (acc : List Snd), k ≤ n ∧ i = .int .i64 k ∧ Ext w wr ∧ OwnS w.heap.size 39 wr v acc ∧ acc.Sublist (xs.take k) ∧ acc.length ≤ 60000 ∧ acc.length ≤ k) (fun _ i _ => n - (intOf i).toNat)
  case atStart => exact ⟨0, [], Nat.zero_le _, rfl, Ext.refl _, OwnK.nil _ _ _, List.nil_sublist _, Nat.zero_le _, Nat.le_refl _⟩
  case round =>
    obtain ⟨k, acc, hk, rfl, hx, hown, hsub, hl, hlk⟩ := hrel
    by_cases hlt : k < n
    · obtain ⟨b, off, s, rfl, hs, hb, hc0, hc1⟩ := (hr.ext hx).snd hlt
      go_wp2_with (at_builtin; refine wp_app1 w wr s rfl _ _ 22 rfl 39 Try.underlying22 info_snd rfl (by decide) _ _ rfl hown hx rfl rfl (Snd.one s) (by omega) (by unfold maxLen; omega) ?_; intro v' w1 hown1 hx1 _)
      · (first | exact ⟨⟨k + 1, _, by omega, by go_num, hx1, hown1, by rw [← take_snoc_at hs]; exact hsub.append_right _, by simp; omega, by simp; omega⟩, (by simp [intOf]; omega)⟩ | (go_roundw; case rel => exact ⟨k + 1, _, by omega, by go_num, hx1, hown1, by rw [← take_snoc_at hs]; exact hsub.append_right _, by simp; omega, by simp; omega⟩; case measure => exact (by simp [intOf]; omega)))
      · (first | exact ⟨⟨k + 1, acc, by omega, by go_num, hx, hown, by rw [← take_snoc_at hs]; exact hsub.trans (List.sublist_append_left _ _), hl, by omega⟩, (by simp [intOf]; omega)⟩ | (go_roundw; case rel => exact ⟨k + 1, acc, by omega, by go_num, hx, hown, by rw [← take_snoc_at hs]; exact hsub.trans (List.sublist_append_left _ _), hl, by omega⟩; case measure => exact (by simp [intOf]; omega)))
    · go_wp2_with fail
      go_ret
      exact ⟨_, acc, rfl, by rw [List.take_of_length_le (by have := hr.len; omega)] at hsub; exact hsub, hown, hx⟩
end Go.Proofs.Ytphfnmmdfnfnaaa
