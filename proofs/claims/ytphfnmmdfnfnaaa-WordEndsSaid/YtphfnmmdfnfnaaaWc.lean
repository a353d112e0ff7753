/-
  Walks of layer 2: functions that make words.
-/
import Derived.Test.YtphfnmmdfnfnaaaWb
namespace Go.Proofs.Ytphfnmmdfnfnaaa
open Go.RowKit
theorem info_snd : (Try.prog.info? 39).map (fun i => (i.zero, i.size, i.bytes)) = some (some (.agg #[.int .u32 0, .int .u32 0]), 2, 8) := by kernel_rfl
theorem Snd.one (s : Snd) : ∀ u ∈ s.enc, u.oneCell' = true := by intro u hu; simp [Snd.enc] at hu; rcases hu with rfl | rfl <;> rfl
/-- What a call that makes a word hands back. -/
def RetS (xs : List Snd) (w : World) (e : Ending) (w' : World) : Prop := ∃ v, e = .returned v ∧ OwnS w.heap.size 39 w' v xs ∧ Ext w w'

theorem take_snoc_at {α : Type} {xs : List α} {k : Nat} {s : α} (h : xs[k]? = some s) : xs.take k ++ [s] = xs.take (k + 1) := by rw [List.take_add_one, h]; rfl
theorem copy_any (a : Option Addr) (n cap : Nat) (xs : List Snd) (w : World) (hr : RdS w a n cap xs) (hn : n ≤ 60000) :
    Calls Try.prog 28 #[.slice a n cap] w (RetS xs w) := by
  go_enter Try.func28, Try.ntmps28
  go_wp2_with fail
  go_loopw [3, 4] (fun v i wr => ∃ k : Nat, k ≤ n ∧ i = .int .i64 k ∧ Ext w wr ∧ OwnS w.heap.size 39 wr v (xs.take k)) (fun _ i _ => n - (intOf i).toNat)
  case atStart => exact ⟨0, Nat.zero_le _, rfl, Ext.refl _, OwnK.nil _ _ _⟩
  case round =>
    obtain ⟨k, hk, rfl, hx, hown⟩ := hrel
    by_cases hlt : k < n
    · obtain ⟨b, off, s, rfl, hs, hb, hc0, hc1⟩ := (hr.ext hx).snd hlt
      have hlen : (xs.take k).length = k := by have := hr.len; simp; omega
      have Hlen := Lib.hid hlen; clear hlen
      go_wp2_with (at_builtin; refine wp_app1 w wr s rfl _ _ 22 rfl 39 Try.underlying22 info_snd rfl (by decide) _ _ rfl hown hx rfl rfl (Snd.one s) (by rw [Hlen.out]; omega) (by rw [Hlen.out]; unfold maxLen; omega) ?_; intro v' w1 hown1 hx1 _)
      (first | exact ⟨⟨k + 1, by omega, by go_num, hx1, by rw [take_snoc_at hs] at hown1; exact hown1⟩, (by simp [intOf]; omega)⟩ | (go_roundw; case rel => exact ⟨k + 1, by omega, by go_num, hx1, by rw [take_snoc_at hs] at hown1; exact hown1⟩; case measure => exact (by simp [intOf]; omega)))
    · go_wp2_with fail
      go_ret
      exact ⟨_, rfl, by rw [List.take_of_length_le (by have := hr.len; omega)] at hown; exact hown, hx⟩
/-! ### Clone -/
theorem clone_any (a : Option Addr) (n cap : Nat) (xs : List Snd) (w : World) (hr : RdS w a n cap xs) (hn : n ≤ 60000) :
    Calls Try.prog 46 #[.slice a n cap] w (RetS xs w) := by
  cases a with
  | none =>
    have hc := hr.isnil rfl
    have h0 : n = 0 := by have := hr.le; omega
    subst h0; subst hc
    have hx : xs = [] := List.eq_nil_of_length_eq_zero hr.len
    subst hx
    have he := fun w => Lib.run_eql_slice_nil (P := Try.prog) w 22 39 Option.none 0 0 0 0 Try.underlying22
    go_enter Try.func46, Try.ntmps46
    go_wp2_with fail
    go_ret
    exact ⟨_, rfl, OwnK.nil _ _ _, Ext.refl _⟩
  | some ad =>
    have he := fun w => Lib.run_eql_slice_nil (P := Try.prog) w 22 39 (some ad) n cap 0 0 Try.underlying22
    have h0 : OwnS w.heap.size 39 (w.alloc (.cells #[] 39)) (.slice (some ⟨w.heap.size, 0, Option.none⟩) 0 0) [] := World.ownsRow_lit w #[] 0 (Nat.le_refl _) (Nat.zero_le _) rfl
    go_enter Try.func46, Try.ntmps46
    go_wp2_with (at_builtin; refine wp_appN w _ xs rfl _ _ 22 rfl 39 Try.underlying22 info_snd rfl (by decide) _ _ rfl h0 (Ext.alloc1 _ _) (some ad) n cap rfl (hr.ext (Ext.alloc1 _ _)) Snd.len Snd.one (by simp; omega) (by unfold maxLen; simp; omega) ?_; intro v' w1 hown1 hx1 _)
    go_ret
    exact ⟨_, rfl, hown1, hx1⟩
end Go.Proofs.Ytphfnmmdfnfnaaa
