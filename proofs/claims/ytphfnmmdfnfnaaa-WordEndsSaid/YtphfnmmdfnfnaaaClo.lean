/-
  slices.Clone at a list of words, by the headers.
-/
import Derived.Test.YtphfnmmdfnfnaaaSrt
import Derived.Test.YtphfnmmdfnfnaaaWc
namespace Go.Proofs.Ytphfnmmdfnfnaaa
open Go.RowKit
theorem info_word : (Try.prog.info? 22).map (fun i => (i.zero, i.size, i.bytes)) = some (some (.slice none 0 0), 1, 24) := by kernel_rfl
theorem cloneH_any (a : Option Addr) (n cap : Nat) (hs : List WH) (w : World) (hr : RdK 1 WH.enc w a n cap hs) (hn : n ≤ 60000) :
    Calls Try.prog 52 #[.slice a n cap] w fun e w' => ∃ v, e = .returned v ∧ OwnH w.heap.size 22 w' v hs ∧ Ext w w' := by
  cases a with
  | none =>
    have hc := hr.isnil rfl
    have h0 : n = 0 := by have := hr.le; omega
    subst h0; subst hc
    have hx : hs = [] := List.eq_nil_of_length_eq_zero hr.len
    subst hx
    have he := fun w => Lib.run_eql_slice_nil (P := Try.prog) w 32 22 Option.none 0 0 0 0 Try.underlying32
    go_enter Try.func52, Try.ntmps52
    go_wp2_with fail
    go_ret
    exact ⟨_, rfl, OwnK.nil _ _ _, Ext.refl _⟩
  | some ad =>
    have he := fun w => Lib.run_eql_slice_nil (P := Try.prog) w 32 22 (some ad) n cap 0 0 Try.underlying32
    have h0 : OwnH w.heap.size 22 (w.alloc (.cells #[] 22)) (.slice (some ⟨w.heap.size, 0, Option.none⟩) 0 0) [] := World.ownsRow_lit w #[] 0 (Nat.le_refl _) (Nat.zero_le _) rfl
    go_enter Try.func52, Try.ntmps52
    go_wp2_with (at_builtin; refine wp_appN w _ hs rfl _ _ 32 rfl 22 Try.underlying32 info_word rfl (by decide) _ _ rfl h0 (Ext.alloc1 _ _) (some ad) n cap rfl (hr.ext (Ext.alloc1 _ _)) WH.len WH.one (by simp; omega) (by unfold maxLen; simp; omega) ?_; intro v' w1 hown1 hx1 _)
    go_ret
    exact ⟨_, rfl, hown1, hx1⟩
end Go.Proofs.Ytphfnmmdfnfnaaa
