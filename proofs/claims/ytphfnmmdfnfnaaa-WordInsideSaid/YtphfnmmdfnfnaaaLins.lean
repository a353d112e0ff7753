/-
  The statement WordInside: the walk.
-/
import Derived.Test.YtphfnmmdfnfnaaaWr
import Derived.Test.YtphfnmmdfnfnaaaWs
import Derived.Test.YtphfnmmdfnfnaaaApp
namespace Go.Proofs.Ytphfnmmdfnfnaaa
open Go.RowKit
theorem sndc : (Snd.enc ⟨1#32, 0#32⟩).toArray = #[.int .u32 1, .int .u32 0] := rfl
set_option maxHeartbeats 4000000 in
theorem wordInside_any (a0 : Option Addr) (n0 c0 : Nat) (x0 : List Snd) (bs1 bs2 : Nat) (w : World) (h0 : RdS w a0 n0 c0 x0) (_ : bs1 < 65536) (_ : bs2 < 65536) :
    Calls Try.prog 8 #[.slice a0 n0 c0, .int .u16 bs1, .int .u16 bs2] w fun e w' => e = .returned (.bool true) ∧ Ext w w' := by
  by_cases l0 : n0 ≤ 100
  · have e0 : decide ((100 : Int) < n0) = false := by simp; omega
    go_enter Try.func8, Try.ntmps8
    go_wp2_with fail
    refine (left_any _ _ _ _ x0 _ h0 (by omega)).mono ?_
    rintro e w1 ⟨vz, x1, rfl, s1, o1, hx1⟩
    obtain ⟨a1, n1, c1, hn1, rfl, h1⟩ := OwnK.rdn Snd.len o1
    have hl1 : n1 ≤ n0 := by have := s1.length_le; have := h0.len; omega
    replace hn1 := Lib.hid hn1
    go_wp2_with fail
    refine (left_any _ _ _ _ x1 _ h1 (by omega)).mono ?_
    rintro e w2 ⟨vz, x2, rfl, s2, o2, hx2⟩
    obtain ⟨a2, n2, c2, hn2, rfl, h2⟩ := OwnK.rdn Snd.len o2
    have hl2 : n2 ≤ n1 := by have := s2.length_le; have := h1.len; omega
    replace hn2 := Lib.hid hn2
    have hxa : Ext w w2 := (by repeat (first | exact Ext.refl _ | assumption | refine Ext.drew ?_ | refine Ext.drewN ?_ _ | refine Ext.alloc ?_ _ | refine Ext.trans ?_ (by assumption)))
    have oz : OwnS w2.heap.size 39 (w2.alloc (.cells #[] 39)) (.slice (some ⟨w2.heap.size, 0, Option.none⟩) 0 0) [] := World.ownsRow_lit w2 #[] 0 (Nat.le_refl _) (Nat.zero_le _) rfl
    go_wp2_with (first | (at_builtin; refine wp_appN w2 _ x0 rfl _ _ 22 rfl 39 Try.underlying22 info_snd rfl (by decide) _ _ rfl oz ((Ext.refl w2).alloc _) a0 n0 c0 rfl (h0.ext (by repeat (first | exact Ext.refl _ | assumption | refine Ext.drew ?_ | refine Ext.drewN ?_ _ | refine Ext.alloc ?_ _ | refine Ext.trans ?_ (by assumption)))) Snd.len Snd.one (by simp; omega) (by unfold maxLen; simp; omega) ?_; intro v1 w3 o3 hx3 _) | (at_builtin; refine wp_appC w2 w3 ⟨1#32, 0#32⟩ _ sndc rfl _ _ 22 rfl 39 Try.underlying22 info_snd rfl (by decide) _ _ rfl o3 hx3 rfl rfl (Snd.one _) (by have := h0.len; simp; omega) (by have := h0.len; unfold maxLen; simp; omega) ?_; intro vz w4 o4 hx4; obtain ⟨a4, n4, c4, hn4, rfl, h4⟩ := OwnK.rdn Snd.len o4; replace hn4 := Lib.hid hn4))
    have hl4 : n4 = n0 + 1 := by rw [hn4.out]; have := h0.len; simp; omega
    have hll := h0.len
    have b1 := insideW_yes s1
    have b2 := insideW_yes s2
    have b3 := insideW_yes (s2.trans s1)
    have b4 := insideW_yes (List.Sublist.refl x0)
    have b5 := insideW_yes (List.nil_sublist x0)
    have b6 : insideW ([] ++ x0 ++ [⟨1#32, 0#32⟩]) x0 = false := insideW_longer (by simp)
    have b7 : insideW x0 ([] ++ x0 ++ [⟨1#32, 0#32⟩]) = true := insideW_yes (by rw [List.nil_append]; exact List.sublist_append_left _ _)
    have hl4' : n4 ≤ 60000 := by omega
    have hl1' : n1 ≤ 60000 := by omega
    have hl2' : n2 ≤ 60000 := by omega
    clear hl1 hl2 hl4 hll
    refine (cbool (inside_any _ _ _ _ _ _ _ _ _ (h1.ext (by repeat (first | exact Ext.refl _ | assumption | refine Ext.drew ?_ | refine Ext.drewN ?_ _ | refine Ext.alloc ?_ _ | refine Ext.trans ?_ (by assumption)))) (h0.ext (by repeat (first | exact Ext.refl _ | assumption | refine Ext.drew ?_ | refine Ext.drewN ?_ _ | refine Ext.alloc ?_ _ | refine Ext.trans ?_ (by assumption)))) (by omega) (by omega)) b1).mono ?_
    rintro e w1 ⟨rfl, _⟩
    go_wp2_with fail
    refine (cbool (inside_any _ _ _ _ _ _ _ _ _ (h2.ext (by repeat (first | exact Ext.refl _ | assumption | refine Ext.drew ?_ | refine Ext.drewN ?_ _ | refine Ext.alloc ?_ _ | refine Ext.trans ?_ (by assumption)))) (h1.ext (by repeat (first | exact Ext.refl _ | assumption | refine Ext.drew ?_ | refine Ext.drewN ?_ _ | refine Ext.alloc ?_ _ | refine Ext.trans ?_ (by assumption)))) (by omega) (by omega)) b2).mono ?_
    rintro e w1 ⟨rfl, _⟩
    go_wp2_with fail
    refine (cbool (inside_any _ _ _ _ _ _ _ _ _ (h2.ext (by repeat (first | exact Ext.refl _ | assumption | refine Ext.drew ?_ | refine Ext.drewN ?_ _ | refine Ext.alloc ?_ _ | refine Ext.trans ?_ (by assumption)))) (h0.ext (by repeat (first | exact Ext.refl _ | assumption | refine Ext.drew ?_ | refine Ext.drewN ?_ _ | refine Ext.alloc ?_ _ | refine Ext.trans ?_ (by assumption)))) (by omega) (by omega)) b3).mono ?_
    rintro e w1 ⟨rfl, _⟩
    go_wp2_with fail
    refine (cbool (inside_any _ _ _ _ _ _ _ _ _ (h0.ext (by repeat (first | exact Ext.refl _ | assumption | refine Ext.drew ?_ | refine Ext.drewN ?_ _ | refine Ext.alloc ?_ _ | refine Ext.trans ?_ (by assumption)))) (h0.ext (by repeat (first | exact Ext.refl _ | assumption | refine Ext.drew ?_ | refine Ext.drewN ?_ _ | refine Ext.alloc ?_ _ | refine Ext.trans ?_ (by assumption)))) (by omega) (by omega)) b4).mono ?_
    rintro e w1 ⟨rfl, _⟩
    go_wp2_with fail
    refine (cbool (inside_any _ _ _ _ _ _ [] _ _ (RdK.nilS _) (h0.ext (by repeat (first | exact Ext.refl _ | assumption | refine Ext.drew ?_ | refine Ext.drewN ?_ _ | refine Ext.alloc ?_ _ | refine Ext.trans ?_ (by assumption)))) (by omega) (by omega)) b5).mono ?_
    rintro e w1 ⟨rfl, _⟩
    go_wp2_with fail
    refine (cbool (inside_any _ _ _ _ _ _ _ _ _ (h4.ext (by repeat (first | exact Ext.refl _ | assumption | refine Ext.drew ?_ | refine Ext.drewN ?_ _ | refine Ext.alloc ?_ _ | refine Ext.trans ?_ (by assumption)))) (h0.ext (by repeat (first | exact Ext.refl _ | assumption | refine Ext.drew ?_ | refine Ext.drewN ?_ _ | refine Ext.alloc ?_ _ | refine Ext.trans ?_ (by assumption)))) (by omega) (by omega)) b6).mono ?_
    rintro e w1 ⟨rfl, _⟩
    go_wp2_with fail
    refine (cbool (inside_any _ _ _ _ _ _ _ _ _ (h0.ext (by repeat (first | exact Ext.refl _ | assumption | refine Ext.drew ?_ | refine Ext.drewN ?_ _ | refine Ext.alloc ?_ _ | refine Ext.trans ?_ (by assumption)))) (h4.ext (by repeat (first | exact Ext.refl _ | assumption | refine Ext.drew ?_ | refine Ext.drewN ?_ _ | refine Ext.alloc ?_ _ | refine Ext.trans ?_ (by assumption)))) (by omega) (by omega)) b7).mono ?_
    rintro e w1 ⟨rfl, _⟩
    go_wp2_with fail
    refine (works_any _).mono ?_
    rintro e wz ⟨rfl, _⟩
    go_wp2_with fail
    go_ret
    exact ⟨rfl, (by repeat (first | exact Ext.refl _ | assumption | refine Ext.drew ?_ | refine Ext.drewN ?_ _ | refine Ext.alloc ?_ _ | refine Ext.trans ?_ (by assumption)))⟩
  · have e0 : decide ((100 : Int) < n0) = true := by simp; omega
    go_enter Try.func8, Try.ntmps8
    go_wp2_with fail
    refine (works_any _).mono ?_
    rintro e wz ⟨rfl, _⟩
    go_wp2_with fail
    go_ret
    exact ⟨rfl, (by repeat (first | exact Ext.refl _ | assumption | refine Ext.drew ?_ | refine Ext.drewN ?_ _ | refine Ext.alloc ?_ _ | refine Ext.trans ?_ (by assumption)))⟩
end Go.Proofs.Ytphfnmmdfnfnaaa
