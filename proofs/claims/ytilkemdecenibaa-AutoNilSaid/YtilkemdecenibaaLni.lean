/-
  AutoNil: the walk.
-/
import Derived.Test.YtilkemdecenibaaNz
namespace Go.Proofs.Ytilkemdecenibaa
open Go.RowKit Go.Maps
theorem acceptsP_none (w : World) (p : Option Addr) (hp : AuP w p false) (ua : Option Addr) (m uc : Nat) : Calls Try.prog 21 #[.pointer p, .slice ua m uc] w fun e w' => e = .returned (.bool false) ∧ Ext w w' := by
  go_enter Try.func21, Try.ntmps21
  go_wp2_with fail
  refine (madeP_any hp).mono ?_
  rintro e w1 ⟨rfl, hx1⟩
  go_wp2_with fail
  go_ret
  exact ⟨rfl, hx1⟩
theorem statesP_none (w : World) (p : Option Addr) (hp : AuP w p false) : Calls Try.prog 19 #[.pointer p] w fun e w' => e = .returned (.int .i64 0) ∧ Ext w w' := by
  go_enter Try.func19, Try.ntmps19
  go_wp2_with fail
  refine (madeP_any hp).mono ?_
  rintro e w1 ⟨rfl, hx1⟩
  go_wp2_with fail
  go_ret
  exact ⟨rfl, hx1⟩
theorem notP_none (w : World) (p : Option Addr) (hp : AuP w p false) : Calls Try.prog 40 #[.pointer p] w fun e w' => e = .returned (.pointer none) ∧ Ext w w' := by
  go_enter Try.func40, Try.ntmps40
  go_wp2_with fail
  refine (madeP_any hp).mono ?_
  rintro e w1 ⟨rfl, hx1⟩
  go_wp2_with fail
  go_ret
  exact ⟨rfl, hx1⟩
theorem countP_none (w : World) (p : Option Addr) (hp : AuP w p false) (z : Int) : Calls Try.prog 23 #[.pointer p, .int .i64 z] w fun e w' => e = .returned (.tuple #[.int .i64 0, .int .i64 1]) ∧ Ext w w' := by
  go_enter Try.func23, Try.ntmps23
  go_wp2_with fail
  refine (madeP_any hp).mono ?_
  rintro e w1 ⟨rfl, hx1⟩
  go_wp2_with fail
  go_ret2
  exact ⟨rfl, hx1⟩
def emptyAu : Au := ⟨[], [], []⟩
theorem emptyAu_at {w : World} {b : Nat} (h : w.heap[b]? = some (.cells #[.slice none 0 0, .slice none 0 0, .slice none 0 0] 68 (0, 0))) : AuAt w b emptyAu :=
  ⟨none, 0, none, 0, none, 0, h, ⟨rfl, Nat.le_refl _, Nat.zero_le _, fun _ => rfl, fun h => absurd h (Nat.lt_irrefl 0)⟩, ⟨rfl, Nat.le_refl _, Nat.zero_le _, fun _ => rfl, fun h => absurd h (Nat.lt_irrefl 0)⟩, ⟨rfl, Nat.le_refl _, Nat.zero_le _, fun _ => rfl, fun h => absurd h (Nat.lt_irrefl 0)⟩⟩
set_option maxHeartbeats 2000000 in
set_option maxRecDepth 20000 in
theorem autoNil_any (ua : Option Addr) (m uc : Nat) (xs : List Snd) (n : Int) (w : World) (hu : RdS w ua m uc xs) : Calls Try.prog 8 #[.slice ua m uc, .int .i64 n] w fun e w' => e = .returned (.bool true) ∧ Ext w w' := by
  have hm : m ≤ 9223372036854775807 := by have := hu.le; have := hu.most; unfold maxLen at this; omega
  clear hu
  by_cases h1000 : (1000 : Int) < (m : Int)
  · have d1 : decide ((1000 : Int) < (m : Int)) = true := decide_eq_true h1000
    go_enter Try.func8, Try.ntmps8
    go_wp2_with fail
    refine (works_any _).mono ?_
    rintro e w1 ⟨rfl, hx1⟩
    go_wp2_with fail
    go_ret
    exact ⟨rfl, hx1⟩
  · have d1 : decide ((1000 : Int) < (m : Int)) = false := decide_eq_false h1000
    replace h1000 := Lib.hid h1000
    go_enter Try.func8, Try.ntmps8
    go_wp2_with fail
    refine (example_any w).mono ?_
    rintro e w1 ⟨s, a, b, rfl, hS, hP, hx1⟩
    obtain ⟨hbA, _⟩ := exB_any hS hP
    clear hS hP
    go_wp2_with fail
    refine (hbA _ (Ext.alloc1 _ _)).mono ?_
    clear hbA
    rintro e w2 ⟨ba, rfl, hA, hx2⟩
    have hxw2 := (hx1.alloc _).trans hx2
    clear hx1 hx2
    have hE := World.alloc_heap_new w2 (.cells #[.slice none 0 0, .slice none 0 0, .slice none 0 0] 68)
    have hx3 : Ext w2 ((w2.alloc (.cells #[.slice none 0 0, .slice none 0 0, .slice none 0 0] 68)).alloc (.cells #[.pointer none, .pointer (some ⟨w2.heap.size, 0, none⟩)] 33)) := (by repeat (first | exact Ext.refl _ | assumption | refine Ext.drew ?_ | refine Ext.drewN ?_ _ | refine Ext.alloc ?_ _ | refine Ext.trans ?_ (by assumption)))
    have hE3 : AuP ((w2.alloc (.cells #[.slice none 0 0, .slice none 0 0, .slice none 0 0] 68)).alloc (.cells #[.pointer none, .pointer (some ⟨w2.heap.size, 0, none⟩)] 33)) (some ⟨w2.heap.size, 0, none⟩) false := .inr ⟨_, emptyAu, rfl, (emptyAu_at hE).ext (Ext.alloc1 _ _), rfl⟩
    have hc : ∀ k : Nat, k < 2 → ∃ p, ((w2.alloc (.cells #[.slice none 0 0, .slice none 0 0, .slice none 0 0] 68)).alloc (.cells #[.pointer none, .pointer (some ⟨w2.heap.size, 0, none⟩)] 33)).cell? ⟨w2.heap.size + 1, k, none⟩ = some (.pointer p) ∧ AuP ((w2.alloc (.cells #[.slice none 0 0, .slice none 0 0, .slice none 0 0] 68)).alloc (.cells #[.pointer none, .pointer (some ⟨w2.heap.size, 0, none⟩)] 33)) p false := fun k hk => by
      have h := World.alloc_heap_new (w2.alloc (.cells #[.slice none 0 0, .slice none 0 0, .slice none 0 0] 68)) (.cells #[.pointer none, .pointer (some ⟨w2.heap.size, 0, none⟩)] 33)
      rw [World.size_alloc] at h
      have : k = 0 ∨ k = 1 := by omega
      rcases this with rfl | rfl
      · exact ⟨none, by simp only [World.cell?, h]; rfl, .inl ⟨rfl, rfl⟩⟩
      · exact ⟨_, by simp only [World.cell?, h]; rfl, hE3⟩
    have hG : AuP ((w2.alloc (.cells #[.slice none 0 0, .slice none 0 0, .slice none 0 0] 68)).alloc (.cells #[.pointer none, .pointer (some ⟨w2.heap.size, 0, none⟩)] 33)) (some ⟨ba, 0, none⟩) true := .inr ⟨ba, exA, rfl, hA.ext hx3, rfl⟩
    have hxw3 := hxw2.trans hx3
    replace hc := Lib.hid hc
    replace hG := Lib.hid hG
    replace hxw3 := Lib.hid hxw3
    clear hE hx3 hE3 hA hxw2
    go_wp2_with fail
    generalize ((w2.alloc (.cells #[.slice none 0 0, .slice none 0 0, .slice none 0 0] 68)).alloc (.cells #[.pointer none, .pointer (some ⟨w2.heap.size, 0, none⟩)] 33)) = w3 at *
    generalize w2.heap.size + 1 = Bl at *
    go_loopw [45] (fun iv wr => ∃ k : Nat, k ≤ 2 ∧ iv = .int .i64 k ∧ Ext w3 wr) (fun iv _ => 2 - (intOf iv).toNat)
    case atStart => exact ⟨0, Nat.zero_le _, rfl, Ext.refl _⟩
    case round =>
      obtain ⟨k, hk, rfl, hx⟩ := hrel
      by_cases hlt : k < 2
      · obtain ⟨p, hcp, hP⟩ := hc.out k hlt
        have ck := hx.cellv hcp
        have hki : (k : Int) < 2 := by omega
        replace hP := Lib.hid hP
        go_wp2_with fail
        clear ck hcp
        refine (shortest_none _ p (hP.out.ext hx)).mono ?_
        rintro e x1 ⟨rfl, hx1⟩
        replace hx := hx.trans hx1
        clear hx1
        go_wp2_with fail
        refine (countP_none _ p (hP.out.ext hx) n).mono ?_
        rintro e x1 ⟨rfl, hx1⟩
        replace hx := hx.trans hx1
        clear hx1
        go_wp2_with fail
        refine (and_err (togA_nil _ p (some ⟨ba, 0, none⟩) false true (hP.out.ext hx) (hG.out.ext hx) (.inl rfl))).mono ?_
        rintro e x1 ⟨rfl, hx1⟩
        replace hx := hx.trans hx1
        clear hx1
        go_wp2_with fail
        refine (and_err (togA_nil _ (some ⟨ba, 0, none⟩) p true false (hG.out.ext hx) (hP.out.ext hx) (.inr rfl))).mono ?_
        rintro e x1 ⟨rfl, hx1⟩
        replace hx := hx.trans hx1
        clear hx1
        go_wp2_with fail
        refine (differ_err rfl (togD_nil _ p (some ⟨ba, 0, none⟩) false true (hP.out.ext hx) (hG.out.ext hx) (.inl rfl))).mono ?_
        rintro e x1 ⟨rfl, hx1⟩
        replace hx := hx.trans hx1
        clear hx1
        go_wp2_with fail
        refine (differ_err rfl (togD_nil _ (some ⟨ba, 0, none⟩) p true false (hG.out.ext hx) (hP.out.ext hx) (.inr rfl))).mono ?_
        rintro e x1 ⟨rfl, hx1⟩
        replace hx := hx.trans hx1
        clear hx1
        go_wp2_with fail
        refine (acceptsP_none _ p (hP.out.ext hx) ua m uc).mono ?_
        rintro e x1 ⟨rfl, hx1⟩
        replace hx := hx.trans hx1
        clear hx1
        go_wp2_with fail
        refine (statesP_none _ p (hP.out.ext hx)).mono ?_
        rintro e x1 ⟨rfl, hx1⟩
        replace hx := hx.trans hx1
        clear hx1
        go_wp2_with fail
        refine (words_none _ p false (hP.out.ext hx) n (.inl rfl)).mono ?_
        rintro e x1 ⟨rfl, hx1⟩
        replace hx := hx.trans hx1
        clear hx1
        go_wp2_with fail
        refine (notP_none _ p (hP.out.ext hx)).mono ?_
        rintro e x1 ⟨rfl, hx1⟩
        replace hx := hx.trans hx1
        clear hx1
        go_wp2_with fail
        (first | exact ⟨⟨k + 1, hlt, by go_num, hx⟩, (by simp [intOf]; omega)⟩ | (go_roundw; case rel => exact ⟨k + 1, hlt, by go_num, hx⟩; case measure => exact (by simp [intOf]; omega)))
      · obtain rfl : k = 2 := by omega
        go_wp2_with fail
        refine (works_any _).mono ?_
        rintro e x1 ⟨rfl, hx1⟩
        go_wp2_with fail
        go_ret
        exact ⟨rfl, hxw3.out.trans (hx.trans hx1)⟩
end Go.Proofs.Ytilkemdecenibaa
