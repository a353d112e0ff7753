/-
  slices.Reverse at numbers.
-/
import Derived.Test.YtadncjpknckaaaaGreatDoorA14
import Derived.RegionTactic
import Derived.BigRegion
namespace Go.Proofs.YtadncjpknckaaaaGreatDoor
open Go.RowKit
section
variable {B e g n cap : Nat} {w : World} {xs : List Int}
theorem ownI_free (h : OwnI B e w (.slice (some ⟨g, 0, none⟩) n cap) xs) (i : Nat) : w.frozen? ⟨g, i, none⟩ = false := by
  obtain ⟨h1, h2⟩ := h
  rcases h2 with ⟨h3, _⟩ | ⟨g', cap', cur, h3, _, hh, _, _, _, ht⟩
  · cases h3
  · simp only [Value.slice.injEq, Option.some.injEq, Addr.mk.injEq, and_true] at h3
    obtain ⟨rfl, _, _⟩ := h3
    exact frozen_of_row w g i cur e hh
theorem ownI_ge (h : OwnI B e w (.slice (some ⟨g, 0, none⟩) n cap) xs) : B ≤ g ∧ g < w.heap.size ∧ xs.length = n ∧ n ≤ cap ∧ cap ≤ maxLen := by
  have h0 := World.ownsRow.lt h g rfl
  obtain ⟨h1, h2⟩ := h
  rcases h2 with ⟨h3, _⟩ | ⟨g', cap', cur, h3, _, hh, h4, h5, _, ht⟩
  · cases h3
  · simp only [Value.slice.injEq, Option.some.injEq, Addr.mk.injEq, and_true] at h3
    obtain ⟨_, h6, h7⟩ := h3
    exact ⟨h0.1, h0.2, h6.symm, by omega, by omega⟩
theorem ownI_at (h : OwnI B e w (.slice (some ⟨g, 0, none⟩) n cap) xs) {i : Nat} {s : Int} (hi : xs[i]? = some s) : w.cell? ⟨g, i, none⟩ = some (.int .i64 s) := by
  have hl := (ownI_ge h).2.2.1
  obtain ⟨a, c, hv, hr⟩ := OwnK.rd I64.len h
  have hlt := (List.getElem?_eq_some_iff.1 hi).1
  simp only [Value.slice.injEq] at hv
  obtain ⟨rfl, _, rfl⟩ := hv
  obtain ⟨b, off, ha, _, hc⟩ := hr.pos (by omega)
  cases ha
  have h0 := hc i s hi 0 _ rfl
  simp only [Nat.zero_add, Nat.add_zero, Nat.mul_one] at h0
  exact h0
theorem flatMap_setI : ∀ (xs : List Int) (i : Nat) (s : Int), (xs.set i s).flatMap I64.enc = (xs.flatMap I64.enc).set i (.int .i64 s)
  | [], i, s => by simp
  | x :: xs, 0, s => by simp [I64.enc]
  | x :: xs, i + 1, s => by
    rw [List.set_cons_succ, List.flatMap_cons, flatMap_setI xs i s, List.flatMap_cons]
    simp [I64.enc]
theorem ownI_set (h : OwnI B e w (.slice (some ⟨g, 0, none⟩) n cap) xs) (i : Nat) (s : Int) :
    OwnI B e (w.setCell ⟨g, i, none⟩ (.int .i64 s)) (.slice (some ⟨g, 0, none⟩) n cap) (xs.set i s) := by
  have hl := (ownI_ge h).2.2.1
  subst hl
  have h1 := (World.ownsRow.stored h i (.int .i64 s)).1
  unfold OwnI OwnK
  rw [List.length_set, flatMap_setI]; exact h1
end
theorem swap_atI {xs cur : List Int} {n k : Nat} {s t : Int} (hall : ∀ q, q < n → cur[q]? = if q < k ∨ n < q + k + 1 then xs[n - 1 - q]? else xs[q]?) (hlt : k + k + 1 < n) (hlen : xs.length = n) (hcl : cur.length = n) (hs : cur[k]? = some s) (ht : cur[n - 1 - k]? = some t) :
    ∀ q, q < n → ((cur.set k t).set (n - 1 - k) s)[q]? = if q < k + 1 ∨ n < q + (k + 1) + 1 then xs[n - 1 - q]? else xs[q]? := by
  intro q hq
  have h1 := hall k (by omega)
  rw [if_neg (by omega), hs] at h1
  have h2 := hall (n - 1 - k) (by omega)
  rw [if_neg (by omega), ht] at h2
  by_cases e1 : q = n - 1 - k
  · subst e1
    rw [List.getElem?_set_self (by simp; omega), if_pos (by omega), h1]; congr 1; omega
  · rw [List.getElem?_set_ne (by omega)]
    by_cases e2 : q = k
    · subst e2
      rw [List.getElem?_set_self (by omega), if_pos (by omega), h2]
    · rw [List.getElem?_set_ne (by omega), hall q hq]
      by_cases e3 : q < k ∨ n < q + k + 1
      · rw [if_pos e3, if_pos (by omega)]
      · rw [if_neg e3, if_neg (by omega)]
theorem revI_any {w w0 : World} {g n cap : Nat} {xs : List Int} (hx : Ext w w0) (hown : OwnI w.heap.size 3 w0 (.slice (some ⟨g, 0, none⟩) n cap) xs) (hn : n ≤ 60000) :
    Calls Tryz.prog 34 #[.slice (some ⟨g, 0, none⟩) n cap] w0 fun e w' => e = .returned (.tuple #[]) ∧ Ext w w' ∧ OwnI w.heap.size 3 w' (.slice (some ⟨g, 0, none⟩) n cap) xs.reverse := by
  obtain ⟨hB, hgs, hlen, hnc, hcm⟩ := ownI_ge hown
  have hw1 : IntKind.i64.wrap ((n : Int) - 1) = (n : Int) - 1 := IntWalk.i64_in _ (by omega)
  go_enter Tryz.func34, Tryz.ntmps34
  go_wp2_with fail
  clear hw1
  go_loopw [2, 3] (fun i j wr => ∃ (k : Nat) (cur : List Int), k ≤ n ∧ i = .int .i64 k ∧ j = .int .i64 ((n : Int) - 1 - k) ∧ Ext w wr ∧ OwnI w.heap.size 3 wr (.slice (some ⟨g, 0, none⟩) n cap) cur ∧
    Hid (∀ t, t < n → cur[t]? = if t < k ∨ n < t + k + 1 then xs[n - 1 - t]? else xs[t]?)) (fun i _ _ => n - (intOf i).toNat)
  case atStart => exact ⟨0, xs, Nat.zero_le _, rfl, by simp, hx, hown, fun t ht => by rw [if_neg (by omega)]⟩
  case round =>
    obtain ⟨k, cur, hk, rfl, rfl, hx1, hown1, hall⟩ := hrel
    by_cases hlt : k + k + 1 < n
    · have hd : decide ((k : Int) < (n : Int) - 1 - k) = true := by simp; omega
      have hcl := (ownI_ge hown1).2.2.1
      obtain ⟨s, hs⟩ : ∃ s, cur[k]? = some s := ⟨cur[k]'(by omega), List.getElem?_eq_getElem _⟩
      obtain ⟨t, ht⟩ : ∃ t, cur[n - 1 - k]? = some t := ⟨cur[n - 1 - k]'(by omega), List.getElem?_eq_getElem _⟩
      have ha0 := ownI_at hown1 hs
      have hb0 := ownI_at hown1 ht
      have hj : ((n : Int) - 1 - k).toNat = n - 1 - k := by omega
      have hf0 := fun i => ownI_free hown1 i
      go_wp2_with fail
      go_region
      have hown2 := ownI_set (ownI_set hown1 k t) (n - 1 - k) s
      have hx2 : Ext w wr.drew := hx1.drew
      have hx3 : Ext w ((wr.setCell ⟨g, k, none⟩ (.int .i64 t)).setCell ⟨g, n - 1 - k, none⟩ (.int .i64 s)).drew :=
        ((hx1.setCell (p := ⟨g, _, none⟩) hB _).setCell (p := ⟨g, _, none⟩) hB _).drew
      have hown3 := OwnK.kept hown2 ((Ext.refl _).drew)
      have hall2 : Hid (∀ q, q < n → ((cur.set k t).set (n - 1 - k) s)[q]? = if q < k + 1 ∨ n < q + (k + 1) + 1 then xs[n - 1 - q]? else xs[q]?) := swap_atI hall hlt hlen hcl hs ht
      go_wp2_with fail
      (first | exact ⟨⟨k + 1, _, by omega, by go_num, by go_num, hx3, hown3, hall2⟩, (by simp [intOf]; omega)⟩ | (go_roundw; case rel => exact ⟨k + 1, _, by omega, by go_num, by go_num, hx3, hown3, hall2⟩; case measure => exact (by simp [intOf]; omega)))
    · have hd : decide ((k : Int) < (n : Int) - 1 - k) = false := by simp; omega
      go_wp2_with fail
      go_end0
      refine ⟨rfl, hx1, ?_⟩
      have : cur = xs.reverse := by
        have hcl := (ownI_ge hown1).2.2.1
        apply List.ext_getElem?
        intro t
        by_cases ht : t < n
        · rw [hall.out t ht, List.getElem?_reverse (by omega), hlen]
          split
          · rfl
          · congr 1; omega
        · rw [List.getElem?_eq_none (by omega), List.getElem?_eq_none (by simp; omega)]
      rw [← this]; exact hown1
theorem revI_none {w w0 : World} (hx : Ext w w0) (cap : Nat) : Calls Tryz.prog 34 #[.slice none 0 cap] w0 fun e w' => e = .returned (.tuple #[]) ∧ Ext w w' := by
  go_enter Tryz.func34, Tryz.ntmps34
  go_wp2_with fail
  refine wp_loop_rounds 1 ?_
  rw [rounds_succ]
  go_wp2_with fail
  go_end0
  exact ⟨rfl, hx⟩
theorem revIV_any {w w0 : World} {v : Value} {xs : List Int} (hx : Ext w w0) (hown : OwnI w.heap.size 3 w0 v xs) (hn : xs.length ≤ 60000) :
    Calls Tryz.prog 34 #[v] w0 fun e w' => e = .returned (.tuple #[]) ∧ Ext w w' ∧ OwnI w.heap.size 3 w' v xs.reverse := by
  have h := hown
  rcases h.2 with ⟨rfl, h0⟩ | ⟨g, cap, cur, rfl, _⟩
  · have : xs = [] := List.eq_nil_of_length_eq_zero h0
    subst this
    exact (revI_none hx 0).mono fun e w' ⟨h1, h2⟩ => ⟨h1, h2, OwnK.nil _ _ _⟩
  · exact revI_any hx hown hn
end Go.Proofs.YtadncjpknckaaaaGreatDoor
