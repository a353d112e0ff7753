/-
  Walks of layer 2: Reverse.
-/
import Derived.Test.YtphfnmmdfnfnaaaWc
import Derived.Test.YtphfnmmdfnfnaaaWd
import Derived.Test.YtphfnmmdfnfnaaaWm
import Derived.Test.YtphfnmmdfnfnaaaApp
import Derived.RegionTactic
import Derived.BigRegion
namespace Go.Proofs.Ytphfnmmdfnfnaaa
open Go.RowKit
theorem flatMap_set2 : ∀ (xs : List Snd) (i : Nat) (s : Snd), (xs.set i s).flatMap Snd.enc = ((xs.flatMap Snd.enc).set (i * 2) (.int .u32 s.p.toNat)).set (i * 2 + 1) (.int .u32 s.m.toNat)
  | [], i, s => by simp
  | x :: xs, 0, s => by simp [Snd.enc]
  | x :: xs, i + 1, s => by
    rw [List.set_cons_succ, List.flatMap_cons, flatMap_set2 xs i s, List.flatMap_cons, show (i + 1) * 2 = i * 2 + 1 + 1 by omega]
    simp [Snd.enc]
section
variable {B e g n cap : Nat} {w : World} {xs : List Snd}
theorem OwnS.free (h : OwnS B e w (.slice (some ⟨g, 0, none⟩) n cap) xs) (i : Nat) : w.frozen? ⟨g, i, none⟩ = false := by
  obtain ⟨h1, h2⟩ := h
  rcases h2 with ⟨h3, _⟩ | ⟨g', cap', cur, h3, _, hh, _, _, _, ht⟩
  · cases h3
  · simp only [Value.slice.injEq, Option.some.injEq, Addr.mk.injEq, and_true] at h3
    obtain ⟨rfl, _, _⟩ := h3
    exact frozen_of_row w g i cur e hh
theorem OwnS.ge (h : OwnS B e w (.slice (some ⟨g, 0, none⟩) n cap) xs) : B ≤ g ∧ g < w.heap.size ∧ xs.length = n ∧ n ≤ cap ∧ cap ≤ maxLen := by
  have h0 := World.ownsRow.lt h g rfl
  obtain ⟨h1, h2⟩ := h
  rcases h2 with ⟨h3, _⟩ | ⟨g', cap', cur, h3, _, hh, h4, h5, _, ht⟩
  · cases h3
  · simp only [Value.slice.injEq, Option.some.injEq, Addr.mk.injEq, and_true] at h3
    obtain ⟨_, h6, h7⟩ := h3
    exact ⟨h0.1, h0.2, h6.symm, by omega, by omega⟩
theorem OwnS.at (h : OwnS B e w (.slice (some ⟨g, 0, none⟩) n cap) xs) {i : Nat} {s : Snd} (hi : xs[i]? = some s) : w.cell? ⟨g, i * 2, none⟩ = some (.int .u32 s.p.toNat) ∧ w.cell? ⟨g, i * 2 + 1, none⟩ = some (.int .u32 s.m.toNat) := by
  have hl := (OwnS.ge h).2.2.1
  obtain ⟨a, c, hv, hr⟩ := OwnK.rd Snd.len h
  have hlt := (List.getElem?_eq_some_iff.1 hi).1
  simp only [Value.slice.injEq] at hv
  obtain ⟨rfl, _, rfl⟩ := hv
  obtain ⟨b, off, ha, _, hc⟩ := hr.pos (by omega)
  cases ha
  have h0 := hc i s hi 0 _ rfl
  have h1 := hc i s hi 1 _ rfl
  simp only [Nat.zero_add, Nat.add_zero] at h0 h1
  exact ⟨h0, h1⟩
theorem OwnS.set (h : OwnS B e w (.slice (some ⟨g, 0, none⟩) n cap) xs) (i : Nat) (s : Snd) :
    OwnS B e ((w.setCell ⟨g, i * 2, none⟩ (.int .u32 s.p.toNat)).setCell ⟨g, i * 2 + 1, none⟩ (.int .u32 s.m.toNat)) (.slice (some ⟨g, 0, none⟩) n cap) (xs.set i s) := by
  have hl := (OwnS.ge h).2.2.1
  subst hl
  have h1 := (World.ownsRow.stored h (i * 2) (.int .u32 s.p.toNat)).1
  have h2 := (World.ownsRow.stored h1 (i * 2 + 1) (.int .u32 s.m.toNat)).1
  unfold OwnS OwnK
  rw [List.length_set, flatMap_set2]; exact h2
end
theorem swap_at {xs cur : List Snd} {n k : Nat} {s t : Snd} (hall : ∀ q, q < n → cur[q]? = if q < k ∨ n < q + k + 1 then xs[n - 1 - q]? else xs[q]?) (hlt : k + k + 1 < n) (hlen : xs.length = n) (hcl : cur.length = n) (hs : cur[k]? = some s) (ht : cur[n - 1 - k]? = some t) :
    ∀ q, q < n → ((cur.set k t).set (n - 1 - k) s)[q]? = if q < k + 1 ∨ n < q + (k + 1) + 1 then xs[n - 1 - q]? else xs[q]? := by
  intro q hq
  have h1 := hall k (by omega)
  rw [if_neg (by omega), hs] at h1
  have h2 := hall (n - 1 - k) (by omega)
  rw [if_neg (by omega), ht] at h2
  by_cases e1 : q = n - 1 - k
  · subst e1
    rw [List.getElem?_set_self (by simp; omega), if_pos (by omega), h1]; congr 1; omega
  · rw [List.getElem?_set_ne (by omega)]
    by_cases e2 : q = k
    · subst e2
      rw [List.getElem?_set_self (by omega), if_pos (by omega), h2]
    · rw [List.getElem?_set_ne (by omega), hall q hq]
      by_cases e3 : q < k ∨ n < q + k + 1
      · rw [if_pos e3, if_pos (by omega)]
      · rw [if_neg e3, if_neg (by omega)]
theorem rev_any {w w0 : World} {g n cap : Nat} {xs : List Snd} (hx : Ext w w0) (hown : OwnS w.heap.size 39 w0 (.slice (some ⟨g, 0, none⟩) n cap) xs) (hn : n ≤ 60000) :
    Calls Try.prog 57 #[.slice (some ⟨g, 0, none⟩) n cap] w0 fun e w' => e = .returned (.tuple #[]) ∧ Ext w w' ∧ OwnS w.heap.size 39 w' (.slice (some ⟨g, 0, none⟩) n cap) xs.reverse := by
  obtain ⟨hB, hgs, hlen, hnc, hcm⟩ := OwnS.ge hown
  have hw1 : IntKind.i64.wrap ((n : Int) - 1) = (n : Int) - 1 := IntWalk.i64_in _ (by omega)
  go_enter Try.func57, Try.ntmps57
  go_wp2_with fail
  clear hw1
  go_loopw [2, 3] (fun i j wr => ∃ (k : Nat) (cur : List Snd), k ≤ n ∧ i = .int .i64 k ∧ j = .int .i64 ((n : Int) - 1 - k) ∧ Ext w wr ∧ OwnS w.heap.size 39 wr (.slice (some ⟨g, 0, none⟩) n cap) cur ∧
    Hid (∀ t, t < n → cur[t]? = if t < k ∨ n < t + k + 1 then xs[n - 1 - t]? else xs[t]?)) (fun i _ _ => n - (intOf i).toNat)
  case atStart => exact ⟨0, xs, Nat.zero_le _, rfl, by simp, hx, hown, fun t ht => by rw [if_neg (by omega)]⟩
  case round =>
    obtain ⟨k, cur, hk, rfl, rfl, hx1, hown1, hall⟩ := hrel
    by_cases hlt : k + k + 1 < n
    · have hd : decide ((k : Int) < (n : Int) - 1 - k) = true := by simp; omega
      have hcl := (OwnS.ge hown1).2.2.1
      obtain ⟨s, hs⟩ : ∃ s, cur[k]? = some s := ⟨cur[k]'(by omega), List.getElem?_eq_getElem _⟩
      obtain ⟨t, ht⟩ : ∃ t, cur[n - 1 - k]? = some t := ⟨cur[n - 1 - k]'(by omega), List.getElem?_eq_getElem _⟩
      obtain ⟨ha0, ha1⟩ := OwnS.at hown1 hs
      obtain ⟨hb0, hb1⟩ := OwnS.at hown1 ht
      have hj : ((n : Int) - 1 - k).toNat = n - 1 - k := by omega
      have hf0 := fun i => OwnS.free hown1 i
      go_wp2_with fail
      go_region
      have hown2 := OwnS.set (OwnS.set hown1 k t) (n - 1 - k) s
      have hx2 : Ext w wr.drew := hx1.drew
      have hx3 : Ext w ((((wr.setCell ⟨g, k * 2, none⟩ (.int .u32 t.p.toNat)).setCell ⟨g, k * 2 + 1, none⟩ (.int .u32 t.m.toNat)).setCell ⟨g, (n - 1 - k) * 2, none⟩ (.int .u32 s.p.toNat)).setCell ⟨g, (n - 1 - k) * 2 + 1, none⟩ (.int .u32 s.m.toNat)).drew :=
        ((((hx1.setCell (p := ⟨g, _, none⟩) hB _).setCell (p := ⟨g, _, none⟩) hB _).setCell (p := ⟨g, _, none⟩) hB _).setCell (p := ⟨g, _, none⟩) hB _).drew
      have hown3 := OwnK.kept hown2 ((Ext.refl _).drew)
      have hall2 : Hid (∀ q, q < n → ((cur.set k t).set (n - 1 - k) s)[q]? = if q < k + 1 ∨ n < q + (k + 1) + 1 then xs[n - 1 - q]? else xs[q]?) := swap_at hall hlt hlen hcl hs ht
      go_wp2_with fail
      (first | exact ⟨⟨k + 1, _, by omega, by go_num, by go_num, hx3, hown3, hall2⟩, (by simp [intOf]; omega)⟩ | (go_roundw; case rel => exact ⟨k + 1, _, by omega, by go_num, by go_num, hx3, hown3, hall2⟩; case measure => exact (by simp [intOf]; omega)))
    · have hd : decide ((k : Int) < (n : Int) - 1 - k) = false := by simp; omega
      go_wp2_with fail
      go_end0
      refine ⟨rfl, hx1, ?_⟩
      have : cur = xs.reverse := by
        have hcl := (OwnS.ge hown1).2.2.1
        apply List.ext_getElem?
        intro t
        by_cases ht : t < n
        · rw [hall.out t ht, List.getElem?_reverse (by omega), hlen]
          split
          · rfl
          · congr 1; omega
        · rw [List.getElem?_eq_none (by omega), List.getElem?_eq_none (by simp; omega)]
      rw [← this]; exact hown1
theorem rev_none {w w0 : World} (hx : Ext w w0) (cap : Nat) : Calls Try.prog 57 #[.slice none 0 cap] w0 fun e w' => e = .returned (.tuple #[]) ∧ Ext w w' := by
  go_enter Try.func57, Try.ntmps57
  go_wp2_with fail
  refine wp_loop_rounds 1 ?_
  rw [rounds_succ]
  go_wp2_with fail
  go_end0
  exact ⟨rfl, hx⟩
theorem revV_any {w w0 : World} {v : Value} {xs : List Snd} (hx : Ext w w0) (hown : OwnS w.heap.size 39 w0 v xs) (hn : xs.length ≤ 60000) :
    Calls Try.prog 57 #[v] w0 fun e w' => e = .returned (.tuple #[]) ∧ Ext w w' ∧ OwnS w.heap.size 39 w' v xs.reverse := by
  have h := hown
  rcases h.2 with ⟨rfl, h0⟩ | ⟨g, cap, cur, rfl, _⟩
  · have : xs = [] := List.eq_nil_of_length_eq_zero h0
    subst this
    exact (rev_none hx 0).mono fun e w' ⟨h1, h2⟩ => ⟨h1, h2, OwnK.nil _ _ _⟩
  · exact rev_any hx hown hn
/-- What Reverse returns. -/
def revL (xs : List Snd) : List Snd := if checkS xs = 0 then xs.reverse else []
theorem wrev_any (ad : Option Addr) (n cap : Nat) (xs : List Snd) (w : World) (hr : RdS w ad n cap xs) (hn : n ≤ 60000) :
    Calls Try.prog 38 #[.slice ad n cap] w (RetSE (revL xs) (checkS xs) w) := by
  by_cases hc : checkS xs = 0
  · have hcb : (checkS xs != 0) = false := by simp [hc]
    have E1 := Lib.hid (show revL xs = xs.reverse by rw [revL, if_pos hc])
    have E2 := Lib.hid hc; clear hc
    go_enter Try.func38, Try.ntmps38
    go_wp2_with (go_at_call 34; refine (check_any _ _ _ xs _ hr).mono ?_; rintro e w1 ⟨rfl, hx1⟩)
    refine (clone_any _ _ _ xs _ (hr.ext hx1) hn).mono ?_
    rintro e w2 ⟨v, rfl, ho, hx2⟩
    go_wp2_with (go_at_call 57; refine (revV_any (hx1.trans hx2) (OwnK.base ho hx1.le) (by rw [hr.len]; exact hn)).mono ?_; rintro e w3 ⟨rfl, hx3, ho3⟩)
    go_ret2
    exact retSE_mk ho3 (Ext.refl _) hx3 E1.out.symm E2.out.symm
  · have hcb : (checkS xs != 0) = true := by simpa using hc
    have E1 := Lib.hid (show revL xs = [] by rw [revL, if_neg hc]); clear hc
    go_enter Try.func38, Try.ntmps38
    go_wp2_with (go_at_call 34; refine (check_any _ _ _ xs _ hr).mono ?_; rintro e w1 ⟨rfl, hx1⟩)
    go_ret2
    exact retSE_nil E1.out hx1 rfl
theorem rev_snoc {xs : List Snd} {n k : Nat} {s : Snd} (hlen : xs.length = n) (hk : k < n) (hs : xs[n - 1 - k]? = some s) : xs.reverse.take k ++ [s] = xs.reverse.take (k + 1) :=
  take_snoc_at (by rw [List.getElem?_reverse (by omega), hlen]; exact hs)
theorem rrev_any (ad : Option Addr) (n cap : Nat) (xs : List Snd) (w : World) (hr : RdS w ad n cap xs) (hn : n ≤ 60000) :
    Calls Try.prog 39 #[.slice ad n cap] w (RetSE (revL xs) (checkS xs) w) := by
  by_cases hc : checkS xs = 0
  · have hcb : (checkS xs != 0) = false := by simp [hc]
    have E1 := Lib.hid (show revL xs = xs.reverse by rw [revL, if_pos hc])
    have E2 := Lib.hid hc; clear hc
    have hw1 : IntKind.i64.wrap ((n : Int) - 1) = (n : Int) - 1 := IntWalk.i64_in _ (by omega)
    go_enter Try.func39, Try.ntmps39
    go_wp2_with (go_at_call 40; refine (rcheck_any _ _ _ xs _ hr).mono ?_; rintro e w1 ⟨rfl, hx1⟩)
    clear hw1
    go_loopw [5, 6] (fun v i wr => ∃ k : Nat, k ≤ n ∧ i = .int .i64 ((n : Int) - 1 - k) ∧ Ext w wr ∧ OwnS w.heap.size 39 wr v (xs.reverse.take k)) (fun _ i _ => (intOf i + 1).toNat)
    case atStart => exact ⟨0, Nat.zero_le _, by simp, hx1, OwnK.nil _ _ _⟩
    case round =>
      obtain ⟨k, hk, rfl, hx, hown⟩ := hrel
      by_cases hlt : k < n
      · have hd : decide (0 ≤ (n : Int) - 1 - k) = true := by simp; omega
        have hj : ((n : Int) - 1 - k).toNat = n - 1 - k := by omega
        have hk2 : IntKind.i64.wrap ((n : Int) - 1 - k - 1) = (n : Int) - 1 - k - 1 := IntWalk.i64_in _ (by omega)
        obtain ⟨b, off, s, rfl, hs, hb, hc0, hc1⟩ := (hr.ext hx).snd (show n - 1 - k < n by omega)
        have hlen : (xs.reverse.take k).length = k := by have := hr.len; simp; omega
        have Hlen := Lib.hid hlen; clear hlen
        go_wp2_with (at_builtin; refine wp_app1 w wr s rfl _ _ 22 rfl 39 Try.underlying22 info_snd rfl (by decide) _ _ rfl hown hx rfl rfl (Snd.one s) (by rw [Hlen.out]; omega) (by rw [Hlen.out]; unfold maxLen; omega) ?_; intro v' w1 hown1 hx1 _)
        (first | exact ⟨⟨k + 1, by omega, by go_num, hx1, by rw [rev_snoc hr.len hlt hs] at hown1; exact hown1⟩, (by simp [intOf]; omega)⟩ | (go_roundw; case rel => exact ⟨k + 1, by omega, by go_num, hx1, by rw [rev_snoc hr.len hlt hs] at hown1; exact hown1⟩; case measure => exact (by simp [intOf]; omega)))
      · have hd : decide (0 ≤ (n : Int) - 1 - k) = false := by simp; omega
        go_wp2_with fail
        go_ret2
        exact retSE_mk hown (Ext.refl _) hx (by rw [E1.out, List.take_of_length_le (by have := hr.len; simp; omega)]) E2.out.symm
  · have hcb : (checkS xs != 0) = true := by simpa using hc
    have E1 := Lib.hid (show revL xs = [] by rw [revL, if_neg hc]); clear hc
    go_enter Try.func39, Try.ntmps39
    go_wp2_with (go_at_call 40; refine (rcheck_any _ _ _ xs _ hr).mono ?_; rintro e w1 ⟨rfl, hx1⟩)
    go_ret2
    exact retSE_nil E1.out hx1 rfl
end Go.Proofs.Ytphfnmmdfnfnaaa
