/-
  Walks of layer 2: lists of words; Concat.
-/
import Derived.Test.YtphfnmmdfnfnaaaWi
import Derived.Test.YtphfnmmdfnfnaaaGrow
namespace Go.Proofs.Ytphfnmmdfnfnaaa
open Go.RowKit
theorem grow_any (n : Nat) (hn : n ≤ 60000) (w : World) : Calls Try.prog 65 #[.slice none 0 0, .int .i64 n] w (RetS [] w) := by
  by_cases h0 : n = 0
  · subst h0
    go_enter Try.func65, Try.ntmps65
    go_wp2_with fail
    go_ret
    exact ⟨_, rfl, OwnK.nil _ _ _, Ext.refl _⟩
  · obtain ⟨i, hi, hz0, hz1, hz2⟩ := info_parts info_snd
    have hsl := run_sub_0 (P := Try.prog) elem_snds size_snds
    have hpos : 0 < n := by omega
    have hneg : decide ((n : Int) < 0) = false := by simp
    have hgt : decide (0 < n) = true := by simpa using hpos
    clear h0
    have Hi := Lib.hid hi; have Hz0 := Lib.hid hz0; have Hz1 := Lib.hid hz1; have Hz2 := Lib.hid hz2; clear hi hz0 hz1 hz2
    go_enter Try.func65, Try.ntmps65
    go_wp2_with (at_builtin; refine wpList_grow rfl _ _ 22 3 39 rfl i _ 2 8 Try.underlying22 Try.underlying3 Hi.out Hz0.out Hz1.out Hz2.out rfl (by decide) n hpos hn (by decide) rfl rfl ?_)
    go_ret
    exact ⟨_, rfl, grown_own (k := 2) (enc := Snd.enc) w 39 (.agg #[.int .u32 0, .int .u32 0]) rfl n hn, (Ext.refl w).drew.alloc _⟩
/-- The first error of words. -/
def checkWs : List (List Snd) → Int
  | [] => 0
  | x :: xs => if checkS x = 0 then checkWs xs else checkS x
theorem checkWs_ok {ws : List (List Snd)} {k : Nat} {x : List Snd} (h : checkWs ws = checkWs (ws.drop k)) (hx : ws[k]? = some x) (h0 : checkS x = 0) : checkWs ws = checkWs (ws.drop (k + 1)) := by
  rw [h, drop_at hx, checkWs, if_pos h0]
theorem checkWs_bad {ws : List (List Snd)} {k : Nat} {x : List Snd} (h : checkWs ws = checkWs (ws.drop k)) (hx : ws[k]? = some x) (h0 : checkS x ≠ 0) : checkWs ws = checkS x := by
  rw [h, drop_at hx, checkWs, if_neg h0]
theorem checks_any (a : Option Addr) (n cap : Nat) (ws : List (List Snd)) (w : World) (hr : RdWs w a n cap ws) :
    Calls Try.prog 51 #[.slice a n cap] w fun e w' => e = .returned (.int .i64 (checkWs ws)) ∧ Ext w w' := by
  have hmax : n ≤ 9223372036854775807 := by have := hr.le; have := hr.most; unfold maxLen at this; omega
  go_enter Try.func51, Try.ntmps51
  go_wp2_with fail
  go_loopw [8] (fun i wr => ∃ k : Nat, k ≤ n ∧ i = .int .i64 k ∧ Ext w wr ∧ Hid (checkWs ws = checkWs (ws.drop k))) (fun i _ => n - (intOf i).toNat)
  case atStart => exact ⟨0, Nat.zero_le _, rfl, Ext.refl _, rfl⟩
  case round =>
    obtain ⟨k, hk, rfl, hx, hall⟩ := hrel
    by_cases hlt : k < n
    · obtain ⟨b, off, v, x, rfl, hs, hb, hc0, a1, n1, cap1, rfl, hr1⟩ := (RdWs.ext hr hx).at hlt
      by_cases h0 : checkS x = 0
      · have hb0 : (checkS x != 0) = false := by simp [h0]
        have H0 := Lib.hid h0; clear h0
        go_wp2_with (go_at_call 34; refine (check_any _ _ _ x _ hr1).mono ?_; rintro e w1 ⟨rfl, hx1⟩)
        (first | exact ⟨⟨k + 1, by omega, by go_num, (by repeat (first | exact Ext.refl _ | assumption | refine Ext.drew ?_ | refine Ext.drewN ?_ _ | refine Ext.alloc ?_ _ | refine Ext.trans ?_ (by assumption))), checkWs_ok hall hs H0.out⟩, (by simp [intOf]; omega)⟩ | (go_roundw; case rel => exact ⟨k + 1, by omega, by go_num, (by repeat (first | exact Ext.refl _ | assumption | refine Ext.drew ?_ | refine Ext.drewN ?_ _ | refine Ext.alloc ?_ _ | refine Ext.trans ?_ (by assumption))), checkWs_ok hall hs H0.out⟩; case measure => exact (by simp [intOf]; omega)))
      · have hb0 : (checkS x != 0) = true := by simpa using h0
        have H0 := Lib.hid h0; clear h0
        go_wp2_with (go_at_call 34; refine (check_any _ _ _ x _ hr1).mono ?_; rintro e w1 ⟨rfl, hx1⟩)
        go_ret
        exact ⟨ret_int (checkWs_bad hall hs H0.out).symm, (by repeat (first | exact Ext.refl _ | assumption | refine Ext.drew ?_ | refine Ext.drewN ?_ _ | refine Ext.alloc ?_ _ | refine Ext.trans ?_ (by assumption)))⟩
    · go_wp2_with fail
      go_ret
      exact ⟨ret_int (by rw [hall.out, List.drop_of_length_le (by rw [hr.len]; omega)]; rfl), hx⟩

theorem flat_at {ws : List (List Snd)} {k : Nat} {x : List Snd} (h : ws[k]? = some x) : (ws.take k).flatten ++ x = (ws.take (k + 1)).flatten := by
  rw [← take_snoc_at h]; simp
theorem flat_le (ws : List (List Snd)) (k : Nat) : (ws.take k).flatten.length ≤ ws.flatten.length := by
  have h : ws.flatten = (ws.take k).flatten ++ (ws.drop k).flatten := by rw [← List.flatten_append, List.take_append_drop]
  rw [h, List.length_append]; omega
theorem flat_len {ws : List (List Snd)} {k : Nat} {x : List Snd} (h : ws[k]? = some x) : (ws.take (k + 1)).flatten.length = (ws.take k).flatten.length + x.length := by
  rw [← flat_at h]; simp
theorem concat_any (a : Option Addr) (n cap : Nat) (ws : List (List Snd)) (w : World) (hr : RdWs w a n cap ws) (hn : n ≤ 60000) (hf : ws.flatten.length ≤ 60000) :
    Calls Try.prog 56 #[.slice a n cap] w (RetS ws.flatten w) := by
  go_enter Try.func56, Try.ntmps56
  go_wp2_with fail
  go_loopw [3, 11] (fun s i wr => ∃ k m : Nat, k ≤ n ∧ i = .int .i64 k ∧ s = .int .i64 m ∧ Ext w wr ∧ m ≤ 60000 ∧ Hid (m = (ws.take k).flatten.length)) (fun _ i _ => n - (intOf i).toNat)
  case atStart => exact ⟨0, 0, Nat.zero_le _, rfl, rfl, Ext.refl _, Nat.zero_le _, by simp [Hid]⟩
  case round =>
    obtain ⟨k, m, hk, rfl, rfl, hx, hm, hall⟩ := hrel
    by_cases hlt : k < n
    · obtain ⟨b, off, v, x, rfl, hs, hb, hc0, a1, n1, cap1, rfl, hr1⟩ := (RdWs.ext hr hx).at hlt
      have hle := flat_le ws (k + 1)
      rw [flat_len hs, hr1.len, ← hall.out] at hle
      have hlen := Lib.hid (flat_len hs)
      have hmm : m + n1 ≤ 60000 := by omega
      have hneg : decide ((m : Int) + (n1 : Int) < 0) = false := by simp; omega
      clear hle
      go_wp2_with fail
      (first | exact ⟨⟨k + 1, m + n1, by omega, by go_num, by go_num, (by repeat (first | exact Ext.refl _ | assumption | refine Ext.drew ?_ | refine Ext.drewN ?_ _ | refine Ext.alloc ?_ _ | refine Ext.trans ?_ (by assumption))), by omega, by show _ = _; rw [hlen.out, hr1.len, hall.out]⟩, (by simp [intOf]; omega)⟩ | (go_roundw; case rel => exact ⟨k + 1, m + n1, by omega, by go_num, by go_num, (by repeat (first | exact Ext.refl _ | assumption | refine Ext.drew ?_ | refine Ext.drewN ?_ _ | refine Ext.alloc ?_ _ | refine Ext.trans ?_ (by assumption))), by omega, by show _ = _; rw [hlen.out, hr1.len, hall.out]⟩; case measure => exact (by simp [intOf]; omega)))
    · have hmf := Lib.hid hall.out
      go_wp2_with (first | (go_at_call 65; refine (grow_any m hm _).mono ?_; rintro e w1 ⟨v1, rfl, ho1, hx1⟩))
      have hx1' : Ext w w1 := hx.trans hx1
      have ho1' : OwnS w.heap.size 39 w1 v1 [] := ho1.base hx.le
      go_loopw [6, 27] (fun v i wr => ∃ k : Nat, k ≤ n ∧ i = .int .i64 k ∧ Ext w wr ∧ OwnS w.heap.size 39 wr v (ws.take k).flatten) (fun _ i _ => n - (intOf i).toNat)
      case atStart => exact ⟨0, Nat.zero_le _, rfl, hx1', by simpa using ho1'⟩
      case round =>
        obtain ⟨k2, hk2, rfl, hx2, hown⟩ := hrel
        by_cases hlt2 : k2 < n
        · obtain ⟨b, off, v, x, rfl, hs, hb, hc0, a1, n1, cap1, rfl, hr1⟩ := (RdWs.ext hr hx2).at hlt2
          have hle := flat_le ws (k2 + 1)
          rw [flat_len hs, hr1.len] at hle
          have Hle := Lib.hid hle; clear hle
          go_wp2_with (at_builtin; refine wp_appN w wr x rfl _ _ 22 rfl 39 Try.underlying22 info_snd rfl (by decide) _ _ rfl hown hx2 a1 n1 cap1 rfl hr1 Snd.len Snd.one (by have := Hle.out; omega) (by have := Hle.out; unfold maxLen; omega) ?_; intro v' w2 hown1 hx3 _)
          (first | exact ⟨⟨k2 + 1, by omega, by go_num, hx3, by rw [flat_at hs] at hown1; exact hown1⟩, (by simp [intOf]; omega)⟩ | (go_roundw; case rel => exact ⟨k2 + 1, by omega, by go_num, hx3, by rw [flat_at hs] at hown1; exact hown1⟩; case measure => exact (by simp [intOf]; omega)))
        · go_wp2_with fail
          go_ret
          exact ⟨_, rfl, by rw [List.take_of_length_le (by rw [hr.len]; omega)] at hown; exact hown, hx2⟩
end Go.Proofs.Ytphfnmmdfnfnaaa
