/-
  Runs: plain; the reference's Runs.
-/
import Derived.Test.YtphfnmmdfnfnaaaWr
import Derived.Test.YtphfnmmdfnfnaaaApp
namespace Go.Proofs.Ytphfnmmdfnfnaaa
open Go.RowKit
def isSt (xs : List Snd) (i : Nat) : Bool := decide (i = 0) || decide (xs[i]? ≠ xs[i - 1]?)
def endOf (xs : List Snd) (a : Nat) : Nat := match (List.range (xs.length + 1)).find? (fun b => decide (a < b) && (decide (b = xs.length) || decide (xs[b]? ≠ xs[a]?))) with
  | some b => b
  | none => 0
def runsL (xs : List Snd) (k : Nat) : List (Nat × Nat) := ((List.range k).filter (isSt xs)).map (fun a => (a, endOf xs a))
theorem runsL_succ (xs : List Snd) (k : Nat) : runsL xs (k + 1) = runsL xs k ++ if isSt xs k then [(k, endOf xs k)] else [] := by
  unfold runsL; rw [List.range_succ, List.filter_append, List.map_append]
  congr 1
  by_cases h : isSt xs k = true <;> simp [h]
/-- From a on, up to b, the sounds are equal. -/
def Same (xs : List Snd) (a b : Nat) : Prop := a < b ∧ b ≤ xs.length ∧ ∀ j, a < j → j < b → xs[j]? = xs[a]?
theorem endOf_eq {xs : List Snd} {a b : Nat} (h : Same xs a b) (he : b = xs.length ∨ xs[b]? ≠ xs[a]?) : endOf xs a = b := by
  obtain ⟨h1, h2, h3⟩ := h
  rw [endOf, find_range (k := b) (by omega) (by rcases he with e | e <;> simp [h1, e] <;> omega) (fun j hj => ?_)]
  by_cases hja : a < j
  · have : j ≠ xs.length := by omega
    simp [hja, this, h3 j hja hj]
  · simp [hja]
theorem runsL_same {xs : List Snd} {a b : Nat} (h : Same xs a b) (hs : isSt xs a = true) : runsL xs b = runsL xs a ++ [(a, endOf xs a)] := by
  obtain ⟨h1, h2, h3⟩ := h
  obtain ⟨d, rfl⟩ : ∃ d, b = a + 1 + d := ⟨b - a - 1, by omega⟩
  clear h1
  induction d with
  | zero => rw [Nat.add_zero, runsL_succ, if_pos hs]
  | succ d ih =>
    rw [show a + 1 + (d + 1) = a + 1 + d + 1 by omega, runsL_succ, ih (by omega) (fun j hj hj' => h3 j hj (by omega)), if_neg]
    · simp
    · have h4 := h3 (a + 1 + d) (by omega) (by omega)
      have h5 : xs[a + 1 + d - 1]? = xs[a]? := by
        by_cases hd : d = 0
        · subst hd; rfl
        · exact h3 (a + 1 + d - 1) (by omega) (by omega)
      unfold isSt; rw [h4, h5]; simp
theorem isSt_end {xs : List Snd} {a b : Nat} (h : Same xs a b) (he : xs[b]? ≠ xs[a]?) : isSt xs b = true := by
  obtain ⟨h1, h2, h3⟩ := h
  have h5 : xs[b - 1]? = xs[a]? := by
    by_cases hd : b - 1 = a
    · rw [hd]
    · exact h3 (b - 1) (by omega) (by omega)
  simp [isSt, h5, he]
theorem Same.start (xs : List Snd) {a : Nat} (h : a < xs.length) : Same xs a (a + 1) := ⟨by omega, by omega, fun j h1 h2 => by omega⟩
theorem Same.succ {xs : List Snd} {a b : Nat} (h : Same xs a b) (hb : b < xs.length) (he : xs[b]? = xs[a]?) : Same xs a (b + 1) := ⟨by have := h.1; omega, by omega, fun j h1 h2 => by
  by_cases e : j = b
  · subst e; exact he
  · exact h.2.2 j h1 (by omega)⟩
theorem runsL_le (xs : List Snd) (k : Nat) : (runsL xs k).length ≤ k := by
  unfold runsL; rw [List.length_map]; have := List.length_filter_le (isSt xs) (List.range k); simpa using this
/-- A run as two cells. -/
def runEnc (r : Nat × Nat) : List Value := [.int .i64 r.1, .int .i64 r.2]
theorem runEnc_len (r : Nat × Nat) : (runEnc r).length = 2 := rfl
theorem runEnc_one (r : Nat × Nat) : ∀ u ∈ runEnc r, u.oneCell' = true := by intro u hu; simp [runEnc] at hu; rcases hu with rfl | rfl <;> rfl
abbrev OwnR := OwnK 2 runEnc
theorem info_run : (Try.prog.info? 55).map (fun i => (i.zero, i.size, i.bytes)) = some (some (.agg #[.int .i64 0, .int .i64 0]), 2, 16) := by kernel_rfl
theorem rruns_any (a : Option Addr) (n cap : Nat) (xs : List Snd) (w : World) (hr : RdS w a n cap xs) (hn : n ≤ 60000) :
    Calls Try.prog 42 #[.slice a n cap] w fun e w' => ∃ v, e = .returned v ∧ OwnR w.heap.size 55 w' v (runsL xs n) ∧ Ext w w' := by
  have he := eql_snd
  have hl := hr.len
  go_enter Try.func42, Try.ntmps42
  go_wp2_with fail
  go_loopw [3, 4] (fun v i wr => ∃ k : Nat, k ≤ n ∧ i = .int .i64 k ∧ Ext w wr ∧ OwnR w.heap.size 55 wr v (runsL xs k)) (fun _ i _ => n - (intOf i).toNat)
  case atStart => exact ⟨0, Nat.zero_le _, rfl, Ext.refl _, OwnK.nil _ _ _⟩
  case round =>
    obtain ⟨k, hk, rfl, hx, hown⟩ := hrel
    by_cases hlt : k < n
    · obtain ⟨b, off, s, rfl, hs, hb, hc0, hc1⟩ := (hr.ext hx).snd hlt
      by_cases hk0 : k = 0
      · have hg : decide (0 < k) = false := by simp; omega
        have hst : isSt xs k = true := by simp [isSt, hk0]
        have hsk : Same xs k (k + 1) := Same.start xs (by omega)
        replace hk0 := Lib.hid hk0
        go_wp2_with fail
        go_quiet (fail)
        have hc0 := (show Ext wr (wr.drewN nq) from (Ext.refl wr).drewN nq).cellv hc0
        have hc1 := (show Ext wr (wr.drewN nq) from (Ext.refl wr).drewN nq).cellv hc1
        have hown := OwnK.kept hown ((Ext.refl wr).drewN nq)
        have hx := hx.drewN nq
        obtain ⟨wo, hwo⟩ : ∃ x, x = wr.drewN nq := ⟨_, rfl⟩
        rw [← hwo] at hc0 hc1 hown hx ⊢
        clear hwo hb
        go_wp2_with fail
        clear hg
        go_loopw [5] (fun i wi => ∃ q : Nat, k < q ∧ q ≤ n ∧ i = .int .i64 q ∧ Ext wo wi ∧ Hid (Same xs k q)) (fun i _ => n - (intOf i).toNat)
        case atStart => exact ⟨k + 1, by omega, by omega, by go_num, Ext.refl _, hsk⟩
        case round =>
          obtain ⟨q, hq, hqn, rfl, hx2, hsame⟩ := hrel
          have hcc0 := hx2.cellv hc0
          have hcc1 := hx2.cellv hc1
          by_cases hlt2 : q < n
          · obtain ⟨b2, off2, s2, ha2, hs2, hb2, he0, he1⟩ := (hr.ext (hx.trans hx2)).snd hlt2
            cases ha2
            have hg2 : decide (q < n) = true := by simpa using hlt2
            by_cases hst2 : s2 = s
            · subst hst2
              have hnew := Lib.hid (Same.succ hsame.out (by omega) (by rw [hs2.out, hs.out]))
              go_wp2_with fail
              go_quiet (fail)
              go_wp2_with fail
              (first | exact ⟨⟨q + 1, by omega, by omega, by go_num, (by repeat (first | exact Ext.refl _ | assumption | refine Ext.drew ?_ | refine Ext.drewN ?_ _ | refine Ext.alloc ?_ _ | refine Ext.trans ?_ (by assumption))), hnew⟩, (by simp [intOf]; omega)⟩ | (go_roundw; case rel => exact ⟨q + 1, by omega, by omega, by go_num, (by repeat (first | exact Ext.refl _ | assumption | refine Ext.drew ?_ | refine Ext.drewN ?_ _ | refine Ext.alloc ?_ _ | refine Ext.trans ?_ (by assumption))), hnew⟩; case measure => exact (by simp [intOf]; omega)))
            · have hd2 : decide (s2 = s) = false := by simpa using hst2
              have hend := endOf_eq hsame.out (.inr (by rw [hs2.out, hs.out]; simpa using hst2))
              have hnew := runsL_succ xs k
              rw [hst, if_pos rfl, hend] at hnew
              replace hnew := Lib.hid hnew
              have hll := runsL_le xs k
              clear hend hst2
              go_wp2_with fail
              go_quiet (fail)
              have hown2 := OwnK.kept hown (hx2.trans ((Ext.refl wr).drewN nq))
              have hxx : Ext w (wr.drewN nq) := hx.trans (hx2.trans ((Ext.refl wr).drewN nq))
              generalize wr.drewN nq = wz at *
              go_wp2_with (at_builtin; refine wp_app1 w wz ((k, q) : Nat × Nat) rfl _ _ 53 rfl 55 Try.underlying53 info_run rfl (by decide) _ _ rfl hown2 hxx rfl (runEnc_len _) (runEnc_one _) (by omega) (by unfold maxLen; omega) ?_; intro v' w1 hown1 hx1 _)
              (first | exact ⟨⟨k + 1, by omega, by go_num, hx1, by rw [hnew.out]; exact hown1⟩, (by simp [intOf]; omega)⟩ | (go_roundw; case rel => exact ⟨k + 1, by omega, by go_num, hx1, by rw [hnew.out]; exact hown1⟩; case measure => exact (by simp [intOf]; omega)))
          · have hg2 : decide (q < n) = false := by simpa using hlt2
            have hend := endOf_eq hsame.out (.inl (by omega))
            have hnew := runsL_succ xs k
            rw [hst, if_pos rfl, hend] at hnew
            replace hnew := Lib.hid hnew
            have hll := runsL_le xs k
            clear hend
            go_wp2_with fail
            go_quiet (fail)
            have hown2 := OwnK.kept hown (hx2.trans ((Ext.refl wr).drewN nq))
            have hxx : Ext w (wr.drewN nq) := hx.trans (hx2.trans ((Ext.refl wr).drewN nq))
            generalize wr.drewN nq = wz at *
            go_wp2_with (at_builtin; refine wp_app1 w wz ((k, q) : Nat × Nat) rfl _ _ 53 rfl 55 Try.underlying53 info_run rfl (by decide) _ _ rfl hown2 hxx rfl (runEnc_len _) (runEnc_one _) (by omega) (by unfold maxLen; omega) ?_; intro v' w1 hown1 hx1 _)
            (first | exact ⟨⟨k + 1, by omega, by go_num, hx1, by rw [hnew.out]; exact hown1⟩, (by simp [intOf]; omega)⟩ | (go_roundw; case rel => exact ⟨k + 1, by omega, by go_num, hx1, by rw [hnew.out]; exact hown1⟩; case measure => exact (by simp [intOf]; omega)))
      · obtain ⟨b1, off1, s1, ha1, hs1, hb1, hd0, hd1⟩ := (hr.ext hx).snd (show k - 1 < n by omega)
        cases ha1
        have hg : decide (0 < k) = true := by simp; omega
        have hk1 : 1 ≤ k := by omega
        have hw1 : IntKind.i64.wrap ((k : Int) - 1) = (k : Int) - 1 := IntWalk.i64_in _ (by omega)
        have hj : ((k : Int) - 1).toNat = k - 1 := by omega
        by_cases hst : s = s1
        · subst hst
          have hno : isSt xs k = false := by simp [isSt, hk0, hs.out, hs1.out]
          have hnew : runsL xs (k + 1) = runsL xs k := by rw [runsL_succ, hno]; simp
          replace hnew := Lib.hid hnew
          replace hk0 := Lib.hid hk0
          clear hno
          go_wp2_with fail
          go_quiet (fail)
          go_wp2_with fail
          (first | exact ⟨⟨k + 1, by omega, by go_num, (by repeat (first | exact Ext.refl _ | assumption | refine Ext.drew ?_ | refine Ext.drewN ?_ _ | refine Ext.alloc ?_ _ | refine Ext.trans ?_ (by assumption))), by rw [hnew.out]; exact OwnK.kept hown (by repeat (first | exact Ext.refl _ | assumption | refine Ext.drew ?_ | refine Ext.drewN ?_ _ | refine Ext.alloc ?_ _ | refine Ext.trans ?_ (by assumption)))⟩, (by simp [intOf]; omega)⟩ | (go_roundw; case rel => exact ⟨k + 1, by omega, by go_num, (by repeat (first | exact Ext.refl _ | assumption | refine Ext.drew ?_ | refine Ext.drewN ?_ _ | refine Ext.alloc ?_ _ | refine Ext.trans ?_ (by assumption))), by rw [hnew.out]; exact OwnK.kept hown (by repeat (first | exact Ext.refl _ | assumption | refine Ext.drew ?_ | refine Ext.drewN ?_ _ | refine Ext.alloc ?_ _ | refine Ext.trans ?_ (by assumption)))⟩; case measure => exact (by simp [intOf]; omega)))
        · have hd : decide (s = s1) = false := by simpa using hst
          have hst : isSt xs k = true := by unfold isSt; rw [hs.out, hs1.out]; simp; exact .inr hst
          have hsk : Same xs k (k + 1) := Same.start xs (by omega)
          replace hk0 := Lib.hid hk0
          go_wp2_with fail
          go_quiet (fail)
          have hc0 := (show Ext wr (wr.drewN nq) from (Ext.refl wr).drewN nq).cellv hc0
          have hc1 := (show Ext wr (wr.drewN nq) from (Ext.refl wr).drewN nq).cellv hc1
          have hown := OwnK.kept hown ((Ext.refl wr).drewN nq)
          have hx := hx.drewN nq
          obtain ⟨wo, hwo⟩ : ∃ x, x = wr.drewN nq := ⟨_, rfl⟩
          rw [← hwo] at hc0 hc1 hown hx ⊢
          clear hwo hb hd hg hw1 hj hd0 hd1 hb1 hs1 hk1
          go_wp2_with fail
          go_loopw [5] (fun i wi => ∃ q : Nat, k < q ∧ q ≤ n ∧ i = .int .i64 q ∧ Ext wo wi ∧ Hid (Same xs k q)) (fun i _ => n - (intOf i).toNat)
          case atStart => exact ⟨k + 1, by omega, by omega, by go_num, Ext.refl _, hsk⟩
          case round =>
            obtain ⟨q, hq, hqn, rfl, hx2, hsame⟩ := hrel
            have hcc0 := hx2.cellv hc0
            have hcc1 := hx2.cellv hc1
            by_cases hlt2 : q < n
            · obtain ⟨b2, off2, s2, ha2, hs2, hb2, he0, he1⟩ := (hr.ext (hx.trans hx2)).snd hlt2
              cases ha2
              have hg2 : decide (q < n) = true := by simpa using hlt2
              by_cases hst2 : s2 = s
              · subst hst2
                have hnew := Lib.hid (Same.succ hsame.out (by omega) (by rw [hs2.out, hs.out]))
                go_wp2_with fail
                go_quiet (fail)
                go_wp2_with fail
                (first | exact ⟨⟨q + 1, by omega, by omega, by go_num, (by repeat (first | exact Ext.refl _ | assumption | refine Ext.drew ?_ | refine Ext.drewN ?_ _ | refine Ext.alloc ?_ _ | refine Ext.trans ?_ (by assumption))), hnew⟩, (by simp [intOf]; omega)⟩ | (go_roundw; case rel => exact ⟨q + 1, by omega, by omega, by go_num, (by repeat (first | exact Ext.refl _ | assumption | refine Ext.drew ?_ | refine Ext.drewN ?_ _ | refine Ext.alloc ?_ _ | refine Ext.trans ?_ (by assumption))), hnew⟩; case measure => exact (by simp [intOf]; omega)))
              · have hd2 : decide (s2 = s) = false := by simpa using hst2
                have hend := endOf_eq hsame.out (.inr (by rw [hs2.out, hs.out]; simpa using hst2))
                have hnew := runsL_succ xs k
                rw [hst, if_pos rfl, hend] at hnew
                replace hnew := Lib.hid hnew
                have hll := runsL_le xs k
                clear hend hst2
                go_wp2_with fail
                go_quiet (fail)
                have hown2 := OwnK.kept hown (hx2.trans ((Ext.refl wr).drewN nq))
                have hxx : Ext w (wr.drewN nq) := hx.trans (hx2.trans ((Ext.refl wr).drewN nq))
                generalize wr.drewN nq = wz at *
                go_wp2_with (at_builtin; refine wp_app1 w wz ((k, q) : Nat × Nat) rfl _ _ 53 rfl 55 Try.underlying53 info_run rfl (by decide) _ _ rfl hown2 hxx rfl (runEnc_len _) (runEnc_one _) (by omega) (by unfold maxLen; omega) ?_; intro v' w1 hown1 hx1 _)
                (first | exact ⟨⟨k + 1, by omega, by go_num, hx1, by rw [hnew.out]; exact hown1⟩, (by simp [intOf]; omega)⟩ | (go_roundw; case rel => exact ⟨k + 1, by omega, by go_num, hx1, by rw [hnew.out]; exact hown1⟩; case measure => exact (by simp [intOf]; omega)))
            · have hg2 : decide (q < n) = false := by simpa using hlt2
              have hend := endOf_eq hsame.out (.inl (by omega))
              have hnew := runsL_succ xs k
              rw [hst, if_pos rfl, hend] at hnew
              replace hnew := Lib.hid hnew
              have hll := runsL_le xs k
              clear hend
              go_wp2_with fail
              go_quiet (fail)
              have hown2 := OwnK.kept hown (hx2.trans ((Ext.refl wr).drewN nq))
              have hxx : Ext w (wr.drewN nq) := hx.trans (hx2.trans ((Ext.refl wr).drewN nq))
              generalize wr.drewN nq = wz at *
              go_wp2_with (at_builtin; refine wp_app1 w wz ((k, q) : Nat × Nat) rfl _ _ 53 rfl 55 Try.underlying53 info_run rfl (by decide) _ _ rfl hown2 hxx rfl (runEnc_len _) (runEnc_one _) (by omega) (by unfold maxLen; omega) ?_; intro v' w1 hown1 hx1 _)
              (first | exact ⟨⟨k + 1, by omega, by go_num, hx1, by rw [hnew.out]; exact hown1⟩, (by simp [intOf]; omega)⟩ | (go_roundw; case rel => exact ⟨k + 1, by omega, by go_num, hx1, by rw [hnew.out]; exact hown1⟩; case measure => exact (by simp [intOf]; omega)))
    · go_wp2_with fail
      go_ret
      have : k = n := by omega
      subst this
      exact ⟨_, rfl, hown, hx⟩
end Go.Proofs.Ytphfnmmdfnfnaaa
