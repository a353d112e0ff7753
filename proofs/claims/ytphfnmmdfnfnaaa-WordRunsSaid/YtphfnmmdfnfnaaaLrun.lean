/-
  The statement WordRuns: the walk.
-/
import Derived.Test.YtphfnmmdfnfnaaaRd
namespace Go.Proofs.Ytphfnmmdfnfnaaa
open Go.RowKit
/-- (a, b) is a run of xs. -/
def IsRun (xs : List Snd) (a b : Nat) : Prop := Same xs a b ∧ isSt xs a = true ∧ (b = xs.length ∨ xs[b]? ≠ xs[a]?)
/-- The runs L, one after the other, from s to e. -/
def Tiles (xs : List Snd) : Nat → List (Nat × Nat) → Nat → Prop
  | s, [], e => s = e
  | s, (a, b) :: t, e => a = s ∧ IsRun xs a b ∧ Tiles xs b t e
theorem Tiles.snoc {xs : List Snd} {m e : Nat} (h : IsRun xs m e) : ∀ {s : Nat} {L : List (Nat × Nat)}, Tiles xs s L m → Tiles xs s (L ++ [(m, e)]) e
  | _, [], hl => ⟨hl.symm, h, rfl⟩
  | _, (_, _) :: _, ⟨h1, h2, h3⟩ => ⟨h1, h2, Tiles.snoc h h3⟩
theorem last_start (xs : List Snd) : ∀ a, 0 < a → a ≤ xs.length → ∃ s, s < a ∧ isSt xs s = true ∧ Same xs s a
  | 0, h, _ => absurd h (Nat.lt_irrefl _)
  | 1, _, h => ⟨0, by omega, by simp [isSt], Same.start xs (by omega)⟩
  | a + 2, _, h => by
    by_cases hs : isSt xs (a + 1) = true
    · exact ⟨a + 1, by omega, hs, Same.start xs (by omega)⟩
    · obtain ⟨s, h1, h2, h3⟩ := last_start xs (a + 1) (by omega) (by omega)
      refine ⟨s, by omega, h2, h3.succ (by omega) ?_⟩
      have he : xs[a + 1]? = xs[a]? := by
        unfold isSt at hs
        simp only [Bool.or_eq_true, decide_eq_true_eq, not_or, Nat.add_sub_cancel] at hs
        exact Classical.not_not.1 hs.2
      rw [he]
      by_cases e : a = s
      · rw [e]
      · exact h3.2.2 a (by omega) (by omega)
theorem tiles_runs (xs : List Snd) : ∀ (d a : Nat), a ≤ d → a ≤ xs.length → (a = xs.length ∨ isSt xs a = true) → Tiles xs 0 (runsL xs a) a
  | d, 0, _, _, _ => rfl
  | 0, a + 1, h, _, _ => by omega
  | d + 1, a + 1, h, hl, hb => by
    obtain ⟨s, h1, h2, h3⟩ := last_start xs (a + 1) (by omega) hl
    have hend : a + 1 = xs.length ∨ xs[a + 1]? ≠ xs[s]? := by
      rcases hb with e | e
      · exact .inl e
      · refine .inr fun hx => ?_
        have hp : xs[a]? = xs[s]? := by
          by_cases e2 : a = s
          · rw [e2]
          · exact h3.2.2 a (by omega) (by omega)
        unfold isSt at e
        simp [hx, hp] at e
    have hr := runsL_same h3 h2
    rw [endOf_eq h3 hend] at hr
    rw [hr]
    exact Tiles.snoc ⟨h3, h2, hend⟩ (tiles_runs xs d s (by omega) (by omega) (.inr h2))
theorem tiles_all (xs : List Snd) {n : Nat} (h : xs.length = n) : Tiles xs 0 (runsL xs n) n := tiles_runs xs n n (Nat.le_refl _) (by omega) (.inl h.symm)
theorem Tiles.at {xs : List Snd} {L : List (Nat × Nat)} {p k e : Nat} {r : Nat × Nat} (h : Tiles xs p (L.drop k) e) (hr : L[k]? = some r) : r.1 = p ∧ IsRun xs r.1 r.2 ∧ Tiles xs r.2 (L.drop (k + 1)) e := by
  rw [drop_at hr] at h
  obtain ⟨a, b⟩ := r
  exact h
set_option maxRecDepth 20000 in
set_option maxHeartbeats 4000000 in
theorem wordRuns_any (a0 : Option Addr) (n0 c0 : Nat) (x0 : List Snd) (w : World) (h0 : RdS w a0 n0 c0 x0) :
    Calls Try.prog 12 #[.slice a0 n0 c0] w fun e w' => e = .returned (.bool true) ∧ Below w.heap.size w w' := by
  by_cases l0 : n0 ≤ 100
  · have e0 : decide ((100 : Int) < n0) = false := by simp; omega
    have hl0 := h0.len
    have htl := tiles_all x0 hl0
    go_enter Try.func12, Try.ntmps12
    go_wp2_with fail
    refine (runs_any a0 n0 c0 x0 _ h0 (by omega)).mono ?_
    rintro e w1 ⟨vl, rfl, ol, y1⟩
    obtain ⟨al, nl, cl, hnl, rfl, rl⟩ := OwnK.rdn runEnc_len ol
    have h1 := h0.bel y1
    have hnl2 : nl ≤ 100 := by have := runsL_le x0 n0; omega
    have hnl3 := hnl
    replace hnl := Lib.hid hnl
    clear ol
    generalize runsL x0 n0 = L at *
    replace hnl3 := hnl3.symm
    replace hnl3 := Lib.hid hnl3
    go_wp2_with fail
    go_loopw [4, 5] (fun at' i wr => ∃ k p : Nat, k ≤ nl ∧ at' = .int .i64 p ∧ i = .int .i64 k ∧ Ext w1 wr ∧ Hid (Tiles x0 p (L.drop k) n0)) (fun _ i _ => nl - (intOf i).toNat)
    case atStart => exact ⟨0, 0, Nat.zero_le _, rfl, rfl, Ext.refl _, htl⟩
    case round =>
      obtain ⟨k, p, hk, rfl, rfl, hx, htk⟩ := hrel
      by_cases hlt : k < nl
      · obtain ⟨b1, f1, ⟨ra, rb⟩, ha1, hs1, hb1, hc1, hd1⟩ := (rl.ext hx).run hlt
        obtain ⟨hrp, ⟨hsame, hst, hend⟩, hnew⟩ := htk.out.at hs1.out
        simp only at hrp hsame hst hend hnew hc1 hd1
        subst hrp
        cases ha1
        obtain ⟨hab, hbn, hin⟩ := hsame
        rw [hl0] at hbn
        have h2 := h1.ext hx
        replace hnew := Lib.hid hnew
        replace hin := Lib.hid hin
        clear htk hend
        have g1 : decide (rb ≤ ra) = false := by simp; omega
        have g2 : decide (n0 < rb) = false := by simp; omega
        go_wp2_with fail
        go_quiet (fail)
        have h3 := h2.ext ((Ext.refl wr).drewN nq)
        have hx3 := hx.drewN nq
        generalize wr.drewN nq = wy at h3 hx3 ⊢
        obtain ⟨b2, f2, s2, ha2, hs2, hb2, hc2, hd2⟩ := h3.snd (show ra < n0 by omega)
        subst ha2
        have he := eql_snd
        have hne := neq_snd
        by_cases hr0 : ra = 0
        · have g3 : decide (0 < ra) = false := by simp; omega
          replace hr0 := Lib.hid hr0
          replace hst := Lib.hid hst
          go_wp2_with fail
          go_quiet (fail)
          have h4 := h3.ext ((Ext.refl wy).drewN nq)
          have hx4 := hx3.drewN nq
          generalize wy.drewN nq = wv at h4 hx4 ⊢
          clear g1 g2 g3 hc2 hd2 hb2 h3 hx3 h2
          go_wp2_with fail
          go_loopw [8] (fun j wr => ∃ q : Nat, ra ≤ q ∧ q ≤ rb ∧ j = .int .i64 q ∧ Ext wv wr) (fun j _ => rb - (intOf j).toNat)
          case atStart => exact ⟨ra, Nat.le_refl _, by omega, rfl, Ext.refl _⟩
          case round =>
            obtain ⟨q, hq1, hq2, rfl, hx5⟩ := hrel
            by_cases hlt2 : q < rb
            · obtain ⟨b5, f5, s5, ha5, hs5, hb5, hc5, hd5⟩ := (h4.ext hx5).snd (show ra < n0 by omega)
              obtain ⟨b6, f6, s6, ha6, hs6, hb6, hc6, hd6⟩ := (h4.ext hx5).snd (show q < n0 by omega)
              cases ha5
              cases ha6
              have hss : s6 = s5 := by
                by_cases e : q = ra
                · subst e; have := hs6.out.symm.trans hs5.out; exact Option.some.inj this
                · have := hin.out q (by omega) hlt2; rw [hs5.out, hs6.out] at this; exact Option.some.inj this
              subst hss
              go_wp2_with fail
              go_quiet (fail)
              go_wp2_with fail
              (first | exact ⟨⟨q + 1, by omega, by omega, by go_num, (by repeat (first | exact Ext.refl _ | assumption | refine Ext.drew ?_ | refine Ext.drewN ?_ _ | refine Ext.alloc ?_ _ | refine Ext.trans ?_ (by assumption)))⟩, (by simp [intOf]; omega)⟩ | (go_roundw; case rel => exact ⟨q + 1, by omega, by omega, by go_num, (by repeat (first | exact Ext.refl _ | assumption | refine Ext.drew ?_ | refine Ext.drewN ?_ _ | refine Ext.alloc ?_ _ | refine Ext.trans ?_ (by assumption)))⟩; case measure => exact (by simp [intOf]; omega)))
            · go_wp2_with fail
              (first | exact ⟨⟨k + 1, rb, by omega, rfl, by go_num, hx4.trans hx5, hnew⟩, (by simp [intOf]; omega)⟩ | (go_roundw; case rel => exact ⟨k + 1, rb, by omega, rfl, by go_num, hx4.trans hx5, hnew⟩; case measure => exact (by simp [intOf]; omega)))
        · have g3 : decide (0 < ra) = true := by simp; omega
          have g4 : 1 ≤ ra := by omega
          obtain ⟨b3, f3, s3, ha3, hs3, hb3, hc3, hd3⟩ := h3.snd (show ra - 1 < n0 by omega)
          cases ha3
          have hw1 : IntKind.i64.wrap ((ra : Int) - 1) = (ra : Int) - 1 := IntWalk.i64_in _ (by omega)
          have hj : ((ra : Int) - 1).toNat = ra - 1 := by omega
          have hd : decide (s2 = s3) = false := by
            simp only [decide_eq_false_iff_not]
            intro hh
            unfold isSt at hst
            rw [hs2.out, hs3.out, hh] at hst
            simp [hr0] at hst
          replace hr0 := Lib.hid hr0
          replace hst := Lib.hid hst
          go_wp2_with fail
          go_quiet (fail)
          clear hw1 hj hd hc3 hd3 hb3 g4
          have h4 := h3.ext ((Ext.refl wy).drewN nq)
          have hx4 := hx3.drewN nq
          generalize wy.drewN nq = wv at h4 hx4 ⊢
          clear g1 g2 g3 hc2 hd2 hb2 h3 hx3 h2
          go_wp2_with fail
          go_loopw [8] (fun j wr => ∃ q : Nat, ra ≤ q ∧ q ≤ rb ∧ j = .int .i64 q ∧ Ext wv wr) (fun j _ => rb - (intOf j).toNat)
          case atStart => exact ⟨ra, Nat.le_refl _, by omega, rfl, Ext.refl _⟩
          case round =>
            obtain ⟨q, hq1, hq2, rfl, hx5⟩ := hrel
            by_cases hlt2 : q < rb
            · obtain ⟨b5, f5, s5, ha5, hs5, hb5, hc5, hd5⟩ := (h4.ext hx5).snd (show ra < n0 by omega)
              obtain ⟨b6, f6, s6, ha6, hs6, hb6, hc6, hd6⟩ := (h4.ext hx5).snd (show q < n0 by omega)
              cases ha5
              cases ha6
              have hss : s6 = s5 := by
                by_cases e : q = ra
                · subst e; have := hs6.out.symm.trans hs5.out; exact Option.some.inj this
                · have := hin.out q (by omega) hlt2; rw [hs5.out, hs6.out] at this; exact Option.some.inj this
              subst hss
              go_wp2_with fail
              go_quiet (fail)
              go_wp2_with fail
              (first | exact ⟨⟨q + 1, by omega, by omega, by go_num, (by repeat (first | exact Ext.refl _ | assumption | refine Ext.drew ?_ | refine Ext.drewN ?_ _ | refine Ext.alloc ?_ _ | refine Ext.trans ?_ (by assumption)))⟩, (by simp [intOf]; omega)⟩ | (go_roundw; case rel => exact ⟨q + 1, by omega, by omega, by go_num, (by repeat (first | exact Ext.refl _ | assumption | refine Ext.drew ?_ | refine Ext.drewN ?_ _ | refine Ext.alloc ?_ _ | refine Ext.trans ?_ (by assumption)))⟩; case measure => exact (by simp [intOf]; omega)))
            · go_wp2_with fail
              (first | exact ⟨⟨k + 1, rb, by omega, rfl, by go_num, hx4.trans hx5, hnew⟩, (by simp [intOf]; omega)⟩ | (go_roundw; case rel => exact ⟨k + 1, rb, by omega, rfl, by go_num, hx4.trans hx5, hnew⟩; case measure => exact (by simp [intOf]; omega)))
      · have hpn : p = n0 := by have := htk.out; rw [List.drop_of_length_le (by have := hnl3.out; omega)] at this; exact this
        subst hpn
        go_wp2_with fail
        refine (works_any _).mono ?_
        rintro e wz ⟨rfl, hxz⟩
        go_wp2_with fail
        go_ret
        exact ⟨rfl, bel_ext y1 (hx.trans hxz)⟩
  · have e0 : decide ((100 : Int) < n0) = true := by simp; omega
    go_enter Try.func12, Try.ntmps12
    go_wp2_with fail
    refine (works_any _).mono ?_
    rintro e wz ⟨rfl, hxz⟩
    go_wp2_with fail
    go_ret
    exact ⟨rfl, hxz.bel⟩
end Go.Proofs.Ytphfnmmdfnfnaaa
