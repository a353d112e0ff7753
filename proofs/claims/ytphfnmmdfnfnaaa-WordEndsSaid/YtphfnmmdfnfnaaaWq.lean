/-
  The reference's Same; works.
-/
import Derived.Test.YtphfnmmdfnfnaaaWp
import Derived.Test.YtphfnmmdfnfnaaaWm
import Derived.Test.YtphfnmmdfnfnaaaWk
import Derived.Test.YtphfnmmdfnfnaaaWd
import Derived.Test.YtphfnmmdfnfnaaaWh
import Derived.Test.YtphfnmmdfnfnaaaWj
namespace Go.Proofs.Ytphfnmmdfnfnaaa
open Go.RowKit
theorem OwnWs.rd {B : Nat} {w : World} {v : Value} {L : List (List Snd)} (h : OwnWs B w v L) : ∃ a cap, v = .slice a L.length cap ∧ RdWs w a L.length cap L := by
  obtain ⟨hs, h1, rfl, h2⟩ := h
  obtain ⟨a, cap, rfl, hr⟩ := OwnK.rd WH.len h1
  rw [List.length_map]
  refine ⟨a, cap, rfl, by simp, hr.le, hr.most, hr.isnil, fun hn => ?_⟩
  obtain ⟨b, off, ha, hb, hc⟩ := hr.pos hn
  refine ⟨b, off, ha, hb, fun i x hi => ?_⟩
  rw [List.getElem?_map] at hi
  obtain ⟨h, hh, rfl⟩ := Option.map_eq_some_iff.1 hi
  have := hc i h hh 0 _ rfl
  simp only [Nat.mul_one, Nat.add_zero] at this
  obtain ⟨a', c', hv, hr'⟩ := OwnK.rd Snd.len (h2 h (List.mem_of_getElem? hh))
  simp only [WH.v, Value.slice.injEq] at hv
  exact ⟨_, this, h.a, h.n, h.cap, rfl, by rw [hv.1, hv.2.1, hv.2.2]; exact hr'⟩
theorem wsame_any (a a' : Option Addr) (n cap n' cap' : Nat) (xs ys : List (List Snd)) (w : World) (hr : RdWs w a n cap xs) (hr' : RdWs w a' n' cap' ys) :
    Calls Try.prog 31 #[.slice a n cap, .slice a' n' cap'] w fun e w' => e = .returned (.bool (decide (xs = ys))) ∧ Ext w w' := by
  have hmax : n ≤ 9223372036854775807 := by have := hr.le; have := hr.most; unfold maxLen at this; omega
  by_cases h : n = n'
  · subst h
    have hb0 : ((n : Int) != (n : Int)) = false := by simp
    go_enter Try.func31, Try.ntmps31
    go_wp2_with fail
    go_loopw [5] (fun i wr => ∃ k : Nat, k ≤ n ∧ i = .int .i64 k ∧ Ext w wr ∧ Hid (xs.take k = ys.take k)) (fun i _ => n - (intOf i).toNat)
    case atStart => exact ⟨0, Nat.zero_le _, rfl, Ext.refl _, rfl⟩
    case round =>
      obtain ⟨k, hk, rfl, hx, hall⟩ := hrel
      by_cases hlt : k < n
      · obtain ⟨b, off, _, s, rfl, hs, hb, hc0, a1, n1, c1, rfl, hr1⟩ := RdV.at (hr.ext hx) hlt
        obtain ⟨b', off', _, s', rfl, hs', hb', hc0', a1', n1', c1', rfl, hr1'⟩ := RdV.at (hr'.ext hx) hlt
        have hcc0 := fun x : ExtOf _ => x.cell hc0
        have hcc1 := fun x : ExtOf _ => x.cell hc0'
        by_cases hst : s = s'
        · have hd : decide (s = s') = true := by simpa using hst
          have Hst := Lib.hid hst; clear hst
          go_wp2_with fail
          (refine wp_region_qx (by kernel_rfl) (by kernel_rfl) ?_
           repeat (go_big_quiet_step ((go_at_call 18; exact calls_ext (cbool (req_any _ _ _ _ _ _ _ _ _ (hr1.ext (ExtOf.h _)) (hr1'.ext (ExtOf.h _))) hd))))
           refine wpQuiet_nil ?_
           intro wq hw'
           have hxq := ext_of_ex hw'
           clear hw')
          go_wp2_with fail
          (first | exact ⟨⟨k + 1, by omega, by go_num, (by repeat (first | exact Ext.refl _ | assumption | refine Ext.drew ?_ | refine Ext.drewN ?_ _ | refine Ext.alloc ?_ _ | refine Ext.trans ?_ (by assumption))), eq_succ hall.out hs.out (by rw [Hst.out]; exact hs'.out)⟩, (by simp [intOf]; omega)⟩ | (go_roundw; case rel => exact ⟨k + 1, by omega, by go_num, (by repeat (first | exact Ext.refl _ | assumption | refine Ext.drew ?_ | refine Ext.drewN ?_ _ | refine Ext.alloc ?_ _ | refine Ext.trans ?_ (by assumption))), eq_succ hall.out hs.out (by rw [Hst.out]; exact hs'.out)⟩; case measure => exact (by simp [intOf]; omega)))
        · have hd : decide (s = s') = false := by simpa using hst
          have Hst := Lib.hid hst; clear hst
          go_wp2_with fail
          (refine wp_region_qx (by kernel_rfl) (by kernel_rfl) ?_
           repeat (go_big_quiet_step ((go_at_call 18; exact calls_ext (cbool (req_any _ _ _ _ _ _ _ _ _ (hr1.ext (ExtOf.h _)) (hr1'.ext (ExtOf.h _))) hd))))
           refine wpQuiet_nil ?_
           intro wq hw'
           have hxq := ext_of_ex hw'
           clear hw')
          go_wp2_with fail
          go_ret
          exact ⟨ret_bool (by simpa using ne_at hs hs' Hst.out), (by repeat (first | exact Ext.refl _ | assumption | refine Ext.drew ?_ | refine Ext.drewN ?_ _ | refine Ext.alloc ?_ _ | refine Ext.trans ?_ (by assumption)))⟩
      · go_wp2_with fail
        go_ret
        exact ⟨ret_bool (by simpa using eq_end hr.len hr'.len hlt hall), hx⟩
  · have hb0 : ((n : Int) != (n' : Int)) = true := by simp; omega
    go_enter Try.func31, Try.ntmps31
    go_wp2_with fail
    go_ret
    exact ⟨ret_bool (by simpa using ne_len hr.len hr'.len h), Ext.refl _⟩
/-! ### works -/
theorem spell_rd (s : ByteArray) (w : World) (hs : s.size ≤ 60000) : Calls Try.prog 45 #[.string s] w fun e w' => ∃ a cap, e = .returned (.slice a (spellL s.data.toList).length cap) ∧ RdS w' a (spellL s.data.toList).length cap (spellL s.data.toList) ∧ Ext w w' :=
  (spell_any s w hs).mono fun e w' ⟨v, he, ho, hx⟩ => by
    obtain ⟨a, cap, rfl, hr⟩ := OwnK.rd Snd.len ho
    exact ⟨a, cap, he, hr, hx⟩
theorem RetSE.rd {P : Program} {f : FuncId} {args : Array Value} {w : World} {xs : List Snd} {err err' : Int} (h : Calls P f args w (RetSE xs err w)) (he : err = err') :
    Calls P f args w fun e w' => ∃ a cap, e = .returned (.tuple #[.slice a xs.length cap, .int .i64 err']) ∧ RdS w' a xs.length cap xs ∧ Ext w w' :=
  h.mono fun e w' ⟨v, h1, ho, hx⟩ => by
    obtain ⟨a, cap, rfl, hr⟩ := OwnK.rd Snd.len ho
    exact ⟨a, cap, by rw [h1, he], hr, hx⟩
theorem wsort_ok (a : Option Addr) (n cap : Nat) (ws L : List (List Snd)) (w : World) (hr : RdWs w a n cap ws) (hn : n ≤ 256) (hc : checkWs ws = 0) (hL : SortedOf ws L) :
    Calls Try.prog 29 #[.slice a n cap] w fun e w' => ∃ a' cap', e = .returned (.tuple #[.slice a' L.length cap', .int .i64 0]) ∧ RdWs w' a' L.length cap' L ∧ Ext w w' :=
  (wsort_any a n cap ws w hr).mono fun e w' ⟨hx, h⟩ => by
    rcases h with ⟨h, _⟩ | ⟨_, h, _⟩ | ⟨_, _, v, L', rfl, hs, ho⟩
    · omega
    · exact absurd hc h
    · rw [SortedOf.uniq hL hs]
      obtain ⟨a', c', rfl, hr'⟩ := ho.rd
      exact ⟨a', c', rfl, hr', hx⟩
end Go.Proofs.Ytphfnmmdfnfnaaa
