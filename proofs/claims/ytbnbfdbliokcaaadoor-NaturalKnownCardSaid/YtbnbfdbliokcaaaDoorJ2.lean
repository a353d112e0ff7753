/-
  ablautref05.add: a sound put at its place.
-/
import Derived.Test.YtbnbfdbliokcaaaDoorJ1
namespace Go.Proofs.YtbnbfdbliokcaaaDoor
open Go.RowKit
def addTo (L : List Snd) (s : Snd) : Nat → List Snd × Bool
  | 0 => ([], false)
  | k + 1 => match L[k]? with
    | some x => if (addTo L s k).2 = false ∧ cmpS s x < 0 then ((addTo L s k).1 ++ [s] ++ [x], true) else ((addTo L s k).1 ++ [x], (addTo L s k).2)
    | none => addTo L s k
theorem addTo_succ {L : List Snd} {s x : Snd} {k : Nat} (h : L[k]? = some x) : addTo L s (k + 1) = if (addTo L s k).2 = false ∧ cmpS s x < 0 then ((addTo L s k).1 ++ [s] ++ [x], true) else ((addTo L s k).1 ++ [x], (addTo L s k).2) := by simp only [addTo, h]
def addS (L : List Snd) (s : Snd) : List Snd := if s ∈ L then L else if (addTo L s L.length).2 = true then (addTo L s L.length).1 else (addTo L s L.length).1 ++ [s]
structure AddI (L : List Snd) (s : Snd) (k : Nat) (p : List Snd × Bool) : Prop where
  mem : ∀ g, g ∈ p.1 ↔ g ∈ L.take k ∨ (p.2 = true ∧ g = s)
  lo : p.2 = false → ∀ x ∈ L.take k, cmpS x s < 0
  hi : p.2 = true → ∀ j x, k ≤ j → L[j]? = some x → cmpS s x < 0
  pw : p.1.Pairwise (fun x y => cmpS x y < 0)
theorem addTo_len (L : List Snd) (s : Snd) : ∀ k, (addTo L s k).1.length ≤ k + if (addTo L s k).2 then 1 else 0
  | 0 => by simp [addTo]
  | k + 1 => by
    have ih := addTo_len L s k
    cases hx : L[k]? with
    | none => simp only [addTo, hx]; omega
    | some x =>
      rw [addTo_succ hx]
      split
      · rename_i h
        rw [h.1] at ih
        simp at ih ⊢; omega
      · simp; omega
theorem addI_of {L : List Snd} {s : Snd} (hp : L.Pairwise (fun x y => cmpS x y < 0)) (hs : s ∉ L) : ∀ k, k ≤ L.length → AddI L s k (addTo L s k)
  | 0, _ => ⟨fun g => by simp [addTo], fun _ x h => by simp at h, fun h => by simp [addTo] at h, by simp [addTo]⟩
  | k + 1, hk => by
    have ih := addI_of hp hs k (by omega)
    have hx : L[k]? = some (L[k]'(by omega)) := List.getElem?_eq_getElem (by omega)
    generalize hxe : L[k]'(by omega) = x at hx
    have hxs : x ≠ s := fun h => hs (h ▸ List.mem_of_getElem? hx)
    have hlow : ∀ y ∈ L.take k, cmpS y x < 0 := fun y hy => by
      obtain ⟨i, hi⟩ := List.getElem?_of_mem hy
      rw [List.getElem?_take] at hi
      split at hi
      · obtain ⟨hil, he⟩ := List.getElem?_eq_some_iff.1 hi
        have := List.pairwise_iff_getElem.1 hp i k hil (by omega) (by omega)
        rw [he, hxe] at this; exact this
      · cases hi
    have hhigh : ∀ j y, k + 1 ≤ j → L[j]? = some y → cmpS x y < 0 := fun j y hj hy => by
      obtain ⟨hjl, he⟩ := List.getElem?_eq_some_iff.1 hy
      have := List.pairwise_iff_getElem.1 hp k j (by omega) hjl (by omega)
      rw [he, hxe] at this; exact this
    have htk : L.take (k + 1) = L.take k ++ [x] := take_succ_at hx
    rw [addTo_succ hx]
    generalize addTo L s k = p at ih
    obtain ⟨hm, hlo, hhi, hpw⟩ := ih
    split
    · rename_i hc
      obtain ⟨hc1, hc2⟩ := hc
      have hlo := hlo hc1
      refine ⟨fun g => ?_, fun h => (by simp at h), fun _ j y hj hy => cmpS_tot.trans hc2 (hhigh j y hj hy), ?_⟩
      · have h0 : (p.2 = true ∧ g = s) ↔ False := ⟨(fun h => by rw [hc1] at h; cases h.1), fun h => h.elim⟩
        simp only [List.mem_append, List.mem_singleton, hm g, htk, h0, or_false, true_and]
        constructor
        · rintro ((h | h) | h)
          · exact .inl (.inl h)
          · exact .inr h
          · exact .inl (.inr h)
        · rintro ((h | h) | h)
          · exact .inl (.inl h)
          · exact .inr h
          · exact .inl (.inr h)
      · rw [List.append_assoc, List.pairwise_append]
        refine ⟨hpw, ?_, fun a ha b hb => ?_⟩
        · exact List.pairwise_cons.2 ⟨(fun y hy => by rcases List.mem_cons.1 hy with e | e; (· subst e; exact hc2); (· cases e)), List.pairwise_cons.2 ⟨(fun y hy => by cases hy), List.Pairwise.nil⟩⟩
        · have ha2 : a ∈ L.take k := by
            rcases (hm a).1 ha with h | ⟨h, _⟩
            · exact h
            · rw [hc1] at h; cases h
          simp at hb
          rcases hb with e | e
          · subst e; exact hlo a ha2
          · subst e; exact hlow a ha2
    · rename_i hc
      refine ⟨fun g => ?_, fun h y hy => ?_, fun h j y hj hy => hhi h j y (by omega) hy, ?_⟩
      · simp only [List.mem_append, List.mem_singleton, hm g, htk]
        constructor
        · rintro ((h | h) | h)
          · exact .inl (.inl h)
          · exact .inr h
          · exact .inl (.inr h)
        · rintro ((h | h) | h)
          · exact .inl (.inl h)
          · exact .inr h
          · exact .inl (.inr h)
      · rw [htk, List.mem_append, List.mem_singleton] at hy
        rcases hy with e | e
        · exact hlo h y e
        · subst e
          have h1 : ¬ cmpS s y < 0 := fun h2 => hc ⟨h, h2⟩
          have h2 := cmpS_tot.anti s y
          rcases cmpS_tot.tri y s with h3 | h3 | h3
          · omega
          · exact absurd (cmpS_tot.zero h3) hxs
          · omega
      · rw [List.pairwise_append]
        refine ⟨hpw, List.pairwise_cons.2 ⟨(fun y hy => by cases hy), List.Pairwise.nil⟩, fun a ha b hb => ?_⟩
        rw [List.mem_singleton] at hb
        subst hb
        rcases (hm a).1 ha with h | ⟨h, e⟩
        · exact hlow a h
        · subst e; exact hhi h k _ (Nat.le_refl _) hx
theorem addS_srt {L xs : List Snd} {s : Snd} (h : SrtOf cmpS L xs) : SrtOf cmpS (addS L s) (xs ++ [s]) := by
  unfold addS
  by_cases hs : s ∈ L
  · rw [if_pos hs]
    exact h.congr fun g => by
      rw [List.mem_append, List.mem_singleton]
      exact ⟨.inl, fun h1 => by rcases h1 with h1 | h1; (· exact h1); (· subst h1; exact (h.2 _).1 hs)⟩
  · rw [if_neg hs]
    obtain ⟨hm, hlo, hhi, hpw⟩ := addI_of h.1 hs L.length (Nat.le_refl _)
    rw [List.take_length] at hm hlo
    by_cases hc : (addTo L s L.length).2 = true
    · rw [if_pos hc]
      exact ⟨hpw, fun g => by rw [hm g, hc, List.mem_append, List.mem_singleton, h.2 g]; simp⟩
    · rw [if_neg hc]
      have hc : (addTo L s L.length).2 = false := by simpa using hc
      refine ⟨?_, fun g => ?_⟩
      · rw [List.pairwise_append]
        refine ⟨hpw, List.pairwise_cons.2 ⟨(fun y hy => by cases hy), List.Pairwise.nil⟩, fun a ha b hb => ?_⟩
        rw [List.mem_singleton] at hb
        subst hb
        rcases (hm a).1 ha with h1 | ⟨h1, _⟩
        · exact hlo hc a h1
        · rw [hc] at h1; cases h1
      · rw [List.mem_append, hm g, hc, List.mem_append, h.2 g]; simp
theorem addS_len (L : List Snd) (s : Snd) : (addS L s).length ≤ L.length + 1 := by
  unfold addS
  have := addTo_len L s L.length
  split
  · omega
  · split
    · rename_i h; rw [h] at this; simpa using this
    · rename_i h
      have h : (addTo L s L.length).2 = false := by simpa using h
      rw [h] at this
      simp at this ⊢; omega
/-- What 'add' hands back: the slice itself, or its own list. -/
def RetAdd (L : List Snd) (s : Snd) (v0 : Value) (w : World) (e : Ending) (w' : World) : Prop :=
  ∃ v, e = .returned v ∧ (OwnS w.heap.size 27 w' v (addS L s) ∨ v = v0 ∧ addS L s = L) ∧ Ext w w'
set_option maxHeartbeats 2000000 in
set_option maxRecDepth 20000 in
theorem radd_any (a : Option Addr) (n cap : Nat) (L : List Snd) (s : Snd) (w : World) (hr : RdS w a n cap L) (hn : n ≤ 40000000) :
    Calls Tryd.prog 66 #[.slice a n cap, sndV s] w (RetAdd L s (.slice a n cap) w) := by
  have he := eql_snd
  have hl := hr.len
  have q0 := SndB.new w s
  have hxB : Ext w (w.alloc (.cells #[.int .u32 s.p.toNat, .int .u32 s.m.toNat] 27)) := (by repeat (first | exact Ext.refl _ | refine Ext.drew ?_ | refine Ext.drewN ?_ _ | refine Ext.alloc ?_ _))
  replace hl := Lib.hid hl
  go_enter Tryd.func66, Tryd.ntmps66
  go_wp2_with fail
  generalize (w.alloc (.cells #[.int .u32 s.p.toNat, .int .u32 s.m.toNat] 27)) = wB at *
  go_loopw [5, 6, 7] (fun ov pv i wr => ∃ (k : Nat) (b : Bool) (T : List Snd), k ≤ n ∧ i = .int .i64 k ∧ pv = .bool b ∧ Hid (addTo L s k = (T, b)) ∧ OwnS wB.heap.size 27 wr ov T ∧ Hid (∀ (i : Nat) (y : Snd), i < k → L[i]? = some y → decide (y ≠ s) = true) ∧ Ext wB wr) (fun _ _ i _ => n - (intOf i).toNat)
  case atStart => exact ⟨0, false, [], Nat.zero_le _, rfl, rfl, Lib.hid rfl, OwnK.nil _ _ _, Lib.hid (fun i y h => absurd h (Nat.not_lt_zero _)), Ext.refl _⟩
  case round =>
    obtain ⟨k, b, T, hk, rfl, rfl, hT, hown, hall, hx⟩ := hrel
    have hxw := hxB.trans hx
    have hTl : T.length ≤ k + 1 := by
      have := addTo_len L s k
      rw [hT.out] at this
      simp only at this
      split at this <;> omega
    by_cases hlt : k < n
    · have hki : (k : Int) < (n : Int) := by omega
      obtain ⟨b1, off, x, rfl, hxk, hb, p0, p1⟩ := (hr.ext hxw).snd hlt
      obtain ⟨c0, c1⟩ := (q0.ext hx).cells
      have r0 := fun z : ExtOf wr => z.cell p0
      have r1 := fun z : ExtOf wr => z.cell p1
      have r2 := fun z : ExtOf wr => z.cell c0
      have r3 := fun z : ExtOf wr => z.cell c1
      by_cases h1 : x = s
      · have hd : decide (x = s) = true := by simpa using h1
        have hm : s ∈ L := h1 ▸ List.mem_of_getElem? hxk.out
        have hadd : addS L s = L := by unfold addS; rw [if_pos hm]
        replace h1 := Lib.hid h1
        replace hxk := Lib.hid hxk.out
        replace hadd := Lib.hid hadd
        go_wp2_with fail
        (refine wp_region_qx (by kernel_rfl) (by kernel_rfl) ?_
         repeat (go_big_quiet_step (fail))
         refine wpQuiet_nil ?_
         intro wq hw'
         have hxq := ext_of_ex hw'
         clear hw')
        clear r0 r1 r2 r3
        go_wp2_with fail
        go_ret
        exact ⟨_, rfl, .inr ⟨rfl, hadd.out⟩, hxw.trans hxq⟩
      · have hd : decide (x = s) = false := by simpa using h1
        have hall2 := Lib.hid (all_succ (p := fun y => decide (y ≠ s)) hall.out hxk.out (by simpa using h1))
        have hsu := addTo_succ (s := s) hxk.out
        rw [hT.out] at hsu
        simp only at hsu
        have hcall := fun W => rorder_any s x W
        replace h1 := Lib.hid h1
        replace hxk := Lib.hid hxk.out
        clear hT
        go_wp2_with fail
        (refine wp_region_qx (by kernel_rfl) (by kernel_rfl) ?_
         repeat (go_big_quiet_step (fail))
         refine wpQuiet_nil ?_
         intro wq hw'
         have hxq := ext_of_ex hw'
         clear hw')
        clear r0 r1 r2 r3
        have hx := hx.trans hxq
        have hxw := hxw.trans hxq
        have hown := hown.kept hxq
        have p0 := hxq.cellv p0
        have p1 := hxq.cellv p1
        have q1 := q0.ext hx
        clear hxq c0 c1
        rename World => wz
        obtain ⟨c0, c1⟩ := q1.cells
        have r0 := fun z : ExtOf wz => z.cell p0
        have r1 := fun z : ExtOf wz => z.cell p1
        have r2 := fun z : ExtOf wz => z.cell c0
        have r3 := fun z : ExtOf wz => z.cell c1
        go_wp2_with fail
        cases b with
        | true =>
          rw [if_neg (fun h => by cases h.1)] at hsu
          replace hsu := Lib.hid hsu
          (refine wp_region_qx (by kernel_rfl) (by kernel_rfl) ?_
           repeat (go_big_quiet_step (fail))
           refine wpQuiet_nil ?_
           intro wq hw'
           have hxq := ext_of_ex hw'
           clear hw')
          clear r0 r1 r2 r3 c0 c1 hcall
          have hx := hx.trans hxq
          have hxw := hxw.trans hxq
          have hown := hown.kept hxq
          have p0 := hxq.cellv p0
          have p1 := hxq.cellv p1
          clear hxq q1
          rename World => wy
          go_wp2_with (at_builtin; refine wp_app1 wB wy x rfl _ _ 22 rfl 27 Tryd.underlying22 info_snd rfl (by decide) _ _ rfl hown hx (by first | rfl | (rw [World.size_alloc]; rfl)) (Snd.len _) (Snd.one _) (by omega) (by unfold maxLen; omega) ?_; intro v5 w10 o5 x5 hgA)
          (first | exact ⟨⟨k + 1, true, T ++ [x], hlt, by go_num, rfl, hsu, o5, hall2, x5⟩, (by simp [intOf]; omega)⟩ | (go_roundw; case rel => exact ⟨k + 1, true, T ++ [x], hlt, by go_num, rfl, hsu, o5, hall2, x5⟩; case measure => exact (by simp [intOf]; omega)))
        | false =>
          have hcb : decide (cmpS s x < 0) = true ∨ decide (cmpS s x < 0) = false := by cases decide (cmpS s x < 0) <;> simp
          have hdi : (decide (cmpS s x < 0) = true) = (cmpS s x < 0) := by simp
          by_cases hc : cmpS s x < 0
          · have hdc : decide (cmpS s x < 0) = true := by simpa using hc
            rw [if_pos ⟨rfl, hc⟩] at hsu
            replace hsu := Lib.hid hsu
            replace hc := Lib.hid hc
            clear hcb hdi
            generalize cmpS s x = C at *
            (refine wp_region_qx (by kernel_rfl) (by kernel_rfl) ?_
             repeat (go_big_quiet_step ((go_at_call 81; exact calls_ext (hcall _))))
             refine wpQuiet_nil ?_
             intro wq hw'
             have hxq := ext_of_ex hw'
             clear hw')
            clear r0 r1 r2 r3 c0 c1 hcall
            have hx := hx.trans hxq
            have hown := hown.kept hxq
            have p0 := hxq.cellv p0
            have p1 := hxq.cellv p1
            obtain ⟨c0, c1⟩ := (q0.ext hx).cells
            clear hxq q1 hxw
            rename World => wy
            have hTl2 : (T ++ [s]).length ≤ k + 2 := by simp; omega
            obtain ⟨T2, hT2⟩ : ∃ T2, T2 = T ++ [s] := ⟨_, rfl⟩
            rw [← hT2] at hTl2 hsu
            replace hT2 := Lib.hid hT2
            go_wp2_with (first | ((at_builtin; refine wp_app1 wB wy s rfl _ _ 22 rfl 27 Tryd.underlying22 info_snd rfl (by decide) _ _ rfl hown hx (by first | rfl | (rw [World.size_alloc]; rfl)) (Snd.len _) (Snd.one _) (by omega) (by unfold maxLen; omega) ?_; intro v5 w10 o5 x5 hgA); rw [← hT2.out] at o5; have hxA := hxB.trans x5; obtain ⟨b2, off2, x2, heq, hx2, hb2, p0, p1⟩ := (hr.ext hxA).snd hlt; cases heq; have ex : x2 = x := (by have h3 := hx2.out; rw [hxk.out] at h3; exact (Option.some.inj h3).symm); subst ex; replace hx2 := Lib.hid hx2.out) | (at_builtin; refine wp_app1 wB w10 x2 rfl _ _ 22 rfl 27 Tryd.underlying22 info_snd rfl (by decide) _ _ rfl o5 x5 (by first | rfl | (rw [World.size_alloc]; rfl)) (Snd.len _) (Snd.one _) (by omega) (by unfold maxLen; omega) ?_; intro v6 w11 o6 x6 hgA))
            (first | exact ⟨⟨k + 1, true, T2 ++ [x2], hlt, by go_num, rfl, hsu, o6, hall2, x6⟩, (by simp [intOf]; omega)⟩ | (go_roundw; case rel => exact ⟨k + 1, true, T2 ++ [x2], hlt, by go_num, rfl, hsu, o6, hall2, x6⟩; case measure => exact (by simp [intOf]; omega)))
          · have hdc : decide (cmpS s x < 0) = false := by simpa using hc
            rw [if_neg (fun h => hc h.2)] at hsu
            replace hsu := Lib.hid hsu
            replace hc := Lib.hid hc
            clear hcb hdi
            generalize cmpS s x = C at *
            (refine wp_region_qx (by kernel_rfl) (by kernel_rfl) ?_
             repeat (go_big_quiet_step ((go_at_call 81; exact calls_ext (hcall _))))
             refine wpQuiet_nil ?_
             intro wq hw'
             have hxq := ext_of_ex hw'
             clear hw')
            clear r0 r1 r2 r3 c0 c1 hcall
            have hx := hx.trans hxq
            have hown := hown.kept hxq
            have p0 := hxq.cellv p0
            have p1 := hxq.cellv p1
            clear hxq q1 hxw
            rename World => wy
            go_wp2_with (at_builtin; refine wp_app1 wB wy x rfl _ _ 22 rfl 27 Tryd.underlying22 info_snd rfl (by decide) _ _ rfl hown hx (by first | rfl | (rw [World.size_alloc]; rfl)) (Snd.len _) (Snd.one _) (by omega) (by unfold maxLen; omega) ?_; intro v5 w10 o5 x5 hgA)
            (first | exact ⟨⟨k + 1, false, T ++ [x], hlt, by go_num, rfl, hsu, o5, hall2, x5⟩, (by simp [intOf]; omega)⟩ | (go_roundw; case rel => exact ⟨k + 1, false, T ++ [x], hlt, by go_num, rfl, hsu, o5, hall2, x5⟩; case measure => exact (by simp [intOf]; omega)))
    · have hkn : k = n := by omega
      subst hkn
      have hns : s ∉ L := fun h => by
        obtain ⟨i, hi⟩ := List.getElem?_of_mem h
        have := hall.out i s (by have := (List.getElem?_eq_some_iff.1 hi).1; rw [hl.out] at this; exact this) hi
        simp at this
      have hadd : addS L s = if b = true then T else T ++ [s] := by
        unfold addS; rw [if_neg hns, hl.out, hT.out]
      obtain ⟨c0, c1⟩ := (q0.ext hx).cells
      cases b with
      | true =>
        rw [if_pos rfl] at hadd
        replace hadd := Lib.hid hadd
        go_wp2_with fail
        go_ret
        exact ⟨_, rfl, .inl (by rw [hadd.out]; exact OwnK.base hown hxB.le), hxw⟩
      | false =>
        rw [if_neg (by simp)] at hadd
        replace hadd := Lib.hid hadd
        go_wp2_with (at_builtin; refine wp_app1 wB wr s rfl _ _ 22 rfl 27 Tryd.underlying22 info_snd rfl (by decide) _ _ rfl hown hx (by first | rfl | (rw [World.size_alloc]; rfl)) (Snd.len _) (Snd.one _) (by omega) (by unfold maxLen; omega) ?_; intro v5 w10 o5 x5 hgA)
        go_ret
        exact ⟨_, rfl, .inl (by rw [hadd.out]; exact OwnK.base o5 hxB.le), hxB.trans x5⟩
end Go.Proofs.YtbnbfdbliokcaaaDoor
