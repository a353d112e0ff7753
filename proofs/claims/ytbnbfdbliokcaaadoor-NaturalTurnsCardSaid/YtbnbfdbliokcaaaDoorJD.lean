/-
  at: the walk; members and their sounds.
  Closures, plain.
  NaturalCloses: parts, plain, and the walk.
-/
import Derived.Test.YtbnbfdbliokcaaaDoorJ9
namespace Go.Proofs.YtbnbfdbliokcaaaDoor
open Go.RowKit
/-- The indexes of the sounds that satisfy a condition. -/
def memN (xs : List Snd) (c : Snd) : Nat → List Nat
  | 0 => []
  | k + 1 => match xs[k]? with
    | some s => if satB s c then memN xs c k ++ [k] else memN xs c k
    | none => memN xs c k
theorem memN_succ {xs : List Snd} {c : Snd} {k : Nat} {s : Snd} (h : xs[k]? = some s) : memN xs c (k + 1) = if satB s c then memN xs c k ++ [k] else memN xs c k := by simp only [memN, h]
theorem memTo_N (xs : List Snd) (c : Snd) : ∀ k, k ≤ xs.length → memTo xs c k = (memN xs c k).map Int.ofNat
  | 0, _ => rfl
  | k + 1, hk => by
    have hx : xs[k]? = some (xs[k]'(by omega)) := List.getElem?_eq_getElem (by omega)
    rw [memTo_succ hx, memN_succ hx, memTo_N xs c k (by omega)]
    split
    · rw [List.map_append]; rfl
    · rfl
theorem memN_lt (xs : List Snd) (c : Snd) : ∀ k, ∀ i ∈ memN xs c k, i < k
  | 0 => fun i h => by cases h
  | k + 1 => fun i h => by
    have ih := memN_lt xs c k
    simp only [memN] at h
    split at h
    · split at h
      · rcases List.mem_append.1 h with h1 | h1
        · have := ih i h1; omega
        · rw [List.mem_singleton] at h1; omega
      · have := ih i h; omega
    · have := ih i h; omega
theorem memN_sorted (xs : List Snd) (c : Snd) : ∀ k, (memN xs c k).Pairwise (· < ·)
  | 0 => List.Pairwise.nil
  | k + 1 => by
    have ih := memN_sorted xs c k
    simp only [memN]
    split
    · split
      · rw [List.pairwise_append]
        exact ⟨ih, List.pairwise_cons.2 ⟨(fun y hy => by cases hy), List.Pairwise.nil⟩, fun a ha b hb => by rw [List.mem_singleton] at hb; rw [hb]; exact memN_lt xs c k a ha⟩
      · exact ih
    · exact ih
theorem memN_at (xs : List Snd) (c : Snd) : ∀ k, k ≤ xs.length → (memN xs c k).filterMap (fun i => xs[i]?) = (xs.take k).filter (fun s => satB s c)
  | 0, _ => by simp [memN]
  | k + 1, hk => by
    have hx : xs[k]? = some (xs[k]'(by omega)) := List.getElem?_eq_getElem (by omega)
    rw [memN_succ hx, take_succ_at hx, List.filter_append, ← memN_at xs c k (by omega)]
    split
    · rename_i h
      rw [List.filterMap_append]
      simp [hx, h]
    · rename_i h
      simp [h]
def clsS (xs : List Snd) (c : Snd) : List Snd := xs.filter fun s => satB s c
theorem memL_N (xs : List Snd) (c : Snd) : memL xs c = (memN xs c xs.length).map Int.ofNat := memTo_N xs c _ (Nat.le_refl _)
theorem memN_cls (xs : List Snd) (c : Snd) : (memN xs c xs.length).filterMap (fun i => xs[i]?) = clsS xs c := by
  rw [memN_at xs c _ (Nat.le_refl _), List.take_length]; rfl
set_option maxHeartbeats 1000000 in
set_option maxRecDepth 20000 in
theorem at_any (a : Option Addr) (n cap : Nat) (xs : List Snd) (b : Option Addr) (m cap2 : Nat) (ks : List Nat) (w : World) (hr : RdS w a n cap xs) (hs : RdI w b m cap2 (ks.map Int.ofNat)) (hn : n ≤ 24)
    (hp : ks.Pairwise (· < ·)) (hv : ∀ k ∈ ks, k < n) :
    Calls Tryd.prog 39 #[.slice a n cap, .slice b m cap2] w fun e w' => ∃ v, e = .returned (.tuple #[v, .bool true]) ∧ OwnS w.heap.size 27 w' v (ks.filterMap fun i => xs[i]?) ∧ Ext w w' := by
  have hl := hr.len
  have hl2 := hs.len
  rw [List.length_map] at hl2
  have hmax : m ≤ 9223372036854775807 := by have := hs.le; have := hs.most; unfold maxLen at this; omega
  have hm24 : m ≤ 100000 := by
    have h1 : ∀ (ks : List Nat), ks.Pairwise (· < ·) → ∀ N, (∀ k ∈ ks, k < N) → ks.length ≤ N := by
      intro ks
      induction ks with
      | nil => intro _ N _; simp
      | cons x l ih =>
        intro hp N hv
        obtain ⟨h1, h2⟩ := List.pairwise_cons.1 hp
        cases N with
        | zero => exact absurd (hv x (List.mem_cons_self ..)) (by omega)
        | succ N =>
          have h3 : (l.map (· - 1)).length ≤ N := by
            have := ih h2 (N + 1) (fun k hk => hv k (List.mem_cons_of_mem _ hk))
            rw [List.length_map]
            false_or_by_contra
            rename_i hc
            have hl : l.length = N + 1 := by omega
            have h4 : ∀ (l : List Nat), l.Pairwise (· < ·) → ∀ lo, (∀ k ∈ l, lo < k) → ∀ M, (∀ k ∈ l, k < M) → l ≠ [] → lo + l.length < M := by
              intro l
              induction l with
              | nil => intro _ _ _ _ _ h; exact absurd rfl h
              | cons y l ih2 =>
                intro hp lo hlo M hM _
                obtain ⟨g1, g2⟩ := List.pairwise_cons.1 hp
                have hy := hlo y (List.mem_cons_self ..)
                by_cases hn : l = []
                · subst hn
                  have := hM y (List.mem_cons_self ..)
                  simp; omega
                · have := ih2 g2 y g1 M (fun k hk => hM k (List.mem_cons_of_mem _ hk)) hn
                  simp; omega
            have := h4 l h2 x h1 (N + 1) (fun k hk => hv k (List.mem_cons_of_mem _ hk)) (fun e => by rw [e] at hl; simp at hl)
            omega
          rw [List.length_map] at h3
          simp; omega
    have := h1 ks hp n hv
    omega
  have hfm : ∀ k, ((ks.take k).filterMap fun i => xs[i]?).length ≤ k := fun k => by
    have h1 := List.length_filterMap_le (fun i => xs[i]?) (ks.take k)
    have h2 : (ks.take k).length ≤ k := by rw [List.length_take]; omega
    omega
  replace hl := Lib.hid hl
  replace hl2 := Lib.hid hl2
  replace hp := Lib.hid hp
  replace hv := Lib.hid hv
  go_enter Tryd.func39, Tryd.ntmps39
  go_wp2_with fail
  go_loopw [6, 7] (fun ov i wr => ∃ k : Nat, k ≤ m ∧ i = .int .i64 k ∧ Ext w wr ∧ OwnS w.heap.size 27 wr ov ((ks.take k).filterMap fun i => xs[i]?)) (fun _ i _ => m - (intOf i).toNat)
  case atStart => exact ⟨0, Nat.zero_le _, rfl, Ext.refl _, OwnK.nil _ _ _⟩
  case round =>
    obtain ⟨k, hk, rfl, hx, hown⟩ := hrel
    have hfk := hfm k
    by_cases hlt : k < m
    · have hki : (k : Int) < (m : Int) := by omega
      obtain ⟨b2, o2, y, rfl, hyk, hb2, q0⟩ := (hs.ext hx).i64 hlt
      obtain ⟨i, hi, rfl⟩ : ∃ i : Nat, ks[k]? = some i ∧ (i : Int) = y := by
        have h := hyk.out
        rw [List.getElem?_map] at h
        obtain ⟨i, h1, h2⟩ := Option.map_eq_some_iff.1 h
        exact ⟨i, h1, h2⟩
      have hin := hv.out i (List.mem_of_getElem? hi)
      have hini : (i : Int) < (n : Int) := by omega
      have hi0 : decide ((i : Int) < 0) = false := by simp
      have hi1 : decide ((n : Int) ≤ (i : Int)) = false := by simp; omega
      have hi1n : decide (n ≤ i) = false := by simp; omega
      have htk := take_succ_at hi
      obtain ⟨b3, o3, s, rfl, hsi, hb3, p0, p1⟩ := (hr.ext hx).snd hin
      have hfs : Hid (((ks.take (k + 1)).filterMap fun i => xs[i]?) = ((ks.take k).filterMap fun i => xs[i]?) ++ [s]) := Lib.hid (by rw [htk, List.filterMap_append]; simp [hsi.out])
      replace hsi := Lib.hid hsi.out
      replace htk := Lib.hid htk
      replace hyk := Lib.hid hyk.out
      generalize ((ks.take k).filterMap fun i => xs[i]?) = T at *
      cases k with
      | zero =>
        rw [Nat.add_zero] at q0
        have hki0 : (0 : Int) < (m : Int) := by omega
        clear hki
        have r0 := fun z : ExtOf wr => z.cell q0
        replace hi := Lib.hid hi
        go_wp2_with fail
        (refine wp_region_qx (by kernel_rfl) (by kernel_rfl) ?_
         repeat (go_big_quiet_step (fail))
         refine wpQuiet_nil ?_
         intro wq hw'
         have hxq := ext_of_ex hw'
         clear hw')
        clear r0
        have hown := hown.kept hxq
        have hx := hx.trans hxq
        have q0 := hxq.cellv q0
        have p0 := hxq.cellv p0
        have p1 := hxq.cellv p1
        clear hxq
        rename World => wy
        go_wp2_with (at_builtin; refine wp_app1 w wy s rfl _ _ 22 rfl 27 Tryd.underlying22 info_snd rfl (by decide) _ _ rfl hown hx (by first | rfl | (rw [World.size_alloc]; rfl)) (Snd.len _) (Snd.one _) (by omega) (by unfold maxLen; omega) ?_; intro v5 w10 o5 x5 hgA)
        (first | exact ⟨⟨0 + 1, hlt, by go_num, x5, by rw [hfs.out]; exact o5⟩, (by simp [intOf]; omega)⟩ | (go_roundw; case rel => exact ⟨0 + 1, hlt, by go_num, x5, by rw [hfs.out]; exact o5⟩; case measure => exact (by simp [intOf]; omega)))
      | succ k1 =>
        obtain ⟨b4, o4, y2, heq, hyk2, hb4, q1⟩ := (hs.ext hx).i64 (i := k1) (by omega)
        cases heq
        obtain ⟨i2, hi2, rfl⟩ : ∃ i : Nat, ks[k1]? = some i ∧ (i : Int) = y2 := by
          have h := hyk2.out
          rw [List.getElem?_map] at h
          obtain ⟨i, h1, h2⟩ := Option.map_eq_some_iff.1 h
          exact ⟨i, h1, h2⟩
        have hlt2 : i2 < i := by
          obtain ⟨g1, e1⟩ := List.getElem?_eq_some_iff.1 hi2
          obtain ⟨g2, e2⟩ := List.getElem?_eq_some_iff.1 hi
          have := List.pairwise_iff_getElem.1 hp.out k1 (k1 + 1) g1 g2 (by omega)
          rw [e1, e2] at this; exact this
        have hd3 : decide ((i : Int) ≤ (i2 : Int)) = false := by simp; omega
        have hd3n : decide (i ≤ i2) = false := by simp; omega
        have hk1i : (k1 : Int) < (m : Int) := by omega
        have r0 := fun z : ExtOf wr => z.cell q0
        have r1 := fun z : ExtOf wr => z.cell q1
        have hki1 : (k1 : Int) + 1 < (m : Int) := by omega
        have hk10 : (0 : Int) < (k1 : Int) + 1 := by omega
        replace hi := Lib.hid hi
        replace hi2 := Lib.hid hi2
        replace hyk2 := Lib.hid hyk2.out
        go_wp2_with fail
        (refine wp_region_qx (by kernel_rfl) (by kernel_rfl) ?_
         repeat (go_big_quiet_step (fail))
         refine wpQuiet_nil ?_
         intro wq hw'
         have hxq := ext_of_ex hw'
         clear hw')
        clear r0 r1
        have hown := hown.kept hxq
        have hx := hx.trans hxq
        have q0 := hxq.cellv q0
        have p0 := hxq.cellv p0
        have p1 := hxq.cellv p1
        clear hxq
        rename World => wy
        go_wp2_with (at_builtin; refine wp_app1 w wy s rfl _ _ 22 rfl 27 Tryd.underlying22 info_snd rfl (by decide) _ _ rfl hown hx (by first | rfl | (rw [World.size_alloc]; rfl)) (Snd.len _) (Snd.one _) (by omega) (by unfold maxLen; omega) ?_; intro v5 w10 o5 x5 hgA)
        (first | exact ⟨⟨k1 + 1 + 1, hlt, by go_num, x5, by rw [hfs.out]; exact o5⟩, (by simp [intOf]; omega)⟩ | (go_roundw; case rel => exact ⟨k1 + 1 + 1, hlt, by go_num, x5, by rw [hfs.out]; exact o5⟩; case measure => exact (by simp [intOf]; omega)))
    · have hkm : ks.take k = ks := List.take_of_length_le (by rw [hl2.out]; omega)
      rw [hkm] at hown
      have hkn := Lib.hid (show k = m by omega)
      replace hkm := Lib.hid hkm
      go_wp2_with fail
      go_ret2
      exact ⟨_, rfl, hown, hx⟩
end Go.Proofs.YtbnbfdbliokcaaaDoor
namespace Go.Proofs.YtbnbfdbliokcaaaDoor
open Go.RowKit
theorem sat_bits {s c : Snd} : satB s c = true ↔ (∀ i, c.p.getLsbD i = true → s.p.getLsbD i = true) ∧ ∀ i, c.m.getLsbD i = true → s.m.getLsbD i = true := by
  unfold satB
  rw [Bool.and_eq_true, andn_iff, andn_iff]
  exact ⟨fun ⟨h1, h2⟩ => ⟨fun i hi => h1 i (BitVec.lt_of_getLsbD hi) hi, fun i hi => h2 i (BitVec.lt_of_getLsbD hi) hi⟩, fun ⟨h1, h2⟩ => ⟨fun i _ => h1 i, fun i _ => h2 i⟩⟩
theorem com_bits {X : List Snd} (hX : X ≠ []) {s : Snd} : satB s (comS X) = true ↔ (∀ i, (∀ x ∈ X, x.p.getLsbD i = true) → s.p.getLsbD i = true) ∧ ∀ i, (∀ x ∈ X, x.m.getLsbD i = true) → s.m.getLsbD i = true := by
  rw [sat_bits]
  constructor
  · rintro ⟨h1, h2⟩; exact ⟨fun i h => h1 i ((comS_p hX i).2 h), fun i h => h2 i ((comS_m hX i).2 h)⟩
  · rintro ⟨h1, h2⟩; exact ⟨fun i h => h1 i ((comS_p hX i).1 h), fun i h => h2 i ((comS_m hX i).1 h)⟩
theorem com_anti {X Y : List Snd} (hX : X ≠ []) (h : ∀ x ∈ X, x ∈ Y) {s : Snd} (hs : satB s (comS X) = true) : satB s (comS Y) = true := by
  have hY : Y ≠ [] := fun e => by
    cases X with
    | nil => exact hX rfl
    | cons x l => have := h x (List.mem_cons_self ..); rw [e] at this; cases this
  obtain ⟨h1, h2⟩ := (com_bits hX).1 hs
  exact (com_bits hY).2 ⟨fun i hi => h1 i fun x hx => hi x (h x hx), fun i hi => h2 i fun x hx => hi x (h x hx)⟩
theorem mem_cls {all : List Snd} {c s : Snd} : s ∈ clsS all c ↔ s ∈ all ∧ satB s c = true := by unfold clsS; rw [List.mem_filter]
theorem sub_cls {all X : List Snd} (h : ∀ x ∈ X, x ∈ all) : ∀ x ∈ X, x ∈ clsS all (comS X) := fun x hx => mem_cls.2 ⟨h x hx, sat_com hx⟩
theorem com_cls {all X : List Snd} (hX : X ≠ []) (h : ∀ x ∈ X, x ∈ all) : comS (clsS all (comS X)) = comS X := by
  have hsub := sub_cls h
  have hC : clsS all (comS X) ≠ [] := fun e => by
    cases X with
    | nil => exact hX rfl
    | cons x l => have := hsub x (List.mem_cons_self ..); rw [e] at this; cases this
  refine snd_ext (fun i _ => ?_) (fun i _ => ?_)
  · rw [Bool.eq_iff_iff, comS_p hC, comS_p hX]
    exact ⟨fun h1 x hx => h1 x (hsub x hx), fun h1 s hs => ((com_bits hX).1 (mem_cls.1 hs).2).1 i h1⟩
  · rw [Bool.eq_iff_iff, comS_m hC, comS_m hX]
    exact ⟨fun h1 x hx => h1 x (hsub x hx), fun h1 s hs => ((com_bits hX).1 (mem_cls.1 hs).2).2 i h1⟩
end Go.Proofs.YtbnbfdbliokcaaaDoor
namespace Go.Proofs.YtbnbfdbliokcaaaDoor
open Go.RowKit
theorem partB_mem {xs : List Snd} {B : BitVec 32} : ∀ {k}, k ≤ xs.length → ∀ s ∈ partB xs B k, s ∈ xs
  | 0, _ => fun s h => by cases h
  | k + 1, hk => fun s h => by
    have hx : xs[k]? = some (xs[k]'(by omega)) := List.getElem?_eq_getElem (by omega)
    rw [partB_succ hx] at h
    split at h
    · rcases List.mem_append.1 h with h1 | h1
      · exact partB_mem (by omega) s h1
      · rw [List.mem_singleton] at h1; subst h1; exact List.getElem_mem ..
    · exact partB_mem (by omega) s h
theorem partB_ne {xs : List Snd} {B : BitVec 32} (h : xs ≠ []) : partB xs B xs.length ≠ [] := by
  obtain ⟨k, hk⟩ : ∃ k, xs.length = k + 1 := ⟨xs.length - 1, by have := List.length_pos_iff.2 h; omega⟩
  have hx : xs[k]? = some (xs[k]'(by omega)) := List.getElem?_eq_getElem (by omega)
  have hs := partB_succ (B := B) hx
  rw [hk, hs]
  by_cases e : partB xs B k = []
  · rw [if_pos (.inr ⟨hk.symm, e⟩)]; simp
  · split
    · simp
    · exact e
/-- A bit set among the sounds: the part is that of the bits. -/
theorem partB_bit {xs : List Snd} {B : BitVec 32} {i : Nat} {s : Snd} : ∀ {k}, k ≤ xs.length → i < k → xs[i]? = some s → B.getLsbD i = true → s ∈ partB xs B k
  | 0, _, h, _, _ => absurd h (by omega)
  | k + 1, hk, hi, hs, hb => by
    have hx : xs[k]? = some (xs[k]'(by omega)) := List.getElem?_eq_getElem (by omega)
    rw [partB_succ hx]
    by_cases e : i = k
    · subst e
      rw [if_pos (.inl hb)]
      rw [hx] at hs
      exact List.mem_append_right _ (by rw [← Option.some.inj hs]; exact List.mem_singleton.2 rfl)
    · have := partB_bit (k := k) (by omega) (by omega) hs hb
      split
      · exact List.mem_append_left _ this
      · exact this
theorem partB_of {xs : List Snd} {B : BitVec 32} : ∀ {k}, k ≤ xs.length → (∃ i, i < xs.length ∧ B.getLsbD i = true) → ∀ s ∈ partB xs B k, ∃ i, i < k ∧ xs[i]? = some s ∧ (B.getLsbD i = true)
  | 0, _, _ => fun s h => by cases h
  | k + 1, hk, hex => fun s h => by
    have hx : xs[k]? = some (xs[k]'(by omega)) := List.getElem?_eq_getElem (by omega)
    rw [partB_succ hx] at h
    split at h
    · rename_i hc
      rcases List.mem_append.1 h with h1 | h1
      · obtain ⟨i, h2, h3⟩ := partB_of (k := k) (by omega) hex s h1; exact ⟨i, by omega, h3⟩
      · rw [List.mem_singleton] at h1
        rcases hc with hb | ⟨he, hn⟩
        · exact ⟨k, by omega, by rw [hx, h1], hb⟩
        · obtain ⟨i, h2, h3⟩ := hex
          by_cases e : i = k
          · subst e; exact ⟨i, by omega, by rw [hx, h1], h3⟩
          · have h4 : xs[i]? = some (xs[i]'h2) := List.getElem?_eq_getElem h2
            have := partB_bit (k := k) (B := B) (by omega) (by omega) h4 h3
            rw [hn] at this; cases this
    · obtain ⟨i, h2, h3⟩ := partB_of (k := k) (by omega) hex s h; exact ⟨i, by omega, h3⟩
theorem partB_or {xs : List Snd} {B C : BitVec 32} (hex : ∃ i, i < xs.length ∧ B.getLsbD i = true) : ∀ s ∈ partB xs B xs.length, s ∈ partB xs (B ||| C) xs.length := fun s h => by
  obtain ⟨i, h1, h2, h3⟩ := partB_of (Nat.le_refl _) hex s h
  exact partB_bit (Nat.le_refl _) h1 h2 (by rw [BitVec.getLsbD_or, h3]; rfl)
theorem just_cls {all X : List Snd} (hc : chkI 256 all = 0) (hX : X ≠ []) (h : ∀ x ∈ X, x ∈ all) : isB all (clsS all (comS X)) = true := by
  have hsub := sub_cls h
  have hC : clsS all (comS X) ≠ [] := fun e => by
    cases X with
    | nil => exact hX rfl
    | cons x l => have := hsub x (List.mem_cons_self ..); rw [e] at this; cases this
  have hE : closE all (clsS all (comS X)) = 0 := closE_of hc hC fun s hs => (mem_cls.1 hs).1
  unfold isB
  rw [hE, (cl_good hE).2, com_cls hX h, memL_N]
  simp only [decide_true, Bool.true_and, List.all_map]
  rw [List.all_eq_true]
  intro i hi
  have h1 := memN_lt all (comS X) _ i hi
  show inAt all _ (Int.ofNat i) = true
  unfold inAt
  have h2 : (Int.ofNat i).toNat = i := rfl
  rw [h2, List.getElem?_eq_getElem h1]
  simp only [decide_eq_true_eq]
  have h3 : all[i] ∈ (memN all (comS X) all.length).filterMap (fun i => all[i]?) := List.mem_filterMap.2 ⟨i, hi, List.getElem?_eq_getElem h1⟩
  rw [memN_cls] at h3; exact h3
end Go.Proofs.YtbnbfdbliokcaaaDoor
