/-
  Shortest conditions of the reference: choose, lacks.
-/
import Derived.Test.YtbnbfdbliokcaaaDoorJk
namespace Go.Proofs.YtbnbfdbliokcaaaDoor
open Go.RowKit
/-! ### choose -/
def openL (l : List (BitVec 32)) (c : BitVec 32) : List (BitVec 32) := l.filter fun x => decide (x &&& c = 0#32)
theorem openL_more (l : List (BitVec 32)) (c : BitVec 32) {k : Nat} (hk : k < 32) : openL l (c ||| bt k) = restL (openL l c) k := by
  unfold openL restL
  rw [List.filter_filter]
  refine List.filter_congr fun x _ => ?_
  have hb : decide (x &&& bt k = 0#32) = !x.getLsbD k := by
    rw [Bool.eq_iff_iff, decide_eq_true_eq, Bool.not_eq_true']
    constructor
    · intro h
      cases hx : x.getLsbD k
      · rfl
      · exact absurd h (and_ne_zero.2 ⟨k, hk, hx, bt_self k hk⟩)
    · intro h
      apply Classical.byContradiction
      intro hn
      obtain ⟨i, hi, e1, e2⟩ := and_ne_zero.1 hn
      rw [bt_bit _ _ hi hk] at e2
      have : i = k := by simpa using e2
      subst this
      rw [h] at e1; cases e1
  rw [← hb, Bool.eq_iff_iff, Bool.and_eq_true, decide_eq_true_eq, decide_eq_true_eq, decide_eq_true_eq]
  constructor
  · intro h
    refine ⟨Classical.byContradiction fun hn => ?_, Classical.byContradiction fun hn => ?_⟩
    · obtain ⟨i, hi, e1, e2⟩ := and_ne_zero.1 hn
      exact and_ne_zero.2 ⟨i, hi, e1, by rw [BitVec.getLsbD_or, e2]; simp⟩ h
    · obtain ⟨i, hi, e1, e2⟩ := and_ne_zero.1 hn
      exact and_ne_zero.2 ⟨i, hi, e1, by rw [BitVec.getLsbD_or, e2]; simp⟩ h
  · rintro ⟨h1, h2⟩
    apply Classical.byContradiction
    intro hn
    obtain ⟨i, hi, e1, e2⟩ := and_ne_zero.1 hn
    rw [BitVec.getLsbD_or, Bool.or_eq_true] at e2
    rcases e2 with e2 | e2
    · exact and_ne_zero.2 ⟨i, hi, e1, e2⟩ h2
    · exact and_ne_zero.2 ⟨i, hi, e1, e2⟩ h1
/-- What choose finds. -/
def chR (g m : Nat) (l : List (BitVec 32)) (c : BitVec 32) : Option (BitVec 32) := (hit g m (openL l c)).map fun s => s ||| c
theorem chR_next {k m : Nat} {l : List (BitVec 32)} {c : BitVec 32} (hk : k < 24) (h : chR (24 - (k + 1)) m l (c ||| bt k) = none) : chR (24 - k) (m + 1) l c = chR (24 - (k + 1)) (m + 1) l c := by
  unfold chR at *
  rw [openL_more _ _ (by omega)] at h
  rw [hit_next hk (by simpa using h)]
theorem chR_here {k m : Nat} {l : List (BitVec 32)} {c r : BitVec 32} (hk : k < 24) (h : chR (24 - (k + 1)) m l (c ||| bt k) = some r) : chR (24 - k) (m + 1) l c = some r := by
  unfold chR at *
  rw [openL_more _ _ (by omega)] at h
  obtain ⟨s, hs, rfl⟩ := Option.map_eq_some_iff.1 h
  rw [hit_here hk hs, Option.map_some, BitVec.or_assoc, BitVec.or_comm (bt k) c]
theorem openL_snoc (l : List (BitVec 32)) (x c : BitVec 32) : openL (l ++ [x]) c = if x &&& c = 0#32 then openL l c ++ [x] else openL l c := by
  unfold openL
  rw [List.filter_append]
  by_cases h : x &&& c = 0#32 <;> simp [h]
theorem and_bne0 (x y : BitVec 32) : (((x.toNat &&& y.toNat : Nat) : Int) != 0) = !decide (x &&& y = 0#32) := by
  rw [bne, and_beq0]
set_option maxHeartbeats 2000000 in
set_option maxRecDepth 20000 in
theorem choose_any : ∀ (g f m : Nat) (c : BitVec 32) (a : Option Addr) (n cap : Nat) (l : List (BitVec 32)) (W : World), f + g = 24 → m ≤ 30 → RdU W a n cap l →
    Calls Tryd.prog 58 #[.slice a n cap, .int .i64 f, .int .i64 m, .int .u32 c.toNat] W (SrR (chR g m l c) W) := by
  intro g
  induction g using Nat.strongRecOn with
  | ind g ih =>
  intro f m c a n cap l W hfg hm hr
  have hl := hr.len
  have hmax : n ≤ 9223372036854775807 := by have := hr.le; have := hr.most; unfold maxLen at this; omega
  have hgf : g = 24 - f := by omega
  subst hgf
  have hf24 : f ≤ 24 := by omega
  replace hl := Lib.hid hl
  replace ih := Lib.hid ih
  replace hfg := Lib.hid hfg
  unfold SrR
  go_enter Tryd.func58, Tryd.ntmps58
  go_wp2_with fail
  go_loopw [10, 11] (fun ov i wr => ∃ j : Nat, j ≤ n ∧ i = .int .i64 j ∧ ov = .bool (!(openL (l.take j) c).isEmpty) ∧ Hid (∀ x ∈ openL (l.take j) c, m ≠ 0 ∧ x >>> f ≠ 0#32) ∧ wr = W) (fun _ i _ => n - (intOf i).toNat)
  case atStart => exact ⟨0, Nat.zero_le _, rfl, rfl, Lib.hid (by simp [openL]), rfl⟩
  case round =>
    obtain ⟨j, hj, rfl, rfl, hall, rfl⟩ := hrel
    by_cases hlj : j < n
    · have hji : (j : Int) < (n : Int) := by omega
      obtain ⟨b, off, x, rfl, hxj, hb, p0⟩ := hr.u32 hlj
      have hsu := take_succ_at hxj.out
      have hs1 := openL_snoc (l.take j) x c
      rw [← hsu] at hs1
      have hbe := and_bne0 x c
      have hmem : x &&& c = 0#32 → x ∈ openL l c := fun h => List.mem_filter.2 ⟨List.mem_of_getElem? hxj.out, by simpa using h⟩
      have hsh := shr_beq0 x f
      replace hsu := Lib.hid hsu
      replace hxj := Lib.hid hxj.out
      by_cases hz : x &&& c = 0#32
      · have hd : decide (x &&& c = 0#32) = true := by simpa using hz
        rw [hd, Bool.not_true] at hbe
        rw [if_pos hz] at hs1
        have hx := Lib.hid (hmem hz)
        replace hmem := Lib.hid hmem
        replace hz := Lib.hid hz
        clear hd
        by_cases hm0 : m = 0
        · have hdm : ((m : Int) == 0) = true := by simpa using hm0
          have hR : Hid (chR (24 - f) m l c = none) := Lib.hid (by
            unfold chR
            rw [hm0, hit_cons_zero _ (List.ne_nil_of_mem hx.out)]; rfl)
          replace hm0 := Lib.hid hm0
          replace hs1 := Lib.hid hs1
          generalize (openL (l.take j) c).isEmpty = oe at *
          go_wp2_with fail
          go_ret2
          exact ⟨by rw [hR.out]; rfl, Ext.refl _⟩
        · have hdm : ((m : Int) == 0) = false := by simpa using hm0
          by_cases hsz : x >>> f = 0#32
          · have hd : decide (x >>> f = 0#32) = true := by simpa using hsz
            rw [hd] at hsh
            have hR : Hid (chR (24 - f) m l c = none) := Lib.hid (by
              unfold chR
              rw [hit_lost (by omega) hx.out fun i hi => shr_zero_bits.1 hsz i (by omega)]; rfl)
            replace hm0 := Lib.hid hm0
            replace hsz := Lib.hid hsz
            replace hs1 := Lib.hid hs1
            clear hd
            generalize (openL (l.take j) c).isEmpty = oe at *
            go_wp2_with fail
            go_ret2
            exact ⟨by rw [hR.out]; rfl, Ext.refl _⟩
          · have hd : decide (x >>> f = 0#32) = false := by simpa using hsz
            rw [hd] at hsh
            have hall2 : Hid (∀ x ∈ openL (l.take (j + 1)) c, m ≠ 0 ∧ x >>> f ≠ 0#32) := Lib.hid (by
              rw [hs1]
              intro y hy
              rcases List.mem_append.1 hy with h | h
              · exact hall.out y h
              · simp at h; subst h; exact ⟨hm0, hsz⟩)
            have he : Hid ((!(openL (l.take (j + 1)) c).isEmpty) = true) := Lib.hid (by rw [hs1]; simp)
            replace hm0 := Lib.hid hm0
            replace hsz := Lib.hid hsz
            replace hs1 := Lib.hid hs1
            clear hd
            generalize (openL (l.take j) c).isEmpty = oe at *
            go_wp2_with fail
            (first | exact ⟨⟨j + 1, by omega, by go_num, by rw [he.out], hall2, (by first | rfl | trivial)⟩, (by simp [intOf]; omega)⟩ | (go_roundw; case rel => exact ⟨j + 1, by omega, by go_num, by rw [he.out], hall2, (by first | rfl | trivial)⟩; case measure => exact (by simp [intOf]; omega)))
      · have hd : decide (x &&& c = 0#32) = false := by simpa using hz
        rw [hd, Bool.not_false] at hbe
        rw [if_neg hz] at hs1
        rw [← hs1] at hall ⊢
        replace hmem := Lib.hid hmem
        replace hz := Lib.hid hz
        replace hs1 := Lib.hid hs1
        clear hd
        generalize heq : (openL (l.take (j + 1)) c).isEmpty = oe at *
        replace heq := Lib.hid heq
        go_wp2_with fail
        (first | exact ⟨⟨j + 1, by omega, by go_num, by rw [heq.out], hall, (by first | rfl | trivial)⟩, (by simp [intOf]; omega)⟩ | (go_roundw; case rel => exact ⟨j + 1, by omega, by go_num, by rw [heq.out], hall, (by first | rfl | trivial)⟩; case measure => exact (by simp [intOf]; omega)))
    · have hful : l.take j = l := List.take_of_length_le (by rw [hl.out]; omega)
      rw [hful] at hall ⊢
      replace hful := Lib.hid hful
      by_cases hret : openL l c = [] ∧ m = 0
      · have hdm : ((m : Int) == 0) = true := by simpa using hret.2
        have he : (openL l c).isEmpty = true := List.isEmpty_iff.2 hret.1
        have hR : Hid (chR (24 - f) m l c = some c) := Lib.hid (by
          unfold chR
          rw [hret.2, hret.1, hit_nil_zero]; simp)
        replace hret := Lib.hid hret
        generalize (openL l c).isEmpty = oe at *
        subst he
        go_wp2_with fail
        go_ret2
        exact ⟨by rw [hR.out]; rfl, Ext.refl _⟩
      · have hm0 : m ≠ 0 := by
          intro h
          cases hL : openL l c with
          | nil => exact hret ⟨hL, h⟩
          | cons x L => exact (hall.out x (by rw [hL]; simp)).1 h
        have hdm : decide (0 < (m : Int)) = true := by simp; omega
        have hdm2 : decide (0 < m) = true := by simp; omega
        have hdm3 : ((m : Int) == 0) = false := by simpa using hm0
        obtain ⟨M, hM⟩ : ∃ M, m = M + 1 := ⟨m - 1, by omega⟩
        have hM2 : (m : Int) - 1 = (M : Int) := by omega
        have hmp : 0 < m := by omega
        replace hM := Lib.hid hM
        replace hm0 := Lib.hid hm0
        replace hret := Lib.hid hret
        obtain ⟨wo, rfl⟩ : ∃ wo : World, wo = wr := ⟨_, rfl⟩
        generalize (!(openL l c).isEmpty) = oe at *
        cases oe
        all_goals
          go_wp2_with fail
          go_loopw [12] (fun i wr => ∃ k : Nat, f ≤ k ∧ k ≤ 24 ∧ i = .int .i64 k ∧ Hid (chR (24 - f) m l c = chR (24 - k) m l c) ∧ Ext wo wr) (fun i _ => 24 - (intOf i).toNat)
          case atStart => exact ⟨f, Nat.le_refl _, hf24, rfl, Lib.hid rfl, Ext.refl _⟩
          case round =>
            obtain ⟨k, hfk, hk, rfl, heq, hx⟩ := hrel
            by_cases hlt : k < 24
            · have hki : (k : Int) < 24 := by omega
              have hcall := ih.out (24 - (k + 1)) (by omega) (k + 1) M (c ||| bt k) a n cap l wr (by omega) (by have := hM.out; omega) (hr.ext hx)
              have hbt := bt_nat hlt
              rw [show ((k + 1 : Nat) : Int) = (k : Int) + 1 from rfl, BitVec.toNat_or] at hcall
              unfold SrR at hcall
              cases hres : chR (24 - (k + 1)) M l (c ||| bt k) with
              | none =>
                rw [hres] at hcall
                have heq2 : Hid (chR (24 - f) m l c = chR (24 - (k + 1)) m l c) := Lib.hid (by rw [heq.out, hM.out]; exact chR_next hlt hres)
                replace hres := Lib.hid hres
                generalize bt k = B at *
                go_wp2_with fail
                refine hcall.mono ?_
                rintro e w3 ⟨rfl, hx3⟩
                clear hcall
                go_wp2_with fail
                (first | exact ⟨⟨k + 1, by omega, by omega, by go_num, heq2, hx.trans hx3⟩, (by simp [intOf]; omega)⟩ | (go_roundw; case rel => exact ⟨k + 1, by omega, by omega, by go_num, heq2, hx.trans hx3⟩; case measure => exact (by simp [intOf]; omega)))
              | some s =>
                rw [hres] at hcall
                have heq2 : Hid (chR (24 - f) m l c = some s) := Lib.hid (by rw [heq.out, hM.out]; exact chR_here hlt hres)
                replace hres := Lib.hid hres
                generalize bt k = B at *
                go_wp2_with fail
                refine hcall.mono ?_
                rintro e w3 ⟨rfl, hx3⟩
                clear hcall
                go_wp2_with fail
                go_ret2
                exact ⟨by rw [heq2.out]; rfl, hx.trans hx3⟩
            · have hR : Hid (chR (24 - f) m l c = none) := Lib.hid (by
                rw [heq.out, show 24 - k = 0 by omega, hM.out]; unfold chR; rw [hit_zero]; rfl)
              go_wp2_with fail
              go_ret2
              exact ⟨by rw [hR.out]; rfl, hx⟩
/-! ### lacks -/
def missB (s c : Snd) : BitVec 32 := (c.p &&& ~~~s.p) ||| (c.m &&& ~~~s.m)
def setTo (s c : Snd) : Nat → BitVec 32
  | 0 => 0#32
  | k + 1 => if getS c k ≠ 0 ∧ getS s k ≠ getS c k then setTo s c k ||| bt k else setTo s c k
theorem setTo_succ (s c : Snd) (k : Nat) : setTo s c (k + 1) = if getS c k ≠ 0 ∧ getS s k ≠ getS c k then setTo s c k ||| bt k else setTo s c k := rfl
theorem missB_bit {s c : Snd} (hs : s.ok = true) (hc : c.ok = true) {i : Nat} (hi : i < 32) : (missB s c).getLsbD i = decide (i < 24 ∧ getS c i ≠ 0 ∧ getS s i ≠ getS c i) := by
  have o1 := ok_bits hs hi
  have o2 := ok_bits hc hi
  have h32 : decide (i < 32) = true := by simpa using hi
  simp only [missB, BitVec.getLsbD_or, BitVec.getLsbD_and, BitVec.getLsbD_not, h32]
  unfold getS
  by_cases h24 : i < 24
  · have e1 := o1.1
    have e2 := o2.1
    clear o1 o2
    generalize s.p.getLsbD i = x1 at *
    generalize s.m.getLsbD i = x2 at *
    generalize c.p.getLsbD i = x3 at *
    generalize c.m.getLsbD i = x4 at *
    revert e1 e2
    cases x1 <;> cases x2 <;> cases x3 <;> cases x4 <;> simp [h24]
  · have e1 : c.p.getLsbD i = false := by
      cases h : c.p.getLsbD i
      · rfl
      · exact absurd (o2.2 (.inl h)) h24
    have e2 : c.m.getLsbD i = false := by
      cases h : c.m.getLsbD i
      · rfl
      · exact absurd (o2.2 (.inr h)) h24
    rw [e1, e2]
    simp
theorem setTo_bits (s c : Snd) {i : Nat} (hi : i < 32) : ∀ k, k ≤ 24 → (setTo s c k).getLsbD i = decide (i < k ∧ getS c i ≠ 0 ∧ getS s i ≠ getS c i)
  | 0, _ => by simp [setTo]
  | k + 1, hk => by
    have ih := setTo_bits s c hi k (by omega)
    rw [setTo_succ]
    by_cases e : i = k
    · subst e
      split
      · rename_i h
        rw [BitVec.getLsbD_or, bt_self i hi]
        simp [h]
      · rename_i h
        rw [ih, decide_eq_decide]
        constructor
        · rintro ⟨h1, _⟩; omega
        · rintro ⟨_, h2⟩; exact absurd h2 h
    · have hd : (i < k + 1 ∧ getS c i ≠ 0 ∧ getS s i ≠ getS c i) ↔ (i < k ∧ getS c i ≠ 0 ∧ getS s i ≠ getS c i) := by
        constructor
        · rintro ⟨h1, h2⟩; exact ⟨by omega, h2⟩
        · rintro ⟨h1, h2⟩; exact ⟨by omega, h2⟩
      rw [decide_eq_decide.2 hd, ← ih]
      split
      · rw [BitVec.getLsbD_or, bt_bit _ _ hi (by omega)]; simp [e]
      · rfl
theorem setTo_all {s c : Snd} (hs : s.ok = true) (hc : c.ok = true) : setTo s c 24 = missB s c :=
  BitVec.eq_of_getLsbD_eq fun i hi => by rw [setTo_bits s c hi 24 (by omega), missB_bit hs hc hi]
theorem missB_zero {s c : Snd} : missB s c = 0#32 ↔ satB s c = true := by
  unfold missB satB
  rw [Bool.and_eq_true, beq_iff_eq, beq_iff_eq]
  constructor
  · intro h
    constructor
    · refine BitVec.eq_of_getLsbD_eq fun i hi => ?_
      have := congrArg (fun z : BitVec 32 => z.getLsbD i) h
      simp only [BitVec.getLsbD_or, BitVec.getLsbD_zero, Bool.or_eq_false_iff] at this
      rw [this.1, BitVec.getLsbD_zero]
    · refine BitVec.eq_of_getLsbD_eq fun i hi => ?_
      have := congrArg (fun z : BitVec 32 => z.getLsbD i) h
      simp only [BitVec.getLsbD_or, BitVec.getLsbD_zero, Bool.or_eq_false_iff] at this
      rw [this.2, BitVec.getLsbD_zero]
  · rintro ⟨h1, h2⟩; rw [h1, h2]; rfl
def lackL (xs ys : List Snd) (c : Snd) : List (BitVec 32) := (xs.filter fun s => decide (s ∉ ys)).map fun s => missB s c
theorem lackL_snoc (xs ys : List Snd) (c s : Snd) : lackL (xs ++ [s]) ys c = if s ∈ ys then lackL xs ys c else lackL xs ys c ++ [missB s c] := by
  unfold lackL
  rw [List.filter_append, List.map_append]
  by_cases h : s ∈ ys <;> simp [h]
theorem lackL_len (xs ys : List Snd) (c : Snd) : (lackL xs ys c).length ≤ xs.length := by
  unfold lackL; rw [List.length_map]; exact List.length_filter_le _ _
def RetU (xs : List (BitVec 32)) (w : World) (e : Ending) (w' : World) : Prop := ∃ v, e = .returned v ∧ OwnU w.heap.size 25 w' v xs ∧ Ext w w'
set_option maxHeartbeats 2000000 in
set_option maxRecDepth 20000 in
theorem lacks_any (a : Option Addr) (n cap : Nat) (xs : List Snd) (b : Option Addr) (m cap2 : Nat) (ys : List Snd) (c : Snd) (w : World) (hr : RdS w a n cap xs) (hs : RdS w b m cap2 ys) (hn : n ≤ 60000) (hok : ∀ x ∈ xs, x.ok = true) (hc : c.ok = true) :
    Calls Tryd.prog 57 #[.slice a n cap, .slice b m cap2, sndV c] w (RetU (lackL xs ys c) w) := by
  have hl := hr.len
  have hxB : Ext w (w.alloc (.cells #[.int .u32 c.p.toNat, .int .u32 c.m.toNat] 27)) := (by repeat (first | exact Ext.refl _ | refine Ext.drew ?_ | refine Ext.drewN ?_ _ | refine Ext.alloc ?_ _))
  have q0 := SndB.new w c
  replace hl := Lib.hid hl
  go_enter Tryd.func57, Tryd.ntmps57
  go_wp2_with fail
  generalize (w.alloc (.cells #[.int .u32 c.p.toNat, .int .u32 c.m.toNat] 27)) = wB at *
  go_loopw [7, 8] (fun ov i wr => ∃ k : Nat, k ≤ n ∧ i = .int .i64 k ∧ Ext wB wr ∧ OwnU wB.heap.size 25 wr ov (lackL (xs.take k) ys c)) (fun _ i _ => n - (intOf i).toNat)
  case atStart => exact ⟨0, Nat.zero_le _, rfl, Ext.refl _, OwnK.nil _ _ _⟩
  case round =>
    obtain ⟨k, hk, rfl, hx, hown⟩ := hrel
    have hxw := hxB.trans hx
    by_cases hlt : k < n
    · have hki : (k : Int) < (n : Int) := by omega
      obtain ⟨b1, off, s, rfl, hsk, hb, p0, p1⟩ := (hr.ext hxw).snd hlt
      have hcall := fun W (h : RdS W b m cap2 ys) => rhas_any b m cap2 ys s W h
      have hso := hok s (List.mem_of_getElem? hsk.out)
      have hsu := lackL_snoc (xs.take k) ys c s
      rw [← take_succ_at hsk.out] at hsu
      have hlen := lackL_len (xs.take k) ys c
      have htl : (xs.take k).length ≤ k := by rw [List.length_take]; omega
      have hlen2 : (lackL (xs.take k) ys c).length ≤ 60000 := by omega
      replace hsk := Lib.hid hsk.out
      clear hlen htl
      by_cases hin : s ∈ ys
      · have hd : decide (s ∈ ys) = true := by simpa using hin
        rw [hd] at hcall
        rw [if_pos hin] at hsu
        rw [← hsu] at hown
        replace hsu := Lib.hid hsu
        replace hin := Lib.hid hin
        clear hd hlen2
        go_wp2_with fail
        refine (hcall _ (hs.ext hxw)).mono ?_
        rintro e w2 ⟨rfl, hx2⟩
        clear hcall
        go_wp2_with fail
        (first | exact ⟨⟨k + 1, by omega, by go_num, hx.trans hx2, hown.kept hx2⟩, (by simp [intOf]; omega)⟩ | (go_roundw; case rel => exact ⟨k + 1, by omega, by go_num, hx.trans hx2, hown.kept hx2⟩; case measure => exact (by simp [intOf]; omega)))
      · have hd : decide (s ∈ ys) = false := by simpa using hin
        rw [hd] at hcall
        rw [if_neg hin, ← setTo_all hso hc] at hsu
        generalize lackL (xs.take k) ys c = L at *
        replace hsu := Lib.hid hsu
        replace hin := Lib.hid hin
        clear hd
        go_wp2_with fail
        refine (hcall _ (hs.ext hxw)).mono ?_
        rintro e w2 ⟨rfl, hx2⟩
        clear hcall
        have hown := hown.kept hx2
        have hx := hx.trans hx2
        have p0 := hx2.cellv p0
        have p1 := hx2.cellv p1
        have q2 := q0.ext hx
        clear hxw hx2
        go_wp2_with fail
        go_loopw [9, 10] (fun sv i wr => ∃ f : Nat, f ≤ 24 ∧ i = .int .i64 f ∧ sv = .int .u32 (setTo s c f).toNat ∧ Ext w2 wr) (fun _ i _ => 24 - (intOf i).toNat)
        case atStart => exact ⟨0, Nat.zero_le _, rfl, rfl, Ext.refl _⟩
        case round =>
          obtain ⟨f, hf, rfl, rfl, hxr⟩ := hrel
          by_cases hlf : f < 24
          · have hfi : (f : Int) < 24 := by omega
            have p0 := hxr.cellv p0
            have p1 := hxr.cellv p1
            obtain ⟨c0, c1⟩ := (q2.ext hxr).cells
            have hg1 := getV_any c f hc hlf wr
            have hg2 := fun W => getV_any s f hso hlf W
            have hst := setTo_succ s c f
            have hbt := bt_nat hlf
            by_cases h0 : getS c f = 0
            · rw [if_neg (fun h => h.1 h0)] at hst
              rw [h0] at hg1
              replace h0 := Lib.hid h0
              replace hst := Lib.hid hst
              clear hg2
              generalize setTo s c f = S at *
              go_wp2_with fail
              refine hg1.mono ?_
              rintro e w3 ⟨rfl, hx3⟩
              clear hg1
              go_wp2_with fail
              (first | exact ⟨⟨f + 1, by omega, by go_num, by rw [hst.out], hxr.trans hx3⟩, (by simp [intOf]; omega)⟩ | (go_roundw; case rel => exact ⟨f + 1, by omega, by go_num, by rw [hst.out], hxr.trans hx3⟩; case measure => exact (by simp [intOf]; omega)))
            · have d0 : (getS c f != 0) = true := by simpa using h0
              by_cases h1 : getS s f = getS c f
              · rw [if_neg (fun h => h.2 h1)] at hst
                have d1 : (getS s f != getS c f) = false := by simpa using h1
                generalize getS c f = A at *
                generalize getS s f = B at *
                replace h0 := Lib.hid h0
                replace h1 := Lib.hid h1
                replace hst := Lib.hid hst
                generalize setTo s c f = S at *
                go_wp2_with fail
                refine hg1.mono ?_
                rintro e w3 ⟨rfl, hx3⟩
                have p0 := hx3.cellv p0
                have p1 := hx3.cellv p1
                clear hg1
                go_wp2_with fail
                refine (hg2 _).mono ?_
                rintro e w4 ⟨rfl, hx4⟩
                clear hg2
                go_wp2_with fail
                (first | exact ⟨⟨f + 1, by omega, by go_num, by rw [hst.out], (hxr.trans hx3).trans hx4⟩, (by simp [intOf]; omega)⟩ | (go_roundw; case rel => exact ⟨f + 1, by omega, by go_num, by rw [hst.out], (hxr.trans hx3).trans hx4⟩; case measure => exact (by simp [intOf]; omega)))
              · rw [if_pos ⟨h0, h1⟩] at hst
                have d1 : (getS s f != getS c f) = true := by simpa using h1
                generalize getS c f = A at *
                generalize getS s f = B at *
                replace h0 := Lib.hid h0
                replace h1 := Lib.hid h1
                replace hst := Lib.hid hst
                generalize setTo s c f = S at *
                generalize bt f = T at *
                go_wp2_with fail
                refine hg1.mono ?_
                rintro e w3 ⟨rfl, hx3⟩
                have p0 := hx3.cellv p0
                have p1 := hx3.cellv p1
                clear hg1
                go_wp2_with fail
                refine (hg2 _).mono ?_
                rintro e w4 ⟨rfl, hx4⟩
                clear hg2
                go_wp2_with fail
                (first | exact ⟨⟨f + 1, by omega, by go_num, by rw [hst.out]; simp, (hxr.trans hx3).trans hx4⟩, (by simp [intOf]; omega)⟩ | (go_roundw; case rel => exact ⟨f + 1, by omega, by go_num, by rw [hst.out]; simp, (hxr.trans hx3).trans hx4⟩; case measure => exact (by simp [intOf]; omega)))
          · have hf24 : f = 24 := by omega
            subst hf24
            generalize setTo s c 24 = S at *
            go_wp2_with (at_builtin; refine wp_app1 wB wr S rfl _ _ 74 rfl 25 Tryd.underlying74 info_u32 rfl (by decide) _ _ rfl (hown.kept hxr) (hx.trans hxr) rfl (U32.len _) (U32.one _) (by omega) (by unfold maxLen; omega) ?_; intro v5 w5 o5 x5 _)
            (first | exact ⟨⟨k + 1, by omega, by go_num, x5, by rw [hsu.out]; exact o5⟩, (by simp [intOf]; omega)⟩ | (go_roundw; case rel => exact ⟨k + 1, by omega, by go_num, x5, by rw [hsu.out]; exact o5⟩; case measure => exact (by simp [intOf]; omega)))
    · have hkn : k = n := by omega
      have hful : xs.take k = xs := List.take_of_length_le (by rw [hl.out]; omega)
      rw [hful] at hown
      go_wp2_with fail
      go_ret
      exact ⟨_, rfl, OwnK.base hown hxB.le, hxw⟩
end Go.Proofs.YtbnbfdbliokcaaaDoor
