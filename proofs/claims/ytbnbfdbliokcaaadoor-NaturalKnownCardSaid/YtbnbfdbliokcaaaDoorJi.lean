/-
  Is of the program and of the reference.
-/
import Derived.Test.YtbnbfdbliokcaaaDoorJh
namespace Go.Proofs.YtbnbfdbliokcaaaDoor
open Go.RowKit
/-! ### Plain -/
theorem satB_iff {s c : Snd} : satB s c = true ↔ (∀ i, i < 32 → c.p.getLsbD i = true → s.p.getLsbD i = true) ∧ (∀ i, i < 32 → c.m.getLsbD i = true → s.m.getLsbD i = true) := by
  unfold satB
  rw [Bool.and_eq_true, andn_iff, andn_iff]
theorem comS_bits : ∀ (l : List Snd) (x : Snd) (i : Nat), ((l.foldl meetS x).p.getLsbD i = true ↔ ∀ s ∈ x :: l, s.p.getLsbD i = true) ∧ ((l.foldl meetS x).m.getLsbD i = true ↔ ∀ s ∈ x :: l, s.m.getLsbD i = true)
  | [], x, i => by simp
  | y :: l, x, i => by
    obtain ⟨h1, h2⟩ := comS_bits l (meetS x y) i
    rw [List.foldl_cons, h1, h2]
    simp only [List.forall_mem_cons, meetS, BitVec.getLsbD_and, Bool.and_eq_true, and_assoc, and_self]
theorem comS_p {l : List Snd} (h : l ≠ []) (i : Nat) : (comS l).p.getLsbD i = true ↔ ∀ s ∈ l, s.p.getLsbD i = true := by
  cases l with
  | nil => exact absurd rfl h
  | cons x l => exact (comS_bits l x i).1
theorem comS_m {l : List Snd} (h : l ≠ []) (i : Nat) : (comS l).m.getLsbD i = true ↔ ∀ s ∈ l, s.m.getLsbD i = true := by
  cases l with
  | nil => exact absurd rfl h
  | cons x l => exact (comS_bits l x i).2
theorem sat_com {l : List Snd} {s : Snd} (h : s ∈ l) : satB s (comS l) = true := by
  have hne : l ≠ [] := fun e => by rw [e] at h; cases h
  exact satB_iff.2 ⟨fun i _ hi => (comS_p hne i).1 hi s h, fun i _ hi => (comS_m hne i).1 hi s h⟩
def inAt (all some : List Snd) (i : Int) : Bool := match all[i.toNat]? with
  | .some s => decide (s ∈ some)
  | .none => true
def isB (all some : List Snd) : Bool := decide (closE all some = 0) && (clL all some).all (inAt all some)
theorem isB_not {all some : List Snd} {E : Int} (h : closE all some = E) (hE : E ≠ 0) : isB all some = false := by
  unfold isB; rw [h]; simp [hE]
/-- How many of the sounds are on the list. -/
def cntIn (all some : List Snd) (k : Nat) : Nat := (all.take k).countP fun s => decide (s ∈ some)
theorem cntIn_succ {all some : List Snd} {k : Nat} {s : Snd} (h : all[k]? = .some s) : cntIn all some (k + 1) = if s ∈ some then cntIn all some k + 1 else cntIn all some k := by
  unfold cntIn
  rw [take_succ_at h, List.countP_append]
  by_cases hs : s ∈ some
  · rw [if_pos hs]; simp [hs]
  · rw [if_neg hs]; simp [hs]
theorem cntIn_le (all some : List Snd) (k : Nat) : cntIn all some k ≤ k := by
  unfold cntIn
  have := List.countP_le_length (p := fun s => decide (s ∈ some)) (l := all.take k)
  rw [List.length_take] at this; omega
theorem memTo_cnt {all some : List Snd} (h : ∀ i ∈ memL all (comS some), inAt all some i = true) : ∀ k, k ≤ all.length → (memTo all (comS some) k).length = cntIn all some k
  | 0, _ => by simp [memTo, cntIn]
  | k + 1, hk => by
    have hx : all[k]? = .some all[k] := List.getElem?_eq_getElem (by omega)
    rw [memTo_succ hx, cntIn_succ hx]
    have ih := memTo_cnt h k (by omega)
    by_cases hs : all[k] ∈ some
    · rw [if_pos (sat_com hs), if_pos hs, List.length_append, ih]; rfl
    · have hn : ¬ satB all[k] (comS some) = true := fun e => by
        have := h k (mem_memL.2 ⟨k, all[k], rfl, hx, e⟩)
        unfold inAt at this
        rw [show ((k : Int)).toNat = k by omega, hx] at this
        exact hs (of_decide_eq_true this)
      rw [if_neg hn, if_neg hs, ih]
/-- What the reference's just asks. -/
theorem isB_just {all some : List Snd} (h : closE all some = 0) : isB all some = ((clL all some).all (inAt all some) && decide ((clL all some).length = cntIn all some all.length)) := by
  unfold isB
  rw [h]
  simp only [decide_true, Bool.true_and]
  obtain ⟨_, g2⟩ := cl_good h
  rw [g2]
  cases ha : (memL all (comS some)).all (inAt all some)
  · rfl
  · have := memTo_cnt (List.all_eq_true.1 ha) all.length (Nat.le_refl _)
    have h2 : (memL all (comS some)).length = cntIn all some all.length := this
    simp [h2]
theorem clL_at {all some : List Snd} {k : Nat} {x : Int} (h : (clL all some)[k]? = .some x) : ∃ (i : Nat) (s : Snd), x = (i : Int) ∧ all[i]? = .some s ∧ inAt all some x = decide (s ∈ some) := by
  unfold clL at h
  split at h
  · obtain ⟨i, s, h1, h2, _⟩ := mem_memL.1 (List.mem_of_getElem? h)
    refine ⟨i, s, h1, h2, ?_⟩
    unfold inAt
    rw [h1, show ((i : Int)).toNat = i by omega, h2]
  · simp at h
/-! ### The program -/
def RetIs (xs ys : List Snd) (w : World) (e : Ending) (w' : World) : Prop := e = .returned (.tuple #[.bool (isB xs ys), .int .i64 (closE xs ys)]) ∧ Ext w w'
set_option maxHeartbeats 1000000 in
theorem is_any (a : Option Addr) (n cap : Nat) (xs : List Snd) (b : Option Addr) (m cap2 : Nat) (ys : List Snd) (w : World) (hr : RdS w a n cap xs) (hs : RdS w b m cap2 ys) :
    Calls Tryd.prog 17 #[.slice a n cap, .slice b m cap2] w (RetIs xs ys w) := by
  have hl := hr.len
  have hmax : n ≤ 9223372036854775807 := by have := hr.le; have := hr.most; unfold maxLen at this; omega
  have hcl := closure_any a n cap xs b m cap2 ys w hr hs
  have hat := fun k x h => clL_at (all := xs) (some := ys) (k := k) (x := x) h
  unfold RetIs
  have hIs : isB xs ys = (decide (closE xs ys = 0) && (clL xs ys).all (inAt xs ys)) := rfl
  have hE0 : closE xs ys ≠ 0 → clL xs ys = [] := fun h => (cl_bad rfl h).2
  unfold RetC at hcl
  generalize isB xs ys = R at *
  generalize closE xs ys = E at *
  generalize clL xs ys = L at *
  replace hl := Lib.hid hl
  replace hIs := Lib.hid hIs
  replace hE0 := Lib.hid hE0
  replace hat := Lib.hid hat
  go_enter Tryd.func17, Tryd.ntmps17
  go_wp2_with fail
  refine hcl.mono ?_
  rintro e w1 ⟨v, rfl, hown, hx1⟩
  clear hcl
  obtain ⟨a1, n1, c1, hn1, rfl, hrl⟩ := OwnK.rdn I64.len hown
  have hmax1 : n1 ≤ 9223372036854775807 := by have := hrl.le; have := hrl.most; unfold maxLen at this; omega
  replace hn1 := Lib.hid hn1
  clear hown
  generalize clC xs ys = C at *
  go_wp2_with fail
  have hx := hx1.alloc (.cells #[.int .u32 C.p.toNat, .int .u32 C.m.toNat] 27)
  have hrl := hrl.ext (Ext.alloc1 _ (.cells #[.int .u32 C.p.toNat, .int .u32 C.m.toNat] 27))
  generalize (w1.alloc (.cells #[.int .u32 C.p.toNat, .int .u32 C.m.toNat] 27)) = wC at *
  go_loopw [20] (fun i wr => ∃ k : Nat, k ≤ n1 ∧ i = .int .i64 k ∧ Hid (∀ (i : Nat) (y : Int), i < k → L[i]? = some y → inAt xs ys y = true) ∧ Ext wC wr) (fun i _ => n1 - (intOf i).toNat)
  case atStart => exact ⟨0, Nat.zero_le _, rfl, Lib.hid (fun i x h => absurd h (Nat.not_lt_zero _)), Ext.refl _⟩
  case round =>
    obtain ⟨k, hk, rfl, hall, hxr⟩ := hrel
    have hxw := hx.trans hxr
    by_cases hlt : k < n1
    · have hki : (k : Int) < (n1 : Int) := by omega
      obtain ⟨b1, o1, x, rfl, hxk, hb1, p0⟩ := (hrl.ext hxr).i64 hlt
      obtain ⟨i, s, rfl, hsi, hin⟩ := hat.out k x hxk.out
      have hilt : i < n := by have := (List.getElem?_eq_some_iff.1 hsi).1; have := hl.out; omega
      obtain ⟨b2, o2, s2, rfl, hs2, hb2, c0, c1⟩ := (hr.ext hxw).snd hilt
      have hss : s2 = s := by have := hs2.out; rw [hsi] at this; exact (Option.some.inj this).symm
      subst hss
      have hii : (i : Int) < (n : Int) := by omega
      have hcall := fun W (h : RdS W b m cap2 ys) => containsS_any b m cap2 ys s2 W h
      rw [← hin] at hcall
      cases hd : inAt xs ys (i : Int)
      · rw [hd] at hcall
        have hR : Hid (R = false) := Lib.hid (by
          rw [hIs.out, List.all_eq_false.2 ⟨_, List.mem_of_getElem? hxk.out, by rw [hd]; simp⟩]; simp)
        have hEz : Hid (E = 0) := Lib.hid (by
          apply Classical.byContradiction
          intro h
          have := hxk.out
          rw [hE0.out h] at this; simp at this)
        replace hin := Lib.hid hin
        replace hsi := Lib.hid hsi
        replace hxk := Lib.hid hxk.out
        replace hs2 := Lib.hid hs2.out
        replace hd := Lib.hid hd
        go_wp2_with fail
        refine (hcall _ (hs.ext hxw)).mono ?_
        rintro e w2 ⟨rfl, hx2⟩
        clear hcall
        go_wp2_with fail
        go_ret2
        exact ⟨by rw [hR.out, hEz.out]; rfl, hxw.trans hx2⟩
      · rw [hd] at hcall
        have hall2 := Lib.hid (all_succ hall.out hxk.out hd)
        replace hin := Lib.hid hin
        replace hsi := Lib.hid hsi
        replace hxk := Lib.hid hxk.out
        replace hs2 := Lib.hid hs2.out
        replace hd := Lib.hid hd
        go_wp2_with fail
        refine (hcall _ (hs.ext hxw)).mono ?_
        rintro e w2 ⟨rfl, hx2⟩
        clear hcall
        go_wp2_with fail
        (first | exact ⟨⟨k + 1, by omega, by go_num, hall2, hxr.trans hx2⟩, (by simp [intOf]; omega)⟩ | (go_roundw; case rel => exact ⟨k + 1, by omega, by go_num, hall2, hxr.trans hx2⟩; case measure => exact (by simp [intOf]; omega)))
    · have hR : Hid (R = (E == 0)) := Lib.hid (by
        have h1 : L.all (inAt xs ys) = true := List.all_eq_true.2 fun x hx => by
          obtain ⟨i, hi⟩ := List.getElem?_of_mem hx
          exact hall.out i x (by have := (List.getElem?_eq_some_iff.1 hi).1; have := hn1.out; omega) hi
        rw [hIs.out, h1, Bool.and_true]
        rfl)
      go_wp2_with fail
      go_ret2
      exact ⟨by rw [hR.out]; rfl, hxw⟩
/-! ### The reference -/
set_option maxHeartbeats 1000000 in
theorem just_any (a : Option Addr) (n cap : Nat) (xs : List Snd) (b : Option Addr) (m cap2 : Nat) (ys : List Snd) (a1 : Option Addr) (n1 c1 : Nat) (L : List Int) (w : World) (hr : RdS w a n cap xs) (hs : RdS w b m cap2 ys) (hrl : RdI w a1 n1 c1 L)
    (hat : ∀ (k : Nat) (x : Int), L[k]? = some x → ∃ (i : Nat) (s : Snd), x = (i : Int) ∧ xs[i]? = some s ∧ inAt xs ys x = decide (s ∈ ys)) :
    Calls Tryd.prog 54 #[.slice a n cap, .slice b m cap2, .slice a1 n1 c1] w fun e w' => e = .returned (.bool (L.all (inAt xs ys) && decide (L.length = cntIn xs ys xs.length))) ∧ Ext w w' := by
  have hl := hr.len
  have hl1 := hrl.len
  have hmax : n ≤ 9223372036854775807 := by have := hr.le; have := hr.most; unfold maxLen at this; omega
  have hmax1 : n1 ≤ 9223372036854775807 := by have := hrl.le; have := hrl.most; unfold maxLen at this; omega
  replace hl := Lib.hid hl
  replace hl1 := Lib.hid hl1
  replace hat := Lib.hid hat
  go_enter Tryd.func54, Tryd.ntmps54
  go_wp2_with fail
  go_loopw [7, 8] (fun q i wr => ∃ k : Nat, k ≤ n ∧ i = .int .i64 k ∧ q = .int .i64 (cntIn xs ys k : Nat) ∧ Ext w wr) (fun _ i _ => n - (intOf i).toNat)
  case atStart => exact ⟨0, Nat.zero_le _, rfl, rfl, Ext.refl _⟩
  case round =>
    obtain ⟨k, hk, rfl, rfl, hx⟩ := hrel
    have hle := cntIn_le xs ys k
    by_cases hlt : k < n
    · have hki : (k : Int) < (n : Int) := by omega
      obtain ⟨b2, o2, s, rfl, hsk, hb2, c0, c1⟩ := (hr.ext hx).snd hlt
      have hcall := fun W (h : RdS W b m cap2 ys) => rhas_any b m cap2 ys s W h
      have hsu := cntIn_succ (some := ys) hsk.out
      by_cases hin : s ∈ ys
      · have hd : decide (s ∈ ys) = true := by simpa using hin
        rw [hd] at hcall
        rw [if_pos hin] at hsu
        replace hsu := Lib.hid hsu
        replace hin := Lib.hid hin
        replace hsk := Lib.hid hsk.out
        clear hd
        generalize cntIn xs ys k = q at *
        go_wp2_with fail
        refine (hcall _ (hs.ext hx)).mono ?_
        rintro e w2 ⟨rfl, hx2⟩
        clear hcall
        go_wp2_with fail
        (first | exact ⟨⟨k + 1, by omega, by go_num, by rw [hsu.out]; go_num, hx.trans hx2⟩, (by simp [intOf]; omega)⟩ | (go_roundw; case rel => exact ⟨k + 1, by omega, by go_num, by rw [hsu.out]; go_num, hx.trans hx2⟩; case measure => exact (by simp [intOf]; omega)))
      · have hd : decide (s ∈ ys) = false := by simpa using hin
        rw [hd] at hcall
        rw [if_neg hin] at hsu
        replace hsu := Lib.hid hsu
        replace hin := Lib.hid hin
        replace hsk := Lib.hid hsk.out
        clear hd
        generalize cntIn xs ys k = q at *
        go_wp2_with fail
        refine (hcall _ (hs.ext hx)).mono ?_
        rintro e w2 ⟨rfl, hx2⟩
        clear hcall
        go_wp2_with fail
        (first | exact ⟨⟨k + 1, by omega, by go_num, by rw [hsu.out], hx.trans hx2⟩, (by simp [intOf]; omega)⟩ | (go_roundw; case rel => exact ⟨k + 1, by omega, by go_num, by rw [hsu.out], hx.trans hx2⟩; case measure => exact (by simp [intOf]; omega)))
    · have hkn : k = n := by omega
      generalize hq : cntIn xs ys k = q at *
      replace hq := Lib.hid hq
      replace hkn := Lib.hid hkn
      obtain ⟨wo, rfl⟩ : ∃ wo : World, wo = wr := ⟨_, rfl⟩
      go_wp2_with fail
      go_loopw [9] (fun i wr => ∃ k : Nat, k ≤ n1 ∧ i = .int .i64 k ∧ Hid (∀ (i : Nat) (y : Int), i < k → L[i]? = some y → inAt xs ys y = true) ∧ Ext w wr) (fun i _ => n1 - (intOf i).toNat)
      case atStart => exact ⟨0, Nat.zero_le _, rfl, Lib.hid (fun i x h => absurd h (Nat.not_lt_zero _)), hx⟩
      case round =>
        clear hx
        obtain ⟨j, hj, rfl, hall, hx⟩ := hrel
        by_cases hlj : j < n1
        · have hji : (j : Int) < (n1 : Int) := by omega
          obtain ⟨b1, o1, x, rfl, hxk, hb1, p0⟩ := (hrl.ext hx).i64 hlj
          obtain ⟨i, s, rfl, hsi, hin⟩ := hat.out j x hxk.out
          have hilt : i < n := by have := (List.getElem?_eq_some_iff.1 hsi).1; have := hl.out; omega
          obtain ⟨b2, o2, s2, rfl, hs2, hb2, c0, c1⟩ := (hr.ext hx).snd hilt
          have hss : s2 = s := by have := hs2.out; rw [hsi] at this; exact (Option.some.inj this).symm
          subst hss
          have hii : (i : Int) < (n : Int) := by omega
          have hcall := fun W (h : RdS W b m cap2 ys) => rhas_any b m cap2 ys s2 W h
          rw [← hin] at hcall
          cases hd : inAt xs ys (i : Int)
          · rw [hd] at hcall
            have hR : Hid (L.all (inAt xs ys) = false) := Lib.hid (List.all_eq_false.2 ⟨_, List.mem_of_getElem? hxk.out, by rw [hd]; simp⟩)
            replace hin := Lib.hid hin
            replace hsi := Lib.hid hsi
            replace hxk := Lib.hid hxk.out
            replace hs2 := Lib.hid hs2.out
            replace hd := Lib.hid hd
            go_wp2_with fail
            refine (hcall _ (hs.ext hx)).mono ?_
            rintro e w2 ⟨rfl, hx2⟩
            clear hcall
            go_wp2_with fail
            go_ret
            exact ⟨ret_bool (by rw [hR.out]; rfl), hx.trans hx2⟩
          · rw [hd] at hcall
            have hall2 := Lib.hid (all_succ hall.out hxk.out hd)
            replace hin := Lib.hid hin
            replace hsi := Lib.hid hsi
            replace hxk := Lib.hid hxk.out
            replace hs2 := Lib.hid hs2.out
            replace hd := Lib.hid hd
            go_wp2_with fail
            refine (hcall _ (hs.ext hx)).mono ?_
            rintro e w2 ⟨rfl, hx2⟩
            clear hcall
            go_wp2_with fail
            (first | exact ⟨⟨j + 1, by omega, by go_num, hall2, hx.trans hx2⟩, (by simp [intOf]; omega)⟩ | (go_roundw; case rel => exact ⟨j + 1, by omega, by go_num, hall2, hx.trans hx2⟩; case measure => exact (by simp [intOf]; omega)))
        · have hR : Hid (L.all (inAt xs ys) = true) := Lib.hid (List.all_eq_true.2 fun x hx => by
            obtain ⟨i, hi⟩ := List.getElem?_of_mem hx
            exact hall.out i x (by have := (List.getElem?_eq_some_iff.1 hi).1; have := hl1.out; omega) hi)
          have hQ : Hid (decide (L.length = cntIn xs ys xs.length) = ((n1 : Int) == (q : Int))) := Lib.hid (by
            rw [hl1.out, hl.out, ← hkn.out, hq.out]; rw [Bool.eq_iff_iff, decide_eq_true_eq, beq_iff_eq]; omega)
          go_wp2_with fail
          go_ret
          exact ⟨ret_bool (by rw [hR.out, hQ.out]; rfl), hx⟩
theorem ris_any (a : Option Addr) (n cap : Nat) (xs : List Snd) (b : Option Addr) (m cap2 : Nat) (ys : List Snd) (w : World) (hr : RdS w a n cap xs) (hs : RdS w b m cap2 ys) :
    Calls Tryd.prog 18 #[.slice a n cap, .slice b m cap2] w (RetIs xs ys w) := by
  have hcl := rclosure_any a n cap xs b m cap2 ys w hr hs
  unfold RetIs
  unfold RetC at hcl
  by_cases h0 : closE xs ys = 0
  · have hj := isB_just h0
    have hju := fun a1 n1 c1 W h1 h2 h3 => just_any a n cap xs b m cap2 ys a1 n1 c1 (clL xs ys) W h1 h2 h3 fun k x h => clL_at h
    rw [← hj] at hju
    rw [h0] at hcl ⊢
    clear hj
    replace h0 := Lib.hid h0
    generalize isB xs ys = R at *
    generalize clC xs ys = C at *
    generalize clL xs ys = L at *
    go_enter Tryd.func18, Tryd.ntmps18
    go_wp2_with fail
    refine hcl.mono ?_
    rintro e w1 ⟨v, rfl, hown, hx1⟩
    clear hcl
    obtain ⟨a1, n1, c1, hn1, rfl, hrl⟩ := OwnK.rdn I64.len hown
    replace hn1 := Lib.hid hn1
    clear hown
    go_wp2_with fail
    have hx2 := hx1.alloc (.cells #[.int .u32 C.p.toNat, .int .u32 C.m.toNat] 27)
    refine (hju a1 n1 c1 _ (hr.ext hx2) (hs.ext hx2) (hrl.ext (Ext.alloc1 _ _))).mono ?_
    rintro e w2 ⟨rfl, hx3⟩
    go_wp2_with fail
    go_ret2
    exact ⟨rfl, hx2.trans hx3⟩
  · have hR := isB_not rfl h0
    obtain ⟨_, g2⟩ := cl_bad rfl h0
    have hd : (closE xs ys != 0) = true := by simpa using h0
    rw [hR]
    rw [g2] at hcl
    clear hR g2
    generalize closE xs ys = E at *
    generalize clC xs ys = C at *
    replace h0 := Lib.hid h0
    go_enter Tryd.func18, Tryd.ntmps18
    go_wp2_with fail
    refine hcl.mono ?_
    rintro e w1 ⟨v, rfl, hown, hx1⟩
    clear hcl
    obtain ⟨a1, n1, c1, hn1, rfl, hrl⟩ := OwnK.rdn I64.len hown
    replace hn1 := Lib.hid hn1
    clear hown
    go_wp2_with fail
    go_ret2
    exact ⟨rfl, hx1.alloc _⟩
end Go.Proofs.YtbnbfdbliokcaaaDoor
