/-
  pats.relate, exists, Begins, Ends at patterns in order.
-/
import Derived.Test.YtadncjpknckaaaaGreatDoorA12
namespace Go.Proofs.YtadncjpknckaaaaGreatDoor
open Go.RowKit Go.Maps Go.Shelf
theorem any_of_atG {α : Type} {xs : List α} {i : Nat} {x : α} {p : α → Bool} (h : xs[i]? = some x) (hp : p x = true) : xs.any p = true :=
  List.any_eq_true.2 ⟨x, List.mem_of_getElem? h, hp⟩
theorem any_noneG {α : Type} {xs : List α} {n : Nat} {p : α → Bool} (hl : xs.length = n) (h : ∀ (i : Nat) (y : α), i < n → xs[i]? = some y → (!p y) = true) : xs.any p = false := by
  rw [List.any_eq_false]
  intro x hx
  obtain ⟨i, hi⟩ := List.mem_iff_getElem?.1 hx
  have := h i x (by have := (List.getElem?_eq_some_iff.1 hi).1; omega) hi
  simpa using this
theorem relate1_any (s : Snd) (w : World) : Calls Tryz.prog 111 #[sndV s] w fun e w' => e = .returned (.bool (!s.ok)) ∧ Ext w w' := by
  go_enter Tryz.func111, Tryz.ntmps111
  go_wp2_with fail
  refine (patvalid_any s _).mono ?_
  rintro e w1 ⟨rfl, hx1⟩
  go_wp2_with fail
  go_ret
  exact ⟨rfl, (by repeat (first | exact Ext.refl _ | assumption | refine Ext.drew ?_ | refine Ext.drewN ?_ _ | refine Ext.alloc ?_ _ | refine Ext.trans ?_ (by assumption)))⟩
theorem indexR_any (a : Option Addr) (n cap : Nat) (xs : List Snd) (w : World) (hr : RdS w a n cap xs) :
    Calls Tryz.prog 74 #[.slice a n cap, .func (.func 111) #[] #[]] w fun e w' => ∃ r : Int, e = .returned (.int .i64 r) ∧ decide (0 ≤ r) = xs.any (fun y => !y.ok) ∧ Ext w w' := by
  have any_of_at := @any_of_atG Snd
  have any_none := @any_noneG Snd
  have hl := hr.len
  have hmax : n ≤ 9223372036854775807 := by have := hr.le; have := hr.most; unfold maxLen at this; omega
  replace hl := Lib.hid hl
  go_enter Tryz.func74, Tryz.ntmps74
  go_wp2_with fail
  go_loopw [8] (fun i wr => ∃ k : Nat, k ≤ n ∧ i = .int .i64 k ∧ Ext w wr ∧ Hid (∀ (i : Nat) (y : _), i < k → xs[i]? = some y → (!(fun y : Snd => !y.ok) y) = true)) (fun i _ => n - (intOf i).toNat)
  case atStart => exact ⟨0, Nat.zero_le _, rfl, Ext.refl _, fun i x hi => absurd hi (Nat.not_lt_zero _)⟩
  case round =>
    obtain ⟨k, hk, rfl, hx, hall⟩ := hrel
    by_cases hlt : k < n
    · obtain ⟨b, off, y, rfl, hs, hb, hc0, hc1⟩ := (hr.ext hx).snd hlt
      cases hp : (fun y : Snd => !y.ok) y
      · have hnew := Lib.hid (all_succ (p := fun y => !(fun y : Snd => !y.ok) y) hall.out hs.out (by show (!(fun y : Snd => !y.ok) y) = true; rw [hp]; rfl))
        go_wp2_with fail
        refine (cbool (relate1_any y _) hp).mono ?_
        rintro e w1 ⟨rfl, hx1⟩
        clear hp
        go_wp2_with fail
        (first | exact ⟨⟨k + 1, by omega, by go_num, hx.trans hx1, hnew⟩, (by simp [intOf]; omega)⟩ | (go_roundw; case rel => exact ⟨k + 1, by omega, by go_num, hx.trans hx1, hnew⟩; case measure => exact (by simp [intOf]; omega)))
      · have hany := Lib.hid (any_of_at (p := fun y : Snd => !y.ok) hs.out hp)
        go_wp2_with fail
        refine (cbool (relate1_any y _) hp).mono ?_
        rintro e w1 ⟨rfl, hx1⟩
        clear hp
        go_wp2_with fail
        go_ret
        exact ⟨(k : Int), rfl, by rw [hany.out]; simp, hx.trans hx1⟩
    · go_wp2_with fail
      go_ret
      exact ⟨-1, rfl, by rw [any_none (p := fun y : Snd => !y.ok) hl.out (fun i y hi => hall.out i y (by omega))]; simp, hx⟩
theorem containsR_any (a : Option Addr) (n cap : Nat) (xs : List Snd) (w : World) (hr : RdS w a n cap xs) :
    Calls Tryz.prog 57 #[.slice a n cap, .func (.func 111) #[] #[]] w fun e w' => e = .returned (.bool (xs.any fun y => !y.ok)) ∧ Ext w w' := by
  go_enter Tryz.func57, Tryz.ntmps57
  go_wp2_with fail
  refine (indexR_any a n cap xs _ hr).mono ?_
  rintro e w1 ⟨r, rfl, hd, hx1⟩
  replace hd := Lib.hid hd
  go_wp2_with fail
  go_ret
  exact ⟨ret_bool hd.out, hx1⟩
theorem results_cell_row_tmp {P : Program} {fn : Func} {p q : Tmp} {ty : TypeId} (h : fn.results = #[.cell p ty, .tmp q]) (tmps : Array Value) (w : World) (g : Nat) (t : TypeId) (cs : Array Value) (fr : Nat × Nat) (d : TypeDesc)
    (hp : tmps.getD p undef = .pointer (some ⟨g, 0, none⟩)) (hg : w.heap[g]? = some (.cells cs t fr))
    (hu : P.underlying ty = some d) (hd : (match d with | .struct _ | .array _ _ => true | _ => false) = true) (hi : (P.info? ty).map (·.size) = some cs.size) :
    (results fn tmps).run P w = .ok (.tuple #[.agg cs, tmps.getD q undef]) w := by
  have hp' : tmps[p]?.getD undef = .pointer (some ⟨g, 0, none⟩) := by simpa using hp
  simp [results, h, hp', asAddr, run_loadVar_row w g t ty cs fr d hg hu hd hi]
def relOr (h : HP) (ws : List Snd) : Rel := if wordOk ws = true then inM h ws else zeroM
/-- The relation of a pattern in a word, and an error. -/
def RetRel (h : HP) (ws : List Snd) (w : World) (e : Ending) (w' : World) : Prop := ∃ err : Int, e = .returned (.tuple #[.agg (relA (relOr h ws)), .int .i64 err]) ∧ (err = 0 ↔ wordOk ws = true) ∧ Ext w w'
set_option maxHeartbeats 1000000 in
set_option maxRecDepth 20000 in
theorem relate_any (h : HP) (hok : chkB h = true) (a : Option Addr) (n cap : Nat) (ws : List Snd) (w : World) (hr : RdPt w h) (hws : RdS w a n cap ws) (hT : Tab64 w) :
    Calls Tryz.prog 105 #[patV h, .slice a n cap] w (RetRel h ws w) := by
  obtain ⟨hall, hcnt⟩ := chkB_good hok
  have hl := hws.len
  have hmax : n ≤ 9223372036854775807 := by have := hws.le; have := hws.most; unfold maxLen at this; omega
  go_enter Tryz.func105, Tryz.ntmps105
  refine seq_stop fun K hK => ?_
  go_wp2_with fail
  have hb : RelB ((w.alloc (.cells h.enc.toArray 55)).alloc (.cells (relA zeroM) 173)) (w.heap.size + 1) zeroM := by
    have := RelB.new (w.alloc (.cells h.enc.toArray 55)) zeroM
    rwa [World.size_alloc] at this
  have q0 : ((w.alloc (.cells h.enc.toArray 55)).alloc (.cells (relA zeroM) 173)).cell? ⟨w.heap.size, 0, none⟩ = some (.int .i64 h.kind) := by simp only [HP.enc]; go_simp
  have q1 : ((w.alloc (.cells h.enc.toArray 55)).alloc (.cells (relA zeroM) 173)).cell? ⟨w.heap.size, 1, none⟩ = some (.int .u32 h.is.p.toNat) := by simp only [HP.enc]; go_simp
  have q2 : ((w.alloc (.cells h.enc.toArray 55)).alloc (.cells (relA zeroM) 173)).cell? ⟨w.heap.size, 2, none⟩ = some (.int .u32 h.is.m.toNat) := by simp only [HP.enc]; go_simp
  have q3 : ((w.alloc (.cells h.enc.toArray 55)).alloc (.cells (relA zeroM) 173)).cell? ⟨w.heap.size, 3, none⟩ = some (.bool h.neg) := by simp only [HP.enc]; go_simp
  have q4 : ((w.alloc (.cells h.enc.toArray 55)).alloc (.cells (relA zeroM) 173)).cell? ⟨w.heap.size, 4, none⟩ = some (.int .i64 h.mn) := by simp only [HP.enc]; go_simp
  have q5 : ((w.alloc (.cells h.enc.toArray 55)).alloc (.cells (relA zeroM) 173)).cell? ⟨w.heap.size, 5, none⟩ = some (.int .i64 h.mx) := by simp only [HP.enc]; go_simp
  have q6 : ((w.alloc (.cells h.enc.toArray 55)).alloc (.cells (relA zeroM) 173)).cell? ⟨w.heap.size, 6, none⟩ = some (.slice h.a h.n h.cap) := by simp only [HP.enc]; go_simp
  have hx : Ext w ((w.alloc (.cells h.enc.toArray 55)).alloc (.cells (relA zeroM) 173)) := (Ext.alloc1 _ _).trans (Ext.alloc1 _ _)
  have hz1 : ((w.alloc (.cells h.enc.toArray 55)).alloc (.cells (relA zeroM) 173)).heap.size = w.heap.size + 1 + 1 := by simp
  have hK' := hK.out { tmps := #[patV h, .slice a n cap, .pointer (some ⟨w.heap.size, 0, none⟩), undef, .pointer (some ⟨w.heap.size + 1, 0, none⟩), .int .i64 0, undef, undef, undef, undef, undef, undef, undef, undef, undef, undef, undef, undef, undef, undef, undef, undef, undef, undef, undef, undef, undef], defers := [] } ((w.alloc (.cells h.enc.toArray 55)).alloc (.cells (relA zeroM) 173))
  refine hK' ?_
  clear hK' hK
  generalize (w.alloc (.cells h.enc.toArray 55)).alloc (.cells (relA zeroM) 173) = w1 at *
  obtain ⟨b2, hb2⟩ : ∃ b2, b2 = w.heap.size := ⟨_, rfl⟩
  obtain ⟨b4, hb4⟩ : ∃ b4, b4 = w.heap.size + 1 := ⟨_, rfl⟩
  have l4 : w.heap.size ≤ b4 := by omega
  rw [← hb4] at hb ⊢
  rw [← hb2] at q0 q1 q2 q3 q4 q5 q6 ⊢
  clear hb2 hb4 hz1
  replace hl := Lib.hid hl
  replace l4 := Lib.hid l4
  go_wp2_with fail
  refine (check_any h hall hcnt _ (hr.ext hx)).mono ?_
  rintro e w2 ⟨rfl, hx2⟩
  have hX := hx.trans hx2
  have r0 := hx2.cellv q0
  have r1 := hx2.cellv q1
  have r2 := hx2.cellv q2
  have r3 := hx2.cellv q3
  have r4 := hx2.cellv q4
  have r5 := hx2.cellv q5
  have r6 := hx2.cellv q6
  have hb2 := hb.ext hx2
  clear q0 q1 q2 q3 q4 q5 q6 hb hx hx2
  by_cases h32 : n ≤ 32
  rotate_left
  · have hwk : wordOk ws = false := by unfold wordOk; rw [hl.out]; simp; omega
    have d32 : (32 : Int) < (n : Int) := by omega
    have hro : relOr h ws = zeroM := by unfold relOr; rw [hwk]; rfl
    have hbz : RelB w2 b4 zeroM := hb2
    go_wp2_with (refine wpList_store_row rfl 173 _ _ rfl b4 (relA zeroM) rfl rfl 173 (relA zeroM) hb2 (size_of (zeroM_ok).1) rfl (relA_one _) ?_)
    refine bodyPost_ret (results_cell_row_tmp rfl _ _ b4 173 (relA zeroM) (0, 0) _ rfl (hbz.put zeroM) Tryz.underlying173 rfl (size_of zeroM_ok.1)) rfl ?_
    exact ⟨_, by rw [hro]; rfl, by rw [hwk]; simp, ext_setRow hX l4.out _⟩
  · have d32 : ¬ (32 : Int) < (n : Int) := by omega
    have hwk : wordOk ws = ws.all Snd.ok := by unfold wordOk; rw [hl.out]; simp [h32]
    have hany : (ws.any fun y => !y.ok) = !ws.all Snd.ok := by rw [List.not_all_eq_any_not]
    cases hall2 : ws.all Snd.ok
    · rw [hall2] at hwk hany
      have hro : relOr h ws = zeroM := by unfold relOr; rw [hwk]; rfl
      replace hwk := Lib.hid hwk
      replace hro := Lib.hid hro
      go_wp2_with fail
      refine (cbool (containsR_any a n cap ws _ (hws.ext hX)) hany).mono ?_
      rintro e w3 ⟨rfl, hx3⟩
      have hb3 := hb2.ext hx3
      have hX3 := hX.trans hx3
      clear hb2 hX hx3 r0 r1 r2 r3 r4 r5 r6
      go_wp2_with (refine wpList_store_row rfl 173 _ _ rfl b4 (relA zeroM) rfl rfl 173 (relA zeroM) hb3 (size_of (zeroM_ok).1) rfl (relA_one _) ?_)
      refine bodyPost_ret (results_cell_row_tmp rfl _ _ b4 173 (relA zeroM) (0, 0) _ rfl (hb3.put zeroM) Tryz.underlying173 rfl (size_of zeroM_ok.1)) rfl ?_
      exact ⟨_, by rw [hro.out]; rfl, by rw [hwk.out]; simp, ext_setRow hX3 l4.out _⟩
    · rw [hall2] at hwk hany
      have hro : relOr h ws = inM h ws := by unfold relOr; rw [hwk]; rfl
      replace hwk := Lib.hid hwk
      replace hro := Lib.hid hro
      go_wp2_with fail
      refine (cbool (containsR_any a n cap ws _ (hws.ext hX)) hany).mono ?_
      rintro e w3 ⟨rfl, hx3⟩
      have hb3 := hb2.ext hx3
      have hX3 := hX.trans hx3
      replace r0 := hx3.cellv r0
      replace r1 := hx3.cellv r1
      replace r2 := hx3.cellv r2
      replace r3 := hx3.cellv r3
      replace r4 := hx3.cellv r4
      replace r5 := hx3.cellv r5
      replace r6 := hx3.cellv r6
      clear hb2 hX hx3
      go_wp2_with fail
      refine (compile_any _ h w3 (Nat.le_refl _) (hr.ext hX3) hall hcnt).mono ?_
      rintro e w4 ⟨c, rfl, hrc, hoc, hsem, hx4⟩
      rw [CP.v_eq]
      have hme := c.meth
      have hen := c.ent
      have hb4 := hb3.ext hx4
      have hX4 := hX3.trans hx4
      clear hb3 hX3 hx4 r0 r1 r2 r3 r4 r5 r6
      go_wp2_with fail
      refine (in_any ws a n cap h32 _ _ c w4 (Nat.le_refl _) hoc hrc (hws.ext hX4) (hT.ext hX4)).mono ?_
      rintro e w5 ⟨rfl, hx5⟩
      rw [hsem]
      have hok5 : RelOk (inM h ws) := inM_ok h (by rw [hl.out]; exact h32)
      have hb5 := hb4.ext hx5
      have hX5 := hX4.trans hx5
      clear hb4 hX4 hx5 hme hen hrc hoc
      go_wp2_with (refine wpList_store_row rfl 173 _ _ rfl b4 (relA (inM h ws)) rfl rfl 173 (relA zeroM) hb5 (size_of (hok5).1) (by rw [relA_len (zeroM_ok).1, relA_len (hok5).1]) (relA_one _) ?_)
      refine bodyPost_ret (results_cell_row_tmp rfl _ _ b4 173 (relA (inM h ws)) (0, 0) _ rfl (hb5.put (inM h ws)) Tryz.underlying173 rfl (size_of hok5.1)) rfl ?_
      exact ⟨_, by rw [hro.out]; rfl, by rw [hwk.out]; simp, ext_setRow hX5 l4.out _⟩
theorem exists_any (a : Option Addr) (n cap : Nat) (i : Nat) (hi : i ≤ n) (w : World) : Calls Tryz.prog 106 #[.slice a n cap, .int .i64 (i : Int)] w fun e w' => e = .returned (.int .i64 0) ∧ Ext w w' := by
  have h1 : ¬ (i : Int) < 0 := by omega
  have h2 : ¬ (n : Int) < (i : Int) := by omega
  go_enter Tryz.func106, Tryz.ntmps106
  go_wp2_with fail
  go_ret
  exact ⟨rfl, (by repeat (first | exact Ext.refl _ | assumption | refine Ext.drew ?_ | refine Ext.drewN ?_ _ | refine Ext.alloc ?_ _ | refine Ext.trans ?_ (by assumption)))⟩
theorem bits_and_oneU (x : Nat) (hx : x < 9223372036854775808) : bits BinOp.and IntKind.u64 (x : Int) 1 = ((x % 2 : Nat) : Int) := by
  have two63 : (2 : Int) ^ 63 = 9223372036854775808 := by decide
  have h := bits_mask .u64 63 (by decide) (fun n h0 h1 => by rw [two63] at h1; rw [IntKind.wrap_u64]; omega) 1 (by decide) (x : Int) (by omega) (by rw [two63]; omega)
  have e : ((2 : Int) ^ 1 - 1) = 1 := by decide
  rw [e] at h
  rw [h]
  omega
theorem bit_fact {v i : Nat} (hv : v < 2 ^ 33) : bits BinOp.and IntKind.u64 ((v : Int) / 2 ^ i) 1 = if v.testBit i then 1 else 0 := by
  have e : (v : Int) / 2 ^ i = ((v / 2 ^ i : Nat) : Int) := by norm_cast
  have hle : v / 2 ^ i ≤ v := Nat.div_le_self _ _
  rw [e, bits_and_oneU _ (by have : (2 : Nat) ^ 33 = 8589934592 := by decide
                             omega), Nat.testBit_eq_decide_div_mod_eq]
  by_cases h : v / 2 ^ i % 2 = 1
  · simp [h]
  · have : v / 2 ^ i % 2 = 0 := by omega
    simp [this]
def begL (h : HP) (ws : List Snd) (e k : Nat) : List Int := ((List.range k).filter fun a => ((inM h ws).getD a 0).testBit e).map fun a : Nat => (a : Int)
theorem begL_succ (h : HP) (ws : List Snd) (e k : Nat) : begL h ws e (k + 1) = begL h ws e k ++ if ((inM h ws).getD k 0).testBit e then [(k : Int)] else [] := by
  unfold begL
  rw [List.range_succ, List.filter_append, List.map_append]
  congr 1
  cases hh : ((inM h ws).getD k 0).testBit e
  · rw [List.filter_cons, hh]; rfl
  · rw [List.filter_cons, hh]; rfl
theorem begL_len (h : HP) (ws : List Snd) (e k : Nat) : (begL h ws e k).length ≤ k := by
  unfold begL; rw [List.length_map]; have := List.length_filter_le (fun a => ((inM h ws).getD a 0).testBit e) (List.range k); simpa using this
theorem begL_any (h : HP) (ws : List Snd) (e : Nat) : decide (0 < (begL h ws e (ws.length + 1)).length) = begM h ws e := by
  unfold begM begL
  rw [List.length_map, Bool.eq_iff_iff, decide_eq_true_eq, List.length_pos_iff_exists_mem, List.any_eq_true]
  constructor
  · rintro ⟨a, ha⟩; obtain ⟨h1, h2⟩ := List.mem_filter.1 ha; exact ⟨a, h1, h2⟩
  · rintro ⟨a, h1, h2⟩; exact ⟨a, List.mem_filter.2 ⟨h1, h2⟩⟩
/-- A list of places, of which only its length is told. -/
def RetPl (R : Bool) (w : World) (e : Ending) (w' : World) : Prop := ∃ (a : Option Addr) (m cap : Nat) (err : Int), e = .returned (.tuple #[.slice a m cap, .int .i64 err]) ∧ Hid (decide (0 < m) = R) ∧ Ext w w'
set_option maxHeartbeats 1000000 in
set_option maxRecDepth 20000 in
theorem begins_any (h : HP) (hok : chkB h = true) (a : Option Addr) (n cap : Nat) (ws : List Snd) (i : Nat) (hi : i ≤ n) (w : World) (hr : RdPt w h) (hws : RdS w a n cap ws) (hT : Tab64 w) :
    Calls Tryz.prog 97 #[patV h, .slice a n cap, .int .i64 (i : Int)] w (RetPl (wordOk ws && begM h ws i) w) := by
  have hl := hws.len
  go_enter Tryz.func97, Tryz.ntmps97
  refine seq_stop fun K hK => ?_
  go_wp2_with fail
  have hx : Ext w (w.alloc (.cells h.enc.toArray 55)) := Ext.alloc1 _ _
  have q0 : (w.alloc (.cells h.enc.toArray 55)).cell? ⟨w.heap.size, 0, none⟩ = some (.int .i64 h.kind) := by simp only [HP.enc]; go_simp
  have q1 : (w.alloc (.cells h.enc.toArray 55)).cell? ⟨w.heap.size, 1, none⟩ = some (.int .u32 h.is.p.toNat) := by simp only [HP.enc]; go_simp
  have q2 : (w.alloc (.cells h.enc.toArray 55)).cell? ⟨w.heap.size, 2, none⟩ = some (.int .u32 h.is.m.toNat) := by simp only [HP.enc]; go_simp
  have q3 : (w.alloc (.cells h.enc.toArray 55)).cell? ⟨w.heap.size, 3, none⟩ = some (.bool h.neg) := by simp only [HP.enc]; go_simp
  have q4 : (w.alloc (.cells h.enc.toArray 55)).cell? ⟨w.heap.size, 4, none⟩ = some (.int .i64 h.mn) := by simp only [HP.enc]; go_simp
  have q5 : (w.alloc (.cells h.enc.toArray 55)).cell? ⟨w.heap.size, 5, none⟩ = some (.int .i64 h.mx) := by simp only [HP.enc]; go_simp
  have q6 : (w.alloc (.cells h.enc.toArray 55)).cell? ⟨w.heap.size, 6, none⟩ = some (.slice h.a h.n h.cap) := by simp only [HP.enc]; go_simp
  have hK' := hK.out { tmps := #[patV h, .slice a n cap, .int .i64 (i : Int), .pointer (some ⟨w.heap.size, 0, none⟩), undef, undef, .slice none 0 0, .int .i64 0, undef, undef, undef, undef, undef, undef, undef, undef, undef, undef, undef, undef, undef, undef, undef, undef, undef, undef, undef, undef, undef, undef, undef, undef, undef, undef, undef, undef, undef, undef, undef, undef, undef, undef, undef, undef, undef], defers := [] } (w.alloc (.cells h.enc.toArray 55))
  refine hK' ?_
  clear hK' hK
  generalize w.alloc (.cells h.enc.toArray 55) = w1 at *
  generalize w.heap.size = b2 at *
  replace hl := Lib.hid hl
  go_wp2_with fail
  refine (relate_any h hok a n cap ws _ (hr.ext hx) (hws.ext hx) (hT.ext hx)).mono ?_
  rintro e w2 ⟨err, rfl, herr, hx2⟩
  replace hx := hx.trans hx2
  clear q0 q1 q2 q3 q4 q5 q6 hx2
  have hrok : RelOk (relOr h ws) := by
    unfold relOr
    split
    · rename_i hwk
      unfold wordOk at hwk
      simp only [Bool.and_eq_true, decide_eq_true_eq] at hwk
      exact inM_ok h hwk.1
    · exact zeroM_ok
  have hA := Ext.alloc1 w2 (.cells (relA (relOr h ws)) 173)
  have hb8 := RelB.new w2 (relOr h ws)
  have hx8 := hx.trans hA
  cases hwk : wordOk ws
  · have hne : ¬ err = 0 := fun e => by rw [herr.1 e] at hwk; cases hwk
    have hne' : (err == 0) = false := by simpa using hne
    replace hwk := Lib.hid hwk
    replace herr := Lib.hid herr
    clear hA
    go_wp2_with (first | (refine wpList_store_row rfl 173 _ _ rfl w2.heap.size (relA (relOr h ws)) rfl rfl 173 (relA zeroM) (RelB.new w2 zeroM) (size_of hrok.1) (by rw [relA_len zeroM_ok.1, relA_len hrok.1]) (relA_one _) ?_; rw [World.setRow_alloc_new]; generalize w2.alloc (.cells (relA (relOr h ws)) 173) = w3 at *))
    go_ret2
    exact ⟨_, _, _, _, rfl, Lib.hid (by rw [hwk.out]; rfl), hx8⟩
  · have herr0 := herr.2 hwk
    subst herr0
    have hro : relOr h ws = inM h ws := by unfold relOr; rw [hwk]; rfl
    rw [hro] at hrok hb8 hx8 hA ⊢
    have hn32 : n ≤ 32 := by
      unfold wordOk at hwk
      simp only [Bool.and_eq_true, decide_eq_true_eq, hl.out] at hwk
      exact hwk.1
    replace hwk := Lib.hid hwk
    clear herr hA
    go_wp2_with (first | (refine wpList_store_row rfl 173 _ _ rfl w2.heap.size (relA (inM h ws)) rfl rfl 173 (relA zeroM) (RelB.new w2 zeroM) (size_of hrok.1) (by rw [relA_len zeroM_ok.1, relA_len hrok.1]) (relA_one _) ?_; rw [World.setRow_alloc_new]; generalize w2.alloc (.cells (relA (inM h ws)) 173) = w3 at *))
    refine (exists_any a n cap i hi w3).mono ?_
    rintro e w4 ⟨rfl, hx4⟩
    replace hb8 := hb8.ext hx4
    replace hx8 := hx8.trans hx4
    clear hx4
    generalize w2.heap.size = b8 at *
    go_wp2_with fail
    have hxw4 := hx8.le
    go_loopw [10, 29] (fun ov kv wr => ∃ k : Nat, k ≤ n + 1 ∧ kv = .int .i64 k ∧ Ext w4 wr ∧ OwnI w4.heap.size 3 wr ov (begL h ws i k)) (fun _ kv _ => n + 1 - (intOf kv).toNat)
    case atStart => exact ⟨0, Nat.zero_le _, rfl, Ext.refl _, OwnK.nil _ _ _⟩
    case round =>
      obtain ⟨k, hk, rfl, hxr, hown⟩ := hrel
      by_cases hlt : k < n + 1
      · have hki : (k : Int) < (n : Int) + 1 := by omega
        have hk33 : (k : Int) < 33 := by omega
        have hc := (hb8.ext hxr).cell (rel_at hrok.1 (i := k) (by omega))
        have hi64 : (i : Int) < 64 := by omega
        have hbit := bit_fact (i := i) (hrok.getD k)
        have hsu := begL_succ h ws i k
        have hln := begL_len h ws i k
        obtain ⟨v, hv⟩ : ∃ v, v = (inM h ws).getD k 0 := ⟨_, rfl⟩
        rw [← hv] at hc hbit hsu
        cases ht : v.testBit i
        · rw [ht] at hbit hsu
          simp only [Bool.false_eq_true, if_false, List.append_nil] at hbit hsu
          replace hsu := Lib.hid hsu
          replace hv := Lib.hid hv
          replace ht := Lib.hid ht
          go_wp2_with fail
          (first | exact ⟨⟨k + 1, by omega, by go_num, hxr, by rw [hsu.out]; exact hown⟩, (by simp [intOf]; omega)⟩ | (go_roundw; case rel => exact ⟨k + 1, by omega, by go_num, hxr, by rw [hsu.out]; exact hown⟩; case measure => exact (by simp [intOf]; omega)))
        · rw [ht] at hbit hsu
          simp only [if_true] at hbit hsu
          replace hsu := Lib.hid hsu
          replace hv := Lib.hid hv
          replace ht := Lib.hid ht
          go_wp2_with (at_builtin; refine wp_app1 w4 wr (k : Int) rfl _ _ 35 rfl 3 Tryz.underlying35 info_int2 rfl (by decide) u10 (begL h ws i k) rfl hown hxr rfl (I64.len _) (I64.one _) (by omega) (by unfold maxLen; omega) ?_; intro v2 w2 o2 x2 _)
          (first | exact ⟨⟨k + 1, by omega, by go_num, x2, by rw [hsu.out]; exact o2⟩, (by simp [intOf]; omega)⟩ | (go_roundw; case rel => exact ⟨k + 1, by omega, by go_num, x2, by rw [hsu.out]; exact o2⟩; case measure => exact (by simp [intOf]; omega)))
      · obtain rfl : k = n + 1 := by omega
        obtain ⟨a3, n3, c3, hn3, rfl, _⟩ := OwnK.rdn I64.len hown
        replace hn3 := Lib.hid hn3
        have hfin := begL_any h ws i
        rw [hl.out] at hfin
        replace hfin := Lib.hid hfin
        go_wp2_with fail
        go_ret2
        exact ⟨_, _, _, _, rfl, Lib.hid (by rw [hn3.out, hfin.out, hwk.out]; rfl), hx8.trans hxr⟩
end Go.Proofs.YtadncjpknckaaaaGreatDoor
