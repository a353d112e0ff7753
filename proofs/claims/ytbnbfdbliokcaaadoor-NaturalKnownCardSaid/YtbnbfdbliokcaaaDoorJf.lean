/-
  feats.With, the reference's With and Meet; members of a condition; common values.
-/
import Derived.Test.YtbnbfdbliokcaaaDoorJp
import Derived.Test.YtbnbfdbliokcaaaDoorHs
namespace Go.Proofs.YtbnbfdbliokcaaaDoor
open Go.RowKit
theorem res_cell_t2 {P : Program} {fn : Func} {p u v : Tmp} {ty : TypeId} (h : fn.results = #[.cell p ty, .tmp u, .tmp v]) (tmps : Array Value) (w : World) (g : Nat) (t : TypeId) (cs : Array Value) (fr : Nat × Nat) (d : TypeDesc)
    (hp : tmps.getD p undef = .pointer (some ⟨g, 0, none⟩)) (hg : w.heap[g]? = some (.cells cs t fr))
    (hu : P.underlying ty = some d) (hd : (match d with | .struct _ | .array _ _ => true | _ => false) = true) (hi : (P.info? ty).map (·.size) = some cs.size) :
    (results fn tmps).run P w = .ok (.tuple #[.agg cs, tmps.getD u undef, tmps.getD v undef]) w := by
  have hp' : tmps[p]?.getD undef = .pointer (some ⟨g, 0, none⟩) := by simpa using hp
  simp [results, h, hp', asAddr, run_loadVar_row w g t ty cs fr d hg hu hd hi]
theorem info_int : (Tryd.prog.info? 3).map (fun i => (i.zero, i.size, i.bytes)) = some (some (.int .i64 0), 1, 8) := by kernel_rfl
/-- A list of integers of the call's own. -/
def RetI (xs : List Int) (w : World) (e : Ending) (w' : World) : Prop := ∃ v, e = .returned v ∧ OwnI w.heap.size 3 w' v xs ∧ Ext w w'
/-! ### Plain -/
theorem meetS_ok {a b : Snd} (ha : a.ok = true) : (meetS a b).ok = true := by
  rw [ok_iff_feats] at *
  intro k hk
  have h := ha k hk
  simp only [featOk, meetS, BitVec.getLsbD_and] at *
  revert h
  cases a.p.getLsbD k <;> cases a.m.getLsbD k <;> cases b.p.getLsbD k <;> cases b.m.getLsbD k <;> simp
theorem meetS_self (a : Snd) : meetS a a = a := by simp [meetS]
theorem putS_ok {s : Snd} {f : Nat} {v : Int} (hs : s.ok = true) (hf : f < 24) : (putS s f v).ok = true := by
  rw [ok_iff_feats] at *
  intro k hk
  have h := hs k hk
  have hb := bt_bit f k hk (by omega)
  have hc : ∀ (c : Prop) [Decidable c], (if c then bt f else 0#32).getLsbD k = (decide c && decide (k = f)) := by
    intro c _
    split
    · rename_i h1; rw [hb]; simp [h1]
    · rename_i h1; simp [h1]
  simp only [featOk, putS, BitVec.getLsbD_and, BitVec.getLsbD_or, BitVec.getLsbD_not, hb, hc] at *
  revert h
  have hx : ¬ (v = 1 ∧ v = -1) := by omega
  by_cases e : k = f
  · subst e
    have hb1 : decide (v = 1) = false ∨ decide (v = -1) = false := by
      by_cases e1 : v = 1
      · right; simp; omega
      · left; simpa using e1
    generalize decide (v = 1) = d1 at *
    generalize decide (v = -1) = d2 at *
    have h24 : decide (k < 24) = true := by simpa using hf
    have h32 : decide (k < 32) = true := by simpa using hk
    rw [h24, h32]
    rcases hb1 with rfl | rfl <;> simp
  · have e0 : decide (k = f) = false := by simpa using e
    have h32 : decide (k < 32) = true := by simpa using hk
    rw [e0, h32]
    cases s.p.getLsbD k <;> cases s.m.getLsbD k <;> simp
def comS : List Snd → Snd
  | [] => ⟨0#32, 0#32⟩
  | x :: l => l.foldl meetS x
theorem comS_snoc {l : List Snd} (h : l ≠ []) (x : Snd) : comS (l ++ [x]) = meetS (comS l) x := by
  cases l with
  | nil => exact absurd rfl h
  | cons y l => simp [comS]
theorem comS_ok {l : List Snd} (h : l ≠ []) (hall : ∀ x ∈ l, x.ok = true) : (comS l).ok = true := by
  cases l with
  | nil => exact absurd rfl h
  | cons y l =>
    have : ∀ (l : List Snd) (y : Snd), y.ok = true → (l.foldl meetS y).ok = true := by
      intro l
      induction l with
      | nil => intro y h; exact h
      | cons z l ih => intro y h; exact ih _ (meetS_ok h)
    exact this l y (hall y (by simp))
/-- The members' places. -/
def memTo (xs : List Snd) (c : Snd) : Nat → List Int
  | 0 => []
  | k + 1 => memTo xs c k ++ match xs[k]? with
    | some s => if satB s c then [(k : Int)] else []
    | none => []
def memL (xs : List Snd) (c : Snd) : List Int := memTo xs c xs.length
theorem memTo_succ {xs : List Snd} {c : Snd} {k : Nat} {s : Snd} (h : xs[k]? = some s) : memTo xs c (k + 1) = if satB s c then memTo xs c k ++ [(k : Int)] else memTo xs c k := by
  simp only [memTo, h]
  split <;> simp
theorem memTo_len (xs : List Snd) (c : Snd) : ∀ k, (memTo xs c k).length ≤ k
  | 0 => by simp [memTo]
  | k + 1 => by
    have := memTo_len xs c k
    simp only [memTo, List.length_append]
    split
    · split <;> simp <;> omega
    · simp; omega
theorem mem_memTo {xs : List Snd} {c : Snd} {x : Int} : ∀ {k}, x ∈ memTo xs c k ↔ ∃ (i : Nat) (s : Snd), i < k ∧ x = (i : Int) ∧ xs[i]? = some s ∧ satB s c = true
  | 0 => by simp [memTo]
  | k + 1 => by
    have ih := mem_memTo (xs := xs) (c := c) (x := x) (k := k)
    simp only [memTo, List.mem_append, ih]
    constructor
    · rintro (⟨i, s, h1, h2, h3, h4⟩ | h)
      · exact ⟨i, s, by omega, h2, h3, h4⟩
      · cases hs : xs[k]? with
        | none => rw [hs] at h; simp at h
        | some s =>
          rw [hs] at h
          simp only at h
          split at h
          · rename_i h1; simp at h; exact ⟨k, s, by omega, h, hs, h1⟩
          · simp at h
    · rintro ⟨i, s, h1, h2, h3, h4⟩
      by_cases e : i = k
      · subst e
        right
        rw [h3]; simp [h4, h2]
      · exact .inl ⟨i, s, by omega, h2, h3, h4⟩
theorem mem_memL {xs : List Snd} {c : Snd} {x : Int} : x ∈ memL xs c ↔ ∃ (i : Nat) (s : Snd), x = (i : Int) ∧ xs[i]? = some s ∧ satB s c = true := by
  unfold memL
  rw [mem_memTo]
  constructor
  · rintro ⟨i, s, _, h2, h3, h4⟩; exact ⟨i, s, h2, h3, h4⟩
  · rintro ⟨i, s, h2, h3, h4⟩; exact ⟨i, s, (List.getElem?_eq_some_iff.1 h3).1, h2, h3, h4⟩
/-! ### members -/
theorem members_any (a : Option Addr) (n cap : Nat) (xs : List Snd) (c : Snd) (w : World) (hr : RdS w a n cap xs) (hn : n ≤ 60000) (hall : ∀ x ∈ xs, x.ok = true) (hc : c.ok = true) :
    Calls Tryd.prog 49 #[.slice a n cap, sndV c] w (RetI (memL xs c) w) := by
  have hl := hr.len
  have hxB : Ext w (w.alloc (.cells #[.int .u32 c.p.toNat, .int .u32 c.m.toNat] 27)) := (by repeat (first | exact Ext.refl _ | refine Ext.drew ?_ | refine Ext.drewN ?_ _ | refine Ext.alloc ?_ _))
  have q0 := SndB.new w c
  replace hl := Lib.hid hl
  go_enter Tryd.func49, Tryd.ntmps49
  go_wp2_with fail
  generalize (w.alloc (.cells #[.int .u32 c.p.toNat, .int .u32 c.m.toNat] 27)) = wB at *
  go_loopw [5, 10] (fun ov i wr => ∃ k : Nat, k ≤ n ∧ i = .int .i64 k ∧ Ext wB wr ∧ OwnI wB.heap.size 3 wr ov (memTo xs c k)) (fun _ i _ => n - (intOf i).toNat)
  case atStart => exact ⟨0, Nat.zero_le _, rfl, Ext.refl _, OwnK.nil _ _ _⟩
  case round =>
    obtain ⟨k, hk, rfl, hx, hown⟩ := hrel
    have hxw := hxB.trans hx
    by_cases hlt : k < n
    · have hki : (k : Int) < (n : Int) := by omega
      obtain ⟨b, off, s, rfl, hs, hb, p0, p1⟩ := (hr.ext hxw).snd hlt
      obtain ⟨c0, c1⟩ := (q0.ext hx).cells
      have hBlt := (q0.ext hx).lt
      have hsok := hall s (List.mem_of_getElem? hs)
      have hsu := memTo_succ (c := c) hs
      have hlen := memTo_len xs c k
      cases hsat : satB s c
      · rw [hsat, if_neg (by simp)] at hsu
        replace hsu := Lib.hid hsu
        replace hs := Lib.hid hs
        go_wp2_with fail
        refine (cbool (sat_any s c _ hsok hc) hsat).mono ?_
        rintro e w1 ⟨rfl, hx1⟩
        have hx2 := (hx.trans (Ext.alloc1 _ _)).trans hx1
        have hown1 := (hown.kept (Ext.alloc1 _ _)).kept hx1
        replace hsat := Lib.hid hsat
        go_wp2_with fail
        (first | exact ⟨⟨k + 1, by omega, by go_num, hx2, by rw [hsu.out]; exact hown1⟩, (by simp [intOf]; omega)⟩ | (go_roundw; case rel => exact ⟨k + 1, by omega, by go_num, hx2, by rw [hsu.out]; exact hown1⟩; case measure => exact (by simp [intOf]; omega)))
      · rw [hsat, if_pos rfl] at hsu
        replace hsu := Lib.hid hsu
        replace hs := Lib.hid hs
        go_wp2_with fail
        refine (cbool (sat_any s c _ hsok hc) hsat).mono ?_
        rintro e w1 ⟨rfl, hx1⟩
        have hx2 := (hx.trans (Ext.alloc1 _ _)).trans hx1
        have hown1 := (hown.kept (Ext.alloc1 _ _)).kept hx1
        have hszB := hxB.le
        replace hsat := Lib.hid hsat
        go_wp2_with (at_builtin; refine wp_app1 wB w1 (k : Int) rfl _ _ 28 rfl 3 Tryd.underlying28 info_int rfl (by decide) _ _ rfl hown1 hx2 rfl (I64.len _) (I64.one _) (by omega) (by unfold maxLen; omega) ?_; intro v2 w2 o2 x2 _)
        (first | exact ⟨⟨k + 1, by omega, by go_num, x2, by rw [hsu.out]; exact o2⟩, (by simp [intOf]; omega)⟩ | (go_roundw; case rel => exact ⟨k + 1, by omega, by go_num, x2, by rw [hsu.out]; exact o2⟩; case measure => exact (by simp [intOf]; omega)))
    · have hkn : k = n := by omega
      subst hkn
      go_wp2_with fail
      go_ret
      exact ⟨_, rfl, by unfold memL; rw [hl.out]; exact OwnK.base hown hxB.le, hxw⟩
theorem rmembers_any (a : Option Addr) (n cap : Nat) (xs : List Snd) (c : Snd) (w : World) (hr : RdS w a n cap xs) (hn : n ≤ 60000) (hall : ∀ x ∈ xs, x.ok = true) (hc : c.ok = true) :
    Calls Tryd.prog 53 #[.slice a n cap, sndV c] w (RetI (memL xs c) w) := by
  have hl := hr.len
  have hxB : Ext w (w.alloc (.cells #[.int .u32 c.p.toNat, .int .u32 c.m.toNat] 27)) := (by repeat (first | exact Ext.refl _ | refine Ext.drew ?_ | refine Ext.drewN ?_ _ | refine Ext.alloc ?_ _))
  have q0 := SndB.new w c
  replace hl := Lib.hid hl
  go_enter Tryd.func53, Tryd.ntmps53
  go_wp2_with fail
  generalize (w.alloc (.cells #[.int .u32 c.p.toNat, .int .u32 c.m.toNat] 27)) = wB at *
  go_loopw [5, 6] (fun ov i wr => ∃ k : Nat, k ≤ n ∧ i = .int .i64 k ∧ Ext wB wr ∧ OwnI wB.heap.size 3 wr ov (memTo xs c k)) (fun _ i _ => n - (intOf i).toNat)
  case atStart => exact ⟨0, Nat.zero_le _, rfl, Ext.refl _, OwnK.nil _ _ _⟩
  case round =>
    obtain ⟨k, hk, rfl, hx, hown⟩ := hrel
    have hxw := hxB.trans hx
    by_cases hlt : k < n
    · have hki : (k : Int) < (n : Int) := by omega
      obtain ⟨b, off, s, rfl, hs, hb, p0, p1⟩ := (hr.ext hxw).snd hlt
      obtain ⟨c0, c1⟩ := (q0.ext hx).cells
      have hBlt := (q0.ext hx).lt
      have hsok := hall s (List.mem_of_getElem? hs)
      have hsu := memTo_succ (c := c) hs
      have hlen := memTo_len xs c k
      have r0 := fun z : ExtOf wr => z.cell p0
      have r1 := fun z : ExtOf wr => z.cell p1
      have r2 := fun z : ExtOf wr => z.cell c0
      have r3 := fun z : ExtOf wr => z.cell c1
      have hcall := fun z : ExtOf wr => rsat_any s c z.w hsok hc
      have hszB := hxB.le
      cases hsat : satB s c
      · rw [hsat, if_neg (by simp)] at hsu
        rw [hsat] at hcall
        replace hsu := Lib.hid hsu
        replace hs := Lib.hid hs
        replace hsat := Lib.hid hsat
        go_wp2_with fail
        (refine wp_region_qx (by kernel_rfl) (by kernel_rfl) ?_
         repeat (go_big_quiet_step (exact calls_ext (hcall _)))
         refine wpQuiet_nil ?_
         intro wq hw'
         have hxq := ext_of_ex hw'
         clear hw')
        clear r0 r1 r2 r3 hcall
        go_wp2_with fail
        (first | exact ⟨⟨k + 1, by omega, by go_num, hx.trans hxq, by rw [hsu.out]; exact hown.kept hxq⟩, (by simp [intOf]; omega)⟩ | (go_roundw; case rel => exact ⟨k + 1, by omega, by go_num, hx.trans hxq, by rw [hsu.out]; exact hown.kept hxq⟩; case measure => exact (by simp [intOf]; omega)))
      · rw [hsat, if_pos rfl] at hsu
        rw [hsat] at hcall
        replace hsu := Lib.hid hsu
        replace hs := Lib.hid hs
        replace hsat := Lib.hid hsat
        go_wp2_with fail
        (refine wp_region_qx (by kernel_rfl) (by kernel_rfl) ?_
         repeat (go_big_quiet_step (exact calls_ext (hcall _)))
         refine wpQuiet_nil ?_
         intro wq hw'
         have hxq := ext_of_ex hw'
         clear hw')
        clear r0 r1 r2 r3 hcall
        go_wp2_with (at_builtin; refine wp_app1 wB wq (k : Int) rfl _ _ 28 rfl 3 Tryd.underlying28 info_int rfl (by decide) _ _ rfl (hown.kept hxq) (hx.trans hxq) rfl (I64.len _) (I64.one _) (by omega) (by unfold maxLen; omega) ?_; intro v2 w2 o2 x2 _)
        (first | exact ⟨⟨k + 1, by omega, by go_num, x2, by rw [hsu.out]; exact o2⟩, (by simp [intOf]; omega)⟩ | (go_roundw; case rel => exact ⟨k + 1, by omega, by go_num, x2, by rw [hsu.out]; exact o2⟩; case measure => exact (by simp [intOf]; omega)))
    · have hkn : k = n := by omega
      subst hkn
      go_wp2_with fail
      go_ret
      exact ⟨_, rfl, by unfold memL; rw [hl.out]; exact OwnK.base hown hxB.le, hxw⟩
/-! ### With -/
theorem ret_snd_t {fn : Func} {p u : Tmp} (h : fn.results = #[.cell p 27, .tmp u]) (tmps : Array Value) (w : World) (g : Nat) (s : Snd) (hp : tmps.getD p undef = .pointer (some ⟨g, 0, none⟩)) (hg : SndB w g s) :
    (results fn tmps).run Tryd.prog w = .ok (.tuple #[sndV s, tmps.getD u undef]) w := res_cell h _ _ g _ _ (0, 0) _ hp hg Tryd.underlying27 rfl (by kernel_rfl)
theorem ret_snd_t2 {fn : Func} {p u v : Tmp} (h : fn.results = #[.cell p 27, .tmp u, .tmp v]) (tmps : Array Value) (w : World) (g : Nat) (s : Snd) (hp : tmps.getD p undef = .pointer (some ⟨g, 0, none⟩)) (hg : SndB w g s) :
    (results fn tmps).run Tryd.prog w = .ok (.tuple #[sndV s, tmps.getD u undef, tmps.getD v undef]) w := res_cell_t2 h _ _ g _ _ (0, 0) _ hp hg Tryd.underlying27 rfl (by kernel_rfl)
theorem rwith_any (s : Snd) (f : Nat) (v : Int) (w : World) (hs : s.ok = true) (hf : f < 24) (hv : v = 0 ∨ v = 1 ∨ v = -1) :
    Calls Tryd.prog 65 #[sndV s, .int .i64 f, .int .i64 v] w fun e w' => e = .returned (.tuple #[sndV (putS s f v), .int .i64 0]) ∧ Ext w w' := by
  have q0 : SndB ((w.alloc (.cells #[.int .u32 s.p.toNat, .int .u32 s.m.toNat] 27)).alloc (.cells #[.int .u32 0, .int .u32 0] 27)) w.heap.size s := (SndB.new w s).ext (Ext.alloc1 _ _)
  have q1 : SndB ((w.alloc (.cells #[.int .u32 s.p.toNat, .int .u32 s.m.toNat] 27)).alloc (.cells #[.int .u32 0, .int .u32 0] 27)) (w.heap.size + 1) ⟨0#32, 0#32⟩ := by
    have := SndB.zero (w.alloc (.cells #[.int .u32 s.p.toNat, .int .u32 s.m.toNat] 27))
    rwa [World.size_alloc] at this
  have hxB : Ext w ((w.alloc (.cells #[.int .u32 s.p.toNat, .int .u32 s.m.toNat] 27)).alloc (.cells #[.int .u32 0, .int .u32 0] 27)) := (by repeat (first | exact Ext.refl _ | refine Ext.drew ?_ | refine Ext.drewN ?_ _ | refine Ext.alloc ?_ _))
  have d1 : decide (v < -1) = false := by rcases hv with rfl | rfl | rfl <;> decide
  have d2 : decide (1 < v) = false := by rcases hv with rfl | rfl | rfl <;> decide
  have hge : w.heap.size ≤ w.heap.size + 1 := by omega
  go_enter Tryd.func65, Tryd.ntmps65
  go_wp2_with fail
  generalize ((w.alloc (.cells #[.int .u32 s.p.toNat, .int .u32 s.m.toNat] 27)).alloc (.cells #[.int .u32 0, .int .u32 0] 27)) = wB at *
  refine (cbool (rvalid1_any s _) hs).mono ?_
  rintro e w1 ⟨rfl, hx1⟩
  obtain ⟨c0, c1⟩ := (q0.ext hx1).cells
  go_wp2_with fail
  refine (feature_any f hf _).mono ?_
  rintro e w2 ⟨rfl, rfl⟩
  go_wp2_with fail
  refine (put_any s f v _ hf hv).mono ?_
  rintro e w3 ⟨rfl, hx3⟩
  have hx := hx1.trans hx3
  have q1 := q1.ext hx
  obtain ⟨c4, c5⟩ := q1.cells
  obtain ⟨f0, f1⟩ := q1.frz
  have hfin := q1.set (putS s f v)
  have hx' : Ext w ((w3.setCell ⟨w.heap.size + 1, 0, none⟩ (.int .u32 (putS s f v).p.toNat)).setCell ⟨w.heap.size + 1, 1, none⟩ (.int .u32 (putS s f v).m.toNat)) := ((hxB.trans hx).setCell (p := ⟨w.heap.size + 1, 0, none⟩) hge _).setCell (p := ⟨w.heap.size + 1, 1, none⟩) hge _
  generalize hM : putS s f v = M at *
  replace hM := Lib.hid hM
  clear q0 q1
  go_wp2_with fail
  exact bodyPost_ret (ret_snd_t rfl _ _ (w.heap.size + 1) _ rfl hfin) rfl ⟨by rw [hM.out]; rfl, hx'⟩
theorem mix0 (s : Snd) (f : Nat) (W : World) : Calls Tryd.prog 72 #[sndV s, .agg #[.int .u32 0, .int .u32 0], .int .u32 (bt f).toNat] W fun e w' => e = .returned (sndV (putS s f 0)) ∧ Ext W w' := by
  have := mix_any s ⟨0#32, 0#32⟩ (bt f) W
  rw [show (⟨(s.p &&& ~~~bt f) ||| ((⟨0#32, 0#32⟩ : Snd).p &&& bt f), (s.m &&& ~~~bt f) ||| ((⟨0#32, 0#32⟩ : Snd).m &&& bt f)⟩ : Snd) = putS s f 0 by simp [putS]] at this
  exact this
theorem mix1 (s : Snd) (f : Nat) (W : World) : Calls Tryd.prog 72 #[sndV s, .agg #[.int .u32 (bt f).toNat, .int .u32 0], .int .u32 (bt f).toNat] W fun e w' => e = .returned (sndV (putS s f 1)) ∧ Ext W w' := by
  have := mix_any s ⟨bt f, 0#32⟩ (bt f) W
  rw [show (⟨(s.p &&& ~~~bt f) ||| ((⟨bt f, 0#32⟩ : Snd).p &&& bt f), (s.m &&& ~~~bt f) ||| ((⟨bt f, 0#32⟩ : Snd).m &&& bt f)⟩ : Snd) = putS s f 1 by simp [putS]] at this
  exact this
theorem mixN (s : Snd) (f : Nat) (W : World) : Calls Tryd.prog 72 #[sndV s, .agg #[.int .u32 0, .int .u32 (bt f).toNat], .int .u32 (bt f).toNat] W fun e w' => e = .returned (sndV (putS s f (-1))) ∧ Ext W w' := by
  have := mix_any s ⟨0#32, bt f⟩ (bt f) W
  rw [show (⟨(s.p &&& ~~~bt f) ||| ((⟨0#32, bt f⟩ : Snd).p &&& bt f), (s.m &&& ~~~bt f) ||| ((⟨0#32, bt f⟩ : Snd).m &&& bt f)⟩ : Snd) = putS s f (-1) by simp [putS]] at this
  exact this
set_option maxHeartbeats 1000000 in
theorem fwith_any (s : Snd) (f : Nat) (v : Int) (w : World) (hs : s.ok = true) (hf : f < 24) (hv : v = 0 ∨ v = 1 ∨ v = -1) :
    Calls Tryd.prog 42 #[sndV s, .int .i64 f, .int .i64 v] w fun e w' => e = .returned (.tuple #[sndV (putS s f v), .int .i64 0]) ∧ Ext w w' := by
  have q0 : SndB ((w.alloc (.cells #[.int .u32 s.p.toNat, .int .u32 s.m.toNat] 27)).alloc (.cells #[.int .u32 0, .int .u32 0] 27)) w.heap.size s := (SndB.new w s).ext (Ext.alloc1 _ _)
  have q1 : SndB ((w.alloc (.cells #[.int .u32 s.p.toNat, .int .u32 s.m.toNat] 27)).alloc (.cells #[.int .u32 0, .int .u32 0] 27)) (w.heap.size + 1) ⟨0#32, 0#32⟩ := by
    have := SndB.zero (w.alloc (.cells #[.int .u32 s.p.toNat, .int .u32 s.m.toNat] 27))
    rwa [World.size_alloc] at this
  have hxB : Ext w ((w.alloc (.cells #[.int .u32 s.p.toNat, .int .u32 s.m.toNat] 27)).alloc (.cells #[.int .u32 0, .int .u32 0] 27)) := (by repeat (first | exact Ext.refl _ | refine Ext.drew ?_ | refine Ext.drewN ?_ _ | refine Ext.alloc ?_ _))
  have hge : w.heap.size ≤ w.heap.size + 1 := by omega
  have d3 : decide ((f : Int) < 0) = false := by simp
  have d4 : decide ((24 : Int) ≤ (f : Int)) = false := by simp; omega
  have hbt := bt_nat hf
  have hsz : (w.alloc (.cells #[.int .u32 s.p.toNat, .int .u32 s.m.toNat] 27)).heap.size + 1 = w.heap.size + 1 + 1 := by rw [World.size_alloc]
  have m0 := mix0 s f
  have m1 := mix1 s f
  have mN := mixN s f
  generalize hb : bt f = b at *
  replace hb := Lib.hid hb
  rcases hv with rfl | rfl | rfl
  case' inl => (have hmx := m0; generalize hM : putS s f 0 = M at *)
  case' inr.inl => (have hmx := m1; generalize hM : putS s f 1 = M at *)
  case' inr.inr => (have hmx := mN; generalize hM : putS s f (-1) = M at *)
  all_goals
    clear m0 m1 mN
    replace hM := Lib.hid hM
    go_enter Tryd.func42, Tryd.ntmps42
    go_wp2_with fail
    generalize ((w.alloc (.cells #[.int .u32 s.p.toNat, .int .u32 s.m.toNat] 27)).alloc (.cells #[.int .u32 0, .int .u32 0] 27)) = wB at *
    refine (cbool (fvalid_any s _) hs).mono ?_
    rintro e w1 ⟨rfl, hx1⟩
    obtain ⟨c0, c1⟩ := (q0.ext hx1).cells
    have hlt0 := (q0.ext hx1).lt
    have hlt1 := (q1.ext hx1).lt
    go_wp2_with fail
    refine (hmx _).mono ?_
    clear hmx
    rintro e w3 ⟨rfl, hx3⟩
    have hx := (hx1.trans (Ext.alloc1 _ _)).trans hx3
    have q1 := q1.ext hx
    obtain ⟨c4, c5⟩ := q1.cells
    obtain ⟨f0, f1⟩ := q1.frz
    have hfin := q1.set M
    have hx' : Ext w ((w3.setCell ⟨w.heap.size + 1, 0, none⟩ (.int .u32 M.p.toNat)).setCell ⟨w.heap.size + 1, 1, none⟩ (.int .u32 M.m.toNat)) := ((hxB.trans hx).setCell (p := ⟨w.heap.size + 1, 0, none⟩) hge _).setCell (p := ⟨w.heap.size + 1, 1, none⟩) hge _
    clear q0 q1
    go_wp2_with fail
    exact bodyPost_ret (ret_snd_t rfl _ _ (w.heap.size + 1) _ rfl hfin) rfl ⟨by first | rfl | (rw [hM.out]; rfl), hx'⟩
/-! ### Meet, and the common values, of the reference -/
def rmTo (a b : Snd) : Nat → Snd
  | 0 => ⟨0#32, 0#32⟩
  | k + 1 => if getS a k = getS b k then putS (rmTo a b k) k (getS a k) else rmTo a b k
theorem rmTo_ok (a b : Snd) : ∀ k, k ≤ 24 → (rmTo a b k).ok = true
  | 0, _ => by unfold rmTo; decide
  | k + 1, h => by
    unfold rmTo
    split
    · exact putS_ok (rmTo_ok a b k (by omega)) (by omega)
    · exact rmTo_ok a b k (by omega)
theorem putS_bits (s : Snd) (f : Nat) (v : Int) (hf : f < 32) (i : Nat) (hi : i < 32) :
    (putS s f v).p.getLsbD i = (if i = f then decide (v = 1) else s.p.getLsbD i) ∧ (putS s f v).m.getLsbD i = (if i = f then decide (v = -1) else s.m.getLsbD i) := by
  have hb := bt_bit f i hi hf
  have hc : ∀ (c : Prop) [Decidable c], (if c then bt f else 0#32).getLsbD i = (decide c && decide (i = f)) := by
    intro c _
    split
    · rename_i h1; rw [hb]; simp [h1]
    · rename_i h1; simp [h1]
  have h32 : decide (i < 32) = true := by simpa using hi
  simp only [putS, BitVec.getLsbD_or, BitVec.getLsbD_and, BitVec.getLsbD_not, hb, hc, h32]
  by_cases e : i = f
  · simp [e]
  · simp [e]
theorem rmTo_bits {a b : Snd} (ha : a.ok = true) (hb : b.ok = true) {i : Nat} (hi : i < 32) : ∀ k, k ≤ 24 → (rmTo a b k).p.getLsbD i = (decide (i < k) && (meetS a b).p.getLsbD i) ∧ (rmTo a b k).m.getLsbD i = (decide (i < k) && (meetS a b).m.getLsbD i)
  | 0, _ => by simp [rmTo]
  | k + 1, hk => by
    have ih := rmTo_bits ha hb hi k (by omega)
    have oa := ok_bits ha hi
    have ob := ok_bits hb hi
    by_cases e : i = k
    · subst e
      have hn : decide (i < i) = false := by simp
      have hs : decide (i < i + 1) = true := by simp
      rw [hn] at ih
      unfold rmTo
      split
      · rename_i h1
        obtain ⟨p1, p2⟩ := putS_bits (rmTo a b i) i (getS a i) (by omega) i hi
        rw [p1, p2, hs, if_pos rfl, if_pos rfl]
        clear p1 p2 ih
        simp only [meetS, BitVec.getLsbD_and, Bool.true_and]
        have o1 := oa.1
        have o2 := ob.1
        clear oa ob
        unfold getS at *
        generalize a.p.getLsbD i = x1 at *
        generalize a.m.getLsbD i = x2 at *
        generalize b.p.getLsbD i = x3 at *
        generalize b.m.getLsbD i = x4 at *
        revert h1 o1 o2
        cases x1 <;> cases x2 <;> cases x3 <;> cases x4 <;> simp
      · rename_i h1
        rw [ih.1, ih.2, hs]
        clear ih
        simp only [meetS, BitVec.getLsbD_and, Bool.true_and, Bool.false_and]
        have o1 := oa.1
        have o2 := ob.1
        clear oa ob
        unfold getS at *
        generalize a.p.getLsbD i = x1 at *
        generalize a.m.getLsbD i = x2 at *
        generalize b.p.getLsbD i = x3 at *
        generalize b.m.getLsbD i = x4 at *
        revert h1 o1 o2
        cases x1 <;> cases x2 <;> cases x3 <;> cases x4 <;> simp
    · have hd : decide (i < k + 1) = decide (i < k) := by rw [decide_eq_decide]; omega
      rw [hd]
      unfold rmTo
      split
      · obtain ⟨p1, p2⟩ := putS_bits (rmTo a b k) k (getS a k) (by omega) i hi
        rw [p1, p2, if_neg e, if_neg e]; exact ih
      · exact ih
theorem rmTo_all {a b : Snd} (ha : a.ok = true) (hb : b.ok = true) : rmTo a b 24 = meetS a b := by
  have h : ∀ i, i < 32 → (rmTo a b 24).p.getLsbD i = (meetS a b).p.getLsbD i ∧ (rmTo a b 24).m.getLsbD i = (meetS a b).m.getLsbD i := by
    intro i hi
    obtain ⟨h1, h2⟩ := rmTo_bits ha hb hi 24 (by omega)
    have hm := (ok_bits (meetS_ok (b := b) ha) hi).2
    rw [h1, h2]
    by_cases e : i < 24
    · simp [e]
    · have : decide (i < 24) = false := by simpa using e
      rw [this]
      cases h3 : (meetS a b).p.getLsbD i
      · cases h4 : (meetS a b).m.getLsbD i
        · simp
        · exact absurd (hm (.inr h4)) e
      · exact absurd (hm (.inl h3)) e
  have e1 : (rmTo a b 24).p = (meetS a b).p := BitVec.eq_of_getLsbD_eq fun i hi => (h i hi).1
  have e2 : (rmTo a b 24).m = (meetS a b).m := BitVec.eq_of_getLsbD_eq fun i hi => (h i hi).2
  cases h1 : rmTo a b 24
  cases h2 : meetS a b
  rw [h1, h2] at e1 e2
  simp_all
end Go.Proofs.YtbnbfdbliokcaaaDoor
