/-
  Pairs that differ in one feature: alone, Pairs, Needed.
-/
import Derived.Test.YtbnbfdbliokcaaaDoorJo
namespace Go.Proofs.YtbnbfdbliokcaaaDoor
open Go.RowKit
/-! ### alone -/
theorem u32_eqB (x y : BitVec 32) : ((x.toNat : Int) == (y.toNat : Int)) = decide (x = y) := by
  rw [Bool.eq_iff_iff, beq_iff_eq, decide_eq_true_eq]; exact u32_eq x y
/-- The one feature in which they differ, below k. -/
def aloneTo (D : BitVec 32) : Nat → Option Nat
  | 0 => none
  | k + 1 => match aloneTo D k with
    | some f => some f
    | none => if D = bt k then some k else none
def aloneF (a b : Snd) : Option Nat := aloneTo (diffS a b) 24
theorem aloneTo_some {D : BitVec 32} : ∀ {k f}, aloneTo D k = some f → f < k ∧ D = bt f
  | 0, f, h => by simp [aloneTo] at h
  | k + 1, f, h => by
    unfold aloneTo at h
    split at h
    · rename_i g hg
      cases h
      have := aloneTo_some hg
      exact ⟨by omega, this.2⟩
    · split at h
      · rename_i h1; cases h; exact ⟨by omega, h1⟩
      · cases h
theorem aloneTo_none {D : BitVec 32} : ∀ {k}, aloneTo D k = none → ∀ f, f < k → D ≠ bt f
  | 0, _, f, hf => absurd hf (Nat.not_lt_zero _)
  | k + 1, h, f, hf => by
    unfold aloneTo at h
    split at h
    · cases h
    · rename_i h0
      split at h
      · cases h
      · rename_i h1
        by_cases e : f = k
        · subst e; exact h1
        · exact aloneTo_none h0 f (by omega)
theorem bt_inj {f g : Nat} (hf : f < 32) (h : bt f = bt g) (hg : g < 32) : f = g := by
  have := bt_self f hf
  rw [h, bt_bit g f hf hg] at this
  simpa using this
theorem aloneTo_first {D : BitVec 32} {k : Nat} (h : ∀ f, f < k → D ≠ bt f) : aloneTo D k = none := by
  cases e : aloneTo D k with
  | none => rfl
  | some f => have := aloneTo_some e; exact absurd this.2 (h f this.1)
theorem aloneTo_of {f k : Nat} (hf : f < k) (hk : k ≤ 32) : aloneTo (bt f) k = some f := by
  cases e : aloneTo (bt f) k with
  | none => exact absurd rfl (aloneTo_none e f hf)
  | some g => obtain ⟨h1, h2⟩ := aloneTo_some e; rw [bt_inj (by omega) h2 (by omega)]
theorem alone_one {a b : Snd} (ha : a.ok = true) (hb : b.ok = true) : (aloneF a b).isSome = decide (cntB (diffS a b) = 1) := by
  rw [Bool.eq_iff_iff, decide_eq_true_eq, cntB_one]
  constructor
  · intro h
    obtain ⟨f, hf⟩ := Option.isSome_iff_exists.1 h
    obtain ⟨h1, h2⟩ := aloneTo_some hf
    exact ⟨f, by omega, h2⟩
  · rintro ⟨f, hf, h⟩
    have h24 : f < 24 := diffS_bit ha hb (by rw [h]; exact bt_self f hf)
    unfold aloneF
    rw [h, aloneTo_of h24 (by omega)]; rfl
def AlR (r : Option Nat) (W : World) (e : Ending) (w' : World) : Prop := e = .returned (.tuple #[.int .i64 (r.getD 0 : Nat), .bool r.isSome]) ∧ Ext W w'
set_option maxHeartbeats 1000000 in
theorem alone_any (a b : Snd) (w : World) (ha : a.ok = true) (hb : b.ok = true) :
    Calls Tryd.prog 60 #[sndV a, sndV b] w (AlR (aloneF a b) w) := by
  obtain ⟨q0, q1, hxB⟩ := two_box w a b
  have hcall := fun W => rdiff_any a b W ha hb
  unfold AlR aloneF
  generalize diffS a b = D at *
  go_enter Tryd.func60, Tryd.ntmps60
  go_wp2_with fail
  generalize ((w.alloc (.cells #[.int .u32 a.p.toNat, .int .u32 a.m.toNat] 27)).alloc (.cells #[.int .u32 b.p.toNat, .int .u32 b.m.toNat] 27)) = wB at *
  go_loopw [6] (fun i wr => ∃ k : Nat, k ≤ 24 ∧ i = .int .i64 k ∧ Hid (∀ f, f < k → D ≠ bt f) ∧ Ext wB wr) (fun i _ => 24 - (intOf i).toNat)
  case atStart => exact ⟨0, Nat.zero_le _, rfl, Lib.hid (fun f h => absurd h (Nat.not_lt_zero _)), Ext.refl _⟩
  case round =>
    obtain ⟨k, hk, rfl, hall, hxr⟩ := hrel
    by_cases hlt : k < 24
    · have hki : (k : Int) < 24 := by omega
      have q0 := q0.ext hxr
      have q1 := q1.ext hxr
      obtain ⟨c0, c1⟩ := q0.cells
      obtain ⟨c2, c3⟩ := q1.cells
      have r0 := fun z : ExtOf wr => z.cell c0
      have r1 := fun z : ExtOf wr => z.cell c1
      have r2 := fun z : ExtOf wr => z.cell c2
      have r3 := fun z : ExtOf wr => z.cell c3
      have hbt := bt_nat hlt
      have heq := u32_eqB D (bt k)
      by_cases he : D = bt k
      · have hR : Hid (aloneTo D 24 = some k) := Lib.hid (by rw [he]; exact aloneTo_of hlt (by omega))
        have hd : decide (D = bt k) = true := by simpa using he
        rw [hd] at heq
        replace he := Lib.hid he
        clear hd
        generalize bt k = T at *
        go_wp2_with fail
        (refine wp_region_qx (by kernel_rfl) (by kernel_rfl) ?_
         repeat (go_big_quiet_step ((go_at_call 76; exact calls_ext (hcall _))))
         refine wpQuiet_nil ?_
         intro wq hw'
         have hxq := ext_of_ex hw'
         clear hw')
        clear r0 r1 r2 r3 hcall
        go_wp2_with fail
        go_ret2
        exact ⟨by rw [hR.out]; rfl, (hxB.trans hxr).trans hxq⟩
      · have hall2 : Hid (∀ f, f < k + 1 → D ≠ bt f) := Lib.hid fun f hf => by
          by_cases e : f = k
          · rw [e]; exact he
          · exact hall.out f (by omega)
        have hd : decide (D = bt k) = false := by simpa using he
        rw [hd] at heq
        replace he := Lib.hid he
        clear hd
        generalize bt k = T at *
        go_wp2_with fail
        (refine wp_region_qx (by kernel_rfl) (by kernel_rfl) ?_
         repeat (go_big_quiet_step ((go_at_call 76; exact calls_ext (hcall _))))
         refine wpQuiet_nil ?_
         intro wq hw'
         have hxq := ext_of_ex hw'
         clear hw')
        clear r0 r1 r2 r3 hcall
        go_wp2_with fail
        (first | exact ⟨⟨k + 1, by omega, by go_num, hall2, hxr.trans hxq⟩, (by simp [intOf]; omega)⟩ | (go_roundw; case rel => exact ⟨k + 1, by omega, by go_num, hall2, hxr.trans hxq⟩; case measure => exact (by simp [intOf]; omega)))
    · have hR : Hid (aloneTo D 24 = none) := Lib.hid (aloneTo_first fun f hf => hall.out f (by omega))
      go_wp2_with fail
      go_ret2
      exact ⟨by rw [hR.out]; rfl, hxB.trans hxr⟩
/-! ### Pairs, plain -/
/-- A pair of indexes in memory. -/
def P2.enc (x : Nat × Nat) : List Value := [.int .i64 (x.1 : Nat), .int .i64 (x.2 : Nat)]
theorem P2.len (x : Nat × Nat) : (P2.enc x).length = 2 := rfl
theorem P2.one (x : Nat × Nat) : ∀ u ∈ P2.enc x, u.oneCell' = true := by intro u hu; simp [P2.enc] at hu; rcases hu with rfl | rfl <;> rfl
abbrev RdP := RdK 2 P2.enc
abbrev OwnP := OwnK 2 P2.enc
theorem info_p2 : (Tryd.prog.info? 41).map (fun i => (i.zero, i.size, i.bytes)) = some (some (.agg #[.int .i64 0, .int .i64 0]), 2, 16) := by kernel_rfl
def adjB (xs : List Snd) (i j : Nat) : Bool := match xs[i]?, xs[j]? with
  | some s, some t => decide (cntB (diffS s t) = 1)
  | _, _ => false
def rowP (xs : List Snd) (i : Nat) : Nat → List (Nat × Nat)
  | 0 => []
  | k + 1 => rowP xs i k ++ if i < k ∧ adjB xs i k = true then [(i, k)] else []
def pairTo (xs : List Snd) : Nat → List (Nat × Nat)
  | 0 => []
  | i + 1 => pairTo xs i ++ rowP xs i xs.length
def pairL (xs : List Snd) : List (Nat × Nat) := pairTo xs xs.length
theorem rowP_succ (xs : List Snd) (i k : Nat) : rowP xs i (k + 1) = rowP xs i k ++ if i < k ∧ adjB xs i k = true then [(i, k)] else [] := rfl
theorem pairTo_succ (xs : List Snd) (i : Nat) : pairTo xs (i + 1) = pairTo xs i ++ rowP xs i xs.length := rfl
theorem rowP_low (xs : List Snd) (i : Nat) : ∀ k, k ≤ i + 1 → rowP xs i k = []
  | 0, _ => rfl
  | k + 1, h => by rw [rowP_succ, rowP_low xs i k (by omega), if_neg (by omega)]; rfl
theorem rowP_len (xs : List Snd) (i : Nat) : ∀ k, (rowP xs i k).length ≤ k
  | 0 => Nat.le_refl _
  | k + 1 => by
    have := rowP_len xs i k
    rw [rowP_succ, List.length_append]
    split <;> simp <;> omega
theorem pairTo_len (xs : List Snd) : ∀ i, (pairTo xs i).length ≤ i * xs.length
  | 0 => by simp [pairTo]
  | i + 1 => by
    have := pairTo_len xs i
    have := rowP_len xs i xs.length
    rw [pairTo_succ, List.length_append, Nat.add_mul]; omega
theorem mem_rowP {xs : List Snd} {i : Nat} {x : Nat × Nat} : ∀ {k}, x ∈ rowP xs i k ↔ x.1 = i ∧ i < x.2 ∧ x.2 < k ∧ adjB xs i x.2 = true
  | 0 => by simp [rowP]
  | k + 1 => by
    rw [rowP_succ, List.mem_append, mem_rowP]
    constructor
    · rintro (⟨h1, h2, h3, h4⟩ | h)
      · exact ⟨h1, h2, by omega, h4⟩
      · split at h
        · rename_i hc
          simp at h; subst h
          exact ⟨rfl, hc.1, by simp, hc.2⟩
        · simp at h
    · rintro ⟨h1, h2, h3, h4⟩
      by_cases e : x.2 = k
      · right
        rw [e] at h2 h4
        rw [if_pos ⟨h2, h4⟩]
        obtain ⟨x1, x2⟩ := x
        simp at *
        exact ⟨h1, e⟩
      · exact .inl ⟨h1, h2, by omega, h4⟩
theorem mem_pairTo {xs : List Snd} {x : Nat × Nat} : ∀ {i}, x ∈ pairTo xs i ↔ x.1 < i ∧ x.1 < x.2 ∧ x.2 < xs.length ∧ adjB xs x.1 x.2 = true
  | 0 => by simp [pairTo]
  | i + 1 => by
    rw [pairTo_succ, List.mem_append, mem_pairTo, mem_rowP]
    constructor
    · rintro (⟨h1, h2⟩ | ⟨h1, h2, h3, h4⟩)
      · exact ⟨by omega, h2⟩
      · subst h1; exact ⟨by omega, h2, h3, h4⟩
    · rintro ⟨h1, h2, h3, h4⟩
      by_cases e : x.1 = i
      · subst e; exact .inr ⟨rfl, h2, h3, h4⟩
      · exact .inl ⟨by omega, h2, h3, h4⟩
def prL (xs : List Snd) : List (Nat × Nat) := if chkI 256 xs = 0 then pairL xs else []
def RetPr (xs : List Snd) (w : World) (e : Ending) (w' : World) : Prop := ∃ v, e = .returned (.tuple #[v, .int .i64 (chkI 256 xs)]) ∧ OwnP w.heap.size 41 w' v (prL xs) ∧ Ext w w'
theorem adjB_at {xs : List Snd} {i j : Nat} {s t : Snd} (h1 : xs[i]? = some s) (h2 : xs[j]? = some t) : adjB xs i j = decide (cntB (diffS s t) = 1) := by
  unfold adjB; rw [h1, h2]
/-! ### Pairs, walked -/
theorem OwnK.ne_box {α : Type} {k : Nat} {enc : α → List Value} {B0 B : Nat} {e e' : TypeId} {w : World} {v : Value} {xs : List α} {cs : Array Value} {fr : Nat × Nat} (h : OwnK k enc B0 e w v xs) (hB : w.heap[B]? = some (.cells cs e' fr)) (hne : e ≠ e') : some B ≠ v.ownBlock := by
  rcases h.2 with ⟨rfl, _⟩ | ⟨g, cap, cur, rfl, _, hh, _⟩
  · intro h; cases h
  · intro h
    have : B = g := by simpa [Value.ownBlock] using h
    subst this
    rw [hB] at hh
    injection hh with h1
    injection h1 with _ h2
    exact hne h2.symm
theorem SndB.grown {w w' : World} {B : Nat} {s : Snd} {row : Option Nat} (h : SndB w B s) (hg : w.grownBy w' row) (hr : some B ≠ row) : SndB w' B s := (hg.block B h.lt hr).trans h
set_option maxHeartbeats 2000000 in
set_option maxRecDepth 20000 in
theorem pairs_any (a : Option Addr) (n cap : Nat) (xs : List Snd) (w : World) (hr : RdS w a n cap xs) :
    Calls Tryd.prog 23 #[.slice a n cap] w (RetPr xs w) := by
  have hl := hr.len
  have hck := check_any 256 (by omega) a n cap xs w hr
  by_cases hc : chkI 256 xs = 0
  · obtain ⟨hn, hok, _⟩ := chkI_zero hc
    rw [hl] at hn
    have hpr : prL xs = pairTo xs n := by unfold prL pairL; rw [if_pos hc, hl]
    rw [hc] at hck
    replace hc := Lib.hid hc
    replace hok := Lib.hid hok
    replace hl := Lib.hid hl
    replace hpr := Lib.hid hpr
    go_enter Tryd.func23, Tryd.ntmps23
    go_wp2_with fail
    refine hck.mono ?_
    rintro e w1 ⟨rfl, hx1⟩
    clear hck
    go_wp2_with fail
    go_loopw [5, 16] (fun ov i wr => ∃ k : Nat, k ≤ n ∧ i = .int .i64 k ∧ Ext w1 wr ∧ OwnP w1.heap.size 41 wr ov (pairTo xs k)) (fun _ i _ => n - (intOf i).toNat)
    case atStart => exact ⟨0, Nat.zero_le _, rfl, Ext.refl _, OwnK.nil _ _ _⟩
    case round =>
      obtain ⟨k, hk, rfl, hx, hown⟩ := hrel
      have hxw := hx1.trans hx
      by_cases hlt : k < n
      · have hki : (k : Int) < (n : Int) := by omega
        obtain ⟨b, off, s, rfl, hsk, hb, p0, p1⟩ := (hr.ext hxw).snd hlt
        have hso := hok.out s (List.mem_of_getElem? hsk.out)
        have hsu := pairTo_succ xs k
        rw [hl.out] at hsu
        have hlen := pairTo_len xs k
        rw [hl.out] at hlen
        have hlen : (pairTo xs k).length ≤ 65536 := Nat.le_trans hlen (Nat.le_trans (Nat.mul_le_mul (Nat.le_of_lt (Nat.lt_of_lt_of_le hlt hn)) hn) (by decide))
        have hlow := rowP_low xs k (k + 1) (Nat.le_refl _)
        rw [← List.append_nil (pairTo xs k), ← hlow] at hown
        have q0 := SndB.new wr s
        have hown := hown.kept (Ext.alloc1 _ (.cells #[.int .u32 s.p.toNat, .int .u32 s.m.toNat] 27))
        have hx2 := hx.alloc (.cells #[.int .u32 s.p.toNat, .int .u32 s.m.toNat] 27)
        replace hsk := Lib.hid hsk.out
        replace hsu := Lib.hid hsu
        replace hlow := Lib.hid hlow
        generalize pairTo xs k = T at *
        go_wp2_with fail
        clear p0 p1 hx hxw
        generalize wr.heap.size = B at *
        generalize (wr.alloc (.cells #[.int .u32 s.p.toNat, .int .u32 s.m.toNat] 27)) = wC at *
        go_loopw [5, 8] (fun ov i wr => ∃ j : Nat, k + 1 ≤ j ∧ j ≤ n ∧ i = .int .i64 j ∧ Ext w1 wr ∧ SndB wr B s ∧ OwnP w1.heap.size 41 wr ov (T ++ rowP xs k j)) (fun _ i _ => n - (intOf i).toNat)
        case atStart => exact ⟨k + 1, Nat.le_refl _, hlt, by go_num, hx2, q0, hown⟩
        case round =>
          clear hown hx2 q0
          obtain ⟨j, hkj, hj, rfl, hx3, q0, hown⟩ := hrel
          have hxw := hx1.trans hx3
          by_cases hlj : j < n
          · have hji : (j : Int) < (n : Int) := by omega
            obtain ⟨b2, off2, s2, heq, hs2, hb2, p0, p1⟩ := (hr.ext hxw).snd hlj
            cases heq
            have hso2 := hok.out s2 (List.mem_of_getElem? hs2.out)
            have hadj := adjB_at hsk.out hs2.out
            have hrow := rowP_succ xs k j
            have hrl := rowP_len xs k j
            have hll : (T ++ rowP xs k j).length ≤ 70000 := by rw [List.length_append]; omega
            obtain ⟨c0, c1⟩ := q0.cells
            have r0 := fun z : ExtOf wr => z.cell c0
            have r1 := fun z : ExtOf wr => z.cell c1
            have r2 := fun z : ExtOf wr => z.cell p0
            have r3 := fun z : ExtOf wr => z.cell p1
            have hdf := fun W => diff_any s s2 W hso hso2
            generalize diffS s s2 = D at *
            have hon := fun W => ones_any D W
            clear hrl
            by_cases hone : cntB D = 1
            · have hcd : ((cntB D : Nat) : Int) = 1 := by rw [hone]; rfl
              rw [if_pos ⟨by omega, by rw [hadj]; simpa using hone⟩] at hrow
              have hrow2 : Hid (T ++ rowP xs k (j + 1) = (T ++ rowP xs k j) ++ [(k, j)]) := Lib.hid (by rw [hrow, List.append_assoc])
              rw [hcd] at hon
              replace hone := Lib.hid hone
              replace hadj := Lib.hid hadj
              replace hrow := Lib.hid hrow
              replace hcd := Lib.hid hcd
              replace hs2 := Lib.hid hs2.out
              generalize T ++ rowP xs k j = R at *
              go_wp2_with fail
              (refine wp_region_qx (by kernel_rfl) (by kernel_rfl) ?_
               repeat (go_big_quiet_step ((first | (go_at_call 32; exact calls_ext (hdf _)) | (go_at_call 59; exact calls_ext (hon _)))))
               refine wpQuiet_nil ?_
               intro wq hw'
               have hxq := ext_of_ex hw'
               clear hw')
              clear r0 r1 r2 r3 hdf hon
              go_wp2_with (at_builtin; refine wp_app1 w1 wq (k, j) rfl _ _ 38 rfl 41 Tryd.underlying38 info_p2 rfl (by decide) _ _ rfl (hown.kept hxq) (hx3.trans hxq) (by first | rfl | (rw [World.size_alloc]; rfl)) (P2.len _) (P2.one _) (by omega) (by unfold maxLen; omega) ?_; intro v5 w5 o5 x5 hgA)
              have q5 := SndB.grown ((q0.ext hxq).ext (Ext.alloc1 _ _)) hgA (OwnK.ne_box (hown.kept hxq) (q0.ext hxq) (by decide))
              (first | exact ⟨⟨j + 1, by omega, by omega, by go_num, x5, q5, by rw [hrow2.out]; exact o5⟩, (by simp [intOf]; omega)⟩ | (go_roundw; case rel => exact ⟨j + 1, by omega, by omega, by go_num, x5, q5, by rw [hrow2.out]; exact o5⟩; case measure => exact (by simp [intOf]; omega)))
            · have hcd : (((cntB D : Nat) : Int) == 1) = false := by
                rw [Bool.eq_false_iff]; intro h; exact hone (by have := beq_iff_eq.1 h; omega)
              rw [if_neg (fun h => hone (by have := h.2; rw [hadj] at this; exact of_decide_eq_true this)), List.append_nil] at hrow
              rw [← hrow] at hown
              replace hone := Lib.hid hone
              replace hadj := Lib.hid hadj
              replace hrow := Lib.hid hrow
              replace hs2 := Lib.hid hs2.out
              generalize cntB D = N at *
              go_wp2_with fail
              (refine wp_region_qx (by kernel_rfl) (by kernel_rfl) ?_
               repeat (go_big_quiet_step ((first | (go_at_call 32; exact calls_ext (hdf _)) | (go_at_call 59; exact calls_ext (hon _)))))
               refine wpQuiet_nil ?_
               intro wq hw'
               have hxq := ext_of_ex hw'
               clear hw')
              clear r0 r1 r2 r3 hdf hon
              go_wp2_with fail
              (first | exact ⟨⟨j + 1, by omega, by omega, by go_num, hx3.trans hxq, q0.ext hxq, hown.kept hxq⟩, (by simp [intOf]; omega)⟩ | (go_roundw; case rel => exact ⟨j + 1, by omega, by omega, by go_num, hx3.trans hxq, q0.ext hxq, hown.kept hxq⟩; case measure => exact (by simp [intOf]; omega)))
          · have hjn : j = n := by omega
            rw [hjn, ← hsu.out] at hown
            replace hjn := Lib.hid hjn
            go_wp2_with fail
            (first | exact ⟨⟨k + 1, by omega, by go_num, hx3, hown⟩, (by simp [intOf]; omega)⟩ | (go_roundw; case rel => exact ⟨k + 1, by omega, by go_num, hx3, hown⟩; case measure => exact (by simp [intOf]; omega)))
      · have hkn : k = n := by omega
        rw [hkn, ← hpr.out] at hown
        go_wp2_with fail
        go_ret2
        exact ⟨_, by rw [hc.out]; rfl, OwnK.base hown hx1.le, hxw⟩
  · have hpr : prL xs = [] := by unfold prL; rw [if_neg hc]
    have hd : (chkI 256 xs != 0) = true := by simpa using hc
    obtain ⟨E, hE⟩ : ∃ E, chkI 256 xs = E := ⟨_, rfl⟩
    rw [hE] at hck hd
    replace hc := Lib.hid hc
    replace hpr := Lib.hid hpr
    replace hE := Lib.hid hE
    go_enter Tryd.func23, Tryd.ntmps23
    go_wp2_with fail
    refine hck.mono ?_
    rintro e w1 ⟨rfl, hx1⟩
    clear hck
    go_wp2_with fail
    go_ret2
    exact ⟨.slice none 0 0, by rw [hE.out]; rfl, by rw [hpr.out]; exact OwnK.nil _ _ _, hx1⟩
set_option maxHeartbeats 2000000 in
set_option maxRecDepth 20000 in
theorem rpairs_any (a : Option Addr) (n cap : Nat) (xs : List Snd) (w : World) (hr : RdS w a n cap xs) :
    Calls Tryd.prog 24 #[.slice a n cap] w (RetPr xs w) := by
  have hl := hr.len
  have hck := rcheck_any 256 a n cap xs w hr
  by_cases hc : chkI 256 xs = 0
  · obtain ⟨hn, hok, _⟩ := chkI_zero hc
    rw [hl] at hn
    have hpr : prL xs = pairTo xs n := by unfold prL pairL; rw [if_pos hc, hl]
    rw [hc] at hck
    replace hc := Lib.hid hc
    replace hok := Lib.hid hok
    replace hl := Lib.hid hl
    replace hpr := Lib.hid hpr
    go_enter Tryd.func24, Tryd.ntmps24
    go_wp2_with fail
    refine hck.mono ?_
    rintro e w1 ⟨rfl, hx1⟩
    clear hck
    go_wp2_with fail
    go_loopw [5, 6] (fun ov i wr => ∃ k : Nat, k ≤ n ∧ i = .int .i64 k ∧ Ext w1 wr ∧ OwnP w1.heap.size 41 wr ov (pairTo xs k)) (fun _ i _ => n - (intOf i).toNat)
    case atStart => exact ⟨0, Nat.zero_le _, rfl, Ext.refl _, OwnK.nil _ _ _⟩
    case round =>
      obtain ⟨k, hk, rfl, hx, hown⟩ := hrel
      have hxw := hx1.trans hx
      by_cases hlt : k < n
      · have hki : (k : Int) < (n : Int) := by omega
        have hsu := pairTo_succ xs k
        rw [hl.out] at hsu
        have hlen := pairTo_len xs k
        rw [hl.out] at hlen
        have hlen : (pairTo xs k).length ≤ 65536 := Nat.le_trans hlen (Nat.le_trans (Nat.mul_le_mul (Nat.le_of_lt (Nat.lt_of_lt_of_le hlt hn)) hn) (by decide))
        have hlow := rowP_low xs k (k + 1) (Nat.le_refl _)
        rw [← List.append_nil (pairTo xs k), ← hlow] at hown
        replace hsu := Lib.hid hsu
        replace hlow := Lib.hid hlow
        generalize pairTo xs k = T at *
        obtain ⟨wo, rfl⟩ : ∃ wo : World, wo = wr := ⟨_, rfl⟩
        go_wp2_with fail
        go_loopw [5, 7] (fun ov i wr => ∃ j : Nat, k + 1 ≤ j ∧ j ≤ n ∧ i = .int .i64 j ∧ Ext w1 wr ∧ OwnP w1.heap.size 41 wr ov (T ++ rowP xs k j)) (fun _ i _ => n - (intOf i).toNat)
        case atStart => exact ⟨k + 1, Nat.le_refl _, hlt, by go_num, hx, hown⟩
        case round =>
          clear hown hx hxw
          obtain ⟨j, hkj, hj, rfl, hx3, hown⟩ := hrel
          have hxw := hx1.trans hx3
          by_cases hlj : j < n
          · have hji : (j : Int) < (n : Int) := by omega
            obtain ⟨b, off, s, rfl, hsk, hb, c0, c1⟩ := (hr.ext hxw).snd hlt
            obtain ⟨b2, off2, s2, heq, hs2, hb2, p0, p1⟩ := (hr.ext hxw).snd hlj
            cases heq
            have hso := hok.out s (List.mem_of_getElem? hsk.out)
            have hso2 := hok.out s2 (List.mem_of_getElem? hs2.out)
            have hadj := adjB_at hsk.out hs2.out
            have hal := alone_one hso hso2
            rw [← hadj] at hal
            have hrow := rowP_succ xs k j
            have hrl := rowP_len xs k j
            have hll : (T ++ rowP xs k j).length ≤ 70000 := by rw [List.length_append]; omega
            have r0 := fun z : ExtOf wr => z.cell c0
            have r1 := fun z : ExtOf wr => z.cell c1
            have r2 := fun z : ExtOf wr => z.cell p0
            have r3 := fun z : ExtOf wr => z.cell p1
            have hdf := fun W => alone_any s s2 W hso hso2
            unfold AlR at hdf
            rw [hal] at hdf
            generalize ((aloneF s s2).getD 0) = F at *
            clear hrl
            cases hone : adjB xs k j
            · rw [if_neg (fun h => by rw [hone] at h; cases h.2), List.append_nil] at hrow
              rw [hone] at hdf
              rw [← hrow] at hown
              replace hone := Lib.hid hone
              replace hadj := Lib.hid hadj
              replace hal := Lib.hid hal
              replace hrow := Lib.hid hrow
              replace hs2 := Lib.hid hs2.out
              replace hsk := Lib.hid hsk.out
              go_wp2_with fail
              (refine wp_region_qx (by kernel_rfl) (by kernel_rfl) ?_
               repeat (go_big_quiet_step ((go_at_call 60; exact calls_ext (hdf _))))
               refine wpQuiet_nil ?_
               intro wq hw'
               have hxq := ext_of_ex hw'
               clear hw')
              clear r0 r1 r2 r3 hdf
              go_wp2_with fail
              (first | exact ⟨⟨j + 1, by omega, by omega, by go_num, hx3.trans hxq, hown.kept hxq⟩, (by simp [intOf]; omega)⟩ | (go_roundw; case rel => exact ⟨j + 1, by omega, by omega, by go_num, hx3.trans hxq, hown.kept hxq⟩; case measure => exact (by simp [intOf]; omega)))
            · rw [if_pos ⟨by omega, hone⟩] at hrow
              have hrow2 : Hid (T ++ rowP xs k (j + 1) = (T ++ rowP xs k j) ++ [(k, j)]) := Lib.hid (by rw [hrow, List.append_assoc])
              rw [hone] at hdf
              replace hone := Lib.hid hone
              replace hadj := Lib.hid hadj
              replace hal := Lib.hid hal
              replace hrow := Lib.hid hrow
              replace hs2 := Lib.hid hs2.out
              replace hsk := Lib.hid hsk.out
              generalize T ++ rowP xs k j = R at *
              go_wp2_with fail
              (refine wp_region_qx (by kernel_rfl) (by kernel_rfl) ?_
               repeat (go_big_quiet_step ((go_at_call 60; exact calls_ext (hdf _))))
               refine wpQuiet_nil ?_
               intro wq hw'
               have hxq := ext_of_ex hw'
               clear hw')
              clear r0 r1 r2 r3 hdf
              go_wp2_with (at_builtin; refine wp_app1 w1 wq (k, j) rfl _ _ 38 rfl 41 Tryd.underlying38 info_p2 rfl (by decide) _ _ rfl (hown.kept hxq) (hx3.trans hxq) (by first | rfl | (rw [World.size_alloc]; rfl)) (P2.len _) (P2.one _) (by omega) (by unfold maxLen; omega) ?_; intro v5 w5 o5 x5 hgA)
              (first | exact ⟨⟨j + 1, by omega, by omega, by go_num, x5, by rw [hrow2.out]; exact o5⟩, (by simp [intOf]; omega)⟩ | (go_roundw; case rel => exact ⟨j + 1, by omega, by omega, by go_num, x5, by rw [hrow2.out]; exact o5⟩; case measure => exact (by simp [intOf]; omega)))
          · have hjn : j = n := by omega
            rw [hjn, ← hsu.out] at hown
            replace hjn := Lib.hid hjn
            go_wp2_with fail
            (first | exact ⟨⟨k + 1, by omega, by go_num, hx3, hown⟩, (by simp [intOf]; omega)⟩ | (go_roundw; case rel => exact ⟨k + 1, by omega, by go_num, hx3, hown⟩; case measure => exact (by simp [intOf]; omega)))
      · have hkn : k = n := by omega
        rw [hkn, ← hpr.out] at hown
        go_wp2_with fail
        go_ret2
        exact ⟨_, by rw [hc.out]; rfl, OwnK.base hown hx1.le, hxw⟩
  · have hpr : prL xs = [] := by unfold prL; rw [if_neg hc]
    have hd : (chkI 256 xs != 0) = true := by simpa using hc
    obtain ⟨E, hE⟩ : ∃ E, chkI 256 xs = E := ⟨_, rfl⟩
    rw [hE] at hck hd
    replace hc := Lib.hid hc
    replace hpr := Lib.hid hpr
    replace hE := Lib.hid hE
    go_enter Tryd.func24, Tryd.ntmps24
    go_wp2_with fail
    refine hck.mono ?_
    rintro e w1 ⟨rfl, hx1⟩
    clear hck
    go_wp2_with fail
    go_ret2
    exact ⟨.slice none 0 0, by rw [hE.out]; rfl, by rw [hpr.out]; exact OwnK.nil _ _ _, hx1⟩
end Go.Proofs.YtbnbfdbliokcaaaDoor
