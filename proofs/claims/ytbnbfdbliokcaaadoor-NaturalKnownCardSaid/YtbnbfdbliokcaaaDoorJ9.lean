/-
  Made, Different: sounds out of pairs of numbers.
  part, at: the walks.
-/
import Derived.Test.YtbnbfdbliokcaaaDoorJ5
namespace Go.Proofs.YtbnbfdbliokcaaaDoor
open Go.RowKit
def madeV (x y : BitVec 32) : Snd := ⟨x &&& 16777215#32, (y &&& 16777215#32) &&& ~~~x⟩
theorem madeV_ok (x y : BitVec 32) : (madeV x y).ok = true := by
  unfold Snd.ok madeV
  have h1 : (x &&& 16777215#32) &&& ((y &&& 16777215#32) &&& ~~~x) = 0#32 := by
    apply BitVec.eq_of_getLsbD_eq
    intro i hi
    simp only [BitVec.getLsbD_and, BitVec.getLsbD_not, BitVec.getLsbD_zero]
    cases x.getLsbD i <;> cases y.getLsbD i <;> simp
  have h2 : (x &&& 16777215#32) ||| ((y &&& 16777215#32) &&& ~~~x) = (x ||| (y &&& ~~~x)) &&& 16777215#32 := by
    apply BitVec.eq_of_getLsbD_eq
    intro i hi
    simp only [BitVec.getLsbD_and, BitVec.getLsbD_or, BitVec.getLsbD_not]
    cases x.getLsbD i <;> cases y.getLsbD i <;> simp [hi]
  have h3 : ((x ||| (y &&& ~~~x)) &&& 16777215#32).toNat ≤ 16777215 := by
    rw [BitVec.toNat_and]; exact Nat.and_le_right
  simp only
  rw [← BitVec.toNat_and, ← BitVec.toNat_or, h1, h2]
  simp only [Bool.and_eq_true, decide_eq_true_eq]
  exact ⟨rfl, by omega⟩
theorem made_any (x y : BitVec 32) (w : World) :
    Calls Tryd.prog 35 #[.int .u32 x.toNat, .int .u32 y.toNat] w fun e w' => e = .returned (sndV (madeV x y)) ∧ Ext w w' := by
  have f1 : ∀ z : BitVec 32, bits .and .u32 (z.toNat : Int) 16777215 = (((z &&& 16777215#32).toNat : Nat) : Int) := fun z => bits_and_u32 z 16777215#32
  have f2 : bits .andNot .u32 (((y &&& 16777215#32).toNat : Nat) : Int) (x.toNat : Int) = ((((y &&& 16777215#32) &&& ~~~x).toNat : Nat) : Int) := by
    generalize y &&& 16777215#32 = z
    first | exact bits_andNot_u32 z x | (simp [bits]; done)
  have g1 : bits .and .u32 (x.toNat : Int) 16777215 = ((madeV x y).p.toNat : Int) := f1 x
  have g2 : bits .andNot .u32 (bits .and .u32 (y.toNat : Int) 16777215) (x.toNat : Int) = ((madeV x y).m.toNat : Int) := by rw [f1 y, f2]; rfl
  clear f1 f2
  generalize hS : madeV x y = S at *
  replace g1 := Lib.hid g1
  replace g2 := Lib.hid g2
  go_enter Tryd.func35, Tryd.ntmps35
  go_wp2_with fail
  rw [g2.out, g1.out]
  exact bodyPost_ret (ret_snd rfl _ _ w.heap.size S rfl (SndB.new w S)) rfl ⟨rfl, Ext.alloc1 _ _⟩
/-- A pair of small numbers. -/
abbrev P8 := BitVec 8 × BitVec 8
def P8.enc (x : P8) : List Value := [.int .u8 x.1.toNat, .int .u8 x.2.toNat]
theorem P8.len (x : P8) : (P8.enc x).length = 2 := rfl
theorem RdK.p8 {w : World} {a : Option Addr} {n cap : Nat} {xs : List P8} (h : RdK 2 P8.enc w a n cap xs) {i : Nat} (hi : i < n) :
    ∃ b off x, a = some ⟨b, off, none⟩ ∧ Hid (xs[i]? = some x) ∧ b < w.heap.size ∧ w.cell? ⟨b, off + i * 2, none⟩ = some (.int .u8 (x.1.toNat : Nat)) ∧ w.cell? ⟨b, off + i * 2 + 1, none⟩ = some (.int .u8 (x.2.toNat : Nat)) := by
  obtain ⟨b, off, x, ha, hx, hb, hc⟩ := h.get hi
  exact ⟨b, off, x, ha, hx, hb, by simpa using hc 0 _ rfl, hc 1 _ rfl⟩
/-- Different valid sounds. -/
structure Dif (L : List Snd) : Prop where
  ok : ∀ x ∈ L, x.ok = true
  nodup : L.Nodup
  len : L.length ≤ 24
theorem Dif.nil : Dif [] := ⟨fun x h => (by cases h), List.nodup_nil, by decide⟩
theorem Dif.snoc {L : List Snd} (h : Dif L) {s : Snd} (hs : s.ok = true) (hn : s ∉ L) (hl : L.length < 24) : Dif (L ++ [s]) := by
  refine ⟨fun x hx => ?_, ?_, by simp; omega⟩
  · rcases List.mem_append.1 hx with h1 | h1
    · exact h.ok x h1
    · rw [List.mem_singleton] at h1; subst h1; exact hs
  · rw [List.nodup_append]
    exact ⟨h.nodup, by simp, fun a ha b hb e => by rw [List.mem_singleton] at hb; subst hb; subst e; exact hn ha⟩
theorem Dif.chk {L : List Snd} (h : Dif L) {m : Nat} (hm : L.length ≤ m) : chkI m L = 0 := by
  unfold chkI
  rw [if_neg (by omega), if_neg (by simp; exact h.ok), if_neg (by simpa using h.nodup)]
set_option maxHeartbeats 2000000 in
set_option maxRecDepth 20000 in
theorem different_any (a : Option Addr) (n cap : Nat) (xs : List P8) (w : World) (hr : RdK 2 P8.enc w a n cap xs) :
    Calls Tryd.prog 31 #[.slice a n cap] w fun e w' => ∃ v L, e = .returned v ∧ OwnS w.heap.size 27 w' v L ∧ Dif L ∧ L.length ≤ n ∧ Ext w w' := by
  have he := eql_snd
  have hmax : n ≤ 9223372036854775807 := by have := hr.le; have := hr.most; unfold maxLen at this; omega
  go_enter Tryd.func31, Tryd.ntmps31
  go_wp2_with fail
  go_loopw [3, 4] (fun ov i wr => ∃ (k : Nat) (L : List Snd), k ≤ n ∧ i = .int .i64 k ∧ Ext w wr ∧ OwnS w.heap.size 27 wr ov L ∧ Hid (Dif L) ∧ L.length ≤ 24 ∧ L.length ≤ k) (fun _ i _ => n - (intOf i).toNat)
  case atStart => exact ⟨0, [], Nat.zero_le _, rfl, Ext.refl _, OwnK.nil _ _ _, Lib.hid Dif.nil, by simp, by simp⟩
  case round =>
    obtain ⟨k, L, hk, rfl, hx, hown, hD, hl24, hlk⟩ := hrel
    obtain ⟨a5, n5, c5, hn5, rfl, hrd⟩ := OwnK.rdn Snd.len hown
    rw [← hn5] at hl24 hlk
    replace hn5 := Lib.hid hn5
    by_cases hlt : k < n
    · have hki : (k : Int) < (n : Int) := by omega
      by_cases h24 : n5 < 24
      · have hli : (n5 : Int) < 24 := by omega
        obtain ⟨b, off, x, rfl, hxk, hb, p0, p1⟩ := (hr.ext hx).p8 hlt
        have hx1 := x.1.isLt
        have hx2 := x.2.isLt
        have hok := madeV_ok (x.1.setWidth 32) (x.2.setWidth 32)
        have hma := fun W => made_any (x.1.setWidth 32) (x.2.setWidth 32) W
        have hs1 : (((x.1.setWidth 32).toNat : Nat) : Int) = (x.1.toNat : Int) := by rw [BitVec.toNat_setWidth, Nat.mod_eq_of_lt (by omega)]
        have hs2 : (((x.2.setWidth 32).toNat : Nat) : Int) = (x.2.toNat : Int) := by rw [BitVec.toNat_setWidth, Nat.mod_eq_of_lt (by omega)]
        rw [hs1, hs2] at hma
        have hc1 : IntKind.u32.wrap (x.1.toNat : Int) = (x.1.toNat : Int) := by rw [IntKind.wrap_u32]; omega
        have hc2 : IntKind.u32.wrap (x.2.toNat : Int) = (x.2.toNat : Int) := by rw [IntKind.wrap_u32]; omega
        generalize madeV (x.1.setWidth 32) (x.2.setWidth 32) = s at *
        clear hs1 hs2
        have hEq : Ext wr wr.drew := (Ext.refl _).drew
        go_wp2_with fail
        go_region_held3 (fun w' => Ext wr w' ∧ w'.cell? ⟨b, off + k * 2, none⟩ = some (.int .u8 x.1.toNat) ∧ w'.cell? ⟨b, off + k * 2 + 1, none⟩ = some (.int .u8 x.2.toNat))
          ((go_split_ands; refine (fun (h : Ext wr _) => And.intro h (And.intro (h.cellv p0) (h.cellv p1))) ?_; first | exact (Ext.refl _).drew | exact hEq | exact hEq.alloc _ | exact SndB.setx hEq hCle s))
          ((go_at_call 35; refine (hma _).mono ?_; rintro e wb ⟨rfl, hxb⟩; have hEa := hEq; replace hEq : Ext wr wb := (by first | exact hEa.trans hxb | exact (hEa.alloc _).trans hxb); first | (have q2 : SndB wb wr.heap.size ⟨0#32, 0#32⟩ := (SndB.zero wr.drew).ext hxb; have hCle : wr.heap.size ≤ wr.heap.size := Nat.le_refl _; obtain ⟨c2, c3⟩ := q2.cells; obtain ⟨f0, f1⟩ := q2.frz) | (have hCle : wr.heap.size ≤ wb.heap.size := hEq.le; have q2 : True := trivial)))
        all_goals
          first
          | (have q1 := SndB.set (B := wr.heap.size) q2 s; have hE3 := SndB.setx (B := wr.heap.size) hEq hCle s; generalize ((wb.setCell ⟨wr.heap.size, 0, none⟩ (.int .u32 s.p.toNat)).setCell ⟨wr.heap.size, 1, none⟩ (.int .u32 s.m.toNat)) = wC at *; generalize wr.heap.size = C at *)
          | (have q1 := SndB.new wb s; have hE3 : Ext wr (wb.alloc (.cells #[.int .u32 s.p.toNat, .int .u32 s.m.toNat] 27)) := hEq.alloc _; generalize (wb.alloc (.cells #[.int .u32 s.p.toNat, .int .u32 s.m.toNat] 27)) = wC at *; generalize wb.heap.size = C at *)
        all_goals
          have hx := hx.trans hE3
          have hown := hown.kept hE3
          have hrd := hrd.ext hE3
          clear hE3 hEq hma p0 p1 hCle q2 hc1 hc2
          have hD2 := fun (h : s ∉ L) (h2 : L.length < 24) => hD.out.snoc hok h h2
          replace hD2 := Lib.hid hD2
          have htk0 : Hid (decide (s ∈ L.take 0) = false) := Lib.hid (by simp)
          have hmx : n5 ≤ 24 := by omega
          go_wp2_with fail
          go_loopw [6, 7] (fun bv i wr => ∃ j : Nat, j ≤ n5 ∧ i = .int .i64 j ∧ bv = .bool (decide (s ∈ L.take j)) ∧ Ext wC wr) (fun _ i _ => n5 - (intOf i).toNat)
          case atStart => exact ⟨0, Nat.zero_le _, rfl, by rw [htk0.out], Ext.refl _⟩
          case round =>
            obtain ⟨j, hj, rfl, rfl, hxr⟩ := hrel
            by_cases hlj : j < n5
            · have hji : (j : Int) < (n5 : Int) := by omega
              obtain ⟨b5, o5, y, rfl, hyj, hb5, p0, p1⟩ := (hrd.ext hxr).snd hlj
              obtain ⟨c0, c1⟩ := (q1.ext hxr).cells
              have htk := take_succ_at hyj.out
              replace hyj := Lib.hid hyj.out
              have r0 := fun z : ExtOf wr => z.cell p0
              have r1 := fun z : ExtOf wr => z.cell p1
              have r2 := fun z : ExtOf wr => z.cell c0
              have r3 := fun z : ExtOf wr => z.cell c1
              by_cases hin : s ∈ L.take j
              · have hin2 : s ∈ L.take (j + 1) := by rw [htk]; exact List.mem_append_left _ hin
                rw [decide_eq_true hin]
                replace hin2 := Lib.hid (decide_eq_true hin2)
                replace hin := Lib.hid hin
                replace htk := Lib.hid htk
                go_wp2_with fail
                (refine wp_region_qx (by kernel_rfl) (by kernel_rfl) ?_
                 repeat (go_big_quiet_step (fail))
                 refine wpQuiet_nil ?_
                 intro wq hw'
                 have hxq := ext_of_ex hw'
                 clear hw')
                clear r0 r1 r2 r3
                go_wp2_with fail
                (first | exact ⟨⟨j + 1, hlj, by go_num, by rw [hin2.out], hxr.trans hxq⟩, (by simp [intOf]; omega)⟩ | (go_roundw; case rel => exact ⟨j + 1, hlj, by go_num, by rw [hin2.out], hxr.trans hxq⟩; case measure => exact (by simp [intOf]; omega)))
              · rw [decide_eq_false hin]
                have hin2 : decide (y = s) = decide (s ∈ L.take (j + 1)) := by
                  rw [htk, decide_eq_decide, List.mem_append, List.mem_singleton]
                  exact ⟨fun h => .inr h.symm, fun h => (h.resolve_left hin).symm⟩
                replace hin2 := Lib.hid hin2
                replace hin := Lib.hid hin
                replace htk := Lib.hid htk
                go_wp2_with fail
                (refine wp_region_qx (by kernel_rfl) (by kernel_rfl) ?_
                 repeat (go_big_quiet_step (fail))
                 refine wpQuiet_nil ?_
                 intro wq hw'
                 have hxq := ext_of_ex hw'
                 clear hw')
                clear r0 r1 r2 r3
                go_wp2_with fail
                (first | exact ⟨⟨j + 1, hlj, by go_num, by rw [hin2.out], hxr.trans hxq⟩, (by simp [intOf]; omega)⟩ | (go_roundw; case rel => exact ⟨j + 1, hlj, by go_num, by rw [hin2.out], hxr.trans hxq⟩; case measure => exact (by simp [intOf]; omega)))
            · have hjn : j = n5 := by omega
              have htk : L.take j = L := List.take_of_length_le (by rw [← hn5.out]; omega)
              rw [htk]
              have hx := hx.trans hxr
              have hown := hown.kept hxr
              obtain ⟨c0, c1⟩ := (q1.ext hxr).cells
              replace hjn := Lib.hid hjn
              replace htk := Lib.hid htk
              by_cases hin : s ∈ L
              · rw [decide_eq_true hin]
                go_wp2_with fail
                (first | exact ⟨⟨k + 1, L, hlt, by go_num, hx, hown, hD, by rw [← hn5.out]; omega, by rw [← hn5.out]; omega⟩, (by simp [intOf]; omega)⟩ | (go_roundw; case rel => exact ⟨k + 1, L, hlt, by go_num, hx, hown, hD, by rw [← hn5.out]; omega, by rw [← hn5.out]; omega⟩; case measure => exact (by simp [intOf]; omega)))
              · rw [decide_eq_false hin]
                have hLn : L.length = n5 := hn5.out.symm
                have hD3 := Lib.hid (hD2.out hin (by omega))
                have hl2 : (L ++ [s]).length ≤ 24 := by simp; omega
                have hl3 : (L ++ [s]).length ≤ k + 1 := by simp; omega
                have hl4 : L.length ≤ 24 := by omega
                clear hLn
                go_wp2_with (at_builtin; refine wp_app1 w wr s rfl _ _ 22 rfl 27 Tryd.underlying22 info_snd rfl (by decide) _ _ rfl hown hx (by first | rfl | (rw [World.size_alloc]; rfl)) (Snd.len _) (Snd.one _) (by omega) (by unfold maxLen; omega) ?_; intro v5 w10 o5 x5 hgA)
                (first | exact ⟨⟨k + 1, L ++ [s], hlt, by go_num, x5, o5, hD3, hl2, hl3⟩, (by simp [intOf]; omega)⟩ | (go_roundw; case rel => exact ⟨k + 1, L ++ [s], hlt, by go_num, x5, o5, hD3, hl2, hl3⟩; case measure => exact (by simp [intOf]; omega)))
      · have h25 : decide ((n5 : Int) < 24) = false := by simp; omega
        go_wp2_with fail
        go_ret
        exact ⟨_, L, rfl, hown, hD.out, by rw [← hn5.out]; omega, hx⟩
    · have hkn : Hid (k = n) := Lib.hid (by omega)
      go_wp2_with fail
      go_ret
      exact ⟨_, L, rfl, hown, hD.out, by rw [← hn5.out]; omega, hx⟩
end Go.Proofs.YtbnbfdbliokcaaaDoor
namespace Go.Proofs.YtbnbfdbliokcaaaDoor
open Go.RowKit
/-- The sounds whose bit is 1; the last one if there is none. -/
def partB (xs : List Snd) (B : BitVec 32) : Nat → List Snd
  | 0 => []
  | k + 1 => match xs[k]? with
    | some s => if B.getLsbD k = true ∨ (k + 1 = xs.length ∧ partB xs B k = []) then partB xs B k ++ [s] else partB xs B k
    | none => partB xs B k
theorem partB_succ {xs : List Snd} {B : BitVec 32} {k : Nat} {s : Snd} (h : xs[k]? = some s) : partB xs B (k + 1) = if B.getLsbD k = true ∨ (k + 1 = xs.length ∧ partB xs B k = []) then partB xs B k ++ [s] else partB xs B k := by simp only [partB, h]
theorem partB_len (xs : List Snd) (B : BitVec 32) : ∀ k, (partB xs B k).length ≤ k
  | 0 => Nat.le_refl _
  | k + 1 => by
    have := partB_len xs B k
    simp only [partB]
    split
    · split
      · simp; omega
      · omega
    · omega
set_option maxHeartbeats 1000000 in
set_option maxRecDepth 20000 in
theorem part_any (a : Option Addr) (n cap : Nat) (xs : List Snd) (B : BitVec 32) (w : World) (hr : RdS w a n cap xs) (hn : n ≤ 24) :
    Calls Tryd.prog 38 #[.slice a n cap, .int .u32 B.toNat] w fun e w' => ∃ v, e = .returned v ∧ OwnS w.heap.size 27 w' v (partB xs B n) ∧ Ext w w' := by
  have hl := hr.len
  replace hl := Lib.hid hl
  go_enter Tryd.func38, Tryd.ntmps38
  go_wp2_with fail
  go_loopw [5, 6] (fun ov i wr => ∃ k : Nat, k ≤ n ∧ i = .int .i64 k ∧ Ext w wr ∧ OwnS w.heap.size 27 wr ov (partB xs B k)) (fun _ i _ => n - (intOf i).toNat)
  case atStart => exact ⟨0, Nat.zero_le _, rfl, Ext.refl _, OwnK.nil _ _ _⟩
  case round =>
    obtain ⟨k, hk, rfl, hx, hown⟩ := hrel
    have hpl := partB_len xs B k
    by_cases hlt : k < n
    · have hki : (k : Int) < (n : Int) := by omega
      obtain ⟨b, off, s, rfl, hsk, hb, p0, p1⟩ := (hr.ext hx).snd hlt
      have hsu := partB_succ (B := B) hsk.out
      rw [hl.out] at hsu
      have hsh := shr_bit B k
      replace hsk := Lib.hid hsk.out
      replace hsu := Lib.hid hsu
      generalize partB xs B k = T at *
      by_cases hbit : B.getLsbD k = true
      · rw [hbit] at hsh
        have hsh : bits .and .u32 ((B.toNat : Int) / 2 ^ k) 1 = 1 := hsh
        rw [if_pos (Or.inl hbit)] at hsu
        replace hbit := Lib.hid hbit
        go_wp2_with (at_builtin; refine wp_app1 w wr s rfl _ _ 22 rfl 27 Tryd.underlying22 info_snd rfl (by decide) _ _ rfl hown hx (by first | rfl | (rw [World.size_alloc]; rfl)) (Snd.len _) (Snd.one _) (by omega) (by unfold maxLen; omega) ?_; intro v5 w10 o5 x5 hgA)
        (first | exact ⟨⟨k + 1, hlt, by go_num, x5, by rw [hsu.out]; exact o5⟩, (by simp [intOf]; omega)⟩ | (go_roundw; case rel => exact ⟨k + 1, hlt, by go_num, x5, by rw [hsu.out]; exact o5⟩; case measure => exact (by simp [intOf]; omega)))
      · have hbf : B.getLsbD k = false := by simpa using hbit
        rw [hbf] at hsh
        have hsh : bits .and .u32 ((B.toNat : Int) / 2 ^ k) 1 = 0 := hsh
        obtain ⟨a5, n5, c5, hn5, rfl, _⟩ := OwnK.rdn Snd.len hown
        have hn5k : n5 ≤ k := by rw [hn5]; exact hpl
        by_cases hk1 : k + 1 = n
        · have hd1 : ((k : Int) == (n : Int) - 1) = true := by rw [beq_iff_eq]; omega
          by_cases hT : T = []
          · rw [if_pos (Or.inr ⟨hk1, hT⟩)] at hsu
            have h50 : n5 = 0 := by rw [hn5, hT]; rfl
            subst h50
            replace hbit := Lib.hid hbit
            replace hbf := Lib.hid hbf
            replace hn5 := Lib.hid hn5
            replace hk1 := Lib.hid hk1
            replace hT := Lib.hid hT
            go_wp2_with (at_builtin; refine wp_app1 w wr s rfl _ _ 22 rfl 27 Tryd.underlying22 info_snd rfl (by decide) _ _ rfl hown hx (by first | rfl | (rw [World.size_alloc]; rfl)) (Snd.len _) (Snd.one _) (by omega) (by unfold maxLen; omega) ?_; intro v5 w10 o5 x5 hgA)
            (first | exact ⟨⟨k + 1, hlt, by go_num, x5, by rw [hsu.out]; exact o5⟩, (by simp [intOf]; omega)⟩ | (go_roundw; case rel => exact ⟨k + 1, hlt, by go_num, x5, by rw [hsu.out]; exact o5⟩; case measure => exact (by simp [intOf]; omega)))
          · rw [if_neg (fun h => h.elim hbit (fun h => hT h.2))] at hsu
            have h50 : n5 ≠ 0 := fun h => hT (List.eq_nil_of_length_eq_zero (by rw [← hn5]; exact h))
            have hd2 : ((n5 : Int) == 0) = false := by rw [Bool.eq_false_iff]; intro h; have := beq_iff_eq.1 h; omega
            replace hbit := Lib.hid hbit
            replace hbf := Lib.hid hbf
            replace hn5 := Lib.hid hn5
            replace hk1 := Lib.hid hk1
            replace hT := Lib.hid hT
            go_wp2_with fail
            (first | exact ⟨⟨k + 1, hlt, by go_num, hx, by rw [hsu.out]; exact hown⟩, (by simp [intOf]; omega)⟩ | (go_roundw; case rel => exact ⟨k + 1, hlt, by go_num, hx, by rw [hsu.out]; exact hown⟩; case measure => exact (by simp [intOf]; omega)))
        · have hd1 : ((k : Int) == (n : Int) - 1) = false := by rw [Bool.eq_false_iff]; intro h; have := beq_iff_eq.1 h; omega
          rw [if_neg (fun h => h.elim hbit (fun h => hk1 h.1))] at hsu
          replace hbit := Lib.hid hbit
          replace hbf := Lib.hid hbf
          replace hn5 := Lib.hid hn5
          replace hk1 := Lib.hid hk1
          go_wp2_with fail
          (first | exact ⟨⟨k + 1, hlt, by go_num, hx, by rw [hsu.out]; exact hown⟩, (by simp [intOf]; omega)⟩ | (go_roundw; case rel => exact ⟨k + 1, hlt, by go_num, hx, by rw [hsu.out]; exact hown⟩; case measure => exact (by simp [intOf]; omega)))
    · have hkn : k = n := by omega
      rw [hkn] at hown
      replace hkn := Lib.hid hkn
      go_wp2_with fail
      go_ret
      exact ⟨_, rfl, hown, hx⟩
end Go.Proofs.YtbnbfdbliokcaaaDoor
