/-
  The statement WordSorted: the walk.
-/
import Derived.Test.YtphfnmmdfnfnaaaWr
import Derived.Test.YtphfnmmdfnfnaaaWy
import Derived.Test.YtphfnmmdfnfnaaaLfin
namespace Go.Proofs.Ytphfnmmdfnfnaaa
open Go.RowKit
theorem has_no {ws : List (List Snd)} {x : List Snd} {k n : Nat} (hl : ws.length = n) (h : ∀ i y, i < k → ws[i]? = some y → y ≠ x) (hk : ¬ k < n) : decide (x ∈ ws) = false := by
  simp only [decide_eq_false_iff_not]
  intro hx
  obtain ⟨i, hi⟩ := List.getElem?_of_mem hx
  exact h i x (by have := (List.getElem?_eq_some_iff.1 hi).1; omega) hi rfl
theorem has_any (a a' : Option Addr) (n cap n' cap' : Nat) (ws : List (List Snd)) (x : List Snd) (w : World) (hr : RdWs w a n cap ws) (hr' : RdS w a' n' cap' x) (hn : n ≤ 60000) :
    Calls Try.prog 35 #[.slice a n cap, .slice a' n' cap'] w fun e w' => e = .returned (.bool (decide (x ∈ ws))) ∧ Ext w w' := by
  go_enter Try.func35, Try.ntmps35
  go_wp2_with fail
  go_loopw [5] (fun i wr => ∃ k : Nat, k ≤ n ∧ i = .int .i64 k ∧ Ext w wr ∧ Hid (∀ i y, i < k → ws[i]? = some y → y ≠ x)) (fun i _ => n - (intOf i).toNat)
  case atStart => exact ⟨0, Nat.zero_le _, rfl, Ext.refl _, fun _ _ h => absurd h (Nat.not_lt_zero _)⟩
  case round =>
    obtain ⟨k, hk, rfl, hx, hall⟩ := hrel
    by_cases hlt : k < n
    · obtain ⟨b, off, v, y, ha, hs, hb, hcx, a1, n1, cap1, rfl, hr1⟩ := (RdWs.ext hr hx).at hlt
      cases ha
      by_cases hyx : y = x
      · have hd : decide (y = x) = true := by simpa using hyx
        have hfin := Lib.hid (show decide (x ∈ ws) = true from by rw [← hyx]; exact decide_eq_true (List.mem_of_getElem? hs.out))
        clear hyx
        go_wp2_with (go_at_call 32; refine (cbool (lsame_any _ _ _ _ _ _ y x _ hr1 (hr'.ext hx)) hd).mono ?_; rintro e w1 ⟨rfl, hx1⟩)
        go_ret
        exact ⟨ret_bool hfin.out.symm, (by repeat (first | exact Ext.refl _ | assumption | refine Ext.drew ?_ | refine Ext.drewN ?_ _ | refine Ext.alloc ?_ _ | refine Ext.trans ?_ (by assumption)))⟩
      · have hd : decide (y = x) = false := by simpa using hyx
        have hnew : Hid (∀ i z, i < k + 1 → ws[i]? = some z → z ≠ x) := fun i z hi hz => by
          by_cases e : i = k
          · subst e; have := hs.out.symm.trans hz; cases this; exact hyx
          · exact hall.out i z (by omega) hz
        clear hyx
        go_wp2_with (go_at_call 32; refine (cbool (lsame_any _ _ _ _ _ _ y x _ hr1 (hr'.ext hx)) hd).mono ?_; rintro e w1 ⟨rfl, hx1⟩)
        (first | exact ⟨⟨k + 1, by omega, by go_num, (by repeat (first | exact Ext.refl _ | assumption | refine Ext.drew ?_ | refine Ext.drewN ?_ _ | refine Ext.alloc ?_ _ | refine Ext.trans ?_ (by assumption))), hnew⟩, (by simp [intOf]; omega)⟩ | (go_roundw; case rel => exact ⟨k + 1, by omega, by go_num, (by repeat (first | exact Ext.refl _ | assumption | refine Ext.drew ?_ | refine Ext.drewN ?_ _ | refine Ext.alloc ?_ _ | refine Ext.trans ?_ (by assumption))), hnew⟩; case measure => exact (by simp [intOf]; omega)))
    · have hfin := Lib.hid (has_no hr.len hall.out hlt)
      go_wp2_with fail
      go_ret
      exact ⟨ret_bool hfin.out.symm, hx⟩
theorem wsort_ex (a : Option Addr) (n cap : Nat) (ws : List (List Snd)) (w : World) (hr : RdWs w a n cap ws) (hn : n ≤ 256) (hc : checkWs ws = 0) :
    Calls Try.prog 29 #[.slice a n cap] w fun e w' => ∃ a' m cap' L, SortedOf ws L ∧ L.length = m ∧ e = .returned (.tuple #[.slice a' m cap', .int .i64 0]) ∧ RdWs w' a' m cap' L ∧ Ext w w' :=
  (wsort_any a n cap ws w hr).mono fun e w' ⟨hx, h⟩ => by
    rcases h with ⟨h, _⟩ | ⟨_, h, _⟩ | ⟨_, _, v, L', rfl, hs, ho⟩
    · omega
    · exact absurd hc h
    · obtain ⟨a', c', rfl, hr'⟩ := ho.rd
      exact ⟨a', _, c', L', hs, rfl, rfl, hr', hx⟩
theorem checkWs_iff {ws : List (List Snd)} : checkWs ws = 0 ↔ ∀ x ∈ ws, checkS x = 0 := by
  induction ws with
  | nil => simp [checkWs]
  | cons x xs ih =>
    rw [checkWs]
    by_cases h : checkS x = 0
    · rw [if_pos h, ih]; simp [h]
    · rw [if_neg h]
      exact ⟨fun h' => absurd h' h, fun h' => absurd (h' x List.mem_cons_self) h⟩
theorem SortedOf.self {ws L : List (List Snd)} (h : SortedOf ws L) : SortedOf L L := ⟨h.1, fun _ => Iff.rfl⟩
theorem SortedOf.adj {ws L : List (List Snd)} (h : SortedOf ws L) {i : Nat} {x y : List Snd} (hx : L[i]? = some x) (hy : L[i + 1]? = some y) : cmpW x y = -1 := by
  have h1 := h.1
  rw [List.pairwise_iff_getElem] at h1
  obtain ⟨hi, hx'⟩ := List.getElem?_eq_some_iff.1 hx
  obtain ⟨hj, hy'⟩ := List.getElem?_eq_some_iff.1 hy
  have := h1 i (i + 1) hi hj (Nat.lt_succ_self _)
  rw [hx', hy'] at this
  rcases cmpW_tri x y with h | h | h <;> omega
theorem SortedOf.nil_iff {ws L : List (List Snd)} (h : SortedOf ws L) {m n : Nat} (hL : L.length = m) (hw : ws.length = n) : (((m : Int) == 0) == ((n : Int) == 0)) = true := by
  have hmn : (m = 0) ↔ (n = 0) := by
    subst hL; subst hw
    constructor
    · intro h0
      have hL := List.eq_nil_of_length_eq_zero h0
      cases hw : ws with
      | nil => rfl
      | cons x xs => have := (h.2 x).2 (by rw [hw]; exact List.mem_cons_self); rw [hL] at this; cases this
    · intro h0
      have hw := List.eq_nil_of_length_eq_zero h0
      cases hL : L with
      | nil => rfl
      | cons x xs => have := (h.2 x).1 (by rw [hL]; exact List.mem_cons_self); rw [hw] at this; cases this
  by_cases h0 : m = 0
  · have hn0 := hmn.1 h0; rw [h0, hn0]; rfl
  · have h1 : n ≠ 0 := fun e => h0 (hmn.2 e)
    have e1 : ((m : Int) == 0) = false := by rw [beq_eq_false_iff_ne]; omega
    have e2 : ((n : Int) == 0) = false := by rw [beq_eq_false_iff_ne]; omega
    rw [e1, e2]; rfl
theorem mem_turn {ws : List (List Snd)} (K : Nat) (x : List Snd) : x ∈ ws.drop K ++ ws.take K ↔ x ∈ ws := by
  rw [List.mem_append, Or.comm, ← List.mem_append, List.take_append_drop]
theorem SortedOf.turn {ws L : List (List Snd)} (h : SortedOf ws L) (K : Nat) : SortedOf (ws.drop K ++ ws.take K) L := ⟨h.1, fun x => (h.2 x).trans (mem_turn K x).symm⟩
theorem checkWs_turn {ws : List (List Snd)} (K : Nat) (h : checkWs ws = 0) : checkWs (ws.drop K ++ ws.take K) = 0 := checkWs_iff.2 fun x hx => checkWs_iff.1 h x ((mem_turn K x).1 hx)
theorem RdWs.ofH {w : World} {a : Option Addr} {n cap : Nat} {hs : List WH} (h : RdK 1 WH.enc w a n cap hs) (hok : ∀ h ∈ hs, h.ok w) : RdWs w a n cap (hs.map WH.x) := by
  refine ⟨by simpa using h.len, h.le, h.most, h.isnil, fun hn => ?_⟩
  obtain ⟨b, off, ha, hb, hc⟩ := h.pos hn
  refine ⟨b, off, ha, hb, fun i x hi => ?_⟩
  rw [List.getElem?_map] at hi
  obtain ⟨z, hz, rfl⟩ := Option.map_eq_some_iff.1 hi
  have := hc i z hz 0 _ rfl
  simp only [Nat.mul_one, Nat.add_zero] at this
  exact ⟨_, this, z.a, z.n, z.cap, rfl, hok z (List.mem_of_getElem? hz)⟩
set_option maxRecDepth 20000 in
set_option maxHeartbeats 4000000 in
theorem wordSorted_any (a0 : Option Addr) (n0 c0 : Nat) (ws : List (List Snd)) (p : Nat) (w : World) (h0 : RdWs w a0 n0 c0 ws) (_ : p < 256) :
    Calls Try.prog 9 #[.slice a0 n0 c0, .int .u8 p] w fun e w' => e = .returned (.bool true) ∧ Ext w w' := by
  by_cases l0 : n0 ≤ 256
  · have e0 : decide ((256 : Int) < n0) = false := by simp; omega
    have hwl := h0.len
    go_enter Try.func9, Try.ntmps9
    go_wp2_with fail
    go_loopw [5] (fun i wr => ∃ k : Nat, k ≤ n0 ∧ i = .int .i64 k ∧ Ext w wr ∧ Hid (checkWs ws = checkWs (ws.drop k))) (fun i _ => n0 - (intOf i).toNat)
    case atStart => exact ⟨0, Nat.zero_le _, rfl, Ext.refl _, rfl⟩
    case round =>
      obtain ⟨k, hk, rfl, hx, hall⟩ := hrel
      by_cases hlt : k < n0
      · obtain ⟨b, off, v, x, ha, hs, hb, hcx, a1, n1, cap1, rfl, hr1⟩ := (RdWs.ext h0 hx).at hlt
        cases ha
        by_cases hl : n1 ≤ 100
        · have hd : decide ((100 : Int) < n1) = false := by simp; omega
          by_cases hc : checkS x = 0
          · have hcb : (checkS x != 0) = false := by simp [hc]
            replace hc := Lib.hid hc
            go_wp2_with (go_at_call 34; refine (check_any _ _ _ x _ hr1).mono ?_; rintro e w1 ⟨rfl, hx1⟩)
            (first | exact ⟨⟨k + 1, by omega, by go_num, (by repeat (first | exact Ext.refl _ | assumption | refine Ext.drew ?_ | refine Ext.drewN ?_ _ | refine Ext.alloc ?_ _ | refine Ext.trans ?_ (by assumption))), checkWs_ok hall hs hc.out⟩, (by simp [intOf]; omega)⟩ | (go_roundw; case rel => exact ⟨k + 1, by omega, by go_num, (by repeat (first | exact Ext.refl _ | assumption | refine Ext.drew ?_ | refine Ext.drewN ?_ _ | refine Ext.alloc ?_ _ | refine Ext.trans ?_ (by assumption))), checkWs_ok hall hs hc.out⟩; case measure => exact (by simp [intOf]; omega)))
          · have hcb : (checkS x != 0) = true := by simpa using hc
            replace hc := Lib.hid hc
            go_wp2_with fail
            refine (check_any _ _ _ x _ hr1).mono ?_
            rintro e w1 ⟨rfl, _⟩
            go_wp2_with fail
            refine (works_any _).mono ?_
            rintro e wz ⟨rfl, _⟩
            go_wp2_with fail
            go_ret
            exact ⟨rfl, (by repeat (first | exact Ext.refl _ | assumption | refine Ext.drew ?_ | refine Ext.drewN ?_ _ | refine Ext.alloc ?_ _ | refine Ext.trans ?_ (by assumption)))⟩
        · have hd : decide ((100 : Int) < n1) = true := by simp; omega
          go_wp2_with fail
          refine (works_any _).mono ?_
          rintro e wz ⟨rfl, _⟩
          go_wp2_with fail
          go_ret
          exact ⟨rfl, (by repeat (first | exact Ext.refl _ | assumption | refine Ext.drew ?_ | refine Ext.drewN ?_ _ | refine Ext.alloc ?_ _ | refine Ext.trans ?_ (by assumption)))⟩
      · have hcw : checkWs ws = 0 := by rw [hall.out, List.drop_of_length_le (by omega)]; rfl
        replace hcw := Lib.hid hcw
        clear hall
        obtain ⟨wS, hwS⟩ : ∃ x, x = wr := ⟨wr, rfl⟩
        subst hwS
        go_wp2_with fail
        refine (wsort_ex _ _ _ ws _ (RdWs.ext h0 hx) (by omega) hcw.out).mono ?_
        rintro e w1 ⟨ax, m, cx, L, hL, hLm, rfl, rx, hx1⟩
        have hm : m ≤ 256 := by have := nodup_len hL.1 (fun x hx => (hL.2 x).1 hx); omega
        have hcL : checkWs L = 0 := checkWs_iff.2 fun x hx => checkWs_iff.1 hcw.out x ((hL.2 x).1 hx)
        go_wp2_with fail
        refine (wsort_ok _ _ _ L L _ rx hm hcL hL.self).mono ?_
        rintro e w2 ⟨ay, cy, rfl, ry, hx2⟩
        rw [hLm] at ry ⊢
        have hnil := hL.nil_iff hLm hwl
        replace hcL := Lib.hid hcL
        go_wp2_with fail
        go_loopw [10] (fun i wr => ∃ k : Nat, k ≤ m ∧ i = .int .i64 k ∧ Ext w2 wr) (fun i _ => m - (intOf i).toNat)
        case atStart => exact ⟨0, Nat.zero_le _, rfl, Ext.refl _⟩
        case round =>
          obtain ⟨k2, hk2, rfl, hx3⟩ := hrel
          by_cases hlt2 : k2 < m
          · obtain ⟨b1, f1, v1, z1, ha1, hs1, hb1, hc1, a1, n1, q1, rfl, hr1⟩ := (RdWs.ext rx (hx2.trans hx3)).at hlt2
            obtain ⟨b2, f2, v2, z2, ha2, hs2, hb2, hc2, a2, n2, q2, rfl, hr2⟩ := (RdWs.ext ry hx3).at hlt2
            cases ha1
            cases ha2
            have hzz : z2 = z1 := by have := hs2.out.symm.trans hs1.out; exact Option.some.inj this
            subst hzz
            have hin : decide (z2 ∈ ws) = true := decide_eq_true ((hL.2 z2).1 (List.mem_of_getElem? hs2.out))
            have h0' := RdWs.ext h0 (show Ext w wr from (hx.trans (hx1.trans (hx2.trans hx3))))
            have g1 := fun x : ExtOf wr => x.cell hc1
            have g2 := fun x : ExtOf wr => x.cell hc2
            by_cases hk0 : k2 = 0
            · have hd : decide (0 < k2) = false := by simp; omega
              replace hk0 := Lib.hid hk0
              go_wp2_with fail
              (refine wp_region_qx (by kernel_rfl) (by kernel_rfl) ?_
               repeat (go_big_quiet_step ((first | (go_at_call 32; exact calls_ext (cbool (lsame_any _ _ _ _ _ _ z2 z2 _ (hr1.ext (ExtOf.h _)) (hr2.ext (ExtOf.h _)))  (decide_eq_true rfl))) | (go_at_call 35; exact calls_ext (cbool (has_any _ _ _ _ _ _ ws z2 _ (RdWs.ext h0' (ExtOf.h _)) (hr1.ext (ExtOf.h _)) (by omega)) hin)))))
               refine wpQuiet_nil ?_
               intro wq hw'
               have hxq := ext_of_ex hw'
               clear hw')
              go_wp2_with fail
              (first | exact ⟨⟨k2 + 1, by omega, by go_num, (by repeat (first | exact Ext.refl _ | assumption | refine Ext.drew ?_ | refine Ext.drewN ?_ _ | refine Ext.alloc ?_ _ | refine Ext.trans ?_ (by assumption)))⟩, (by simp [intOf]; omega)⟩ | (go_roundw; case rel => exact ⟨k2 + 1, by omega, by go_num, (by repeat (first | exact Ext.refl _ | assumption | refine Ext.drew ?_ | refine Ext.drewN ?_ _ | refine Ext.alloc ?_ _ | refine Ext.trans ?_ (by assumption)))⟩; case measure => exact (by simp [intOf]; omega)))
            · have hd : decide (0 < k2) = true := by simp; omega
              obtain ⟨b3, f3, v3, z3, ha3, hs3, hb3, hc3, a3, n3, q3, rfl, hr3⟩ := (RdWs.ext rx (hx2.trans hx3)).at (show k2 - 1 < m by omega)
              cases ha3
              have hadj := hL.adj hs3.out (by rw [show k2 - 1 + 1 = k2 by omega]; exact hs2.out)
              have hw1 : IntKind.i64.wrap ((k2 : Int) - 1) = (k2 : Int) - 1 := IntWalk.i64_in _ (by omega)
              have hj : ((k2 : Int) - 1).toNat = k2 - 1 := by omega
              have g3 := fun x : ExtOf wr => x.cell hc3
              replace hadj := Lib.hid hadj
              go_wp2_with fail
              (refine wp_region_qx (by kernel_rfl) (by kernel_rfl) ?_
               repeat (go_big_quiet_step ((first | (go_at_call 22; exact calls_ext (cint (worder_any _ _ _ _ _ _ z3 z2 _ (hr3.ext (ExtOf.h _)) (hr1.ext (ExtOf.h _))) hadj.out)) | (go_at_call 32; exact calls_ext (cbool (lsame_any _ _ _ _ _ _ z2 z2 _ (hr1.ext (ExtOf.h _)) (hr2.ext (ExtOf.h _)))  (decide_eq_true rfl))) | (go_at_call 35; exact calls_ext (cbool (has_any _ _ _ _ _ _ ws z2 _ (RdWs.ext h0' (ExtOf.h _)) (hr1.ext (ExtOf.h _)) (by omega)) hin)))))
               refine wpQuiet_nil ?_
               intro wq hw'
               have hxq := ext_of_ex hw'
               clear hw')
              go_wp2_with fail
              (first | exact ⟨⟨k2 + 1, by omega, by go_num, (by repeat (first | exact Ext.refl _ | assumption | refine Ext.drew ?_ | refine Ext.drewN ?_ _ | refine Ext.alloc ?_ _ | refine Ext.trans ?_ (by assumption)))⟩, (by simp [intOf]; omega)⟩ | (go_roundw; case rel => exact ⟨k2 + 1, by omega, by go_num, (by repeat (first | exact Ext.refl _ | assumption | refine Ext.drew ?_ | refine Ext.drewN ?_ _ | refine Ext.alloc ?_ _ | refine Ext.trans ?_ (by assumption)))⟩; case measure => exact (by simp [intOf]; omega)))
          · have hx4 := hx1.trans (hx2.trans hx3)
            have hx5 := hx.trans hx4
            have rx5 := RdWs.ext rx (hx2.trans hx3)
            obtain ⟨wT, hwT⟩ : ∃ x, x = wr := ⟨wr, rfl⟩
            subst hwT
            clear hx1 hx2 hx3 hx4 ry rx hx
            go_wp2_with fail
            go_loopw [11] (fun i wr => ∃ k : Nat, k ≤ n0 ∧ i = .int .i64 k ∧ Ext wT wr) (fun i _ => n0 - (intOf i).toNat)
            case atStart => exact ⟨0, Nat.zero_le _, rfl, Ext.refl _⟩
            case round =>
              obtain ⟨k3, hk3, rfl, hx6⟩ := hrel
              by_cases hlt3 : k3 < n0
              · obtain ⟨b1, f1, v1, z1, ha1, hs1, hb1, hc1, a1, n1, q1, rfl, hr1⟩ := (RdWs.ext h0 (hx5.trans hx6)).at hlt3
                cases ha1
                have hin : decide (z1 ∈ L) = true := decide_eq_true ((hL.2 z1).2 (List.mem_of_getElem? hs1.out))
                go_wp2_with fail
                refine (cbool (has_any _ _ _ _ _ _ L z1 _ (RdWs.ext rx5 hx6) hr1 (by omega)) hin).mono ?_
                rintro e w1 ⟨rfl, _⟩
                go_wp2_with fail
                (first | exact ⟨⟨k3 + 1, by omega, by go_num, (by repeat (first | exact Ext.refl _ | assumption | refine Ext.drew ?_ | refine Ext.drewN ?_ _ | refine Ext.alloc ?_ _ | refine Ext.trans ?_ (by assumption)))⟩, (by simp [intOf]; omega)⟩ | (go_roundw; case rel => exact ⟨k3 + 1, by omega, by go_num, (by repeat (first | exact Ext.refl _ | assumption | refine Ext.drew ?_ | refine Ext.drewN ?_ _ | refine Ext.alloc ?_ _ | refine Ext.trans ?_ (by assumption)))⟩; case measure => exact (by simp [intOf]; omega)))
              · by_cases hn0 : n0 = 0
                · have hd : ((n0 : Int) == 0) = true := by rw [hn0]; rfl
                  go_wp2_with fail
                  refine (works_any _).mono ?_
                  rintro e wz ⟨rfl, _⟩
                  go_wp2_with fail
                  go_ret
                  exact ⟨rfl, (by repeat (first | exact Ext.refl _ | assumption | refine Ext.drew ?_ | refine Ext.drewN ?_ _ | refine Ext.alloc ?_ _ | refine Ext.trans ?_ (by assumption)))⟩
                · have hd : ((n0 : Int) == 0) = false := by rw [beq_eq_false_iff_ne]; omega
                  have hx7 := hx5.trans hx6
                  have rx7 := RdWs.ext rx5 hx6
                  have h07 := RdWs.ext h0 hx7
                  obtain ⟨wU, hwU⟩ : ∃ x, x = wr := ⟨wr, rfl⟩
                  subst hwU
                  clear hx5 hx6 rx5
                  go_wp2_with fail
                  obtain ⟨K, hK, hK'⟩ : ∃ K : Nat, (p : Int) % (n0 : Int) = (K : Int) ∧ K < n0 := ⟨p % n0, by norm_cast, Nat.mod_lt _ (by omega)⟩
                  rw [hK]
                  clear hK
                  obtain ⟨hs, hrk, hok, hxs⟩ := RdWs.hdrs h07
                  have hsl1 := fun w => run_sub_l (P := Try.prog) elem_word size_word a0 n0 c0 K (by omega) w
                  have hsl2 := fun w => run_sub_to (P := Try.prog) elem_word size_word a0 n0 c0 K (by have := hrk.le; omega) w
                  have hfr := hrk.from (k := K) (by omega)
                  have hto := hrk.to (k := K) (by omega)
                  have hhl := hrk.len
                  have hok' : ∀ h ∈ hs.drop K ++ hs.take K, h.ok wU := fun h hh => hok h (by
                    rcases List.mem_append.1 hh with h1 | h1
                    · exact List.mem_of_mem_drop h1
                    · exact List.mem_of_mem_take h1)
                  have hmap : (([] : List WH) ++ hs.drop K ++ hs.take K).map WH.x = ws.drop K ++ ws.take K := by rw [← hxs]; simp
                  have hL2 := hL.turn K
                  have hc2 := Lib.hid (checkWs_turn K hcw.out)
                  go_region_law (first | (refine step_appN wU.drew _ (hs.drop K) rfl _ _ 32 rfl 22 Try.underlying32 info_word rfl (by decide) _ [] rfl (World.ownsRow_lit _ #[] 0 (Nat.le_refl _) (Nat.zero_le _) rfl) (Ext.alloc1 _ _) _ _ _ rfl (hfr.ext (by repeat (first | exact Ext.refl _ | assumption | refine Ext.drew ?_ | refine Ext.drewN ?_ _ | refine Ext.alloc ?_ _ | refine Ext.trans ?_ (by assumption)))) WH.len WH.one (by simp; omega) (by unfold maxLen; simp; omega) ?_; intro v5 w5 o5 y5 _) | (refine step_appN wU.drew w5 (hs.take K) rfl _ _ 32 rfl 22 Try.underlying32 info_word rfl (by decide) v5 _ rfl o5 y5 a0 K c0 rfl (hto.ext (((Ext.refl wU).drew).trans y5)) WH.len WH.one (by simp; omega) (by unfold maxLen; simp; omega) ?_; intro v6 w6 o6 y6 _; obtain ⟨a6, n6, c6, hn6, rfl, r6⟩ := OwnK.rdn WH.len o6; have hn7 : n6 ≤ 256 := (by rw [hn6]; simp; omega); replace hn6 := Lib.hid hn6; have z6 := RdWs.ofH r6 (fun h hh => RdK.ext (hok' h (by simpa using hh)) (((Ext.refl wU).drew).trans y6)); rw [hmap] at z6) | (go_simp; go_at_call 29; refine (wsort_ok _ _ _ _ L _ z6 hn7 hc2.out hL2).mono ?_; rintro e w7 ⟨a7, c7, rfl, r7, y7⟩))
                  all_goals
                    have y8 : Ext wU w7 := (Ext.refl wU).drew.trans (y6.trans y7)
                    clear y5 y6 hsl1 hsl2 hfr hto hok hok' hmap hrk
                    try rw [hLm] at r7
                    go_wp2_with fail
                    go_loopw [15] (fun i wr => ∃ k : Nat, k ≤ m ∧ i = .int .i64 k ∧ Ext w7 wr) (fun i _ => m - (intOf i).toNat)
                    case atStart => exact ⟨0, Nat.zero_le _, rfl, Ext.refl _⟩
                    case round =>
                      obtain ⟨k4, hk4, rfl, hx8⟩ := hrel
                      by_cases hlt4 : k4 < m
                      · obtain ⟨b1, f1, v1, z1, ha1, hs1, hb1, hc1, a1, n1, q1, rfl, hr1⟩ := (RdWs.ext rx7 (y8.trans hx8)).at hlt4
                        obtain ⟨b2, f2, v2, z2, ha2, hs2, hb2, hc2', a2, n2, q2, rfl, hr2⟩ := (RdWs.ext r7 hx8).at hlt4
                        cases ha1
                        cases ha2
                        have hzz : z2 = z1 := by have := hs2.out.symm.trans hs1.out; exact Option.some.inj this
                        subst hzz
                        have g1 := fun x : ExtOf wr => x.cell hc1
                        have g2 := fun x : ExtOf wr => x.cell hc2'
                        go_wp2_with fail
                        (refine wp_region_qx (by kernel_rfl) (by kernel_rfl) ?_
                         repeat (go_big_quiet_step ((go_at_call 32; exact calls_ext (cbool (lsame_any _ _ _ _ _ _ z2 z2 _ (hr1.ext (ExtOf.h _)) (hr2.ext (ExtOf.h _))) (decide_eq_true rfl)))))
                         refine wpQuiet_nil ?_
                         intro wq hw'
                         have hxq := ext_of_ex hw'
                         clear hw')
                        go_wp2_with fail
                        (first | exact ⟨⟨k4 + 1, by omega, by go_num, (by repeat (first | exact Ext.refl _ | assumption | refine Ext.drew ?_ | refine Ext.drewN ?_ _ | refine Ext.alloc ?_ _ | refine Ext.trans ?_ (by assumption)))⟩, (by simp [intOf]; omega)⟩ | (go_roundw; case rel => exact ⟨k4 + 1, by omega, by go_num, (by repeat (first | exact Ext.refl _ | assumption | refine Ext.drew ?_ | refine Ext.drewN ?_ _ | refine Ext.alloc ?_ _ | refine Ext.trans ?_ (by assumption)))⟩; case measure => exact (by simp [intOf]; omega)))
                      · go_wp2_with fail
                        refine (works_any _).mono ?_
                        rintro e wz ⟨rfl, _⟩
                        go_wp2_with fail
                        go_ret
                        exact ⟨rfl, (by repeat (first | exact Ext.refl _ | assumption | refine Ext.drew ?_ | refine Ext.drewN ?_ _ | refine Ext.alloc ?_ _ | refine Ext.trans ?_ (by assumption)))⟩
  · have e0 : decide ((256 : Int) < n0) = true := by simp; omega
    go_enter Try.func9, Try.ntmps9
    go_wp2_with fail
    refine (works_any _).mono ?_
    rintro e wz ⟨rfl, _⟩
    go_wp2_with fail
    go_ret
    exact ⟨rfl, (by repeat (first | exact Ext.refl _ | assumption | refine Ext.drew ?_ | refine Ext.drewN ?_ _ | refine Ext.alloc ?_ _ | refine Ext.trans ?_ (by assumption)))⟩
end Go.Proofs.Ytphfnmmdfnfnaaa
