/-
  The statement WordBack: the walk.
-/
import Derived.Test.YtphfnmmdfnfnaaaWr
import Derived.Test.YtphfnmmdfnfnaaaWt
import Derived.Test.YtphfnmmdfnfnaaaLfin
namespace Go.Proofs.Ytphfnmmdfnfnaaa
open Go.RowKit
theorem checkS_iff {xs : List Snd} : checkS xs = 0 ↔ xs.length ≤ 32 ∧ ∀ x ∈ xs, x.ok = true := by
  unfold checkS
  by_cases h : 32 < xs.length
  · rw [if_pos h]; simp; omega
  · rw [if_neg h]
    by_cases h2 : xs.all Snd.ok = true
    · rw [if_pos h2]; rw [List.all_eq_true] at h2
      exact ⟨fun _ => ⟨by omega, h2⟩, fun _ => rfl⟩
    · rw [if_neg h2]
      refine ⟨fun h => by simp at h, fun h3 => absurd (List.all_eq_true.2 h3.2) h2⟩
theorem checkS_of {xs ys : List Snd} (h : checkS xs = 0) (hl : ys.length ≤ 32) (hs : ∀ x ∈ ys, x ∈ xs) : checkS ys = 0 :=
  checkS_iff.2 ⟨hl, fun x hx => (checkS_iff.1 h).2 x (hs x hx)⟩
theorem checkS_sub {xs ys : List Snd} (h : checkS xs = 0) (hs : ys.Sublist xs) : checkS ys = 0 :=
  checkS_of h (Nat.le_trans hs.length_le (checkS_iff.1 h).1) fun _ hx => hs.subset hx
theorem checkWs_zero {xs ys : List Snd} (h1 : checkS xs = 0) (h2 : checkS ys = 0) : checkWs [xs, ys] = 0 := by simp [checkWs, h1, h2]
theorem RetSE.to {P : Program} {f : FuncId} {args : Array Value} {w : World} {xs ys : List Snd} {n : Nat} {err err' : Int} (h : Calls P f args w (RetSE xs err w)) (hx : xs = ys ∧ err = err') (hn : ys.length = n) :
    Calls P f args w fun e w' => ∃ a cap, e = .returned (.tuple #[.slice a n cap, .int .i64 err']) ∧ RdS w' a n cap ys ∧ Ext w w' := by
  obtain ⟨rfl, rfl⟩ := hx
  subst hn
  exact RetSE.rd h rfl
section
variable {x0 : List Snd} {A B : Nat}
theorem rev_same {n k : Nat} {s t : Snd} (hl : x0.length = n) (hk : k < n) (h1 : x0.reverse[k]? = some s) (h2 : x0[n - 1 - k]? = some t) : s = t := by
  rw [List.getElem?_reverse (by omega), hl, h2] at h1; exact (Option.some.inj h1).symm
theorem again_eq (hAB : A ≤ B) (hB : B ≤ x0.length) : (x0.take A ++ ([] ++ x0.drop B)).take A ++ ((x0.take B).drop A ++ (x0.take A ++ ([] ++ x0.drop B)).drop A) = x0 := by
  rw [List.nil_append, List.take_left' (by simp; omega), List.drop_left' (by simp; omega), ← List.append_assoc]
  rw [show x0.take A ++ (x0.take B).drop A = x0.take B by rw [List.drop_take]; rw [← List.take_add]; congr 1; omega]
  exact List.take_append_drop _ _
theorem stay_eq (hAB : A ≤ B) : x0.take A ++ ((x0.take B).drop A ++ x0.drop B) = x0 := by
  rw [← List.append_assoc, show x0.take A ++ (x0.take B).drop A = x0.take B by rw [List.drop_take]; rw [← List.take_add]; congr 1; omega]
  exact List.take_append_drop _ _
end
set_option maxHeartbeats 4000000 in
set_option maxRecDepth 20000 in
theorem wordBack_any (a0 : Option Addr) (n0 c0 : Nat) (x0 : List Snd) (p q : Nat) (w : World) (h0 : RdS w a0 n0 c0 x0) (_ : p < 256) (_ : q < 256) :
    Calls Try.prog 11 #[.slice a0 n0 c0, .int .u8 p, .int .u8 q] w fun e w' => e = .returned (.bool true) ∧ Ext w w' := by
  have hl0 := h0.len
  by_cases l0 : n0 ≤ 100
  · have e0 : decide ((100 : Int) < n0) = false := by simp; omega
    by_cases hc : checkS x0 = 0
    · have hcb : (checkS x0 != 0) = false := by simp [hc]
      have h32 := (checkS_iff.1 hc).1
      rw [hl0] at h32
      go_enter Try.func11, Try.ntmps11
      go_wp2_with fail
      refine (check_any _ _ _ x0 _ h0).mono ?_
      rintro e wc ⟨rfl, hx⟩
      go_wp2_with fail
      have hw1 : IntKind.i64.wrap ((n0 : Int) + 1) = ((n0 + 1 : Nat) : Int) := IntWalk.i64_in _ (by omega)
      go_quiet (fail)
      clear hw1
      obtain ⟨A, hA, hA'⟩ := rem_nat p n0
      obtain ⟨B, hB, hB'⟩ := rem_nat q n0
      rw [hA, hB]
      have hxq : Ext wc (wc.drewN nq) := (Ext.refl wc).drewN nq
      generalize wc.drewN nq = wq at hxq ⊢
      clear hA hB
      by_cases hAB0 : A ≤ B
      · have hlt : decide ((B : Int) < (A : Int)) = false := by simp; omega
        have hAB : A ≤ B := by omega
        have hBn : B ≤ n0 := by omega
        have hBx : B ≤ x0.length := by rw [hl0]; exact hBn
        have sx := List.take_sublist (A) x0
        have sy := sub_take_drop x0 (A) (B)
        have sz := List.drop_sublist (B) x0
        have cx := cut_ok (a := 0) (b := A) hc (Nat.zero_le _) (by omega)
        have cy := cut_ok (a := A) (b := B) hc hAB hBx
        have cz := cut_ok (a := B) (b := n0) hc hBn (by omega)
        rw [List.drop_zero] at cx
        rw [← hl0, List.take_length, hl0] at cz
        have kc := checkS_sub hc sy
        have kg : checkS (x0.take (A) ++ ([] ++ x0.drop (B))) = 0 := checkS_of hc (by simp; omega) (fun x hx => by
          rcases List.mem_append.1 hx with h | h
          · exact sx.subset h
          · exact sz.subset (by simpa using h))
        obtain ⟨m, hm⟩ : ∃ m, m = B - A := ⟨_, rfl⟩
        obtain ⟨q, hq⟩ : ∃ q, q = A + (n0 - B) := ⟨_, rfl⟩
        have ly : ((x0.take (B)).drop (A)).length = m := by simp; omega
        have lg : (x0.take (A) ++ ([] ++ x0.drop (B))).length = q := by simp; omega
        have sg := splice_ok (a := A) (b := B) (ys := []) (checkWs_zero hc rfl) hAB hBx (by simp; omega)
        have sa := splice_ok (a := A) (b := A) (xs := x0.take (A) ++ ([] ++ x0.drop (B))) (checkWs_zero kg kc) (Nat.le_refl _) (by rw [lg]; omega) (by rw [lg, ly]; omega)
        rw [again_eq hAB hBx] at sa
        have ss := splice_ok (a := A) (b := B) (checkWs_zero hc kc) hAB hBx (by rw [ly]; omega)
        rw [stay_eq hAB] at ss
        have t1 : ((m : Int) != (B : Int) - (A : Int)) = false := by simp; omega
        have t2 : ((q : Int) != (n0 : Int) - (m : Int)) = false := by simp; omega
        have hq1 : q ≤ 100 := by omega
        have hm1 : m ≤ 100 := by omega
        replace hm := Lib.hid hm
        replace hq := Lib.hid hq
        replace hc := Lib.hid hc
        clear kg kc sx sy sz
        go_wp2_with fail
        refine (RetSE.to (cut_any _ _ _ x0 _ _ _ (h0.ext (by repeat (first | exact Ext.refl _ | assumption | refine Ext.drew ?_ | refine Ext.drewN ?_ _ | refine Ext.alloc ?_ _ | refine Ext.trans ?_ (by assumption)))) (by omega)) cx (show _ = A by simp; omega)).mono ?_
        rintro e w1 ⟨ax, kx, rfl, rx, y1⟩
        go_wp2_with fail
        refine (RetSE.to (cut_any _ _ _ x0 _ _ _ (h0.ext (by repeat (first | exact Ext.refl _ | assumption | refine Ext.drew ?_ | refine Ext.drewN ?_ _ | refine Ext.alloc ?_ _ | refine Ext.trans ?_ (by assumption)))) (by omega)) cy ly).mono ?_
        rintro e w2 ⟨ay, ky, rfl, ry, y2⟩
        go_wp2_with fail
        refine (RetSE.to (cut_any _ _ _ x0 _ _ _ (h0.ext (by repeat (first | exact Ext.refl _ | assumption | refine Ext.drew ?_ | refine Ext.drewN ?_ _ | refine Ext.alloc ?_ _ | refine Ext.trans ?_ (by assumption)))) (by omega)) cz (show _ = n0 - B by simp; omega)).mono ?_
        rintro e w3 ⟨az, kz, rfl, rz, y3⟩
        have o0 : OwnS w3.heap.size 39 (w3.alloc (.cells #[] 39)) (.slice (some ⟨w3.heap.size, 0, Option.none⟩) 0 0) [] := World.ownsRow_lit w3 #[] 0 (Nat.le_refl _) (Nat.zero_le _) rfl
        go_wp2_with (first | (at_builtin; refine wp_appN w3 _ (x0.take (A)) rfl _ _ 22 rfl 39 Try.underlying22 info_snd rfl (by decide) _ _ rfl o0 ((Ext.refl w3).alloc _) ax (A) kx rfl (rx.ext (by repeat (first | exact Ext.refl _ | assumption | refine Ext.drew ?_ | refine Ext.drewN ?_ _ | refine Ext.alloc ?_ _ | refine Ext.trans ?_ (by assumption)))) Snd.len Snd.one (by simp; omega) (by unfold maxLen; simp; omega) ?_; intro v1 w4 o1 y4 _) | (at_builtin; refine wp_appN w3 _ ((x0.take (B)).drop (A)) rfl _ _ 22 rfl 39 Try.underlying22 info_snd rfl (by decide) _ _ rfl o1 y4 ay m ky rfl (ry.ext (by repeat (first | exact Ext.refl _ | assumption | refine Ext.drew ?_ | refine Ext.drewN ?_ _ | refine Ext.alloc ?_ _ | refine Ext.trans ?_ (by assumption)))) Snd.len Snd.one (by simp; omega) (by unfold maxLen; simp; omega) ?_; intro v2 w5 o2 y5 _) | (at_builtin; refine wp_appN w3 _ (x0.drop (B)) rfl _ _ 22 rfl 39 Try.underlying22 info_snd rfl (by decide) _ _ rfl o2 y5 az (n0 - B) kz rfl (rz.ext y5) Snd.len Snd.one (by simp; omega) (by unfold maxLen; simp; omega) ?_; intro vz w6 o3 y6 _; obtain ⟨am, nm, cm, hnm, rfl, rm⟩ := OwnK.rdn Snd.len o3; replace hnm := Lib.hid hnm))
        clear o1 o2 y4 y5
        rw [List.nil_append, List.append_assoc, stay_eq hAB] at rm
        have hnm' : nm = n0 := by rw [← hl0, ← rm.len]
        clear hnm o3
        rw [hnm'] at rm ⊢
        clear hnm' nm
        have hr1 : revL x0 = x0.reverse ∧ checkS x0 = 0 := ⟨by rw [revL, if_pos hc.out], hc.out⟩
        have hcr : checkS x0.reverse = 0 := checkS_of hc.out (by simp; omega) (fun x hx => List.mem_reverse.1 hx)
        have hr2 : revL x0.reverse = x0 ∧ checkS x0.reverse = 0 := ⟨by rw [revL, if_pos hcr, List.reverse_reverse], hcr⟩
        have hl1 : x0.reverse.length = n0 := by simpa using hl0
        replace hr1 := Lib.hid hr1
        replace hr2 := Lib.hid hr2
        clear hcr
        refine (RetSE.to (splice_any _ _ _ _ _ _ x0 [] _ _ _ (h0.ext (by repeat (first | exact Ext.refl _ | assumption | refine Ext.drew ?_ | refine Ext.drewN ?_ _ | refine Ext.alloc ?_ _ | refine Ext.trans ?_ (by assumption)))) (RdK.nilS _) (by omega) (by omega)) sg lg).mono ?_
        rintro e w7 ⟨ag, kg, rfl, rg, y7⟩
        go_wp2_with fail
        refine (RetSE.to (splice_any _ _ _ _ _ _ _ _ _ _ _ (rg.ext (by repeat (first | exact Ext.refl _ | assumption | refine Ext.drew ?_ | refine Ext.drewN ?_ _ | refine Ext.alloc ?_ _ | refine Ext.trans ?_ (by assumption)))) (ry.ext (by repeat (first | exact Ext.refl _ | assumption | refine Ext.drew ?_ | refine Ext.drewN ?_ _ | refine Ext.alloc ?_ _ | refine Ext.trans ?_ (by assumption)))) (by omega) (by omega)) sa hl0).mono ?_
        rintro e w8 ⟨ah, kh, rfl, rh, y8⟩
        go_wp2_with fail
        refine (RetSE.to (splice_any _ _ _ _ _ _ _ _ _ _ _ (h0.ext (by repeat (first | exact Ext.refl _ | assumption | refine Ext.drew ?_ | refine Ext.drewN ?_ _ | refine Ext.alloc ?_ _ | refine Ext.trans ?_ (by assumption)))) (ry.ext (by repeat (first | exact Ext.refl _ | assumption | refine Ext.drew ?_ | refine Ext.drewN ?_ _ | refine Ext.alloc ?_ _ | refine Ext.trans ?_ (by assumption)))) (by omega) (by omega)) ss hl0).mono ?_
        rintro e w9 ⟨aj, kj, rfl, rj, y9⟩
        go_wp2_with fail
        refine (RetSE.to (wrev_any _ _ _ x0 _ (h0.ext (by repeat (first | exact Ext.refl _ | assumption | refine Ext.drew ?_ | refine Ext.drewN ?_ _ | refine Ext.alloc ?_ _ | refine Ext.trans ?_ (by assumption)))) (by omega)) hr1.out hl1).mono ?_
        rintro e w10 ⟨ab, kb, rfl, rb, y10⟩
        go_wp2_with fail
        refine (RetSE.to (wrev_any _ _ _ x0.reverse _ (rb.ext (by repeat (first | exact Ext.refl _ | assumption | refine Ext.drew ?_ | refine Ext.drewN ?_ _ | refine Ext.alloc ?_ _ | refine Ext.trans ?_ (by assumption)))) (by omega)) hr2.out hl0).mono ?_
        rintro e w11 ⟨at', kt, rfl, rt, y11⟩
        clear cx cy cz sg sa ss
        go_wp2_with fail
        go_loopw [26] (fun i wr => ∃ k : Nat, k ≤ n0 ∧ i = .int .i64 k ∧ Ext w11 wr) (fun i _ => n0 - (intOf i).toNat)
        case atStart => exact ⟨0, Nat.zero_le _, rfl, Ext.refl _⟩
        case round =>
          obtain ⟨k, hk, rfl, hxl⟩ := hrel
          by_cases hlt2 : k < n0
          · have he := neq_snd
            have hw2 : IntKind.i64.wrap ((n0 : Int) - 1) = (n0 : Int) - 1 := IntWalk.i64_in _ (by omega)
            have hw3 : IntKind.i64.wrap ((n0 : Int) - 1 - k) = (n0 : Int) - 1 - k := IntWalk.i64_in _ (by omega)
            have hj : ((n0 : Int) - 1 - k).toNat = n0 - 1 - k := by omega
            have h0' := h0.ext (show Ext w wr from (by repeat (first | exact Ext.refl _ | assumption | refine Ext.drew ?_ | refine Ext.drewN ?_ _ | refine Ext.alloc ?_ _ | refine Ext.trans ?_ (by assumption))))
            have rb' := rb.ext (show Ext w10 wr from (by repeat (first | exact Ext.refl _ | assumption | refine Ext.drew ?_ | refine Ext.drewN ?_ _ | refine Ext.alloc ?_ _ | refine Ext.trans ?_ (by assumption))))
            obtain ⟨b1, f1, s1, ha1, hs1, hb1, hc1, hd1⟩ := h0'.snd (show n0 - 1 - k < n0 by omega)
            obtain ⟨b2, f2, s2, ha2, hs2, hb2, hc2, hd2⟩ := rb'.snd hlt2
            cases ha1
            cases ha2
            have hss : s2 = s1 := rev_same hl0 hlt2 hs2 hs1
            subst hss
            have hb0 : decide (s2 = s2) = true := decide_eq_true rfl
            clear hs1 hs2 h0' rb'
            go_wp2_with fail
            go_quiet (fail)
            go_wp2_with fail
            (first | exact ⟨⟨k + 1, by omega, by go_num, (by repeat (first | exact Ext.refl _ | assumption | refine Ext.drew ?_ | refine Ext.drewN ?_ _ | refine Ext.alloc ?_ _ | refine Ext.trans ?_ (by assumption)))⟩, (by simp [intOf]; omega)⟩ | (go_roundw; case rel => exact ⟨k + 1, by omega, by go_num, (by repeat (first | exact Ext.refl _ | assumption | refine Ext.drew ?_ | refine Ext.drewN ?_ _ | refine Ext.alloc ?_ _ | refine Ext.trans ?_ (by assumption)))⟩; case measure => exact (by simp [intOf]; omega)))
          · go_wp2_with fail
            refine (cbool (lsame_any _ _ _ _ _ _ _ _ _ (rm.ext (by repeat (first | exact Ext.refl _ | assumption | refine Ext.drew ?_ | refine Ext.drewN ?_ _ | refine Ext.alloc ?_ _ | refine Ext.trans ?_ (by assumption)))) (h0.ext (by repeat (first | exact Ext.refl _ | assumption | refine Ext.drew ?_ | refine Ext.drewN ?_ _ | refine Ext.alloc ?_ _ | refine Ext.trans ?_ (by assumption))))) (decide_eq_true rfl)).mono ?_
            rintro e w1 ⟨rfl, _⟩
            go_wp2_with fail
            refine (cbool (lsame_any _ _ _ _ _ _ _ _ _ (rh.ext (by repeat (first | exact Ext.refl _ | assumption | refine Ext.drew ?_ | refine Ext.drewN ?_ _ | refine Ext.alloc ?_ _ | refine Ext.trans ?_ (by assumption)))) (h0.ext (by repeat (first | exact Ext.refl _ | assumption | refine Ext.drew ?_ | refine Ext.drewN ?_ _ | refine Ext.alloc ?_ _ | refine Ext.trans ?_ (by assumption))))) (decide_eq_true rfl)).mono ?_
            rintro e w1 ⟨rfl, _⟩
            go_wp2_with fail
            refine (cbool (lsame_any _ _ _ _ _ _ _ _ _ (rj.ext (by repeat (first | exact Ext.refl _ | assumption | refine Ext.drew ?_ | refine Ext.drewN ?_ _ | refine Ext.alloc ?_ _ | refine Ext.trans ?_ (by assumption)))) (h0.ext (by repeat (first | exact Ext.refl _ | assumption | refine Ext.drew ?_ | refine Ext.drewN ?_ _ | refine Ext.alloc ?_ _ | refine Ext.trans ?_ (by assumption))))) (decide_eq_true rfl)).mono ?_
            rintro e w1 ⟨rfl, _⟩
            go_wp2_with fail
            refine (cbool (lsame_any _ _ _ _ _ _ _ _ _ (rt.ext (by repeat (first | exact Ext.refl _ | assumption | refine Ext.drew ?_ | refine Ext.drewN ?_ _ | refine Ext.alloc ?_ _ | refine Ext.trans ?_ (by assumption)))) (h0.ext (by repeat (first | exact Ext.refl _ | assumption | refine Ext.drew ?_ | refine Ext.drewN ?_ _ | refine Ext.alloc ?_ _ | refine Ext.trans ?_ (by assumption))))) (decide_eq_true rfl)).mono ?_
            rintro e w1 ⟨rfl, _⟩
            go_wp2_with fail
            refine (works_any _).mono ?_
            rintro e wz ⟨rfl, _⟩
            go_wp2_with fail
            go_ret
            exact ⟨rfl, (by repeat (first | exact Ext.refl _ | assumption | refine Ext.drew ?_ | refine Ext.drewN ?_ _ | refine Ext.alloc ?_ _ | refine Ext.trans ?_ (by assumption)))⟩
      · have hlt : decide ((B : Int) < (A : Int)) = true := by simp; omega
        have hAB : B ≤ A := by omega
        have hBn : A ≤ n0 := by omega
        have hBx : A ≤ x0.length := by rw [hl0]; exact hBn
        have sx := List.take_sublist (B) x0
        have sy := sub_take_drop x0 (B) (A)
        have sz := List.drop_sublist (A) x0
        have cx := cut_ok (a := 0) (b := B) hc (Nat.zero_le _) (by omega)
        have cy := cut_ok (a := B) (b := A) hc hAB hBx
        have cz := cut_ok (a := A) (b := n0) hc hBn (by omega)
        rw [List.drop_zero] at cx
        rw [← hl0, List.take_length, hl0] at cz
        have kc := checkS_sub hc sy
        have kg : checkS (x0.take (B) ++ ([] ++ x0.drop (A))) = 0 := checkS_of hc (by simp; omega) (fun x hx => by
          rcases List.mem_append.1 hx with h | h
          · exact sx.subset h
          · exact sz.subset (by simpa using h))
        obtain ⟨m, hm⟩ : ∃ m, m = A - B := ⟨_, rfl⟩
        obtain ⟨q, hq⟩ : ∃ q, q = B + (n0 - A) := ⟨_, rfl⟩
        have ly : ((x0.take (A)).drop (B)).length = m := by simp; omega
        have lg : (x0.take (B) ++ ([] ++ x0.drop (A))).length = q := by simp; omega
        have sg := splice_ok (a := B) (b := A) (ys := []) (checkWs_zero hc rfl) hAB hBx (by simp; omega)
        have sa := splice_ok (a := B) (b := B) (xs := x0.take (B) ++ ([] ++ x0.drop (A))) (checkWs_zero kg kc) (Nat.le_refl _) (by rw [lg]; omega) (by rw [lg, ly]; omega)
        rw [again_eq hAB hBx] at sa
        have ss := splice_ok (a := B) (b := A) (checkWs_zero hc kc) hAB hBx (by rw [ly]; omega)
        rw [stay_eq hAB] at ss
        have t1 : ((m : Int) != (A : Int) - (B : Int)) = false := by simp; omega
        have t2 : ((q : Int) != (n0 : Int) - (m : Int)) = false := by simp; omega
        have hq1 : q ≤ 100 := by omega
        have hm1 : m ≤ 100 := by omega
        replace hm := Lib.hid hm
        replace hq := Lib.hid hq
        replace hc := Lib.hid hc
        clear kg kc sx sy sz
        go_wp2_with fail
        refine (RetSE.to (cut_any _ _ _ x0 _ _ _ (h0.ext (by repeat (first | exact Ext.refl _ | assumption | refine Ext.drew ?_ | refine Ext.drewN ?_ _ | refine Ext.alloc ?_ _ | refine Ext.trans ?_ (by assumption)))) (by omega)) cx (show _ = B by simp; omega)).mono ?_
        rintro e w1 ⟨ax, kx, rfl, rx, y1⟩
        go_wp2_with fail
        refine (RetSE.to (cut_any _ _ _ x0 _ _ _ (h0.ext (by repeat (first | exact Ext.refl _ | assumption | refine Ext.drew ?_ | refine Ext.drewN ?_ _ | refine Ext.alloc ?_ _ | refine Ext.trans ?_ (by assumption)))) (by omega)) cy ly).mono ?_
        rintro e w2 ⟨ay, ky, rfl, ry, y2⟩
        go_wp2_with fail
        refine (RetSE.to (cut_any _ _ _ x0 _ _ _ (h0.ext (by repeat (first | exact Ext.refl _ | assumption | refine Ext.drew ?_ | refine Ext.drewN ?_ _ | refine Ext.alloc ?_ _ | refine Ext.trans ?_ (by assumption)))) (by omega)) cz (show _ = n0 - A by simp; omega)).mono ?_
        rintro e w3 ⟨az, kz, rfl, rz, y3⟩
        have o0 : OwnS w3.heap.size 39 (w3.alloc (.cells #[] 39)) (.slice (some ⟨w3.heap.size, 0, Option.none⟩) 0 0) [] := World.ownsRow_lit w3 #[] 0 (Nat.le_refl _) (Nat.zero_le _) rfl
        go_wp2_with (first | (at_builtin; refine wp_appN w3 _ (x0.take (B)) rfl _ _ 22 rfl 39 Try.underlying22 info_snd rfl (by decide) _ _ rfl o0 ((Ext.refl w3).alloc _) ax (B) kx rfl (rx.ext (by repeat (first | exact Ext.refl _ | assumption | refine Ext.drew ?_ | refine Ext.drewN ?_ _ | refine Ext.alloc ?_ _ | refine Ext.trans ?_ (by assumption)))) Snd.len Snd.one (by simp; omega) (by unfold maxLen; simp; omega) ?_; intro v1 w4 o1 y4 _) | (at_builtin; refine wp_appN w3 _ ((x0.take (A)).drop (B)) rfl _ _ 22 rfl 39 Try.underlying22 info_snd rfl (by decide) _ _ rfl o1 y4 ay m ky rfl (ry.ext (by repeat (first | exact Ext.refl _ | assumption | refine Ext.drew ?_ | refine Ext.drewN ?_ _ | refine Ext.alloc ?_ _ | refine Ext.trans ?_ (by assumption)))) Snd.len Snd.one (by simp; omega) (by unfold maxLen; simp; omega) ?_; intro v2 w5 o2 y5 _) | (at_builtin; refine wp_appN w3 _ (x0.drop (A)) rfl _ _ 22 rfl 39 Try.underlying22 info_snd rfl (by decide) _ _ rfl o2 y5 az (n0 - A) kz rfl (rz.ext y5) Snd.len Snd.one (by simp; omega) (by unfold maxLen; simp; omega) ?_; intro vz w6 o3 y6 _; obtain ⟨am, nm, cm, hnm, rfl, rm⟩ := OwnK.rdn Snd.len o3; replace hnm := Lib.hid hnm))
        clear o1 o2 y4 y5
        rw [List.nil_append, List.append_assoc, stay_eq hAB] at rm
        have hnm' : nm = n0 := by rw [← hl0, ← rm.len]
        clear hnm o3
        rw [hnm'] at rm ⊢
        clear hnm' nm
        have hr1 : revL x0 = x0.reverse ∧ checkS x0 = 0 := ⟨by rw [revL, if_pos hc.out], hc.out⟩
        have hcr : checkS x0.reverse = 0 := checkS_of hc.out (by simp; omega) (fun x hx => List.mem_reverse.1 hx)
        have hr2 : revL x0.reverse = x0 ∧ checkS x0.reverse = 0 := ⟨by rw [revL, if_pos hcr, List.reverse_reverse], hcr⟩
        have hl1 : x0.reverse.length = n0 := by simpa using hl0
        replace hr1 := Lib.hid hr1
        replace hr2 := Lib.hid hr2
        clear hcr
        refine (RetSE.to (splice_any _ _ _ _ _ _ x0 [] _ _ _ (h0.ext (by repeat (first | exact Ext.refl _ | assumption | refine Ext.drew ?_ | refine Ext.drewN ?_ _ | refine Ext.alloc ?_ _ | refine Ext.trans ?_ (by assumption)))) (RdK.nilS _) (by omega) (by omega)) sg lg).mono ?_
        rintro e w7 ⟨ag, kg, rfl, rg, y7⟩
        go_wp2_with fail
        refine (RetSE.to (splice_any _ _ _ _ _ _ _ _ _ _ _ (rg.ext (by repeat (first | exact Ext.refl _ | assumption | refine Ext.drew ?_ | refine Ext.drewN ?_ _ | refine Ext.alloc ?_ _ | refine Ext.trans ?_ (by assumption)))) (ry.ext (by repeat (first | exact Ext.refl _ | assumption | refine Ext.drew ?_ | refine Ext.drewN ?_ _ | refine Ext.alloc ?_ _ | refine Ext.trans ?_ (by assumption)))) (by omega) (by omega)) sa hl0).mono ?_
        rintro e w8 ⟨ah, kh, rfl, rh, y8⟩
        go_wp2_with fail
        refine (RetSE.to (splice_any _ _ _ _ _ _ _ _ _ _ _ (h0.ext (by repeat (first | exact Ext.refl _ | assumption | refine Ext.drew ?_ | refine Ext.drewN ?_ _ | refine Ext.alloc ?_ _ | refine Ext.trans ?_ (by assumption)))) (ry.ext (by repeat (first | exact Ext.refl _ | assumption | refine Ext.drew ?_ | refine Ext.drewN ?_ _ | refine Ext.alloc ?_ _ | refine Ext.trans ?_ (by assumption)))) (by omega) (by omega)) ss hl0).mono ?_
        rintro e w9 ⟨aj, kj, rfl, rj, y9⟩
        go_wp2_with fail
        refine (RetSE.to (wrev_any _ _ _ x0 _ (h0.ext (by repeat (first | exact Ext.refl _ | assumption | refine Ext.drew ?_ | refine Ext.drewN ?_ _ | refine Ext.alloc ?_ _ | refine Ext.trans ?_ (by assumption)))) (by omega)) hr1.out hl1).mono ?_
        rintro e w10 ⟨ab, kb, rfl, rb, y10⟩
        go_wp2_with fail
        refine (RetSE.to (wrev_any _ _ _ x0.reverse _ (rb.ext (by repeat (first | exact Ext.refl _ | assumption | refine Ext.drew ?_ | refine Ext.drewN ?_ _ | refine Ext.alloc ?_ _ | refine Ext.trans ?_ (by assumption)))) (by omega)) hr2.out hl0).mono ?_
        rintro e w11 ⟨at', kt, rfl, rt, y11⟩
        clear cx cy cz sg sa ss
        go_wp2_with fail
        go_loopw [26] (fun i wr => ∃ k : Nat, k ≤ n0 ∧ i = .int .i64 k ∧ Ext w11 wr) (fun i _ => n0 - (intOf i).toNat)
        case atStart => exact ⟨0, Nat.zero_le _, rfl, Ext.refl _⟩
        case round =>
          obtain ⟨k, hk, rfl, hxl⟩ := hrel
          by_cases hlt2 : k < n0
          · have he := neq_snd
            have hw2 : IntKind.i64.wrap ((n0 : Int) - 1) = (n0 : Int) - 1 := IntWalk.i64_in _ (by omega)
            have hw3 : IntKind.i64.wrap ((n0 : Int) - 1 - k) = (n0 : Int) - 1 - k := IntWalk.i64_in _ (by omega)
            have hj : ((n0 : Int) - 1 - k).toNat = n0 - 1 - k := by omega
            have h0' := h0.ext (show Ext w wr from (by repeat (first | exact Ext.refl _ | assumption | refine Ext.drew ?_ | refine Ext.drewN ?_ _ | refine Ext.alloc ?_ _ | refine Ext.trans ?_ (by assumption))))
            have rb' := rb.ext (show Ext w10 wr from (by repeat (first | exact Ext.refl _ | assumption | refine Ext.drew ?_ | refine Ext.drewN ?_ _ | refine Ext.alloc ?_ _ | refine Ext.trans ?_ (by assumption))))
            obtain ⟨b1, f1, s1, ha1, hs1, hb1, hc1, hd1⟩ := h0'.snd (show n0 - 1 - k < n0 by omega)
            obtain ⟨b2, f2, s2, ha2, hs2, hb2, hc2, hd2⟩ := rb'.snd hlt2
            cases ha1
            cases ha2
            have hss : s2 = s1 := rev_same hl0 hlt2 hs2 hs1
            subst hss
            have hb0 : decide (s2 = s2) = true := decide_eq_true rfl
            clear hs1 hs2 h0' rb'
            go_wp2_with fail
            go_quiet (fail)
            go_wp2_with fail
            (first | exact ⟨⟨k + 1, by omega, by go_num, (by repeat (first | exact Ext.refl _ | assumption | refine Ext.drew ?_ | refine Ext.drewN ?_ _ | refine Ext.alloc ?_ _ | refine Ext.trans ?_ (by assumption)))⟩, (by simp [intOf]; omega)⟩ | (go_roundw; case rel => exact ⟨k + 1, by omega, by go_num, (by repeat (first | exact Ext.refl _ | assumption | refine Ext.drew ?_ | refine Ext.drewN ?_ _ | refine Ext.alloc ?_ _ | refine Ext.trans ?_ (by assumption)))⟩; case measure => exact (by simp [intOf]; omega)))
          · go_wp2_with fail
            refine (cbool (lsame_any _ _ _ _ _ _ _ _ _ (rm.ext (by repeat (first | exact Ext.refl _ | assumption | refine Ext.drew ?_ | refine Ext.drewN ?_ _ | refine Ext.alloc ?_ _ | refine Ext.trans ?_ (by assumption)))) (h0.ext (by repeat (first | exact Ext.refl _ | assumption | refine Ext.drew ?_ | refine Ext.drewN ?_ _ | refine Ext.alloc ?_ _ | refine Ext.trans ?_ (by assumption))))) (decide_eq_true rfl)).mono ?_
            rintro e w1 ⟨rfl, _⟩
            go_wp2_with fail
            refine (cbool (lsame_any _ _ _ _ _ _ _ _ _ (rh.ext (by repeat (first | exact Ext.refl _ | assumption | refine Ext.drew ?_ | refine Ext.drewN ?_ _ | refine Ext.alloc ?_ _ | refine Ext.trans ?_ (by assumption)))) (h0.ext (by repeat (first | exact Ext.refl _ | assumption | refine Ext.drew ?_ | refine Ext.drewN ?_ _ | refine Ext.alloc ?_ _ | refine Ext.trans ?_ (by assumption))))) (decide_eq_true rfl)).mono ?_
            rintro e w1 ⟨rfl, _⟩
            go_wp2_with fail
            refine (cbool (lsame_any _ _ _ _ _ _ _ _ _ (rj.ext (by repeat (first | exact Ext.refl _ | assumption | refine Ext.drew ?_ | refine Ext.drewN ?_ _ | refine Ext.alloc ?_ _ | refine Ext.trans ?_ (by assumption)))) (h0.ext (by repeat (first | exact Ext.refl _ | assumption | refine Ext.drew ?_ | refine Ext.drewN ?_ _ | refine Ext.alloc ?_ _ | refine Ext.trans ?_ (by assumption))))) (decide_eq_true rfl)).mono ?_
            rintro e w1 ⟨rfl, _⟩
            go_wp2_with fail
            refine (cbool (lsame_any _ _ _ _ _ _ _ _ _ (rt.ext (by repeat (first | exact Ext.refl _ | assumption | refine Ext.drew ?_ | refine Ext.drewN ?_ _ | refine Ext.alloc ?_ _ | refine Ext.trans ?_ (by assumption)))) (h0.ext (by repeat (first | exact Ext.refl _ | assumption | refine Ext.drew ?_ | refine Ext.drewN ?_ _ | refine Ext.alloc ?_ _ | refine Ext.trans ?_ (by assumption))))) (decide_eq_true rfl)).mono ?_
            rintro e w1 ⟨rfl, _⟩
            go_wp2_with fail
            refine (works_any _).mono ?_
            rintro e wz ⟨rfl, _⟩
            go_wp2_with fail
            go_ret
            exact ⟨rfl, (by repeat (first | exact Ext.refl _ | assumption | refine Ext.drew ?_ | refine Ext.drewN ?_ _ | refine Ext.alloc ?_ _ | refine Ext.trans ?_ (by assumption)))⟩
    · have hcb : (checkS x0 != 0) = true := by simpa using hc
      replace hc := Lib.hid hc
      go_enter Try.func11, Try.ntmps11
      go_wp2_with fail
      refine (check_any _ _ _ x0 _ h0).mono ?_
      rintro e w1 ⟨rfl, _⟩
      go_wp2_with fail
      refine (works_any _).mono ?_
      rintro e wz ⟨rfl, _⟩
      go_wp2_with fail
      go_ret
      exact ⟨rfl, (by repeat (first | exact Ext.refl _ | assumption | refine Ext.drew ?_ | refine Ext.drewN ?_ _ | refine Ext.alloc ?_ _ | refine Ext.trans ?_ (by assumption)))⟩
  · have e0 : decide ((100 : Int) < n0) = true := by simp; omega
    go_enter Try.func11, Try.ntmps11
    go_wp2_with fail
    refine (works_any _).mono ?_
    rintro e wz ⟨rfl, _⟩
    go_wp2_with fail
    go_ret
    exact ⟨rfl, (by repeat (first | exact Ext.refl _ | assumption | refine Ext.drew ?_ | refine Ext.drewN ?_ _ | refine Ext.alloc ?_ _ | refine Ext.trans ?_ (by assumption)))⟩
end Go.Proofs.Ytphfnmmdfnfnaaa
