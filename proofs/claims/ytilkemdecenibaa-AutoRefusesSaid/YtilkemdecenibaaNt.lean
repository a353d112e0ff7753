/-
  The patterns and alphabets of the laws: sound, star, times, seq, alphabet.
  The alphabets of the laws.
-/
import Derived.Test.YtilkemdecenibaaV5
import Derived.BigRegion
namespace Go.Proofs.Ytilkemdecenibaa
open Go.RowKit
def anyP : HP := .mk 1 ⟨0#32, 0#32⟩ false 0 0 none 0 0 []
def oneP (c : Snd) : HP := .mk 1 c false 0 0 none 0 0 []
def starP (p : HP) (a : Option Addr) : HP := .mk 5 ⟨0#32, 0#32⟩ false 0 (-1) a 1 1 [p]
def timesP (p : HP) (n : Int) (a : Option Addr) : HP := .mk 5 ⟨0#32, 0#32⟩ false n n a 1 1 [p]
def seqP (l : List HP) (a : Option Addr) (n cap : Nat) : HP := .mk 3 ⟨0#32, 0#32⟩ false 0 0 a n cap l
theorem oneP_rd (c : Snd) (w : World) : RdPt w (oneP c) := by
  unfold oneP
  simp only [RdPt, RdPts, and_true]
  exact ⟨rfl, Nat.le_refl _, Nat.zero_le _, fun _ => rfl, fun h => absurd h (Nat.lt_irrefl 0)⟩
theorem rdPt_of {w w' : World} {h : HP} {B : Nat} {cs : Array Value} {e : TypeId} {fr : Nat × Nat} (hr : RdPt w h) (hx : Ext w w') (hb : w'.heap[B]? = some (.cells cs e fr)) (hc : cs.toList = HP.enc h) : RdK 7 HP.enc w' (some ⟨B, 0, none⟩) 1 1 [h] ∧ RdPt w' h :=
  ⟨⟨rfl, Nat.le_refl _, by unfold maxLen; omega, fun e => (by cases e), fun _ => ⟨B, 0, rfl, (Array.getElem?_eq_some_iff.1 hb).1, fun i x hi j u hu => by
    cases i with
    | zero =>
      simp at hi; subst hi
      simp only [World.cell?, hb, Nat.zero_mul, Nat.zero_add]
      rw [← Array.getElem?_toList, hc]; exact hu
    | succ i => simp at hi⟩⟩, hr.ext hx⟩
theorem sound_any (c : Snd) (w : World) : Calls Try.prog 32 #[sndV c] w fun e w' => e = .returned (patV (oneP c)) ∧ Ext w w' := by
  go_enter Try.func32, Try.ntmps32
  go_wp2_with fail
  refine bodyPost_ret (results_cell_row rfl _ _ (w.heap.size + 1) _ _ (0, 0) _ rfl (by have := World.alloc_heap_new (w.alloc (Obj.cells #[Value.int IntKind.u32 c.p.toNat, Value.int IntKind.u32 c.m.toNat] 24)) (Obj.cells #[.int .i64 1, .int .u32 c.p.toNat, .int .u32 c.m.toNat, .bool false, .int .i64 0, .int .i64 0, .slice none 0 0] 27); rwa [World.size_alloc] at this) Try.underlying27 rfl (by kernel_rfl)) rfl ?_
  exact ⟨rfl, (by repeat (first | exact Ext.refl _ | assumption | refine Ext.drew ?_ | refine Ext.drewN ?_ _ | refine Ext.alloc ?_ _ | refine Ext.trans ?_ (by assumption)))⟩
theorem star_any (h : HP) (w : World) (hr : RdPt w h) : Calls Try.prog 31 #[patV h] w fun e w' => ∃ b, e = .returned (patV (starP h (some ⟨b, 0, none⟩))) ∧ RdPt w' (starP h (some ⟨b, 0, none⟩)) ∧ Ext w w' := by
  go_enter Try.func31, Try.ntmps31
  go_wp2_with fail
  refine bodyPost_ret (results_cell_row rfl _ _ (w.heap.size + 1) _ _ (0, 0) _ rfl (by
    refine (Below.heap_alloc _ _ _ (by simp)).trans ?_
    have := World.alloc_heap_new (w.alloc (Obj.cells #[.int .i64 h.kind, .int .u32 h.is.p.toNat, .int .u32 h.is.m.toNat, .bool h.neg, .int .i64 h.mn, .int .i64 h.mx, .slice h.a h.n h.cap] 27)) (Obj.cells #[.int .i64 5, .int .u32 0, .int .u32 0, .bool false, .int .i64 0, .int .i64 (-1), .slice (some ⟨w.heap.size + 1 + 1, 0, none⟩) 1 1] 27)
    rwa [World.size_alloc] at this) Try.underlying27 rfl (by kernel_rfl)) rfl ?_
  refine ⟨w.heap.size + 1 + 1, rfl, ?_, (by repeat (first | exact Ext.refl _ | assumption | refine Ext.drew ?_ | refine Ext.drewN ?_ _ | refine Ext.alloc ?_ _ | refine Ext.trans ?_ (by assumption)))⟩
  have hb := World.alloc_heap_new ((w.alloc (Obj.cells #[.int .i64 h.kind, .int .u32 h.is.p.toNat, .int .u32 h.is.m.toNat, .bool h.neg, .int .i64 h.mn, .int .i64 h.mx, .slice h.a h.n h.cap] 27)).alloc (Obj.cells #[.int .i64 5, .int .u32 0, .int .u32 0, .bool false, .int .i64 0, .int .i64 (-1), .slice (some ⟨w.heap.size + 1 + 1, 0, none⟩) 1 1] 27)) (Obj.cells #[.int .i64 h.kind, .int .u32 h.is.p.toNat, .int .u32 h.is.m.toNat, .bool h.neg, .int .i64 h.mn, .int .i64 h.mx, .slice h.a h.n h.cap] 27)
  rw [World.size_alloc, World.size_alloc] at hb
  refine RdPt.mk' (rdPt_of hr (by repeat (first | exact Ext.refl _ | assumption | refine Ext.drew ?_ | refine Ext.drewN ?_ _ | refine Ext.alloc ?_ _ | refine Ext.trans ?_ (by assumption))) hb rfl).1 ?_
  intro x hx
  obtain rfl : x = h := by simpa [starP, HP.l] using hx
  exact hr.ext (by repeat (first | exact Ext.refl _ | assumption | refine Ext.drew ?_ | refine Ext.drewN ?_ _ | refine Ext.alloc ?_ _ | refine Ext.trans ?_ (by assumption)))
theorem times_any (h : HP) (n : Int) (w : World) (hr : RdPt w h) : Calls Try.prog 39 #[patV h, .int .i64 n] w fun e w' => ∃ b, e = .returned (patV (timesP h n (some ⟨b, 0, none⟩))) ∧ RdPt w' (timesP h n (some ⟨b, 0, none⟩)) ∧ Ext w w' := by
  go_enter Try.func39, Try.ntmps39
  go_wp2_with fail
  refine bodyPost_ret (results_cell_row rfl _ _ (w.heap.size + 1) _ _ (0, 0) _ rfl (by
    refine (Below.heap_alloc _ _ _ (by simp)).trans ?_
    have := World.alloc_heap_new (w.alloc (Obj.cells #[.int .i64 h.kind, .int .u32 h.is.p.toNat, .int .u32 h.is.m.toNat, .bool h.neg, .int .i64 h.mn, .int .i64 h.mx, .slice h.a h.n h.cap] 27)) (Obj.cells #[.int .i64 5, .int .u32 0, .int .u32 0, .bool false, .int .i64 n, .int .i64 n, .slice (some ⟨w.heap.size + 1 + 1, 0, none⟩) 1 1] 27)
    rwa [World.size_alloc] at this) Try.underlying27 rfl (by kernel_rfl)) rfl ?_
  refine ⟨w.heap.size + 1 + 1, rfl, ?_, (by repeat (first | exact Ext.refl _ | assumption | refine Ext.drew ?_ | refine Ext.drewN ?_ _ | refine Ext.alloc ?_ _ | refine Ext.trans ?_ (by assumption)))⟩
  have hb := World.alloc_heap_new ((w.alloc (Obj.cells #[.int .i64 h.kind, .int .u32 h.is.p.toNat, .int .u32 h.is.m.toNat, .bool h.neg, .int .i64 h.mn, .int .i64 h.mx, .slice h.a h.n h.cap] 27)).alloc (Obj.cells #[.int .i64 5, .int .u32 0, .int .u32 0, .bool false, .int .i64 n, .int .i64 n, .slice (some ⟨w.heap.size + 1 + 1, 0, none⟩) 1 1] 27)) (Obj.cells #[.int .i64 h.kind, .int .u32 h.is.p.toNat, .int .u32 h.is.m.toNat, .bool h.neg, .int .i64 h.mn, .int .i64 h.mx, .slice h.a h.n h.cap] 27)
  rw [World.size_alloc, World.size_alloc] at hb
  refine RdPt.mk' (rdPt_of hr (by repeat (first | exact Ext.refl _ | assumption | refine Ext.drew ?_ | refine Ext.drewN ?_ _ | refine Ext.alloc ?_ _ | refine Ext.trans ?_ (by assumption))) hb rfl).1 ?_
  intro x hx
  obtain rfl : x = h := by simpa [timesP, HP.l] using hx
  exact hr.ext (by repeat (first | exact Ext.refl _ | assumption | refine Ext.drew ?_ | refine Ext.drewN ?_ _ | refine Ext.alloc ?_ _ | refine Ext.trans ?_ (by assumption)))
theorem seqP_any (l : List HP) (a : Option Addr) (n cap : Nat) (w : World) (hr : RdK 7 HP.enc w a n cap l) (hl : ∀ x ∈ l, RdPt w x) : Calls Try.prog 38 #[.slice a n cap] w fun e w' => e = .returned (patV (seqP l a n cap)) ∧ RdPt w' (seqP l a n cap) ∧ Ext w w' := by
  go_enter Try.func38, Try.ntmps38
  go_wp2_with fail
  refine bodyPost_ret (results_cell_row rfl _ _ w.heap.size _ #[.int .i64 3, .int .u32 0, .int .u32 0, .bool false, .int .i64 0, .int .i64 0, .slice a n cap] (0, 0) _ rfl (World.alloc_heap_new w _) Try.underlying27 rfl (by kernel_rfl)) rfl ?_
  exact ⟨rfl, RdPt.mk' (hr.ext (by repeat (first | exact Ext.refl _ | assumption | refine Ext.drew ?_ | refine Ext.drewN ?_ _ | refine Ext.alloc ?_ _ | refine Ext.trans ?_ (by assumption)))) (fun x hx => (hl x hx).ext (by repeat (first | exact Ext.refl _ | assumption | refine Ext.drew ?_ | refine Ext.drewN ?_ _ | refine Ext.alloc ?_ _ | refine Ext.trans ?_ (by assumption)))), (by repeat (first | exact Ext.refl _ | assumption | refine Ext.drew ?_ | refine Ext.drewN ?_ _ | refine Ext.alloc ?_ _ | refine Ext.trans ?_ (by assumption)))⟩
end Go.Proofs.Ytilkemdecenibaa
namespace Go.Proofs.Ytilkemdecenibaa
open Go.RowKit
def alph (n : Nat) : List Snd := (List.range n).map fun i => ⟨BitVec.ofNat 32 i, 7#32 &&& ~~~(BitVec.ofNat 32 i)⟩
theorem alph_take (n : Nat) {i : Nat} (hi : i < n) : (alph n).take (i + 1) = (alph n).take i ++ [⟨BitVec.ofNat 32 i, 7#32 &&& ~~~(BitVec.ofNat 32 i)⟩] := by
  refine take_succ_at ?_
  unfold alph
  rw [List.getElem?_map, List.getElem?_range hi]; rfl
set_option maxHeartbeats 1000000 in
set_option maxRecDepth 20000 in
theorem alphabet_any (n : Nat) (hn : n ≤ 8) (w : World) : Calls Try.prog 33 #[.int .i64 (n : Int)] w (RetS (alph n) w) := by
  have hcv : IntKind.u32.wrap (n : Int) = (n : Int) := by rw [IntKind.wrap_u32]; omega
  go_enter Try.func33, Try.ntmps33
  go_wp2_with fail
  go_loopw [3, 7] (fun lv iv wr => ∃ i : Nat, i ≤ n ∧ iv = .int .u32 (i : Int) ∧ OwnS w.heap.size 24 wr lv ((alph n).take i) ∧ Ext w wr) (fun _ iv _ => n - (intOf iv).toNat)
  case atStart => exact ⟨0, Nat.zero_le _, rfl, OwnK.nil _ _ _, Ext.refl _⟩
  case round =>
    obtain ⟨i, hi, rfl, ho, hx⟩ := hrel
    have hli : ((alph n).take i).length = i := by simp [alph]; omega
    by_cases hlt : i < n
    · obtain ⟨x, hx0⟩ : ∃ x : Snd, x = ⟨BitVec.ofNat 32 i, 7#32 &&& ~~~(BitVec.ofNat 32 i)⟩ := ⟨_, rfl⟩
      have hsu := alph_take n hlt
      rw [← hx0] at hsu
      have hp : (i : Int) = (x.p.toNat : Int) := by rw [hx0]; show (i : Int) = ((BitVec.ofNat 32 i).toNat : Int); rw [BitVec.toNat_ofNat, Nat.mod_eq_of_lt (by omega)]
      have hand : bits BinOp.andNot IntKind.u32 7 (i : Int) = (x.m.toNat : Int) := by
        rw [hx0]
        have : i = 0 ∨ i = 1 ∨ i = 2 ∨ i = 3 ∨ i = 4 ∨ i = 5 ∨ i = 6 ∨ i = 7 := by omega
        rcases this with rfl | rfl | rfl | rfl | rfl | rfl | rfl | rfl <;> rfl
      replace hp := Lib.hid hp
      replace hx0 := Lib.hid hx0
      replace hsu := Lib.hid hsu
      replace hli := Lib.hid hli
      go_wp2_with (at_builtin; refine wp_appC w _ x _ (by show #[Value.int .u32 (x.p.toNat : Int), Value.int .u32 (x.m.toNat : Int)] = _; rw [← hp.out]) rfl _ _ 28 rfl 24 Try.underlying28 info_snd rfl (by decide) _ _ rfl ho hx rfl (Snd.len _) (Snd.one _) (by rw [hli.out]; omega) (by rw [hli.out]; unfold maxLen; omega) ?_; intro v5 w5 o5 x5)
      rw [← hsu.out] at o5
      (first | exact ⟨⟨i + 1, hlt, by go_num, o5, x5⟩, (by simp [intOf]; omega)⟩ | (go_roundw; case rel => exact ⟨i + 1, hlt, by go_num, o5, x5⟩; case measure => exact (by simp [intOf]; omega)))
    · obtain rfl : i = n := by omega
      rw [List.take_of_length_le (by simp [alph])] at ho
      replace hli := Lib.hid hli
      go_wp2_with fail
      go_ret
      exact ⟨_, rfl, ho, hx⟩
end Go.Proofs.Ytilkemdecenibaa
