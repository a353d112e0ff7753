/-
  Runs of the program: an iterator that yields the runs.
-/
import Derived.Test.YtphfnmmdfnfnaaaRa
import Derived.RangeFuncNested
import Derived.RangeFuncBound
import Derived.RangeFuncCalls
import Derived.RangeFuncLeaves
import Derived.RangeFuncBox
import Derived.Shelf.Abstract
import Derived.OwnWalkIn
import Derived.TacticsInMore
import Derived.LoopNIn
import Derived.LoopIn
import Derived.Sort.BigQuietIn
namespace Go.Proofs.Ytphfnmmdfnfnaaa
open Go.RowKit Go.Shelf
attribute [local go_sem] Oper.semAt_some
/-- What a round keeps: the blocks below B, but g. -/
structure KB (B g : Nat) (W W' : World) : Prop where
  size : W.heap.size ≤ W'.heap.size
  block : ∀ k, k < B → k ≠ g → W'.heap[k]? = W.heap[k]?
theorem KB.refl (B g : Nat) (W : World) : KB B g W W := ⟨Nat.le_refl _, fun _ _ _ => rfl⟩
theorem KB.trans {B g : Nat} {X Y Z : World} (h : KB B g X Y) (k : KB B g Y Z) : KB B g X Z := ⟨Nat.le_trans h.size k.size, fun j hj hn => (k.block j hj hn).trans (h.block j hj hn)⟩
theorem KB.putObj {B g : Nat} (W : World) (l : Nat) (o : Obj) (hl : B ≤ l) : KB B g W (W.putObj l o) := ⟨by simp, fun _ hk _ => World.putObj_heap_other (by omega)⟩
theorem KB.drewN {B g : Nat} (W : World) (q : Nat) : KB B g W (W.drewN q) := ⟨Nat.le_refl _, fun _ _ _ => rfl⟩
theorem RdK.agr {α : Type} {k : Nat} {enc : α → List Value} {w w' : World} {a : Option Addr} {n cap : Nat} {xs : List α} (h : RdK k enc w a n cap xs) (hs : w.heap.size ≤ w'.heap.size) (hb : ∀ j, j < w.heap.size → w'.heap[j]? = w.heap[j]?) : RdK k enc w' a n cap xs :=
  ⟨h.len, h.le, h.most, h.isnil, fun hn => let ⟨b, off, ha, hlt, hc⟩ := h.pos hn; ⟨b, off, ha, Nat.lt_of_lt_of_le hlt hs, fun i x hi j u hu => by
    rw [World.cell?_of_block (w := w) (hb b hlt)]; exact hc i x hi j u hu⟩⟩
/-- The iterator's box and the word: as they are in the world w0. -/
structure RunRd (w0 : World) (Bx : Nat) (a : Option Addr) (n cap : Nat) (W : World) : Prop where
  size : w0.heap.size ≤ W.heap.size
  block : ∀ j, j < w0.heap.size → W.heap[j]? = w0.heap[j]?
  box : W.cell? ⟨Bx, 0, none⟩ = some (.slice a n cap)
theorem RunRd.kb {w0 : World} {Bx B g : Nat} {a : Option Addr} {n cap : Nat} {W W' : World} (h : RunRd w0 Bx a n cap W) (hk : KB B g W W') (h1 : w0.heap.size ≤ g) (h2 : w0.heap.size ≤ B) (h3 : Bx < B) (h4 : Bx ≠ g) : RunRd w0 Bx a n cap W' :=
  ⟨Nat.le_trans h.size hk.size, fun j hj => (hk.block j (by omega) (by omega)).trans (h.block j hj), by rw [World.cell?_of_block (w := W) (hk.block Bx h3 h4)]; exact h.box⟩
abbrev encRun (x : Nat × Nat) : Array Value := #[.agg #[.int .i64 x.1, .int .i64 x.2]]
set_option maxHeartbeats 4000000 in
set_option maxRecDepth 20000 in
theorem runs1_in (n l Bx B g : Nat) (w0 : World) (a : Option Addr) (n0 cap : Nat) (xs : List Snd) (hr : RdS w0 a n0 cap xs) (hn0 : n0 ≤ 60000) (h1 : w0.heap.size ≤ g) (h2 : w0.heap.size ≤ B) (h3 : Bx < B) (h4 : Bx ≠ g) (hn : 1 ≤ n)
    (J Jx : List (Nat × Nat) → World → Prop) (hJd : ∀ s W q, J s W → J s (W.drewN q))
    (hY : ∀ pre x W, J pre W → pre.length < n0 + 1 → YieldAt Fence.wide (n - 1) Try.prog l (encRun x) W fun e W' =>
      (e = .returned (.bool true) ∧ J (pre ++ [x]) W' ∧ KB B g W W') ∨ (e = .returned (.bool false) ∧ Jx (pre ++ [x]) W'))
    (W : World) (hrd : RunRd w0 Bx a n0 cap W) (h0 : J [] W) :
    CallsIn Fence.wide n Try.prog 66 #[.func (.yield l) #[] #[], .pointer (some ⟨Bx, 0, none⟩)] W fun e W' => (∃ v, e = .returned v) ∧
      ((∃ ys, ys = runsL xs n0 ∧ J ys W') ∨ (∃ pre, True ∧ Jx pre W')) := by
  have he := eql_snd
  have hxl := hr.len
  have hro : Fence.wide.round = none := rfl
  refine callsIn_of_wp Try.func66 rfl trivial ?_ hro
  simp only [Try.ntmps66, List.size_toArray, List.length_cons, List.length_nil, Nat.reduceAdd, Nat.reduceSub, Array.replicate_succ, Array.replicate_zero, List.push_toArray, List.append_toArray, List.nil_append, List.cons_append]
  gi_wp2
  gi_loopw [3, 4] (fun av bv wr => ∃ a1 b1 : Nat, av = .int .i64 a1 ∧ bv = .int .i64 b1 ∧ 1 ≤ b1 ∧ b1 ≤ n0 + 1 ∧ a1 < b1 ∧ RunRd w0 Bx a n0 cap wr ∧ J (runsL xs a1) wr ∧ Hid (b1 ≤ n0 → Same xs a1 b1 ∧ isSt xs a1 = true) ∧ Hid (b1 = n0 + 1 → a1 = n0)) (fun _ bv _ => n0 + 2 - (intOf bv).toNat)
  case atStart =>
    exact ⟨0, 1, rfl, rfl, Nat.le_refl _, by omega, by omega, hrd, h0, fun h => ⟨Same.start xs (by omega), by simp [isSt]⟩, fun h => by omega⟩
  case round =>
    obtain ⟨a1, b1, rfl, rfl, hb1, hbn, hab, hrd1, hJ1, hsame, hend⟩ := hrel
    have hbox := hrd1.box
    by_cases hle : b1 ≤ n0
    · obtain ⟨hsm, hst⟩ := hsame.out hle
      by_cases hlt : b1 < n0
      · have hrW := hr.agr hrd1.size hrd1.block
        obtain ⟨bk, off, s, ha, hs, hb, hc0, hc1⟩ := hrW.snd (show a1 < n0 by omega)
        obtain ⟨bk2, off2, s2, ha2, hs2, hb2, hd0, hd1⟩ := hrW.snd hlt
        subst ha
        cases ha2
        have hg : decide (b1 < n0) = true := by simpa using hlt
        by_cases hss : s2 = s
        · subst hss
          have hnew : Hid (b1 + 1 ≤ n0 → Same xs a1 (b1 + 1) ∧ isSt xs a1 = true) := fun _ => ⟨hsm.succ (by omega) (by rw [hs2.out, hs.out]), hst⟩
          have hnew2 : Hid (b1 + 1 = n0 + 1 → a1 = n0) := fun h => by omega
          have hJ2 := fun q => hJd _ wr q hJ1
          clear hsame hend hsm hst hle
          gi_wp2
          gi_big_quiet_th (fail)
          gi_wp2
          go_roundw
          case rel => exact ⟨a1, b1 + 1, rfl, by go_num, by omega, by omega, by omega, hrd1.kb (KB.drewN (B := B) (g := g) _ _) h1 h2 h3 h4, hJ2 _, hnew, hnew2⟩
          case measure => exact (by simp [intOf]; omega)
        · have hd : decide (s2 = s) = false := by simpa using hss
          have hne : xs[b1]? ≠ xs[a1]? := by rw [hs2.out, hs.out]; simpa using hss
          have hend' := endOf_eq hsm (.inr hne)
          have hall := runsL_same hsm hst
          rw [hend'] at hall
          have hnew : Hid (b1 + 1 ≤ n0 → Same xs b1 (b1 + 1) ∧ isSt xs b1 = true) := fun _ => ⟨Same.start xs (by omega), isSt_end hsm hne⟩
          have hnew2 : Hid (b1 + 1 = n0 + 1 → b1 = n0) := fun h => by omega
          replace hall := Lib.hid hall
          have hJ2 := fun q => hJd _ wr q hJ1
          have hpl := runsL_le xs a1
          clear hsame hend hsm hst hle hss hne hend'
          gi_wp2
          gi_big_quiet_th (fail)
          have hJ3 := hJ2 nq
          have hrd3 := hrd1.kb (KB.drewN (B := B) (g := g) wr nq) h1 h2 h3 h4
          generalize wr.drewN nq = wz at hJ3 hrd3 ⊢
          obtain ⟨fn, tmps, assign, body, hy, hR⟩ := hY (runsL xs a1) (a1, b1) wz hJ3 (by omega)
          gi_wp2
          refine hR.mono ?_
          rintro e W3 (⟨rfl, hJ4, hk4⟩ | ⟨rfl, hJx4⟩)
          · have hrd4 := hrd3.kb hk4 h1 h2 h3 h4
            rw [← hall.out] at hJ4
            gi_wp2
            go_roundw
            case rel => exact ⟨b1, b1 + 1, rfl, by go_num, by omega, by omega, by omega, hrd4, hJ4, hnew, hnew2⟩
            case measure => exact (by simp [intOf]; omega)
          · gi_wp2
            refine bodyPost_ret (results_none rfl _ _ _) rfl ?_
            exact ⟨⟨_, rfl⟩, .inr ⟨_, trivial, hJx4⟩⟩
      · have hb1 : b1 = n0 := by omega
        have hg : decide (b1 < n0) = false := by simpa using hlt
        have hend' := endOf_eq hsm (.inl (by omega))
        have hall := runsL_same hsm hst
        rw [hend'] at hall
        have hnew : Hid (b1 + 1 ≤ n0 → Same xs b1 (b1 + 1) ∧ isSt xs b1 = true) := fun h => by omega
        have hnew2 : Hid (b1 + 1 = n0 + 1 → b1 = n0) := fun h => by omega
        replace hall := Lib.hid hall
        have hJ2 := fun q => hJd _ wr q hJ1
        have hpl := runsL_le xs a1
        clear hsame hend hsm hst hend'
        replace hb1 := Lib.hid hb1
        gi_wp2
        gi_big_quiet_th (fail)
        have hJ3 := hJ2 nq
        have hrd3 := hrd1.kb (KB.drewN (B := B) (g := g) wr nq) h1 h2 h3 h4
        generalize wr.drewN nq = wz at hJ3 hrd3 ⊢
        obtain ⟨fn, tmps, assign, body, hy, hR⟩ := hY (runsL xs a1) (a1, b1) wz hJ3 (by omega)
        gi_wp2
        refine hR.mono ?_
        rintro e W3 (⟨rfl, hJ4, hk4⟩ | ⟨rfl, hJx4⟩)
        · have hrd4 := hrd3.kb hk4 h1 h2 h3 h4
          rw [← hall.out] at hJ4
          gi_wp2
          go_roundw
          case rel => exact ⟨b1, b1 + 1, rfl, by go_num, by omega, by omega, by omega, hrd4, hJ4, hnew, hnew2⟩
          case measure => exact (by simp [intOf]; omega)
        · gi_wp2
          refine bodyPost_ret (results_none rfl _ _ _) rfl ?_
          exact ⟨⟨_, rfl⟩, .inr ⟨_, trivial, hJx4⟩⟩
    · have ha1 : a1 = n0 := hend.out (by omega)
      subst ha1
      gi_wp2
      go_end0
      first | exact ⟨⟨_, rfl⟩, .inl ⟨_, rfl, hJ1⟩⟩ | exact ⟨⟨_, rfl⟩, .inl hJ1⟩
end Go.Proofs.Ytphfnmmdfnfnaaa
