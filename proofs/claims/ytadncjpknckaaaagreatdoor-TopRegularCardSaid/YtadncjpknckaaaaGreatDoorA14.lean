/-
  slices.Collect at numbers, over any iterator; pats.Ends.
  A block after a store; results that lie in memory.
  Layer 1: has, mix, Change, Take.
-/
import Derived.Test.YtadncjpknckaaaaGreatDoorA13
import Derived.Test.YtadncjpknckaaaaGreatDoorA01
namespace Go.Proofs.YtadncjpknckaaaaGreatDoor
open Go.RowKit Go.Maps
attribute [local go_sem] Oper.semAt_some
/-- The marks are taken; what stands of other blocks stands on. -/
theorem leaves_marksS {F : Fence} {n : Nat} {P : Program} {fn : Func} {tmps : Array Value} {R : Ending → World → Prop} (S : World → Prop) : ∀ (Ds : List Nat) (w : World), Ds.Nodup → (∀ D ∈ Ds, w.heap[D]? = some (.deferred (some []))) → S w →
    (∀ (W : World) (D : Nat) (o : Obj), S W → D ∈ Ds → W.heap[D]? = some (.deferred (some [])) → S (W.putObj D o)) →
    (∀ w', S w' → LeavesInM F n P fn tmps R [] .returning w') → LeavesInM F n P fn tmps R (Ds.map markD) .returning w
  | [], w, _, _, hs, _, h => h w hs
  | D :: Ds, w, hn, hD, hs, hst, h => by
    have h2 := hD D List.mem_cons_self
    rw [List.nodup_cons] at hn
    refine ⟨by simp, .inl ⟨D, _, rfl, run_takeDeferred h2, leaves_marksS S Ds _ hn.2 (fun E hE => ?_) (hst _ _ _ hs List.mem_cons_self h2) (fun W E o h1 h2 h3 => hst W E o h1 (List.mem_cons_of_mem _ h2) h3) h⟩⟩
    have := hD E (List.mem_cons_of_mem _ hE)
    rw [World.putObj_heap_other (fun e => hn.1 (by subst e; exact hE))]
    exact this
theorem own_putObj {α : Type} {k : Nat} {enc : α → List Value} {B : Nat} {e : TypeId} {W : World} {v : Value} {xs : List α} {D : Nat} {o : Obj} (h : OwnK k enc B e W v xs) (hD : W.heap[D]? = some (.deferred (some []))) : OwnK k enc B e (W.putObj D o) v xs :=
  own_apart h (grownBy_putObj' W D o) fun g hg e2 => by
    cases hg
    obtain ⟨cur, hc⟩ := own_type h e2
    rw [hD] at hc; cases hc
/-- An iterator of numbers, with blocks of its own. -/
def IterN (gf : Nat) (lb : Array Value) (own : Nat → Prop) (xs : List Nat) (w0 W0 : World) : Prop :=
  ∀ (l : Nat) (J Jx : List Nat → World → Prop) (W : World), Below W0.heap.size W0 W → J [] W → (∀ s X Y row, J s X → X.grownBy Y row → (∀ r, row = some r → own r) → J s Y) → (∀ s X Y row, Jx s X → X.grownBy Y row → (∀ r, row = some r → own r) → Jx s Y) → (∀ s X, J s X → Ext w0 X) →
    (∀ pre x X, J pre X → (pre ++ [x]) <+: xs → YieldAt Fence.wide 7 Tryz.prog l (encF x) X fun e Y => (e = .returned (.bool true) ∧ J (pre ++ [x]) Y ∧ Same own X Y) ∨ (e = .returned (.bool false) ∧ Jx (pre ++ [x]) Y)) →
    CallsIn Fence.wide 8 Tryz.prog gf (#[.func (.yield l) #[] #[]] ++ lb) W fun e W' => (∃ v, e = .returned v) ∧ (J xs W' ∨ ∃ pre, Jx pre W')
/-- What stands while numbers are collected. -/
def ColS (w0 w : World) (pre : List Nat) (X : World) : Prop :=
  (∃ v, Boxed X w.heap.size 35 v ∧ OwnI (w.heap.size + 1) 3 X v (pre.map fun x : Nat => (x : Int))) ∧ Ext w0 X
def RetNs (xs : List Nat) (w0 w : World) (e : Ending) (w' : World) : Prop := ∃ (a : Option Addr) (n cap : Nat), e = .returned (.slice a n cap) ∧ Hid (n = xs.length) ∧ OwnI w.heap.size 3 w' (.slice a n cap) (xs.map fun x : Nat => (x : Int)) ∧ Ext w0 w'
set_option maxHeartbeats 1000000 in
set_option maxRecDepth 20000 in
theorem appendSeq_any (gf : Nat) (lb : Array Value) (own : Nat → Prop) (xs : List Nat) (w0 w : World) (hx : Ext w0 w) (ho : ∀ r, own r → w0.heap.size ≤ r ∧ r < w.heap.size) (eg : ∀ args w, (callFunc gf args).run Tryz.prog w = .ok (.enter gf args) w) (hlen : xs.length ≤ 4000)
    (hit : IterN gf lb own xs w0 (w.alloc (.cells #[.slice none 0 0] 35))) :
    Calls Tryz.prog 47 #[.slice none 0 0, .func (.func gf) #[] lb] w (RetNs xs w0 w) := by
  refine (callsIn_wide (n := 9)).1 ?_
  refine callsIn_of_wp_marks Tryz.func47 rfl trivial ?_ rfl
  simp only [Tryz.ntmps47, List.size_toArray, List.length_cons, List.length_nil, Nat.reduceAdd, Nat.reduceSub, Array.replicate_succ, Array.replicate_zero, List.push_toArray, List.append_toArray, List.nil_append, List.cons_append]
  gi_wp2
  have hP0 : ColS w0 w [] (w.alloc (.cells #[.slice none 0 0] 35)) := ⟨⟨_, World.alloc_heap_new w _, OwnK.nil _ _ _⟩, hx.alloc _⟩
  have hz1 : (w.alloc (.cells #[.slice none 0 0] 35)).heap.size = w.heap.size + 1 := by simp
  have hx0 := hx.le
  generalize w.alloc (.cells #[.slice none 0 0] 35) = w1 at *
  refine wpIn_range_ownA rfl (by decide : 1 ≤ 9) (gf := gf) (lb := lb) rfl trivial eg (encs := encF) (fun _ => rfl) own (fun r hr => by have := (ho r hr).2; omega) xs
    (ColS w0 w) (fun s X Y row hs hg hr => ?stab) hP0 (fun _ _ _ => False) (fun _ _ _ _ _ hs _ _ => hs)
    (fun lp J Jx X hB hJ0 hJ hJx hI hY => hit lp J Jx X hB hJ0 hJ hJx (fun s X hs => (hI s X hs).2) hY)
    (fun tm f a' _ => a' = { tmps := (tm.setIfInBounds 7 (.int .i64 (f : Int))).setIfInBounds 5 (.int .i64 (f : Int)), defers := [] }) (fun _ _ _ _ _ _ hs _ _ => hs)
    ?assign ?body ?done ?stop
  case stab =>
    obtain ⟨⟨v, h1, h2⟩, h3⟩ := hs
    have hrow : ∀ r, row = some r → w0.heap.size ≤ r ∧ r ≠ w.heap.size ∧ (w.heap.size + 1 ≤ r → ∃ o : Obj, X.heap[r]? = some o ∧ o.isCells = false) := fun r e => by
      rcases hr r e with h | ⟨h, ho'⟩
      · have := ho r h; exact ⟨this.1, by omega, fun h => by omega⟩
      · exact ⟨by omega, by omega, fun _ => ho'⟩
    refine ⟨⟨v, h1.kept hg fun e => (hrow _ e.symm).2.1 rfl, own_apart h2 hg fun g hg' e => ?_⟩, h3.grown hg fun r e => (hrow r e).1⟩
    obtain ⟨cur, hc⟩ := own_type h2 e
    obtain ⟨o, ho', hcl⟩ := (hrow g hg').2.2 (own_lt h2 e).1
    rw [hc] at ho'; cases ho'; cases hcl
  case assign =>
    rintro lp pre f X K hS hK
    gi_wp2
    refine hK _ _ (KeepsFrom.refl _ _) (Same.refl _ _) hS ?_
    simp only [List.setIfInBounds_toArray, List.set_cons_succ, List.set_cons_zero]
  case body =>
    rintro lp pre f a' X hS rfl hpre
    obtain ⟨⟨v, h1, h2⟩, h3⟩ := id hS
    have hc := h1.cell
    have hf := h1.frozen
    have hpl := hpre.length_le
    rw [List.length_append, List.length_singleton] at hpl
    simp only [List.setIfInBounds_toArray, List.set_cons_succ, List.set_cons_zero]
    have hB1 : w.heap.size + 1 ≤ X.heap.size := by have := h1.lt; omega
    have hpl2 : pre.length ≤ 4000 := by omega
    replace hpl := Lib.hid hpl
    gi_wp2_with (refine list_bridge (by rintro ⟨_, _, h⟩; exact h) _ _ _ (by kernel_rfl) ?_; at_builtin; refine wp_appA (w.heap.size + 1) X (f : Int) #[.int .i64 (f : Int)] rfl rfl _ _ 35 rfl 3 Tryz.underlying35 info_int2 rfl (by decide) I64.len I64.one v (pre.map fun x : Nat => (x : Int)) rfl h2 hB1 rfl (by rw [List.length_map]; omega) (by decide) ?_; intro v2 w2 o2 g2 r2)
    have hne : v.ownBlock ≠ some w.heap.size := fun e => by have := (own_lt h2 e).1; omega
    have k2 := h1.kept g2 fun e => hne e.symm
    obtain ⟨a2, n2, c2', hn2, rfl, _⟩ := OwnK.rdn I64.len o2
    replace hn2 := Lib.hid hn2
    have c2 := k2.cell
    have f2 := k2.frozen
    have g3 := grownBy_set w2 w.heap.size 0 (.slice a2 n2 c2')
    have hr1 : ∀ r, v.ownBlock = some r → w0.heap.size ≤ r ∧ ∃ cur, X.heap[r]? = some (.cells cur 3 (0, 0)) := fun r e => ⟨by have := (own_lt h2 e).1; omega, own_type h2 e⟩
    have fin : KeepsFrom w1.heap.size X (w2.setCell ⟨w.heap.size, 0, none⟩ (.slice a2 n2 c2')) ∧ Same own X (w2.setCell ⟨w.heap.size, 0, none⟩ (.slice a2 n2 c2')) ∧ ColS w0 w (pre ++ [f]) (w2.setCell ⟨w.heap.size, 0, none⟩ (.slice a2 n2 c2')) := by
      refine ⟨⟨Nat.le_trans g2.size g3.size, fun k o _ hk hcl => ?_⟩, fun r hr => ?_, ⟨_, k2.set _, ?_⟩, (h3.grown g2 fun r e => (hr1 r e).1).grown g3 fun r e => by cases e; exact hx0⟩
      · have h4 := (g2.block k (Array.getElem?_eq_some_iff.1 hk).1 fun e => by
          obtain ⟨cur, hc⟩ := (hr1 k e.symm).2
          rw [hk] at hc; cases hc; cases hcl).trans hk
        refine (g3.block k (Array.getElem?_eq_some_iff.1 h4).1 fun e => ?_).trans h4
        cases e
        rw [show w2.heap[w.heap.size]? = _ from k2] at h4; cases h4; cases hcl
      · have hlr := (ho r hr).2
        have hlX : r < X.heap.size := by omega
        have e1 := g2.block r hlX fun e => by have := (own_lt h2 e.symm).1; omega
        exact (g3.block r (Nat.lt_of_lt_of_le hlX g2.size) fun e => by cases e; omega).trans e1
      · rw [List.map_append]
        exact own_setOff o2 fun e => by have := (own_lt o2 e).1; omega
    replace fin := Lib.hid fin
    clear g2 g3 r2 hr1 k2 h1 h2 h3 hc hf
    go_wp2_with fail
    gi_wp2
    exact fin.out
  case done =>
    rintro D X hD ⟨⟨v, h1, h2⟩, h3⟩ hDX
    have hc := h1.cell
    have hmk : ∀ E ∈ [D], w0.heap.size ≤ E ∧ X.heap[E]? = some (.deferred (some [])) := fun E hE => by rw [List.mem_singleton.1 hE]; exact ⟨by omega, hDX⟩
    replace hmk := Lib.hid hmk
    obtain ⟨a3, n3, c3, hn3, rfl, _⟩ := OwnK.rdn I64.len h2
    replace hn3 := Lib.hid hn3
    gi_wp2
    refine leaves_marksS (fun W => OwnI (w.heap.size + 1) 3 W (.slice a3 n3 c3) (xs.map fun x : Nat => (x : Int)) ∧ Ext w0 W) [D] X (by simp) (fun E hE => (hmk.out E hE).2) ⟨h2, h3⟩ (fun W E o hs hE hd => ⟨own_putObj hs.1 hd, hs.2.grown (grownBy_putObj' W E o) fun r e => by cases e; exact (hmk.out E hE).1⟩) fun w' hs => ?_
    refine ⟨_, results_tmp rfl _ _ _, ?_⟩
    exact ⟨a3, n3, c3, rfl, Lib.hid (by rw [hn3.out, List.length_map]), hs.1.base (by omega), hs.2⟩
  case stop =>
    rintro D c pre X _ h
    exact h.elim
theorem collectN_any (gf : Nat) (lb : Array Value) (own : Nat → Prop) (xs : List Nat) (w0 w : World) (hx : Ext w0 w) (ho : ∀ r, own r → w0.heap.size ≤ r ∧ r < w.heap.size) (eg : ∀ args w, (callFunc gf args).run Tryz.prog w = .ok (.enter gf args) w) (hlen : xs.length ≤ 4000)
    (hit : IterN gf lb own xs w0 (w.alloc (.cells #[.slice none 0 0] 35))) :
    Calls Tryz.prog 32 #[.func (.func gf) #[] lb] w (RetNs xs w0 w) := by
  go_enter Tryz.func32, Tryz.ntmps32
  go_wp2_with fail
  refine (appendSeq_any gf lb own xs w0 w hx ho eg hlen hit).mono ?_
  rintro e w1 ⟨a, n, cap, rfl, hn, ho1, hx1⟩
  go_wp2_with fail
  go_ret
  exact ⟨a, n, cap, rfl, hn, ho1, hx1⟩
theorem iterN_set {x : Nat} (hx : x < 2 ^ 33) {Bx : Nat} {w0 W0 : World} (hb : Boxed W0 Bx 171 (.int .u64 x)) (hT : Tab64 w0) : IterN 113 #[.pointer (some ⟨Bx, 0, none⟩)] (fun r => r = Bx) (bitsOf x) w0 W0 :=
  fun l J Jx W hB hJ0 hJ _ hI hY => all1_in 8 l Bx (by decide) x hx J Jx (fun s X Y row hs hg hr => hJ s X Y row hs hg hr) (fun s X hs => hT.ext (hI s X hs)) hY W ((Below.block hB _ hb.lt).trans hb) hJ0
theorem all_calls (x : Nat) (w : World) : Calls Tryz.prog 107 #[.int .u64 x] w fun e w' => e = .returned (.func (.func 113) #[] #[.pointer (some ⟨w.heap.size, 0, none⟩)]) ∧ w' = w.alloc (.cells #[.int .u64 x] 171) :=
  (callsIn_wide (n := 9)).1 (all_in 9 x w)
theorem bitsOf_len (x : Nat) : (bitsOf x).length ≤ 33 := by
  unfold bitsOf; have := List.length_filter_le (fun b => x.testBit b) (List.range 33); simpa using this
theorem bitsOf_pos {x : Nat} (hx : x < 2 ^ 33) : decide (0 < (bitsOf x).length) = (x != 0) := by
  by_cases h : x = 0
  · subst h; rw [bitsOf_zero]; rfl
  · obtain ⟨_, h2, _⟩ := bitsOf_step h hx
    rw [h2]; simp [h]
set_option maxHeartbeats 1000000 in
set_option maxRecDepth 20000 in
theorem ends_any (h : HP) (hok : chkB h = true) (a : Option Addr) (n cap : Nat) (ws : List Snd) (i : Nat) (hi : i ≤ n) (w : World) (hr : RdPt w h) (hws : RdS w a n cap ws) (hT : Tab64 w) :
    Calls Tryz.prog 98 #[patV h, .slice a n cap, .int .i64 (i : Int)] w (RetPl (wordOk ws && endM h ws i) w) := by
  have hl := hws.len
  go_enter Tryz.func98, Tryz.ntmps98
  refine seq_stop fun K hK => ?_
  go_wp2_with fail
  have hx : Ext w (w.alloc (.cells h.enc.toArray 55)) := Ext.alloc1 _ _
  have q0 : (w.alloc (.cells h.enc.toArray 55)).cell? ⟨w.heap.size, 0, none⟩ = some (.int .i64 h.kind) := by simp only [HP.enc]; go_simp
  have q1 : (w.alloc (.cells h.enc.toArray 55)).cell? ⟨w.heap.size, 1, none⟩ = some (.int .u32 h.is.p.toNat) := by simp only [HP.enc]; go_simp
  have q2 : (w.alloc (.cells h.enc.toArray 55)).cell? ⟨w.heap.size, 2, none⟩ = some (.int .u32 h.is.m.toNat) := by simp only [HP.enc]; go_simp
  have q3 : (w.alloc (.cells h.enc.toArray 55)).cell? ⟨w.heap.size, 3, none⟩ = some (.bool h.neg) := by simp only [HP.enc]; go_simp
  have q4 : (w.alloc (.cells h.enc.toArray 55)).cell? ⟨w.heap.size, 4, none⟩ = some (.int .i64 h.mn) := by simp only [HP.enc]; go_simp
  have q5 : (w.alloc (.cells h.enc.toArray 55)).cell? ⟨w.heap.size, 5, none⟩ = some (.int .i64 h.mx) := by simp only [HP.enc]; go_simp
  have q6 : (w.alloc (.cells h.enc.toArray 55)).cell? ⟨w.heap.size, 6, none⟩ = some (.slice h.a h.n h.cap) := by simp only [HP.enc]; go_simp
  have hK' := hK.out { tmps := #[patV h, .slice a n cap, .int .i64 (i : Int), .pointer (some ⟨w.heap.size, 0, none⟩), undef, undef, .slice none 0 0, .int .i64 0, undef, undef, undef, undef, undef, undef, undef, undef, undef, undef, undef, undef, undef, undef, undef, undef, undef, undef, undef, undef, undef], defers := [] } (w.alloc (.cells h.enc.toArray 55))
  refine hK' ?_
  clear hK' hK
  generalize w.alloc (.cells h.enc.toArray 55) = w1 at *
  generalize w.heap.size = b2 at *
  replace hl := Lib.hid hl
  go_wp2_with fail
  refine (relate_any h hok a n cap ws _ (hr.ext hx) (hws.ext hx) (hT.ext hx)).mono ?_
  rintro e w2 ⟨err, rfl, herr, hx2⟩
  replace hx := hx.trans hx2
  clear q0 q1 q2 q3 q4 q5 q6 hx2
  have hrok : RelOk (relOr h ws) := by
    unfold relOr
    split
    · rename_i hwk
      unfold wordOk at hwk
      simp only [Bool.and_eq_true, decide_eq_true_eq] at hwk
      exact inM_ok h hwk.1
    · exact zeroM_ok
  have hA := Ext.alloc1 w2 (.cells (relA (relOr h ws)) 173)
  have hb8 := RelB.new w2 (relOr h ws)
  have hx8 := hx.trans hA
  cases hwk : wordOk ws
  · have hne : ¬ err = 0 := fun e => by rw [herr.1 e] at hwk; cases hwk
    have hne' : (err == 0) = false := by simpa using hne
    replace hwk := Lib.hid hwk
    replace herr := Lib.hid herr
    clear hA
    go_wp2_with (first | (refine wpList_store_row rfl 173 _ _ rfl w2.heap.size (relA (relOr h ws)) rfl rfl 173 (relA zeroM) (RelB.new w2 zeroM) (size_of hrok.1) (by rw [relA_len zeroM_ok.1, relA_len hrok.1]) (relA_one _) ?_; rw [World.setRow_alloc_new]; generalize w2.alloc (.cells (relA (relOr h ws)) 173) = w3 at *))
    go_ret2
    exact ⟨_, _, _, _, rfl, Lib.hid (by rw [hwk.out]; rfl), hx8⟩
  · have herr0 := herr.2 hwk
    subst herr0
    have hro : relOr h ws = inM h ws := by unfold relOr; rw [hwk]; rfl
    rw [hro] at hrok hb8 hx8 hA ⊢
    have hn32 : n ≤ 32 := by
      unfold wordOk at hwk
      simp only [Bool.and_eq_true, decide_eq_true_eq, hl.out] at hwk
      exact hwk.1
    replace hwk := Lib.hid hwk
    clear herr hA
    go_wp2_with (first | (refine wpList_store_row rfl 173 _ _ rfl w2.heap.size (relA (inM h ws)) rfl rfl 173 (relA zeroM) (RelB.new w2 zeroM) (size_of hrok.1) (by rw [relA_len zeroM_ok.1, relA_len hrok.1]) (relA_one _) ?_; rw [World.setRow_alloc_new]; generalize w2.alloc (.cells (relA (inM h ws)) 173) = w3 at *))
    refine (exists_any a n cap i hi w3).mono ?_
    rintro e w4 ⟨rfl, hx4⟩
    replace hb8 := hb8.ext hx4
    replace hx8 := hx8.trans hx4
    clear hx4
    generalize w2.heap.size = b8 at *
    have hi33 : (i : Int) < 33 := by omega
    have hc := hb8.cell (rel_at hrok.1 (i := i) (by omega))
    have hv33 := hrok.getD i
    have hend : endM h ws i = ((inM h ws).getD i 0 != 0) := rfl
    obtain ⟨v, hv⟩ : ∃ v, v = (inM h ws).getD i 0 := ⟨_, rfl⟩
    rw [← hv] at hc hv33 hend
    replace hv := Lib.hid hv
    replace hend := Lib.hid hend
    have h33' := Lib.hid hv33
    clear hv33
    go_wp2_with fail
    refine (all_calls v w4).mono ?_
    rintro e w5 ⟨rfl, hw5⟩
    have hb5 : Boxed w5 w4.heap.size 171 (.int .u64 (v : Int)) := by rw [hw5]; exact World.alloc_heap_new w4 _
    have hx5 : Ext w4 w5 := by rw [hw5]; exact Ext.alloc1 _ _
    have hz5 : w5.heap.size = w4.heap.size + 1 := by rw [hw5]; simp
    clear hw5
    have hle4 := hx8.le
    go_wp2_with fail
    refine (collectN_any _ _ (fun r => r = w4.heap.size) (bitsOf v) w w5 (hx8.trans hx5) (fun r hr => by omega) (enters_of Tryz.func113 (by kernel_rfl) rfl) (by have := bitsOf_len v; omega) (iterN_set h33'.out (boxed_more hb5 (Ext.alloc1 _ _)) hT)).mono ?_
    rintro e w6 ⟨a6, n6, c6, rfl, hn6, _, hx6⟩
    have hp := bitsOf_pos h33'.out
    replace hp := Lib.hid hp
    go_wp2_with fail
    go_ret2
    exact ⟨_, _, _, _, rfl, Lib.hid (by rw [hn6.out, hp.out, hwk.out, hend.out]; rfl), hx6⟩
end Go.Proofs.YtadncjpknckaaaaGreatDoor
namespace Go.Proofs.YtadncjpknckaaaaGreatDoor
open Go.RowKit
theorem heap_set {w : World} {B i : Nat} {cur : Array Value} {e : TypeId} {fr : Nat × Nat} (h : w.heap[B]? = some (.cells cur e fr)) (v : Value) : (w.setCell ⟨B, i, none⟩ v).heap[B]? = some (.cells (cur.setIfInBounds i v) e fr) := by
  show (w.heap.modify B _)[B]? = _
  rw [Array.getElem?_modify, if_pos rfl, h]; rfl
theorem frz3 {w : World} {B : Nat} {cur : Array Value} {e : TypeId} (h : w.heap[B]? = some (.cells cur e (0, 0))) :
    (∀ i, w.frozen? ⟨B, i, none⟩ = false) ∧ (∀ i (j : Nat) v, (w.setCell ⟨B, j, none⟩ v).frozen? ⟨B, i, none⟩ = false) ∧ (∀ i (j j' : Nat) v v', ((w.setCell ⟨B, j, none⟩ v).setCell ⟨B, j', none⟩ v').frozen? ⟨B, i, none⟩ = false) :=
  ⟨fun i => frozen_of_row w B i cur e h, fun i _ v => frozen_of_row _ B i _ e (heap_set h v), fun i _ _ v v' => frozen_of_row _ B i _ e (heap_set (heap_set h v) v')⟩
theorem res_cell {P : Program} {fn : Func} {p u : Tmp} {ty : TypeId} (h : fn.results = #[.cell p ty, .tmp u]) (tmps : Array Value) (w : World) (g : Nat) (t : TypeId) (cs : Array Value) (fr : Nat × Nat) (d : TypeDesc)
    (hp : tmps.getD p undef = .pointer (some ⟨g, 0, none⟩)) (hg : w.heap[g]? = some (.cells cs t fr))
    (hu : P.underlying ty = some d) (hd : (match d with | .struct _ | .array _ _ => true | _ => false) = true) (hi : (P.info? ty).map (·.size) = some cs.size) :
    (results fn tmps).run P w = .ok (.tuple #[.agg cs, tmps.getD u undef]) w := by
  rw [results_cell_tmp h, hp]
  simp [asAddr, Result.andThen, run_loadVar_row w g t ty cs fr d hg hu hd hi]
end Go.Proofs.YtadncjpknckaaaaGreatDoor
namespace Go.Proofs.YtadncjpknckaaaaGreatDoor
open Go.RowKit
/-! ### A sound in a block of its own -/
def SndB (w : World) (B : Nat) (s : Snd) : Prop := w.heap[B]? = some (.cells #[.int .u32 s.p.toNat, .int .u32 s.m.toNat] 52 (0, 0))
theorem SndB.ext {w w' : World} {B : Nat} {s : Snd} (h : SndB w B s) (hx : Ext w w') : SndB w' B s := (Below.block hx.bel B (Array.getElem?_eq_some_iff.1 h).1).trans h
theorem SndB.lt {w : World} {B : Nat} {s : Snd} (h : SndB w B s) : B < w.heap.size := (Array.getElem?_eq_some_iff.1 h).1
theorem SndB.set {w : World} {B : Nat} {s : Snd} (h : SndB w B s) (t : Snd) : SndB ((w.setCell ⟨B, 0, none⟩ (.int .u32 t.p.toNat)).setCell ⟨B, 1, none⟩ (.int .u32 t.m.toNat)) B t := heap_set (heap_set h _) _
theorem SndB.cells {w : World} {B : Nat} {s : Snd} (h : SndB w B s) : w.cell? ⟨B, 0, none⟩ = some (.int .u32 s.p.toNat) ∧ w.cell? ⟨B, 1, none⟩ = some (.int .u32 s.m.toNat) := by
  unfold SndB at h
  exact ⟨by simp [World.cell?, h], by simp [World.cell?, h]⟩
theorem SndB.frz {w : World} {B : Nat} {s : Snd} (h : SndB w B s) : (∀ i, w.frozen? ⟨B, i, none⟩ = false) ∧ (∀ i (j : Nat) v, (w.setCell ⟨B, j, none⟩ v).frozen? ⟨B, i, none⟩ = false) :=
  ⟨fun i => frozen_of_row w B i _ _ h, fun i _ v => frozen_of_row _ B i _ _ (heap_set h v)⟩
theorem SndB.new (w : World) (s : Snd) : SndB (w.alloc (.cells #[.int .u32 s.p.toNat, .int .u32 s.m.toNat] 52)) w.heap.size s := World.alloc_heap_new w _
theorem SndB.zero (w : World) : SndB (w.alloc (.cells #[.int .u32 0, .int .u32 0] 52)) w.heap.size z0S := World.alloc_heap_new w _
theorem SndB.grown {w w' : World} {b : Nat} {s : Snd} (h : SndB w b s) {row : Option Nat} (hg : w.grownBy w' row) (hr : row ≠ some b) : SndB w' b s :=
  (hg.block b h.lt (fun e => hr e.symm)).trans h
theorem ret_snd {fn : Func} {p : Tmp} (h : fn.results = #[.cell p 52]) (tmps : Array Value) (w : World) (g : Nat) (s : Snd) (hp : tmps.getD p undef = .pointer (some ⟨g, 0, none⟩)) (hg : SndB w g s) :
    (results fn tmps).run Tryz.prog w = .ok (sndV s) w := results_cell_row h _ _ g _ _ (0, 0) _ hp hg Tryz.underlying52 rfl (by kernel_rfl)
theorem ret_snd_t {fn : Func} {p u : Tmp} (h : fn.results = #[.cell p 52, .tmp u]) (tmps : Array Value) (w : World) (g : Nat) (s : Snd) (hp : tmps.getD p undef = .pointer (some ⟨g, 0, none⟩)) (hg : SndB w g s) :
    (results fn tmps).run Tryz.prog w = .ok (.tuple #[sndV s, tmps.getD u undef]) w := res_cell h _ _ g _ _ (0, 0) _ hp hg Tryz.underlying52 rfl (by kernel_rfl)
theorem snd_top (w : World) (c0 c1 : Obj) (S : Snd) : SndB (((w.alloc c0).alloc c1).alloc (.cells #[.int .u32 S.p.toNat, .int .u32 S.m.toNat] 52)) (w.heap.size + 1 + 1) S := by
  have := SndB.new ((w.alloc c0).alloc c1) S
  rwa [World.size_alloc, World.size_alloc] at this
theorem or_nat (x y : BitVec 32) : bits .or .u32 (x.toNat : Int) (y.toNat : Int) = (((x ||| y).toNat : Nat) : Int) := bits_or_u32 x y
theorem and_nat (y z : BitVec 32) : y.toNat &&& z.toNat = (y &&& z).toNat := (BitVec.toNat_and ..).symm
theorem mix_any (s t : Snd) (x : BitVec 32) (w : World) :
    Calls Tryz.prog 100 #[sndV s, sndV t, .int .u32 x.toNat] w fun e w' => e = .returned (sndV (mixM s t x)) ∧ Ext w w' := by
  go_enter Tryz.func100, Tryz.ntmps100
  go_wp2_with fail
  simp only [andn_nat, and_nat, or_nat]
  exact bodyPost_ret (ret_snd rfl _ _ (w.heap.size + 1 + 1) _ rfl (snd_top _ _ _ ⟨_, _⟩)) rfl ⟨rfl, (by repeat (first | exact Ext.refl _ | assumption | refine Ext.drew ?_ | refine Ext.drewN ?_ _ | refine Ext.alloc ?_ _ | refine Ext.trans ?_ (by assumption)))⟩
theorem has_any (s : Snd) (w : World) : Calls Tryz.prog 99 #[sndV s] w fun e w' => e = .returned (.int .u32 (hasM s).toNat) ∧ Ext w w' := by
  go_enter Tryz.func99, Tryz.ntmps99
  go_wp2_with fail
  go_ret
  exact ⟨rfl, (by repeat (first | exact Ext.refl _ | assumption | refine Ext.drew ?_ | refine Ext.drewN ?_ _ | refine Ext.alloc ?_ _ | refine Ext.trans ?_ (by assumption)))⟩
theorem three_snd (a b : Snd) (w : World) : SndB (((w.alloc (.cells #[.int .u32 a.p.toNat, .int .u32 a.m.toNat] 52)).alloc (.cells #[.int .u32 b.p.toNat, .int .u32 b.m.toNat] 52)).alloc (.cells #[.int .u32 0, .int .u32 0] 52)) w.heap.size a ∧ SndB (((w.alloc (.cells #[.int .u32 a.p.toNat, .int .u32 a.m.toNat] 52)).alloc (.cells #[.int .u32 b.p.toNat, .int .u32 b.m.toNat] 52)).alloc (.cells #[.int .u32 0, .int .u32 0] 52)) (w.heap.size + 1) b ∧ SndB (((w.alloc (.cells #[.int .u32 a.p.toNat, .int .u32 a.m.toNat] 52)).alloc (.cells #[.int .u32 b.p.toNat, .int .u32 b.m.toNat] 52)).alloc (.cells #[.int .u32 0, .int .u32 0] 52)) (w.heap.size + 1 + 1) z0S ∧ Ext w (((w.alloc (.cells #[.int .u32 a.p.toNat, .int .u32 a.m.toNat] 52)).alloc (.cells #[.int .u32 b.p.toNat, .int .u32 b.m.toNat] 52)).alloc (.cells #[.int .u32 0, .int .u32 0] 52)) := by
  refine ⟨((SndB.new w a).ext (Ext.alloc1 _ _)).ext (Ext.alloc1 _ _), ?_, ?_, (by repeat (first | exact Ext.refl _ | refine Ext.drew ?_ | refine Ext.drewN ?_ _ | refine Ext.alloc ?_ _))⟩
  · have := (SndB.new (w.alloc (.cells #[.int .u32 a.p.toNat, .int .u32 a.m.toNat] 52)) b).ext (Ext.alloc1 _ (.cells #[.int .u32 0, .int .u32 0] 52))
    rwa [World.size_alloc] at this
  · have := SndB.zero ((w.alloc (.cells #[.int .u32 a.p.toNat, .int .u32 a.m.toNat] 52)).alloc (.cells #[.int .u32 b.p.toNat, .int .u32 b.m.toNat] 52))
    rwa [World.size_alloc, World.size_alloc] at this
/-- A sound, and whatever error. -/
def RetSE (s : Snd) (err : Int) (w : World) (e : Ending) (w' : World) : Prop := e = .returned (.tuple #[sndV s, .int .i64 err]) ∧ Ext w w'
def takeE (s f : Snd) (mask : BitVec 32) : Int := if s.ok && f.ok then (if mask.toNat ≤ 16777215 then 0 else 2) else 14
def changeE (s : Snd) (cl : BitVec 32) (st : Snd) : Int := if s.ok && st.ok then (if cl.toNat ≤ 16777215 ∧ cl &&& hasM st = 0#32 then 0 else 2) else 14
set_option maxHeartbeats 1000000 in
theorem take_any (s f : Snd) (mask : BitVec 32) (w : World) : Calls Tryz.prog 84 #[sndV s, sndV f, .int .u32 mask.toNat] w (RetSE (takeM s f mask) (takeE s f mask) w) := by
  obtain ⟨t0, t1, t2, tx⟩ := three_snd s f w
  obtain ⟨b2, hb2e⟩ : ∃ b, b = w.heap.size + 1 + 1 := ⟨_, rfl⟩
  have hb2 : w.heap.size ≤ b2 := by omega
  rw [← hb2e] at t2
  obtain ⟨R, E, hR⟩ : ∃ R E, R = takeM s f mask ∧ E = takeE s f mask := ⟨_, _, rfl, rfl⟩
  rw [← hR.1, ← hR.2]
  unfold takeM takeE at hR
  replace hR := Lib.hid hR
  go_enter Tryz.func84, Tryz.ntmps84
  go_wp2_with fail
  rw [← hb2e]
  replace hb2e := Lib.hid hb2e
  replace hb2 := Lib.hid hb2
  generalize (((w.alloc (.cells #[.int .u32 s.p.toNat, .int .u32 s.m.toNat] 52)).alloc (.cells #[.int .u32 f.p.toNat, .int .u32 f.m.toNat] 52)).alloc (.cells #[.int .u32 0, .int .u32 0] 52)) = w1 at *
  replace hR := hR.out
  cases hs : s.ok
  · have hM : R = z0S ∧ E = 14 := by rw [hR.1, hR.2, hs]; exact ⟨rfl, rfl⟩
    replace hM := Lib.hid hM
    clear hR
    refine (cbool (fvalid_any s w1) hs).mono ?_
    rintro e w2 ⟨rfl, hx2⟩
    replace t2 := t2.ext hx2
    replace tx := tx.trans hx2
    obtain ⟨z0, z1⟩ := t2.cells
    obtain ⟨y0, y1⟩ := t2.frz
    go_wp2_with fail
    refine bodyPost_ret (ret_snd_t rfl _ _ b2 z0S rfl (SndB.set t2 z0S)) rfl ?_
    exact ⟨by rw [hM.out.1, hM.out.2]; rfl, ext_set (ext_set tx hb2.out _ _) hb2.out _ _⟩
  · refine (cbool (fvalid_any s w1) hs).mono ?_
    rintro e w2 ⟨rfl, hx2⟩
    replace t0 := t0.ext hx2
    replace t1 := t1.ext hx2
    replace t2 := t2.ext hx2
    replace tx := tx.trans hx2
    clear hx2
    obtain ⟨p0, p1⟩ := t1.cells
    replace hR := Lib.hid hR
    go_wp2_with fail
    cases hf : f.ok
    · have hM : R = z0S ∧ E = 14 := by rw [hR.out.1, hR.out.2, hs, hf]; exact ⟨rfl, rfl⟩
      replace hM := Lib.hid hM
      clear hR
      refine (cbool (fvalid_any f w2) hf).mono ?_
      rintro e w3 ⟨rfl, hx3⟩
      replace t2 := t2.ext hx3
      replace tx := tx.trans hx3
      obtain ⟨z0, z1⟩ := t2.cells
      obtain ⟨y0, y1⟩ := t2.frz
      go_wp2_with fail
      refine bodyPost_ret (ret_snd_t rfl _ _ b2 z0S rfl (SndB.set t2 z0S)) rfl ?_
      exact ⟨by rw [hM.out.1, hM.out.2]; rfl, ext_set (ext_set tx hb2.out _ _) hb2.out _ _⟩
    · refine (cbool (fvalid_any f w2) hf).mono ?_
      rintro e w3 ⟨rfl, hx3⟩
      replace t0 := t0.ext hx3
      replace t1 := t1.ext hx3
      replace t2 := t2.ext hx3
      replace tx := tx.trans hx3
      clear hx3 p0 p1
      by_cases hm : mask.toNat ≤ 16777215
      · have hM : R = mixM s f mask ∧ E = 0 := by rw [hR.out.1, hR.out.2, hs, hf]; simp [hm]
        have hm1 : ¬ (16777215 : Int) < (mask.toNat : Int) := by omega
        replace hM := Lib.hid hM
        replace hm := Lib.hid hm
        clear hR
        obtain ⟨r0, r1⟩ := t0.cells
        obtain ⟨q0, q1⟩ := t1.cells
        go_wp2_with fail
        refine (mix_any s f mask w3).mono ?_
        rintro e w4 ⟨rfl, hx4⟩
        replace t2 := t2.ext hx4
        replace tx := tx.trans hx4
        clear r0 r1 q0 q1
        obtain ⟨z0, z1⟩ := t2.cells
        obtain ⟨y0, y1⟩ := t2.frz
        go_wp2_with fail
        refine bodyPost_ret (ret_snd_t rfl _ _ b2 (mixM s f mask) rfl (SndB.set t2 (mixM s f mask))) rfl ?_
        exact ⟨by rw [hM.out.1, hM.out.2]; rfl, ext_set (ext_set tx hb2.out _ _) hb2.out _ _⟩
      · have hM : R = z0S ∧ E = 2 := by rw [hR.out.1, hR.out.2, hs, hf]; simp [hm]
        have hm1 : (16777215 : Int) < (mask.toNat : Int) := by omega
        replace hM := Lib.hid hM
        replace hm := Lib.hid hm
        clear hR
        obtain ⟨z0, z1⟩ := t2.cells
        obtain ⟨y0, y1⟩ := t2.frz
        go_wp2_with fail
        refine bodyPost_ret (ret_snd_t rfl _ _ b2 z0S rfl (SndB.set t2 z0S)) rfl ?_
        exact ⟨by rw [hM.out.1, hM.out.2]; rfl, ext_set (ext_set tx hb2.out _ _) hb2.out _ _⟩
/-! ### Change -/
set_option maxHeartbeats 1000000 in
theorem change_any (s : Snd) (cl : BitVec 32) (st : Snd) (w : World) : Calls Tryz.prog 83 #[sndV s, .int .u32 cl.toNat, sndV st] w (RetSE (changeM s cl st) (changeE s cl st) w) := by
  obtain ⟨t0, t1, t2, tx⟩ := three_snd s st w
  obtain ⟨b2, hb2e⟩ : ∃ b, b = w.heap.size + 1 + 1 := ⟨_, rfl⟩
  have hb2 : w.heap.size ≤ b2 := by omega
  rw [← hb2e] at t2
  obtain ⟨R, E, hR⟩ : ∃ R E, R = changeM s cl st ∧ E = changeE s cl st := ⟨_, _, rfl, rfl⟩
  rw [← hR.1, ← hR.2]
  unfold changeM changeE at hR
  replace hR := Lib.hid hR
  go_enter Tryz.func83, Tryz.ntmps83
  go_wp2_with fail
  rw [← hb2e]
  replace hb2e := Lib.hid hb2e
  replace hb2 := Lib.hid hb2
  generalize (((w.alloc (.cells #[.int .u32 s.p.toNat, .int .u32 s.m.toNat] 52)).alloc (.cells #[.int .u32 st.p.toNat, .int .u32 st.m.toNat] 52)).alloc (.cells #[.int .u32 0, .int .u32 0] 52)) = w1 at *
  replace hR := hR.out
  cases hs : s.ok
  · have hM : R = z0S ∧ E = 14 := by rw [hR.1, hR.2, hs]; exact ⟨rfl, rfl⟩
    replace hM := Lib.hid hM
    clear hR
    refine (cbool (fvalid_any s w1) hs).mono ?_
    rintro e w2 ⟨rfl, hx2⟩
    replace t2 := t2.ext hx2
    replace tx := tx.trans hx2
    obtain ⟨z0, z1⟩ := t2.cells
    obtain ⟨y0, y1⟩ := t2.frz
    go_wp2_with fail
    refine bodyPost_ret (ret_snd_t rfl _ _ b2 z0S rfl (SndB.set t2 z0S)) rfl ?_
    exact ⟨by rw [hM.out.1, hM.out.2]; rfl, ext_set (ext_set tx hb2.out _ _) hb2.out _ _⟩
  · refine (cbool (fvalid_any s w1) hs).mono ?_
    rintro e w2 ⟨rfl, hx2⟩
    replace t0 := t0.ext hx2
    replace t1 := t1.ext hx2
    replace t2 := t2.ext hx2
    replace tx := tx.trans hx2
    clear hx2
    obtain ⟨p0, p1⟩ := t1.cells
    replace hR := Lib.hid hR
    go_wp2_with fail
    cases hf : st.ok
    · have hM : R = z0S ∧ E = 14 := by rw [hR.out.1, hR.out.2, hs, hf]; exact ⟨rfl, rfl⟩
      replace hM := Lib.hid hM
      clear hR
      refine (cbool (fvalid_any st w2) hf).mono ?_
      rintro e w3 ⟨rfl, hx3⟩
      replace t2 := t2.ext hx3
      replace tx := tx.trans hx3
      obtain ⟨z0, z1⟩ := t2.cells
      obtain ⟨y0, y1⟩ := t2.frz
      go_wp2_with fail
      refine bodyPost_ret (ret_snd_t rfl _ _ b2 z0S rfl (SndB.set t2 z0S)) rfl ?_
      exact ⟨by rw [hM.out.1, hM.out.2]; rfl, ext_set (ext_set tx hb2.out _ _) hb2.out _ _⟩
    · refine (cbool (fvalid_any st w2) hf).mono ?_
      rintro e w3 ⟨rfl, hx3⟩
      replace t0 := t0.ext hx3
      replace t1 := t1.ext hx3
      replace t2 := t2.ext hx3
      replace tx := tx.trans hx3
      clear hx3 p0 p1
      obtain ⟨q0, q1⟩ := t1.cells
      by_cases hm : cl.toNat ≤ 16777215
      rotate_left
      · have hM : R = z0S ∧ E = 2 := by rw [hR.out.1, hR.out.2, hs, hf]; simp [hm]
        have hm1 : (16777215 : Int) < (cl.toNat : Int) := by omega
        replace hM := Lib.hid hM
        replace hm := Lib.hid hm
        clear hR
        obtain ⟨z0, z1⟩ := t2.cells
        obtain ⟨y0, y1⟩ := t2.frz
        go_wp2_with fail
        refine bodyPost_ret (ret_snd_t rfl _ _ b2 z0S rfl (SndB.set t2 z0S)) rfl ?_
        exact ⟨by rw [hM.out.1, hM.out.2]; rfl, ext_set (ext_set tx hb2.out _ _) hb2.out _ _⟩
      have hm1 : ¬ (16777215 : Int) < (cl.toNat : Int) := by omega
      replace hm := Lib.hid hm
      go_wp2_with fail
      refine (has_any st w3).mono ?_
      rintro e w4 ⟨rfl, hx4⟩
      replace t0 := t0.ext hx4
      replace t1 := t1.ext hx4
      replace t2 := t2.ext hx4
      replace tx := tx.trans hx4
      clear hx4 q0 q1
      by_cases hz : cl &&& hasM st = 0#32
      rotate_left
      · have hM : R = z0S ∧ E = 2 := by rw [hR.out.1, hR.out.2, hs, hf]; simp [hz]
        have hz1 : (((cl.toNat &&& (hasM st).toNat : Nat) : Int) == 0) = false := by rw [and_nat, u32_beq0]; simpa using hz
        have hz2 : ¬ ((cl.toNat &&& (hasM st).toNat : Nat) : Int) = 0 := by rw [and_nat]; exact fun e => hz ((u32_zero _).1 e)
        have hz3 : (((cl.toNat &&& (hasM st).toNat : Nat) : Int) != 0) = true := by simp only [bne, hz1, Bool.not_false]
        replace hM := Lib.hid hM
        replace hz := Lib.hid hz
        clear hR
        obtain ⟨z0, z1⟩ := t2.cells
        obtain ⟨y0, y1⟩ := t2.frz
        go_wp2_with fail
        refine bodyPost_ret (ret_snd_t rfl _ _ b2 z0S rfl (SndB.set t2 z0S)) rfl ?_
        exact ⟨by rw [hM.out.1, hM.out.2]; rfl, ext_set (ext_set tx hb2.out _ _) hb2.out _ _⟩
      · have hM : R = mixM s st (cl ||| hasM st) ∧ E = 0 := by rw [hR.out.1, hR.out.2, hs, hf]; simp [hm.out, hz]
        have hz1 : (((cl.toNat &&& (hasM st).toNat : Nat) : Int) == 0) = true := by rw [and_nat, u32_beq0]; simpa using hz
        have hz2 : ((cl.toNat &&& (hasM st).toNat : Nat) : Int) = 0 := by rw [and_nat]; exact (u32_zero _).2 hz
        replace hM := Lib.hid hM
        replace hz := Lib.hid hz
        clear hR
        have hz3 : (((cl.toNat &&& (hasM st).toNat : Nat) : Int) != 0) = false := by simp only [bne, hz1, Bool.not_true]
        obtain ⟨i0, i1⟩ := t0.cells
        obtain ⟨j0, j1⟩ := t1.cells
        have r0 := fun z : ExtOf w4 => z.cell i0
        have r1 := fun z : ExtOf w4 => z.cell i1
        have r2 := fun z : ExtOf w4 => z.cell j0
        have r3 := fun z : ExtOf w4 => z.cell j1
        clear i0 i1 j0 j1
        have hq1 := fun W => has_any st W
        have hq2 := fun W => mix_any s st (cl ||| hasM st) W
        go_wp2_with fail
        (refine wp_region_qxt 7 (by kernel_rfl) (by kernel_rfl) ?_
         simp only [List.take_succ_cons, List.take_zero, List.drop_succ_cons, List.drop_zero]
         repeat (go_big_quiet_step ((first | (go_at_call 99; exact calls_ext (hq1 _)) | (go_at_call 100; exact calls_ext (hq2 _)))))
         refine wpQuiet_nil ?_
         intro wq hw'
         have hxq := ext_of_ex hw'
         clear hw')
        clear r0 r1 r2 r3 hq1 hq2
        replace t2 := t2.ext hxq
        replace tx := tx.trans hxq
        obtain ⟨z0, z1⟩ := t2.cells
        obtain ⟨y0, y1⟩ := t2.frz
        go_wp2_with fail
        refine bodyPost_ret (ret_snd_t rfl _ _ b2 (mixM s st (cl ||| hasM st)) rfl (SndB.set t2 (mixM s st (cl ||| hasM st)))) rfl ?_
        exact ⟨by rw [hM.out.1, hM.out.2]; rfl, ext_set (ext_set tx hb2.out _ _) hb2.out _ _⟩
end Go.Proofs.YtadncjpknckaaaaGreatDoor
