/-
  natural.Gaps, walked.
-/
import Derived.Test.YtbnbfdbliokcaaaDoorJz
namespace Go.Proofs.YtbnbfdbliokcaaaDoor
open Go.RowKit Go.Maps Go.MapKept Go.ChangeMaps
theorem ranges_ne {α : Type} {k0 : Nat} {enc : α → List Value} {B0 : Nat} {e : TypeId} {w : World} {v : Value} {ys : List α} {P : Program} {k : TypeId} {R : Value → Option (DataW Unit × List MemPlace)} {b r n : Nat} {D : DataW Unit} {left : Lit → Bool} {cnt : Nat}
    (h : w.ranges P k R b r n D left cnt) (ho : OwnK k0 enc B0 e w v ys) : some b ≠ v.ownBlock ∧ some r ≠ v.ownBlock := by
  obtain ⟨es, clock, since, seen, c0, hb, _, _, _, hr, _⟩ := h
  exact ⟨OwnK.ne_obj ho hb (fun _ _ _ h => by cases h), OwnK.ne_obj ho hr (fun _ _ _ h => by cases h)⟩
theorem rng_app {α : Type} {k0 : Nat} {enc : α → List Value} {B0 : Nat} {e : TypeId} {w w' : World} {o : Obj} {v : Value} {ys : List α} {P : Program} {k : TypeId} {R : Value → Option (DataW Unit × List MemPlace)} {b r n : Nat} {D : DataW Unit} {left : Lit → Bool} {cnt : Nat}
    (h : w.ranges P k R b r n D left cnt) (ho : OwnK k0 enc B0 e w v ys) (hg : (w.alloc o).grownBy w' v.ownBlock) : w'.ranges P k R b r n D left cnt :=
  (h.alloc o).kept hg (ranges_ne h ho).1 (ranges_ne h ho).2
theorem own_rng {α : Type} {k0 : Nat} {enc : α → List Value} {B0 : Nat} {e : TypeId} {w w' : World} {v : Value} {ys : List α} {P : Program} {k : TypeId} {R : Value → Option (DataW Unit × List MemPlace)} {b r n : Nat} {D : DataW Unit} {left : Lit → Bool} {cnt : Nat}
    (h : w.ranges P k R b r n D left cnt) (ho : OwnK k0 enc B0 e w v ys) (hg : w.grownBy w' (some r)) : OwnK k0 enc B0 e w' v ys :=
  World.ownsRow.kept ho hg (.inr (fun e => (ranges_ne h ho).2 e.symm))
theorem TriB.new (w : World) (t : T3) : TriB (w.alloc (.cells #[.int .i64 (t.1 : Int), .int .i64 t.2.1, .int .i64 t.2.2] 84)) w.heap.size t := World.alloc_heap_new w _
theorem rng_ext {w w' : World} {P : Program} {k : TypeId} {R : Value → Option (DataW Unit × List MemPlace)} {b r n : Nat} {D : DataW Unit} {left : Lit → Bool} {cnt : Nat} (h : w.ranges P k R b r n D left cnt) (hx : Ext w w') : w'.ranges P k R b r n D left cnt :=
  h.kept hx.to_grown (fun h => by cases h) (fun h => by cases h)
/-- What is laid of the gaps when a key has come. -/
theorem gaps_step {TLs : List T3} {O G : List Snd} {left : Lit → Bool} {t : ST} {gp : ST → List Snd} (hT : t.1 ∈ TLs) (hG : G = gp t)
    (h : ∀ g, g ∈ O ↔ ∃ t : ST, t.1 ∈ TLs ∧ left (klU t) = false ∧ g ∈ gp t) :
    ∀ g, g ∈ O ++ G ↔ ∃ u : ST, u.1 ∈ TLs ∧ (left (klU u) && !(klU u).sameKey (klU t)) = false ∧ g ∈ gp u := by
  intro g
  rw [List.mem_append, h g]
  constructor
  · rintro (⟨u, h1, h2, h3⟩ | h4)
    · exact ⟨u, h1, by rw [h2]; rfl, h3⟩
    · exact ⟨t, hT, by rw [WideAt.sameKey_self (klU_lit t)]; simp, by rw [← hG]; exact h4⟩
  · rintro ⟨u, h1, h2, h3⟩
    cases hl : left (klU u) with
    | false => exact .inl ⟨u, h1, hl, h3⟩
    | true =>
      rw [hl] at h2
      have h4 : (klU u).sameKey (klU t) = true := by simpa using h2
      have := klU_inj _ _ (WideAt.sameKey_eq h4)
      subst this
      exact .inr (by rw [hG]; exact h3)
set_option maxHeartbeats 1000000 in
set_option maxRecDepth 20000 in
theorem gaps_any (a : Option Addr) (n cap : Nat) (xs : List Snd) (w : World) (hr : RdS w a n cap xs) (hT : TabOk w) :
    Calls Tryd.prog 27 #[.slice a n cap] w (RetG xs w) := by
  have hl := hr.len
  have hpr := pairs_any a n cap xs w hr
  unfold RetPr at hpr
  by_cases hc : chkI 256 xs = 0
  · obtain ⟨hn, hok, _⟩ := chkI_zero hc
    rw [hl] at hn
    have hat := fun k x h => prL_at (xs := xs) (k := k) (x := x) h
    have hLl : (prL xs).length ≤ 65536 := by
      unfold prL pairL
      rw [if_pos hc, hl]
      have := pairTo_len xs n
      rw [hl] at this
      exact Nat.le_trans this (Nat.le_trans (Nat.mul_le_mul hn hn) (by decide))
    have hTLd : turnL xs = turnTo xs (prL xs) (prL xs).length := rfl
    have hgp := fun g => gap_turns hc (g := g)
    have hsm : ∀ t ∈ turnL xs, t.1 < 24 ∧ (t.2.1 = 0 ∨ t.2.1 = 1 ∨ t.2.1 = -1) ∧ (t.2.2 = 0 ∨ t.2.2 = 1 ∨ t.2.2 = -1) := fun t h => by
      obtain ⟨_, _, _, _, h2⟩ := mem_turnTo.1 h
      exact turnF_small h2
    rw [hc] at hpr
    have hmm := @run_makeMap Tryd.prog
    generalize turnL xs = TL at *
    generalize prL xs = L at *
    replace hc := Lib.hid hc
    replace hok := Lib.hid hok
    replace hl := Lib.hid hl
    replace hat := Lib.hid hat
    replace hTLd := Lib.hid hTLd
    replace hgp := Lib.hid hgp
    replace hsm := Lib.hid hsm
    replace hLl := Lib.hid hLl
    go_enter Tryd.func27, Tryd.ntmps27
    go_wp2_with fail
    refine hpr.mono ?_
    rintro e w1 ⟨v, rfl, hown, hx1⟩
    clear hpr
    obtain ⟨a1, n1, c1, hn1, rfl, hrp⟩ := OwnK.rdn P2.len hown
    have hn1l : n1 ≤ 65536 := by rw [hn1]; exact hLl.out
    replace hn1 := Lib.hid hn1
    clear hown
    go_wp2_with fail
    have hM0 : MT (w1.alloc (.map #[] 0)) w1.heap.size 0 [] := ⟨0, by
      have : fT [] = fun _ => none := by funext y; simp [fT]
      rw [this]; exact MapC.made w1 Tryd.prog 84 3 klU⟩
    have hx0 : Ext w1 (w1.alloc (.map #[] 0)) := Ext.alloc1 _ _
    have hBm : w1.heap.size ≤ w1.heap.size := Nat.le_refl _
    generalize (w1.alloc (.map #[] 0)) = w2 at *
    obtain ⟨Bm, hBme⟩ : ∃ Bm, Bm = w1.heap.size := ⟨_, rfl⟩
    rw [← hBme] at hM0 ⊢
    have hBm : w1.heap.size ≤ Bm := by omega
    replace hBme := Lib.hid hBme
    clear hmm
    go_loopw [29] (fun i wr => ∃ k : Nat, k ≤ n1 ∧ i = .int .i64 k ∧ Hid (MT wr Bm (2 * k) (turnTo xs L k)) ∧ Ext w1 wr) (fun i _ => n1 - (intOf i).toNat)
    case atStart => exact ⟨0, Nat.zero_le _, rfl, Lib.hid hM0, hx0⟩
    case round =>
      clear hM0 hx0
      obtain ⟨k, hk, rfl, hM, hxw⟩ := hrel
      have hxa := hx1.trans hxw
      by_cases hlt : k < n1
      · have hki : (k : Int) < (n1 : Int) := by omega
        obtain ⟨b1, o1, x, rfl, hxk, hb1, d0, d1⟩ := (hrp.ext hxw).p2 hlt
        obtain ⟨s, t, hi1, hi2, hs, ht, hso, hto, hone⟩ := hat.out k x hxk.out
        obtain ⟨f, hf24, hal, hdi⟩ := alone_at hso hto hone
        have hsu := turnTo_succ hxk.out hs ht hal
        have hTA := turnTo_len xs L k
        obtain ⟨i1, i2⟩ := x
        simp only at *
        rw [hl.out] at hi1 hi2
        obtain ⟨b, off, s1, rfl, hs1, hb, p0, p1⟩ := (hr.ext hxa).snd hi1
        have e1 : s1 = s := by have := hs1.out; rw [hs] at this; exact (Option.some.inj this).symm
        subst e1
        obtain ⟨b2, off2, t1, heq, ht1, hb2, p2, p3⟩ := (hr.ext hxa).snd hi2
        cases heq
        have e2 : t1 = t := by have := ht1.out; rw [ht] at this; exact (Option.some.inj this).symm
        subst e2
        have hii1 : (i1 : Int) < (n : Int) := by omega
        have hii2 : (i2 : Int) < (n : Int) := by omega
        have hdf := fun W => diff_any s1 t1 W hso hto
        rw [hdi] at hdf
        have htz := fun W (h : TabOk W) => tz_any (bt f) (bt_ne f (by omega)) W h
        rw [ctz_bt ⟨f, hf24⟩] at htz
        simp only at htz
        have hgs := fun W => fget_any s1 f hso hf24 W
        have hgt := fun W => fget_any t1 f hto hf24 W
        have hrs := getS_range s1 f
        have hrt := getS_range t1 f
        obtain ⟨c0, c1⟩ := p2_box wr i1 i2
        have hxA := Ext.alloc1 wr (.cells #[.int .i64 i1, .int .i64 i2] 41)
        have p0 := hxA.cellv p0
        have p1 := hxA.cellv p1
        have p2 := hxA.cellv p2
        have p3 := hxA.cellv p3
        have hM := hM.out.kept hxA
        have hxw := hxw.trans hxA
        have hTt := hT.ext (hxa.trans hxA)
        replace hxk := Lib.hid hxk.out
        replace hs := Lib.hid hs
        replace ht := Lib.hid ht
        replace hs1 := Lib.hid hs1.out
        replace ht1 := Lib.hid ht1.out
        replace hsu := Lib.hid hsu
        replace hone := Lib.hid hone
        replace hal := Lib.hid hal
        replace hdi := Lib.hid hdi
        generalize getS s1 f = gs at *
        generalize getS t1 f = gt at *
        generalize turnTo xs L k = TA at *
        generalize bt f = D at *
        go_wp2_with fail
        clear hxA hxa
        generalize wr.heap.size = B at *
        generalize (wr.alloc (.cells #[.int .i64 i1, .int .i64 i2] 41)) = wC at *
        have r0 := fun z : ExtOf wC => z.cell p0
        have r1 := fun z : ExtOf wC => z.cell p1
        have r2 := fun z : ExtOf wC => z.cell p2
        have r3 := fun z : ExtOf wC => z.cell p3
        have r4 := fun z : ExtOf wC => z.cell c0
        have r5 := fun z : ExtOf wC => z.cell c1
        (refine wp_region_qx (by kernel_rfl) (by kernel_rfl) ?_
         repeat (go_big_quiet_step ((first | (go_at_call 32; exact calls_ext (hdf _)) | (go_at_call 61; exact calls_ext_same (htz _ (hTt.ext (ExtOf.h _)))))))
         refine wpQuiet_nil ?_
         intro wq hw'
         have hxq := ext_of_ex hw'
         clear hw')
        clear r0 r1 r2 r3 r4 r5 hdf htz
        have hM := hM.kept hxq
        have hxw := hxw.trans hxq
        have p0 := hxq.cellv p0
        have p1 := hxq.cellv p1
        have p2 := hxq.cellv p2
        have p3 := hxq.cellv p3
        have c0 := hxq.cellv c0
        have c1 := hxq.cellv c1
        clear hxq hTt
        rename World => wz
        have r0 := fun z : ExtOf wz => z.cell p0
        have r1 := fun z : ExtOf wz => z.cell p1
        have r2 := fun z : ExtOf wz => z.cell p2
        have r3 := fun z : ExtOf wz => z.cell p3
        have r4 := fun z : ExtOf wz => z.cell c0
        have r5 := fun z : ExtOf wz => z.cell c1
        go_wp2_with fail
        (refine wp_region_qx (by kernel_rfl) (by kernel_rfl) ?_
         repeat (go_big_quiet_step ((first | (go_at_call_of 41 s1; exact calls_ext (hgs _)) | (go_at_call_of 41 t1; exact calls_ext (hgt _)))))
         refine wpQuiet_nil ?_
         intro wq hw'
         have hxq := ext_of_ex hw'
         clear hw')
        clear r0 r1 r2 r3 r4 r5 hgs hgt p0 p1 p2 p3 c0 c1
        have hM := hM.kept hxq
        have hxw := hxw.trans hxq
        clear hxq
        rename World => wB
        have hTA : TA.length ≤ 1000000 := by omega
        go_wp2_with fail
        obtain ⟨v, v0, st, es1, es2, clk1, clk2, hvb, ⟨es0, clk0, hb0⟩, r1, r2, r3⟩ := MT.inc (W := wB.drew) (hM.kept (Ext.refl wB).drew) ⟨(f, gs, gt), small_of hf24 hrs hrt⟩ (by unfold maxLen; omega) hTA
        have hwv : IntKind.i64.wrap (v + 1) = v + 1 := IntWalk.i64_in _ (by omega)
        replace hb0 : wB.heap[Bm]? = some (.map es0 clk0) := hb0
        skip
        have hS0 : (fun W' : World => wB.drew.grownBy W' (some Bm) ∧ (W'.heap[Bm]? = wB.drew.heap[Bm]? ∨ W'.heap[Bm]? = some (.map es1 clk1))) wB.drew := ⟨World.grownBy.refl _ _, .inl rfl⟩
        refine wp_region_F (fun W' : World => wB.drew.grownBy W' (some Bm) ∧ (W'.heap[Bm]? = wB.drew.heap[Bm]? ∨ W'.heap[Bm]? = some (.map es1 clk1))) [0, 1, 2, 3, 4, 5, 6] (by kernel_rfl) ?_
        show wpF _ _ _ _ _ _ 10 _ _ _
        refine wpF_take (i := 0) (v := .map (some Bm)) rfl (by kernel_rfl) (by kernel_rfl) (by kernel_rfl) (by kernel_rfl) (fun _ _ _ h => h) (.inl ⟨rfl, fun W' hW' => ?_⟩) hS0 ?_
        · go_simp
        refine wpF_take (i := 1) (v := .int .i64 (f : Int)) rfl (by kernel_rfl) (by kernel_rfl) (by kernel_rfl) (by kernel_rfl) (fun _ _ _ h => h) (.inl ⟨rfl, fun W' hW' => ?_⟩) hS0 ?_
        · go_simp
        refine wpF_take (i := 2) (v := .int .i64 gs) rfl (by kernel_rfl) (by kernel_rfl) (by kernel_rfl) (by kernel_rfl) (fun _ _ _ h => h) (.inl ⟨rfl, fun W' hW' => ?_⟩) hS0 ?_
        · go_simp
        refine wpF_take (i := 3) (v := .int .i64 gt) rfl (by kernel_rfl) (by kernel_rfl) (by kernel_rfl) (by kernel_rfl) (fun _ _ _ h => h) (.inl ⟨rfl, fun W' hW' => ?_⟩) hS0 ?_
        · go_simp
        refine wpF_take (i := 4) (v := mkT ((f : Int), gs, gt)) rfl (by kernel_rfl) (by kernel_rfl) (by kernel_rfl) (by kernel_rfl) (fun _ _ _ h => h) (.inl ⟨rfl, fun W' hW' => ?_⟩) hS0 ?_
        · clear r1 r2 r3 hW' hS0
          go_simp
        refine wpF_take (i := 5) (v := .int .i64 v) rfl (by kernel_rfl) (by kernel_rfl) (by kernel_rfl) (by kernel_rfl) (fun _ _ _ h => h) (.inl ⟨rfl, fun W' hW' => ?_⟩) hS0 ?_
        · have s0 := r2 W' hW'.2
          clear hW' hS0 r1 r2 r3
          go_simp
        refine wpF_take (i := 6) (v := .int .i64 (v + 1)) rfl (by kernel_rfl) (by kernel_rfl) (by kernel_rfl) (by kernel_rfl) (fun _ _ _ h => h) (.inl ⟨rfl, fun W' hW' => ?_⟩) hS0 ?_
        · clear hW' hS0 r1 r2 r3
          go_simp
        refine wpF_step (k := 7) rfl (by kernel_rfl) rfl fun K4 hK4 => ?_
        have hmt1 : World.mapTurned wB.drew (setBlock wB.drew Bm (.map es1 clk1)) Bm := ⟨es0, clk0, es1, clk1, hb0, rfl⟩
        have hS1 : (fun W' : World => wB.drew.grownBy W' (some Bm) ∧ (W'.heap[Bm]? = wB.drew.heap[Bm]? ∨ W'.heap[Bm]? = some (.map es1 clk1))) (setBlock wB.drew Bm (.map es1 clk1)) := ⟨hmt1.grown, .inr (heap_setBlock_same hb0 _)⟩
        clear hS0
        go_simp
        refine hK4 _ _ hS1 ?_
        refine wpF_step (k := 8) rfl (by kernel_rfl) rfl fun K5 hK5 => ?_
        clear r1
        go_simp
        refine hK5 _ _ hS1 ?_
        obtain ⟨r4, r5⟩ := r3 (setBlock wB.drew Bm (.map es1 clk1)) (heap_setBlock_same hb0 _)
        replace r4 : (Instr.entryStore 83 (.map (some Bm)) (.int .i64 (st : Int)) (.int .i64 (v + 1))).run Tryd.prog (setBlock wB.drew Bm (.map es1 clk1)) = .ok () (setBlock (setBlock wB.drew Bm (.map es1 clk1)) Bm (.map es2 clk2)) := r4
        have hmt2 : World.mapTurned (setBlock wB.drew Bm (.map es1 clk1)) (setBlock (setBlock wB.drew Bm (.map es1 clk1)) Bm (.map es2 clk2)) Bm := ⟨es1, clk1, es2, clk2, heap_setBlock_same hb0 _, rfl⟩
        have hgr := hmt1.trans hmt2
        refine wpF_last (k := 9) rfl (by kernel_rfl) (by kernel_rfl) (by kernel_rfl) rfl fun K6 hK6 => ?_
        have hxw := (hxw.drew).grown hgr.grown (fun q e => by injection e with e; omega)
        clear r3 hS1
        go_simp
        refine hK6 _ _ ?_
        have hM := Lib.hid r5
        clear r5
        generalize (setBlock (setBlock wB.drew Bm (.map es1 clk1)) Bm (.map es2 clk2)) = wD at *
        clear r4 hmt1 hmt2 hgr r2 hb0
        rename World => wB
        have hTA : (TA ++ [(f, gs, gt)]).length ≤ 1000000 := by rw [List.length_append]; simp; omega
        clear hvb hwv
        go_wp2_with fail
        obtain ⟨v, v0, st, es1, es2, clk1, clk2, hvb, ⟨es0, clk0, hb0⟩, r1, r2, r3⟩ := MT.inc (W := wB.drew) (hM.kept (Ext.refl wB).drew) ⟨(f, gt, gs), small_of hf24 hrt hrs⟩ (by unfold maxLen; omega) hTA
        have hwv : IntKind.i64.wrap (v + 1) = v + 1 := IntWalk.i64_in _ (by omega)
        replace hb0 : wB.heap[Bm]? = some (.map es0 clk0) := hb0
        skip
        have hS0 : (fun W' : World => wB.drew.grownBy W' (some Bm) ∧ (W'.heap[Bm]? = wB.drew.heap[Bm]? ∨ W'.heap[Bm]? = some (.map es1 clk1))) wB.drew := ⟨World.grownBy.refl _ _, .inl rfl⟩
        refine wp_region_F (fun W' : World => wB.drew.grownBy W' (some Bm) ∧ (W'.heap[Bm]? = wB.drew.heap[Bm]? ∨ W'.heap[Bm]? = some (.map es1 clk1))) [0, 1, 2, 3, 4, 5, 6] (by kernel_rfl) ?_
        show wpF _ _ _ _ _ _ 10 _ _ _
        refine wpF_take (i := 0) (v := .map (some Bm)) rfl (by kernel_rfl) (by kernel_rfl) (by kernel_rfl) (by kernel_rfl) (fun _ _ _ h => h) (.inl ⟨rfl, fun W' hW' => ?_⟩) hS0 ?_
        · go_simp
        refine wpF_take (i := 1) (v := .int .i64 (f : Int)) rfl (by kernel_rfl) (by kernel_rfl) (by kernel_rfl) (by kernel_rfl) (fun _ _ _ h => h) (.inl ⟨rfl, fun W' hW' => ?_⟩) hS0 ?_
        · go_simp
        refine wpF_take (i := 2) (v := .int .i64 gt) rfl (by kernel_rfl) (by kernel_rfl) (by kernel_rfl) (by kernel_rfl) (fun _ _ _ h => h) (.inl ⟨rfl, fun W' hW' => ?_⟩) hS0 ?_
        · go_simp
        refine wpF_take (i := 3) (v := .int .i64 gs) rfl (by kernel_rfl) (by kernel_rfl) (by kernel_rfl) (by kernel_rfl) (fun _ _ _ h => h) (.inl ⟨rfl, fun W' hW' => ?_⟩) hS0 ?_
        · go_simp
        refine wpF_take (i := 4) (v := mkT ((f : Int), gt, gs)) rfl (by kernel_rfl) (by kernel_rfl) (by kernel_rfl) (by kernel_rfl) (fun _ _ _ h => h) (.inl ⟨rfl, fun W' hW' => ?_⟩) hS0 ?_
        · clear r1 r2 r3 hW' hS0
          go_simp
        refine wpF_take (i := 5) (v := .int .i64 v) rfl (by kernel_rfl) (by kernel_rfl) (by kernel_rfl) (by kernel_rfl) (fun _ _ _ h => h) (.inl ⟨rfl, fun W' hW' => ?_⟩) hS0 ?_
        · have s0 := r2 W' hW'.2
          clear hW' hS0 r1 r2 r3
          go_simp
        refine wpF_take (i := 6) (v := .int .i64 (v + 1)) rfl (by kernel_rfl) (by kernel_rfl) (by kernel_rfl) (by kernel_rfl) (fun _ _ _ h => h) (.inl ⟨rfl, fun W' hW' => ?_⟩) hS0 ?_
        · clear hW' hS0 r1 r2 r3
          go_simp
        refine wpF_step (k := 7) rfl (by kernel_rfl) rfl fun K4 hK4 => ?_
        have hmt1 : World.mapTurned wB.drew (setBlock wB.drew Bm (.map es1 clk1)) Bm := ⟨es0, clk0, es1, clk1, hb0, rfl⟩
        have hS1 : (fun W' : World => wB.drew.grownBy W' (some Bm) ∧ (W'.heap[Bm]? = wB.drew.heap[Bm]? ∨ W'.heap[Bm]? = some (.map es1 clk1))) (setBlock wB.drew Bm (.map es1 clk1)) := ⟨hmt1.grown, .inr (heap_setBlock_same hb0 _)⟩
        clear hS0
        go_simp
        refine hK4 _ _ hS1 ?_
        refine wpF_step (k := 8) rfl (by kernel_rfl) rfl fun K5 hK5 => ?_
        clear r1
        go_simp
        refine hK5 _ _ hS1 ?_
        obtain ⟨r4, r5⟩ := r3 (setBlock wB.drew Bm (.map es1 clk1)) (heap_setBlock_same hb0 _)
        replace r4 : (Instr.entryStore 83 (.map (some Bm)) (.int .i64 (st : Int)) (.int .i64 (v + 1))).run Tryd.prog (setBlock wB.drew Bm (.map es1 clk1)) = .ok () (setBlock (setBlock wB.drew Bm (.map es1 clk1)) Bm (.map es2 clk2)) := r4
        have hmt2 : World.mapTurned (setBlock wB.drew Bm (.map es1 clk1)) (setBlock (setBlock wB.drew Bm (.map es1 clk1)) Bm (.map es2 clk2)) Bm := ⟨es1, clk1, es2, clk2, heap_setBlock_same hb0 _, rfl⟩
        have hgr := hmt1.trans hmt2
        refine wpF_last (k := 9) rfl (by kernel_rfl) (by kernel_rfl) (by kernel_rfl) rfl fun K6 hK6 => ?_
        have hxw := (hxw.drew).grown hgr.grown (fun q e => by injection e with e; omega)
        clear r3 hS1
        go_simp
        refine hK6 _ _ ?_
        have hM := Lib.hid r5
        clear r5
        generalize (setBlock (setBlock wB.drew Bm (.map es1 clk1)) Bm (.map es2 clk2)) = wD at *
        clear r4 hmt1 hmt2 hgr r2 hb0
        go_wp2_with fail
        have hM := hM
        rw [← hsu.out] at hM
        refine ⟨⟨k + 1, hlt, by rw [Int.natCast_add]; rfl, Lib.hid ?_, hxw⟩, ?_⟩
        · have e : 2 * (k + 1) = 2 * k + 1 + 1 := by omega
          rw [e]; exact hM
        · exact (by simp [intOf]; omega)
      · have hkn : k = n1 := by omega
        have hM2 : MT wr Bm (2 * k) TL := by have := hM.out; rw [hTLd.out, ← hn1.out, ← hkn]; exact this
        clear hM
        subst hkn
        obtain ⟨c, D, hown, hsz, hDf, hDk⟩ := hM2
        have hcn : c ≤ 2 * k := by have := MapC.le (P := Tryd.prog) (k := 84) (e := 3) (kl := klU) (w := wr) (b := Bm) (n := 2 * k) (c := c) (f := fT TL) ⟨D, hown, hsz, hDf, hDk⟩; exact this
        obtain ⟨m, hm⟩ : ∃ m, m = 2 * k := ⟨_, rfl⟩
        rw [← hm] at hown hcn
        replace hDf := Lib.hid hDf
        replace hDk := Lib.hid hDk
        obtain ⟨r, hre⟩ : ∃ r, r = wr.heap.size := ⟨_, rfl⟩
        have hrl : w.heap.size ≤ r := by rw [hre]; exact hxa.le
        have hml : Hid (MT wr Bm 0 []) → True := fun _ => trivial
        clear hml
        go_wp2_with (at_range; refine wpList_range_own _ rfl _ 83 rfl 84 3 keyed_t3 Tryd.underlying83 _ Bm _ D rfl hown ?_; intro w0 hrg0 hg0 hs0)
        go_frame
        have hx0 : Ext w w0 := hxa.grown hg0 (fun q e => by cases e)
        rw [← hre] at hrg0 ⊢
        replace hre := Lib.hid hre
        have hm2 : m ≤ 140000 := by omega
        replace hm := Lib.hid hm
        go_loopw [12] (fun v wl => ∃ (left : Lit → Bool) (cnt : Nat) (O : List Snd), wl.ranges Tryd.prog 84 (plainElem Tryd.prog 3) Bm r m D left cnt ∧ OwnS w.heap.size 27 wl v O ∧ Hid (∀ g, g ∈ O ↔ ∃ t : ST, t.1 ∈ TL ∧ left (klU t) = false ∧ g ∈ gapsOf xs t.1) ∧ O.length + cnt * 256 ≤ 40000000 ∧ Ext w wl) (fun _ wl => wl.rangeLeft Bm r)
        case atStart =>
          refine ⟨_, _, [], hrg0, OwnK.nil _ _ _, Lib.hid (fun g => ?_), by simp; omega, hx0⟩
          constructor
          · intro h; cases h
          · rintro ⟨t, h1, h2, _⟩
            rw [(hDf.out t).1] at h2
            unfold fT at h2
            rw [if_pos h1] at h2; cases h2
        case round =>
          clear hrg0 hg0 hs0 hx0 hown
          obtain ⟨left, cnt, O, hrg, hown, hO, hlen, hxl⟩ := hrel
          go_wp2_with (at_next; refine wpList_next_ranges _ rfl _ rfl 84 keyed_t3 (plainElem Tryd.prog 3) mkT (Value.int .i64) (fun key kl h => let ⟨a, b, c, e, _⟩ := keyT3_inv h; ⟨(a, b, c), e⟩) (fun v y hv => by obtain ⟨c, rfl, _⟩ := plainElem_int_inv Tryd.underlying3 hv; exact ⟨c, rfl⟩) Bm r _ D left cnt rfl hrg ?_ ?_)
          · intro hc0 hl0
            have hL : ∀ g, g ∈ O ↔ GapP xs g := fun g => by
              rw [hO.out g, hgp.out g]
              constructor
              · rintro ⟨t, h1, _, h3⟩; exact ⟨t.1, h1, h3⟩
              · rintro ⟨t, h1, h3⟩
                obtain ⟨q1, q2, q3⟩ := hsm.out t h1
                exact ⟨⟨t, small_of q1 q2 q3⟩, h1, hl0 _, h3⟩
            replace hL := Lib.hid hL
            clear hrg hO hDf hDk hgp hsm
            rcases hown.2 with ⟨hnil, hk0⟩ | ⟨g, cap1, cur, hv, hbase, hrest⟩
            · subst hnil
              obtain rfl : O = [] := List.eq_nil_of_length_eq_zero hk0
              clear hown
              go_wp2_with (first | (go_at_call 62; refine (sortS_none none 0 _ _).mono ?_; rintro e w' ⟨rfl, rfl⟩) | (go_at_call 63; refine (compact_none 0 _).mono ?_; rintro e w' ⟨rfl, rfl⟩))
              go_ret2
              exact ⟨_, [], by rw [hc.out]; rfl, OwnK.nil _ _ _, fun _ => ⟨List.Pairwise.nil, hL.out⟩, fun _ => rfl, hxl⟩
            · subst hv
              have hs1 := sortS_any hxl hown (by omega)
              clear hown hrest
              go_wp2_with (go_at_call 62; refine hs1.mono ?_; rintro e w5 ⟨rfl, hx5, ts, hp, hsrt, hown5⟩)
              have hc1 := compactS_any hx5 hown5 (by omega)
              clear hs1
              go_wp2_with (go_at_call 63; refine hc1.mono ?_; rintro e w6 ⟨m6, rfl, hown6, hx6⟩)
              go_ret2
              have hcs := comp_srt hp (hsrt.imp (fun h => by omega))
              exact ⟨_, compS ts, by rw [hc.out]; rfl, hown6, fun _ => ⟨hcs.1, fun g => (hcs.2 g).trans (hL.out g)⟩, fun h => absurd hc.out h, hx6⟩
          · intro x1 x2 x3 c kl y1 y2 w4 cnt4 hkey hlk hv hat4 hrg4 hlt4 hg4 hs4 hen
            have hhas := ranges_has hrg keyed_t3 hlk
            have hml := hrg.left_eq
            obtain ⟨⟨⟨f, p, q⟩, hst⟩, rfl⟩ := hDk.out _ hhas
            have htx := keyed_t3.inj hkey (keyU _)
            have htT : (f, p, q) ∈ TL := by
              have := (hDf.out ⟨(f, p, q), hst⟩).1; rw [hhas] at this; unfold fT at this
              by_cases h : (f, p, q) ∈ TL
              · exact h
              · rw [if_neg h] at this; cases this
            obtain ⟨hf24, hp3, hq3⟩ := hsm.out _ htT
            have htx3 : x1 = (f : Int) ∧ x2 = p ∧ x3 = q := by
              simp only [Value.agg.injEq] at htx; simpa using htx
            obtain ⟨e1, e2, e3⟩ := htx3
            subst e1 e2 e3
            have hstep : ∀ G, G = gapsOf xs (f, x2, x3) → ∀ g, g ∈ O ++ G ↔ ∃ u : ST, u.1 ∈ TL ∧ (left (klU u) && !(klU u).sameKey (klU ⟨(f, x2, x3), hst⟩)) = false ∧ g ∈ gapsOf xs u.1 := fun G hG =>
              gaps_step (gp := fun u => gapsOf xs u.1) htT hG hO.out
            have hown4 := own_rng hrg hown hg4
            have hx4 : Ext w w4 := hxl.grown hg4 (fun q e => by cases e; exact hrl)
            replace hstep := Lib.hid hstep
            replace hml := Lib.hid hml
            clear hrg hown hO hat4 hv hkey hlk hhas hg4 htx hs4 hDf hDk
            generalize klU ⟨(f, x2, x3), hst⟩ = kt at *
            have hTb := TriB.new w4 (f, x2, x3)
            have hxA := Ext.alloc1 w4 (.cells #[.int .i64 (f : Int), .int .i64 x2, .int .i64 x3] 84)
            have hrg5 := rng_ext hrg4 hxA
            have hown5 := hown4.kept hxA
            have hx5 := hx4.trans hxA
            go_wp2_with fail
            clear hen hrg4 hown4 hx4 hxA
            generalize w4.heap.size = B at *
            generalize (w4.alloc (.cells #[.int .i64 (f : Int), .int .i64 x2, .int .i64 x3] 84)) = w5 at *
            obtain ⟨wl0, rfl⟩ : ∃ wl0 : World, wl0 = wr := ⟨_, rfl⟩
            go_loopw [12, 86] (fun v i wl => ∃ j : Nat, j ≤ n ∧ i = .int .i64 j ∧ wl.ranges Tryd.prog 84 (plainElem Tryd.prog 3) Bm r m D (fun z => left z && !z.sameKey kt) cnt4 ∧ OwnS w.heap.size 27 wl v (O ++ gapsTo xs (f, x2, x3) j) ∧ TriB wl B (f, x2, x3) ∧ Ext w wl) (fun _ i _ => n - (intOf i).toNat)
            case atStart => exact ⟨0, Nat.zero_le _, rfl, hrg5, by simpa [gapsTo] using hown5, hTb, hx5⟩
            case round =>
              clear hrg5 hown5 hTb hx5
              obtain ⟨j, hj, rfl, hrg, hown, hTb, hxl⟩ := hrel
              by_cases hlj : j < n
              · have hji : (j : Int) < (n : Int) := by omega
                obtain ⟨b, off, s, rfl, hsj, hb, p0, p1⟩ := (hr.ext hxl).snd hlj
                have hso := hok.out s (List.mem_of_getElem? hsj.out)
                have hgsu := gapsTo_succ (t := (f, x2, x3)) hsj.out
                simp only at hgsu
                have hgl := gapsTo_len xs (f, x2, x3) j
                have hOl : (O ++ gapsTo xs (f, x2, x3) j).length ≤ 40000000 := by rw [List.length_append]; omega
                have q0 := SndB.new wr s
                have hxA := Ext.alloc1 wr (.cells #[.int .u32 s.p.toNat, .int .u32 s.m.toNat] 27)
                have hrg := rng_ext hrg hxA
                have hown := hown.kept hxA
                have hTb := hTb.ext hxA
                have hxl := hxl.trans hxA
                have hgs := fun W => fget_any s f hso hf24 W
                have hwi := fun W => fwith_any s f x3 W hso hf24 hq3
                replace hsj := Lib.hid hsj.out
                replace hgsu : Hid (O ++ gapsTo xs (f, x2, x3) (j + 1) = O ++ gapsTo xs (f, x2, x3) j ++ _) := Lib.hid (by rw [hgsu, List.append_assoc])
                generalize O ++ gapsTo xs (f, x2, x3) j = T at *
                generalize hgse : getS s f = gs at *
                generalize hge : putS s f x3 = g at *
                replace hgse := Lib.hid hgse
                replace hge := Lib.hid hge
                clear hgl
                go_wp2_with fail
                clear hxA p0 p1
                generalize wr.heap.size = C at *
                generalize (wr.alloc (.cells #[.int .u32 s.p.toNat, .int .u32 s.m.toNat] 27)) = wC at *
                obtain ⟨c0, c1⟩ := q0.cells
                obtain ⟨d0, d1, d2⟩ := hTb.cells
                simp only at d0 d1 d2
                have r0 := fun z : ExtOf wC => z.cell c0
                have r1 := fun z : ExtOf wC => z.cell c1
                have r2 := fun z : ExtOf wC => z.cell d0
                have r3 := fun z : ExtOf wC => z.cell d1
                clear c0 c1 d0 d1 d2
                (refine wp_region_qx (by kernel_rfl) (by kernel_rfl) ?_
                 repeat (go_big_quiet_step ((go_at_call 41; exact calls_ext (hgs _))))
                 refine wpQuiet_nil ?_
                 intro wq hw'
                 have hxq := ext_of_ex hw'
                 clear hw')
                clear r0 r1 r2 r3 hgs
                have hrg := rng_ext hrg hxq
                have hown := hown.kept hxq
                have hTb := hTb.ext hxq
                have hxl := hxl.trans hxq
                have q0 := q0.ext hxq
                clear hxq
                by_cases hgq : gs = x2
                · subst hgq
                  obtain ⟨c0, c1⟩ := q0.cells
                  obtain ⟨d0, d1, d2⟩ := hTb.cells
                  simp only at d0 d1 d2
                  go_wp2_with fail
                  refine (hwi _).mono ?_
                  rintro e w7 ⟨rfl, hx7⟩
                  clear c0 c1 d0 d1 d2 hwi q0
                  have hxA := hx7.trans (Ext.alloc1 w7 (.cells #[.int .u32 g.p.toNat, .int .u32 g.m.toNat] 27))
                  have hrg := rng_ext hrg hxA
                  have hown := hown.kept hxA
                  have hTb := hTb.ext hxA
                  have hxl := hxl.trans hxA
                  have q1 := SndB.new w7 g
                  obtain ⟨c0, c1⟩ := q1.cells
                  have hcn := containsS_any (some ⟨b, off, none⟩) n cap xs g _ (hr.ext hxl)
                  clear hxA hx7
                  by_cases hin : g ∈ xs
                  · rw [decide_eq_true hin] at hcn
                    rw [if_neg (fun h => h.2 hin), List.append_nil] at hgsu
                    go_wp2_with fail
                    refine hcn.mono ?_
                    rintro e w9 ⟨rfl, hx9⟩
                    go_wp2_with fail
                    (first | exact ⟨⟨j + 1, hlj, by go_num, rng_ext hrg hx9, by rw [hgsu.out]; exact hown.kept hx9, hTb.ext hx9, hxl.trans hx9⟩, (by simp [intOf]; omega)⟩ | (go_roundw; case rel => exact ⟨j + 1, hlj, by go_num, rng_ext hrg hx9, by rw [hgsu.out]; exact hown.kept hx9, hTb.ext hx9, hxl.trans hx9⟩; case measure => exact (by simp [intOf]; omega)))
                  · rw [decide_eq_false hin] at hcn
                    rw [if_pos ⟨by simp, hin⟩] at hgsu
                    go_wp2_with fail
                    refine hcn.mono ?_
                    rintro e w9 ⟨rfl, hx9⟩
                    have hrg := rng_ext hrg hx9
                    have hown := hown.kept hx9
                    have hTb := hTb.ext hx9
                    have hxl := hxl.trans hx9
                    obtain ⟨c2, c3⟩ := (q1.ext hx9).cells
                    clear hcn c0 c1 q1 hx9
                    go_wp2_with (at_builtin; refine wp_app1 w w9 g rfl _ _ 22 rfl 27 Tryd.underlying22 info_snd rfl (by decide) _ _ rfl hown hxl (by first | rfl | (rw [World.size_alloc]; rfl)) (Snd.len _) (Snd.one _) (by omega) (by unfold maxLen; omega) ?_; intro v5 w10 o5 x5 hgA)
                    have hrg' := rng_app hrg hown hgA
                    have hTb' := TriB.grown (hTb.ext (Ext.alloc1 _ _)) hgA (OwnK.ne_box hown hTb (by decide))
                    (first | exact ⟨⟨j + 1, hlj, by go_num, hrg', by rw [hgsu.out]; exact o5, hTb', x5⟩, (by simp [intOf]; omega)⟩ | (go_roundw; case rel => exact ⟨j + 1, hlj, by go_num, hrg', by rw [hgsu.out]; exact o5, hTb', x5⟩; case measure => exact (by simp [intOf]; omega)))
                · rw [if_neg (fun h => hgq h.1), List.append_nil] at hgsu
                  go_wp2_with fail
                  (first | exact ⟨⟨j + 1, hlj, by go_num, hrg, by rw [hgsu.out]; exact hown, hTb, hxl⟩, (by simp [intOf]; omega)⟩ | (go_roundw; case rel => exact ⟨j + 1, hlj, by go_num, hrg, by rw [hgsu.out]; exact hown, hTb, hxl⟩; case measure => exact (by simp [intOf]; omega)))
              · have hjn : j = n := by omega
                have hgo : gapsTo xs (f, x2, x3) j = gapsOf xs (f, x2, x3) := by unfold gapsOf; rw [hl.out, hjn]
                have hgl := gapsTo_len xs (f, x2, x3) j
                have hst2 := hstep.out _ hgo
                have hOl : (O ++ gapsTo xs (f, x2, x3) j).length + cnt4 * 256 ≤ 40000000 := by rw [List.length_append]; omega
                replace hst2 := Lib.hid hst2
                replace hjn := Lib.hid hjn
                replace hgo := Lib.hid hgo
                generalize O ++ gapsTo xs (f, x2, x3) j = T at *
                clear hstep hgl
                go_wp2_with fail
                have hm5 := hrg.left_eq
                go_roundw
                case rel => exact ⟨_, cnt4, T, hrg, hown, hst2, hOl, hxl⟩
                case measure => rw [hm5, hml.out]; omega
  · obtain ⟨E, hE⟩ : ∃ E, chkI 256 xs = E := ⟨_, rfl⟩
    rw [hE] at hpr hc
    have hd : (E != 0) = true := by simpa using hc
    replace hE := Lib.hid hE
    go_enter Tryd.func27, Tryd.ntmps27
    go_wp2_with fail
    refine hpr.mono ?_
    rintro e w1 ⟨v, rfl, hown, hx1⟩
    clear hpr
    go_wp2_with fail
    go_ret2
    exact ⟨_, [], by rw [hE.out]; rfl, OwnK.nil _ _ _, fun h => absurd (hE.out ▸ h) hc, fun _ => rfl, hx1⟩
end Go.Proofs.YtbnbfdbliokcaaaDoor
