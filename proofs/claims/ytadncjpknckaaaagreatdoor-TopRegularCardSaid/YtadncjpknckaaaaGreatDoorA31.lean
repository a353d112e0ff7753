/-
  Leaves of a tree: the program's (by the lists of children) and the reference's.
  Leaves of a tree.
-/
import Derived.Test.YtadncjpknckaaaaGreatDoorA30
import Derived.Deep.RegionLaw
import Derived.Maps.AppendAt
namespace Go.Proofs.YtadncjpknckaaaaGreatDoor
open Go.RowKit
/-- The children of node v among the first k nodes, without the root. -/
def kidsTo (ts : List Nd) (k v : Nat) : List Int := ((List.range k).filter fun u => decide (0 < u) && decide (((ts[u]?).map Nd.par) = some (v : Int))).map fun u : Nat => (u : Int)
theorem kidsTo_succ (ts : List Nd) (k v : Nat) : kidsTo ts (k + 1) v = kidsTo ts k v ++ if 0 < k ∧ (ts[k]?).map Nd.par = some (v : Int) then [(k : Int)] else [] := by
  unfold kidsTo
  rw [List.range_succ, List.filter_append, List.map_append]
  congr 1
  by_cases h : 0 < k ∧ (ts[k]?).map Nd.par = some (v : Int)
  · have hb : (decide (0 < k) && decide ((ts[k]?).map Nd.par = some (v : Int))) = true := by rw [decide_eq_true h.1, decide_eq_true h.2]; rfl
    rw [if_pos h, List.filter_cons, if_pos hb]; rfl
  · have hb : ¬ (decide (0 < k) && decide ((ts[k]?).map Nd.par = some (v : Int))) = true := by
      rw [Bool.and_eq_true, decide_eq_true_eq, decide_eq_true_eq]; exact h
    rw [if_neg h, List.filter_cons, if_neg hb]; rfl
theorem kidsTo_len (ts : List Nd) (k v : Nat) : (kidsTo ts k v).length ≤ k := by
  unfold kidsTo; rw [List.length_map]; have := List.length_filter_le (fun u => decide (0 < u) && decide (((ts[u]?).map Nd.par) = some (v : Int))) (List.range k); simpa using this
/-- Headers in a block, each of a row of the call's own; no two rows lie in one block. -/
structure Fam (B : Nat) (eo ei : TypeId) (w : World) (G n : Nat) (hd : Nat → Value) (xs : Nat → List Int) : Prop where
  base : B ≤ G
  blk : ∃ cur, w.heap[G]? = some (.cells cur eo (0, 0))
  head : ∀ v, v < n → w.cell? ⟨G, v, none⟩ = some (hd v)
  own : ∀ v, v < n → OwnI B ei w (hd v) (xs v)
  apart : ∀ u v g, u < n → v < n → u ≠ v → (hd u).ownBlock = some g → (hd v).ownBlock ≠ some g
theorem Fam.lt {B eo ei : Nat} {w : World} {G n : Nat} {hd : Nat → Value} {xs : Nat → List Int} (h : Fam B eo ei w G n hd xs) : G < w.heap.size := let ⟨_, hc⟩ := h.blk; (Array.getElem?_eq_some_iff.1 hc).1
theorem Fam.free {B eo ei : Nat} {w : World} {G n : Nat} {hd : Nat → Value} {xs : Nat → List Int} (h : Fam B eo ei w G n hd xs) (i : Nat) : w.frozen? ⟨G, i, none⟩ = false := let ⟨cur, hc⟩ := h.blk; frozen_of_row w G i cur eo hc
theorem Fam.ext {B eo ei : Nat} {w w' : World} {G n : Nat} {hd : Nat → Value} {xs : Nat → List Int} (h : Fam B eo ei w G n hd xs) (hx : Ext w w') : Fam B eo ei w' G n hd xs :=
  ⟨h.base, let ⟨cur, hc⟩ := h.blk; ⟨cur, (Below.block hx.bel G h.lt).trans hc⟩, fun v hv => by rw [hx.cell _ h.lt]; exact h.head v hv, fun v hv => (h.own v hv).kept hx, h.apart⟩
theorem Fam.start {B eo ei : Nat} (w : World) (hB : B ≤ w.heap.size) (cs : Array Value) (n : Nat) (hcs : ∀ r, r < n → cs[r]? = some (.slice none 0 0)) : Fam B eo ei (w.alloc (.cells cs eo)) w.heap.size n (fun _ => .slice none 0 0) (fun _ => []) := by
  have hnew : (w.alloc (.cells cs eo)).heap[w.heap.size]? = some (.cells cs eo (0, 0)) := by show (w.heap.push _)[w.heap.size]? = _; simp
  exact ⟨hB, ⟨_, hnew⟩, fun v hv => by simp only [World.cell?, hnew]; simpa using hcs v hv, fun v _ => OwnK.nil _ _ _, fun u v g _ _ _ h => by cases h⟩
/-- An append to one row, and its header stored. -/
theorem Fam.app {B eo ei : Nat} {w w5 : World} {G n : Nat} {hd : Nat → Value} {xs : Nat → List Int} (h : Fam B eo ei w G n hd xs) {p : Nat} (hp : p < n) {v' : Value} {x : Int} (hne : ei ≠ eo) (ho : OwnI B ei w5 v' (xs p ++ [x])) (hg : w.grownBy w5 (hd p).ownBlock) (hnew : ∀ g, v'.ownBlock = some g → (hd p).ownBlock = some g ∨ w.heap.size ≤ g) :
    Fam B eo ei (w5.setCell ⟨G, p, none⟩ v') G n (fun v => if v = p then v' else hd v) (fun v => if v = p then xs p ++ [x] else xs v) ∧ w5.cell? ⟨G, p, none⟩ = some (hd p) ∧ w5.frozen? ⟨G, p, none⟩ = false := by
  obtain ⟨cur, hc⟩ := h.blk
  have hGrow : some G ≠ (hd p).ownBlock := fun e => by
    obtain ⟨c2, h2⟩ := OwnK.blk (h.own p hp) e.symm
    rw [hc] at h2; cases h2; exact hne rfl
  have hb5 : w5.heap[G]? = some (.cells cur eo (0, 0)) := (hg.block G h.lt hGrow).trans hc
  have hcell : ∀ v, v < n → w5.cell? ⟨G, v, none⟩ = some (hd v) := fun v hv => by
    have := h.head v hv
    simp only [World.cell?, hc] at this
    simp only [World.cell?, hb5]; exact this
  have hset : w5.grownBy (w5.setCell ⟨G, p, none⟩ v') (some G) := ⟨rfl, rfl, rfl, by simp, fun k hk hn => by
    have : k ≠ G := fun e => hn (by rw [e])
    show (w5.heap.modify G _)[k]? = _
    rw [Array.getElem?_modify, if_neg (Ne.symm this)]⟩
  have hblk2 : ∃ cur, (w5.setCell ⟨G, p, none⟩ v').heap[G]? = some (.cells cur eo (0, 0)) := by
    refine ⟨cur.setIfInBounds p v', ?_⟩
    show (w5.heap.modify G _)[G]? = _
    rw [Array.getElem?_modify, if_pos rfl, hb5]; rfl
  refine ⟨⟨h.base, hblk2, fun v hv => ?_, fun v hv => ?_, fun u v g hu hv hne2 e => ?_⟩, hcell p hp, frozen_of_row w5 G p cur eo hb5⟩
  · by_cases e : v = p
    · subst e; simp only [if_true]
      exact World.cell?_setCell_same' _ _ _ (by rw [hcell v hv]; rfl)
    · simp only [if_neg e]
      rw [cell_other (.inr (Ne.symm e))]; exact hcell v hv
  · by_cases e : v = p
    · subst e; simp only [if_true]
      exact OwnK.other ho hset (fun g hg2 => by cases hg2; exact ⟨cur, _, hb5⟩) hne
    · simp only [if_neg e]
      have h1 : OwnI B ei w5 (hd v) (xs v) := World.ownsRow.kept (h.own v hv) hg (by
        cases hb : (hd v).ownBlock with
        | none => exact .inl rfl
        | some b => exact .inr fun e2 => h.apart p v b hp hv (Ne.symm e) e2.symm hb)
      exact OwnK.other h1 hset (fun g hg2 => by cases hg2; exact ⟨cur, _, hb5⟩) hne
  · have hltb : ∀ z, z < n → ∀ g, (hd z).ownBlock = some g → g < w.heap.size := fun z hz g hg2 => (World.ownsRow.lt (h.own z hz) g hg2).2
    by_cases e1 : u = p
    · subst e1
      simp only [if_true, if_neg (Ne.symm hne2)] at e ⊢
      intro e2
      rcases hnew g e with h1 | h1
      · exact h.apart u v g hu hv hne2 h1 e2
      · have := hltb v hv g e2; omega
    · by_cases e3 : v = p
      · subst e3
        simp only [if_true, if_neg e1] at e ⊢
        intro e2
        rcases hnew g e2 with h1 | h1
        · exact h.apart v u g hv hu (Ne.symm hne2) h1 e
        · have := hltb u hu g e; omega
      · simp only [if_neg e1, if_neg e3] at e ⊢
        exact h.apart u v g hu hv hne2 e
/-! ### families -/
theorem info_int : (Tryz.prog.info? 3).map (fun i => (i.zero, i.size, i.bytes)) = some (some (.int .i64 0), 1, 8) := by kernel_rfl
theorem info_ints : (Tryz.prog.info? 35).map (fun i => (i.zero, i.size, i.bytes)) = some (some (.slice none 0 0), 1, 24) := by kernel_rfl
theorem mk_ints (n : Nat) (hn : n ≤ 60000) (w : World) : (Instr.makeSlice 35 (.int .i64 (n : Int)) (.int .i64 (n : Int))).run Tryz.prog w = .ok (.slice (some ⟨w.heap.size, 0, none⟩) n n) (w.alloc (.cells (zInts n) 3)) :=
  run_mk 35 Tryz.underlying35 info_int n hn (by omega) w
theorem mk_rows (n : Nat) (hn : n ≤ 60000) (w : World) : (Instr.makeSlice 24 (.int .i64 (n : Int)) (.int .i64 (n : Int))).run Tryz.prog w = .ok (.slice (some ⟨w.heap.size, 0, none⟩) n n) (w.alloc (.cells (zHdrs n) 35)) :=
  run_mk 24 Tryz.underlying24 info_ints n hn (by omega) w
theorem treeB_len {ts : List Nd} (h : treeB ts = true) : 1 ≤ ts.length ∧ ts.length ≤ 63 := by
  simp only [treeB, Bool.and_eq_true, decide_eq_true_eq] at h; exact ⟨h.1, h.2.1⟩
theorem treeB_node {ts : List Nd} (h : treeB ts = true) {v : Nat} {x : Nd} (hv : ts[v]? = some x) : parB v x.par = true ∧ tnB x.name = true ∧ ¬ x.key ∈ (ts.take v).map Nd.key := by
  simp only [treeB, Bool.and_eq_true, decide_eq_true_eq] at h
  have := List.all_eq_true.1 h.2.2 v (List.mem_range.2 (List.getElem?_eq_some_iff.1 hv).1)
  simp only [nodeB, hv, Bool.and_eq_true, Bool.not_eq_true', decide_eq_false_iff_not] at this
  exact ⟨this.1, this.2.1, this.2.2⟩
theorem treeB_par {ts : List Nd} (h : treeB ts = true) {v : Nat} {x : Nd} (hv : ts[v]? = some x) (h0 : 0 < v) : 0 ≤ x.par ∧ x.par < v := by
  have := (treeB_node h hv).1
  unfold parB at this
  rw [if_neg (by omega)] at this
  simpa using this
theorem treeB_root {ts : List Nd} (h : treeB ts = true) {x : Nd} (hv : ts[0]? = some x) : x.par = -1 := by
  have := (treeB_node h hv).1
  simpa [parB] using this
theorem one_rd (w : World) (e : TypeId) (x : Int) : RdI (w.alloc (.cells #[.int .i64 x] e)) (some ⟨w.heap.size, 0, none⟩) 1 1 [x] :=
  OwnK.rdc I64.len (lit_own I64.len w e [x] #[.int .i64 x] rfl rfl (by omega))
/-- append of one integer, as a step of a region: and where the new row lies. -/
theorem step_appI {P : Program} {ops : Array Oper} {o : Oper} {a : Act} {Q : Exit → Act → World → Prop} {E : Prop} {K : Act → World → Prop} (w00 w : World) (y : Int) (hgd : o.guard = none) (s x : Operand) (t : TypeId)
    (ho : o.op = .call { callee := .builtin .append, args := #[s, x], argTypes := #[t, t] }) (e : TypeId) (ht : P.underlying t = some (.slice e))
    (hinf : (P.info? e).map (fun i => (i.zero, i.size, i.bytes)) = some (some (.int .i64 0), 1, 8))
    (v : Value) (xs : List Int) (hs : a.eval s = v) (hown : OwnI w00.heap.size e w v xs) (hx0 : Ext w00 w) (ad : Addr) (hx : a.eval x = .slice (some ad) 1 1) (hrd : RdI w (some ad) 1 1 [y]) (hN : xs.length ≤ 60000)
    (h : ∀ v' w', OwnI w00.heap.size e w' v' (xs ++ [y]) → Ext w00 w' → w.grownBy w' v.ownBlock → (v'.ownBlock = v.ownBlock ∨ v'.ownBlock = some w.heap.size) → K (a.put o.dst v') w') :
    if Region.wanted o (yielded ops a.tmps) = true then Oper.wp P o a w K Q else E := by
  have hw : Region.wanted o (yielded ops a.tmps) = true := by simp [Region.wanted, hgd]
  rw [if_pos hw]
  obtain ⟨i, hi, hz0, hz1, hz2⟩ := info_parts hinf
  have h1' : ∀ u ∈ [y].flatMap I64.enc, u.oneCell' = true := fun u hu => by
    obtain ⟨z, _, hz⟩ := List.mem_flatMap.1 hu
    exact I64.one z u hz
  obtain ⟨v', w', hr, h2, h3, _, h5⟩ := run_append_own_at (P := P) (w := w) w00.heap.size t o.type e i (.int .i64 0) 1 8 ht hi hz0 hz1 hz2 rfl (by decide) v xs.length (xs.flatMap I64.enc) hown ad 1 1 ([y].flatMap I64.enc) rfl (hrd.cells I64.len (by decide)) h1' (by unfold maxLen; omega) (by omega) hx0.le
  unfold Oper.wp execOp
  simp only [ho, resolve, invoke, builtin, Sem.run_bind, Sem.run_pure, Result.andThen_ok, List.map_toArray, List.map_cons, List.map_nil, hs, hx, hr]
  exact h v' w' (OwnK.of_row h2 (by simp) (by simp)) (Ext.grown hx0 h3 fun j hj => (World.ownsRow.lt hown j hj).1) h3 h5
set_option maxHeartbeats 2000000 in
theorem families_any (a : Option Addr) (n cap : Nat) (ts : List Nd) (w : World) (hr : RdN w a n cap ts) (ht : treeB ts = true) :
    Calls Tryz.prog 30 #[.slice a n cap] w fun e w' => ∃ G hd, e = .returned (.slice (some ⟨G, 0, none⟩) n n) ∧ Fam w.heap.size 35 3 w' G n hd (kidsTo ts n) ∧ Ext w w' := by
  have hl := hr.rd.len
  have hn1 := treeB_len ht
  rw [hl] at hn1
  have hmk := fun W => mk_rows n (by omega) W
  have hmax : n ≤ 9223372036854775807 := by omega
  replace hl := Lib.hid hl
  go_enter Tryz.func30, Tryz.ntmps30
  go_wp2_with fail
  go_loopw [11] (fun i wr => ∃ (k : Nat) (hd : Nat → Value), k ≤ n ∧ i = .int .i64 k ∧ Ext w wr ∧ Fam w.heap.size 35 3 wr w.heap.size n hd (kidsTo ts k)) (fun i _ => n - (intOf i).toNat)
  case atStart => exact ⟨0, _, Nat.zero_le _, rfl, Ext.alloc1 _ _, Fam.start w (Nat.le_refl _) _ n (fun r hr => zHdrs_at _ _ hr)⟩
  case round =>
    obtain ⟨k, hd, hk, rfl, hx, hF⟩ := hrel
    by_cases hlt : k < n
    · obtain ⟨b, off, x, rfl, hs, hb, hc0, hc1, hsz⟩ := (hr.ext hx).nd hlt
      by_cases hk0 : 0 < k
      · have hdk : decide ((0 : Int) < (k : Int)) = true := by simp; omega
        obtain ⟨hp0, hp1⟩ := treeB_par ht hs.out hk0
        obtain ⟨p, hp⟩ := Int.eq_ofNat_of_zero_le hp0
        rw [hp] at hc0 hp0 hp1
        have hpn : p < n := by omega
        go_wp2_with fail
        have hFz := hF.ext (Ext.alloc1 wr (.cells #[.int .i64 (p : Int), .string x.name] 60))
        have hxz : Ext w (wr.alloc (.cells #[.int .i64 (p : Int), .string x.name] 60)) := hx.alloc _
        have hnb0 := cell_new_list wr [.int .i64 (p : Int), .string x.name] 60 0 _ rfl
        have hnbe : (wr.alloc (.cells #[.int .i64 (p : Int), .string x.name] 60)).cell? ⟨wr.heap.size, 0, none⟩ = some (.int .i64 (p : Int)) := by exact hnb0
        have hnbb := World.alloc_heap_new wr (.cells #[.int .i64 (p : Int), .string x.name] 60)
        obtain ⟨bN, hbN⟩ : ∃ y, y = wr.heap.size := ⟨_, rfl⟩
        have hbG : bN ≠ w.heap.size := by have := hF.lt; omega
        rw [← hbN] at hnbe hnbb ⊢
        obtain ⟨wz, hwz⟩ : ∃ y, y = wr.alloc (.cells #[.int .i64 (p : Int), .string x.name] 60) := ⟨_, rfl⟩
        rw [← hwz] at hFz hxz hnbe hnbb ⊢
        replace hnbb := Lib.hid hnbb
        clear hnb0 hwz hbN hF hx hc0 hc1 hb
        have hgp := hFz.head p hpn
        have hgf := hFz.free p
        have hop := hFz.own p hpn
        have hlen := kidsTo_len ts k p
        have hp1n : (p : Int) < (n : Int) := by omega
        have hGlt := hFz.lt
        have hGne : w.heap.size ≠ wz.heap.size := by omega
        have hbNlt := cell_lt hnbe
        simp only at hbNlt
        have hbNne : bN ≠ wz.heap.size := by omega
        have hFa := hFz.ext ((Ext.alloc1 wz (.cells #[.int .i64 (k : Int)] 3)).drew)
        have happ : ∀ (v5 : Value) (w5 : World), OwnI w.heap.size 3 w5 v5 (kidsTo ts k p ++ [(k : Int)]) → (wz.alloc (.cells #[.int .i64 (k : Int)] 3)).drew.grownBy w5 (hd p).ownBlock → (v5.ownBlock = (hd p).ownBlock ∨ v5.ownBlock = some (wz.alloc (.cells #[.int .i64 (k : Int)] 3)).drew.heap.size) → w5.cell? ⟨bN, 0, none⟩ = some (.int .i64 (p : Int)) ∧ w5.cell? ⟨w.heap.size, p, none⟩ = some (hd p) ∧ w5.frozen? ⟨w.heap.size, p, none⟩ = false ∧
            Fam w.heap.size 35 3 (w5.setCell ⟨w.heap.size, p, none⟩ v5) w.heap.size n (fun v => if v = p then v5 else hd v) (kidsTo ts (k + 1)) := fun v5 w5 o5 g5 n5 => by
          obtain ⟨q1, q2, q3⟩ := hFa.app hpn (by decide) o5 g5 (fun g hg => by
            rcases n5 with n5 | n5
            · exact .inl (by rw [← n5]; exact hg)
            · exact .inr (by rw [n5] at hg; cases hg; exact Nat.le_refl _))
          have q0 : w5.heap[bN]? = some (.cells #[.int .i64 (p : Int), .string x.name] 60 (0, 0)) := by
            refine (g5.block bN (by simp; omega) (fun e => ?_)).trans ((Below.block (Ext.alloc1 wz (.cells #[.int .i64 (k : Int)] 3)).bel bN (by omega)).trans hnbb.out)
            obtain ⟨c2, h2⟩ := OwnK.blk hop e.symm
            rw [hnbb.out] at h2
            simp at h2
          refine ⟨by simp [World.cell?, q0], q2, q3, ?_⟩
          have hkk : (fun v => if v = p then kidsTo ts k p ++ [(k : Int)] else kidsTo ts k v) = kidsTo ts (k + 1) := by
            funext v
            rw [kidsTo_succ, hs.out]
            by_cases e : v = p
            · subst e; rw [if_pos rfl, if_pos ⟨hk0, by simp [hp]⟩]
            · rw [if_neg e, if_neg (by rintro ⟨_, h⟩; simp [hp] at h; omega)]; simp
          rw [← hkk]; exact q1
        replace happ := Lib.hid happ
        go_region_law ((refine step_appI w _ (k : Int) rfl _ _ 35 rfl 3 Tryz.underlying35 info_int (hd p) (kidsTo ts k p) rfl (hop.kept (by repeat (first | exact Ext.refl _ | assumption | refine Ext.drew ?_ | refine Ext.drewN ?_ _ | refine Ext.alloc ?_ _ | refine Ext.trans ?_ (by assumption)))) (by repeat (first | exact Ext.refl _ | assumption | refine Ext.drew ?_ | refine Ext.drewN ?_ _ | refine Ext.alloc ?_ _ | refine Ext.trans ?_ (by assumption))) _ rfl ((one_rd wz _ _).ext ((Ext.refl _).drew)) (by omega) ?_; intro v5 w5 o5 x5 g5 n5; obtain ⟨a5, m5, c5, hm5, rfl, _⟩ := OwnK.rdn I64.len o5; replace hm5 := Lib.hid hm5; obtain ⟨s0, s1, s2, s3⟩ := happ.out _ w5 o5 g5 n5))
        all_goals
          have x6 := x5.setCell (p := ⟨w.heap.size, p, none⟩) (Nat.le_refl _) (.slice a5 m5 c5)
          go_wp2_with fail
          (first | exact ⟨⟨k + 1, _, by omega, by go_num, x6, s3⟩, (by simp [intOf]; omega)⟩ | (go_roundw; case rel => exact ⟨k + 1, _, by omega, by go_num, x6, s3⟩; case measure => exact (by simp [intOf]; omega)))
      · have hk00 : k = 0 := by omega
        have hdk : decide ((0 : Int) < (k : Int)) = false := by simp; omega
        have hkk : kidsTo ts (k + 1) = kidsTo ts k := by
          funext v; rw [kidsTo_succ, if_neg (by omega)]; simp
        replace hkk := Lib.hid hkk
        replace hk00 := Lib.hid hk00
        go_wp2_with fail
        (first | exact ⟨⟨k + 1, hd, by omega, by go_num, hx.alloc _, by rw [hkk.out]; exact hF.ext (Ext.alloc1 _ _)⟩, (by simp [intOf]; omega)⟩ | (go_roundw; case rel => exact ⟨k + 1, hd, by omega, by go_num, hx.alloc _, by rw [hkk.out]; exact hF.ext (Ext.alloc1 _ _)⟩; case measure => exact (by simp [intOf]; omega)))
    · have hkn : k = n := by omega
      subst hkn
      go_wp2_with fail
      go_ret
      exact ⟨_, hd, rfl, hF, hx⟩
end Go.Proofs.YtadncjpknckaaaaGreatDoor
namespace Go.Proofs.YtadncjpknckaaaaGreatDoor
open Go.RowKit
/-- The leaves up to node k. -/
def leafTo (ts : List Nd) (k : Nat) : List Int := ((List.range k).filter fun v => decide (kidsTo ts ts.length v = [])).map fun v : Nat => (v : Int)
def leafL (ts : List Nd) : List Int := leafTo ts ts.length
theorem leafTo_succ (ts : List Nd) (k : Nat) : leafTo ts (k + 1) = leafTo ts k ++ if kidsTo ts ts.length k = [] then [(k : Int)] else [] := by
  unfold leafTo
  rw [List.range_succ, List.filter_append, List.map_append]
  congr 1
  by_cases h : kidsTo ts ts.length k = []
  · rw [if_pos h, List.filter_cons, if_pos (by simpa using h)]; rfl
  · rw [if_neg h, List.filter_cons, if_neg (by simpa using h)]; rfl
theorem leafTo_len (ts : List Nd) (k : Nat) : (leafTo ts k).length ≤ k := by
  unfold leafTo; rw [List.length_map]; have := List.length_filter_le (fun v => decide (kidsTo ts ts.length v = [])) (List.range k); simpa using this
/-- A list of integers of the call's own, and an error. -/
def RetIE (xs : List Int) (err : Int) (w : World) (e : Ending) (w' : World) : Prop := ∃ v, e = .returned (.tuple #[v, .int .i64 err]) ∧ OwnI w.heap.size 3 w' v xs ∧ Ext w w'
def RetI (xs : List Int) (w : World) (e : Ending) (w' : World) : Prop := ∃ v, e = .returned v ∧ OwnI w.heap.size 3 w' v xs ∧ Ext w w'
theorem RetIE.rd {P : Program} {f : FuncId} {args : Array Value} {w : World} {xs : List Int} {err err' : Int} (h : Calls P f args w (RetIE xs err w)) (he : err = err') :
    Calls P f args w fun e w' => ∃ a n cap, n = xs.length ∧ e = .returned (.tuple #[.slice a n cap, .int .i64 err']) ∧ RdI w' a n cap xs ∧ Ext w w' :=
  h.mono fun e w' ⟨v, h1, ho, hx⟩ => by
    obtain ⟨a, n, cap, hn, rfl, hr⟩ := OwnK.rdn I64.len ho
    exact ⟨a, n, cap, hn, by rw [h1, he], hr, hx⟩
theorem leaves_any (a : Option Addr) (n cap : Nat) (ts : List Nd) (w : World) (hr : RdN w a n cap ts) (ht : treeB ts = true) :
    Calls Tryz.prog 16 #[.slice a n cap] w (RetI (leafL ts) w) := by
  have hl := hr.rd.len
  have hn1 := treeB_len ht
  rw [hl] at hn1
  replace hl := Lib.hid hl
  go_enter Tryz.func16, Tryz.ntmps16
  go_wp2_with fail
  refine (families_any a n cap ts _ hr ht).mono ?_
  rintro e w1 ⟨G, hd, rfl, hF, hx1⟩
  go_wp2_with fail
  go_loopw [3, 9] (fun ov i wr => ∃ k : Nat, k ≤ n ∧ i = .int .i64 k ∧ Ext w1 wr ∧ OwnI w1.heap.size 3 wr ov (leafTo ts k)) (fun _ i _ => n - (intOf i).toNat)
  case atStart => exact ⟨0, Nat.zero_le _, rfl, Ext.refl _, OwnK.nil _ _ _⟩
  case round =>
    obtain ⟨k, hk, rfl, hx, hown⟩ := hrel
    by_cases hlt : k < n
    · have hFr := hF.ext hx
      have hgk := hFr.head k hlt
      obtain ⟨ak, mk, ck, hmk, hvk, hrk⟩ := OwnK.rdn I64.len (hFr.own k hlt)
      rw [hvk] at hgk
      clear hvk hrk hFr
      have hlen := leafTo_len ts k
      have hsu := leafTo_succ ts k
      rw [hl.out] at hsu
      by_cases h0 : kidsTo ts n k = []
      · have hz : ((mk : Int) == 0) = true := by rw [hmk, h0]; rfl
        rw [if_pos h0] at hsu
        replace hsu := Lib.hid hsu
        replace hmk := Lib.hid hmk
        clear h0
        go_wp2_with (at_builtin; refine wp_app1 w1 wr (k : Int) rfl _ _ 35 rfl 3 Tryz.underlying35 info_int rfl (by decide) _ _ rfl hown hx rfl (I64.len _) (I64.one _) (by omega) (by unfold maxLen; omega) ?_; intro v2 w2 o2 x2 _)
        (first | exact ⟨⟨k + 1, by omega, by go_num, x2, by rw [hsu.out]; exact o2⟩, (by simp [intOf]; omega)⟩ | (go_roundw; case rel => exact ⟨k + 1, by omega, by go_num, x2, by rw [hsu.out]; exact o2⟩; case measure => exact (by simp [intOf]; omega)))
      · have hz : ((mk : Int) == 0) = false := by
          have : mk ≠ 0 := fun e => h0 (List.eq_nil_of_length_eq_zero (by rw [← hmk, e]))
          simpa using this
        rw [if_neg h0, List.append_nil] at hsu
        replace hsu := Lib.hid hsu
        replace hmk := Lib.hid hmk
        clear h0
        go_wp2_with fail
        (first | exact ⟨⟨k + 1, by omega, by go_num, hx, by rw [hsu.out]; exact hown⟩, (by simp [intOf]; omega)⟩ | (go_roundw; case rel => exact ⟨k + 1, by omega, by go_num, hx, by rw [hsu.out]; exact hown⟩; case measure => exact (by simp [intOf]; omega)))
    · have hkn : k = n := by omega
      subst hkn
      go_wp2_with fail
      go_ret
      exact ⟨_, rfl, by unfold leafL; rw [hl.out]; exact OwnK.base hown hx1.le, hx1.trans hx⟩
def leavesR (ts : List Nd) : List Int := if treeB ts = true then leafL ts else []
theorem treeE_zero {ts : List Nd} (h : treeB ts = true) : treeE ts = 0 := by simp [treeE, h]
theorem treeE_not {ts : List Nd} (h : treeB ts = false) : treeE ts = 16 := by simp [treeE, h]
theorem tleaves_any (a : Option Addr) (n cap : Nat) (ts : List Nd) (w : World) (hr : RdN w a n cap ts) :
    Calls Tryz.prog 7 #[.slice a n cap] w (RetIE (leavesR ts) (treeE ts) w) := by
  cases ht : treeB ts
  · have hR : leavesR ts = [] := by simp [leavesR, ht]
    have hE := treeE_not ht
    rw [hR, hE]
    go_enter Tryz.func7, Tryz.ntmps7
    go_wp2_with fail
    refine (cint (treeck_any a n cap ts _ hr) hE).mono ?_
    rintro e w1 ⟨rfl, hx1⟩
    replace hE := Lib.hid hE
    replace hR := Lib.hid hR
    go_wp2_with fail
    go_ret2
    exact ⟨_, rfl, OwnK.nil _ _ _, hx1⟩
  · have hR : leavesR ts = leafL ts := by simp [leavesR, ht]
    have hE := treeE_zero ht
    rw [hR, hE]
    go_enter Tryz.func7, Tryz.ntmps7
    go_wp2_with fail
    refine (cint (treeck_any a n cap ts _ hr) hE).mono ?_
    rintro e w1 ⟨rfl, hx1⟩
    replace hE := Lib.hid hE
    replace hR := Lib.hid hR
    go_wp2_with fail
    refine (leaves_any a n cap ts _ (hr.ext hx1) ht).mono ?_
    rintro e w2 ⟨v, rfl, ho, hx2⟩
    go_wp2_with fail
    go_ret2
    exact ⟨_, rfl, OwnK.base ho hx1.le, hx1.trans hx2⟩
/-! ### The reference's -/
end Go.Proofs.YtadncjpknckaaaaGreatDoor
