/-
  attest.Bad.
-/
import Derived.Test.YtadncjpknckaaaaGreatDoorA38
import Derived.Test.YtadncjpknckaaaaGreatDoorA39
import Derived.Laws.EntriesVeiled
namespace Go.Proofs.YtadncjpknckaaaaGreatDoor
open Go.RowKit Go.Shelf Go.Maps
attribute [local go_sem] Oper.semAt_some
/-- An exception. -/
structure Exn where
  i : Int
  k : Int
  kd : Int
  pr : Int
def Exn.enc (x : Exn) : List Value := [.int .i64 x.i, .int .i64 x.k, .int .i64 x.kd, .int .i64 x.pr]
theorem Exn.len (x : Exn) : x.enc.length = 4 := rfl
theorem Exn.one (x : Exn) : ∀ u ∈ x.enc, u.oneCell' = true := by intro u hu; simp [Exn.enc] at hu; rcases hu with rfl | rfl | rfl | rfl <;> rfl
/-- Is what is attested there an exception? -/
def badX (lines : Nat → List HL) (ps : List Fm) (price : Int) (x : At) : Option Exn := match ps[x.i]? with
  | some p => if (p.on && (deriveM (lines x.k) p.ws).isSome) = true then (if deriveM (lines x.k) p.ws = some x.f.ws then none else some ⟨x.i, x.k, 1, price⟩) else some ⟨x.i, x.k, 2, price⟩
  | none => none
def linesH (h : HH) (k : Nat) : List HL := lineL h.ls h.ps h.ts (((leafL h.ts)[k]?).getD 0).toNat
def badL (h : HH) (ps : List Fm) (es : List En) (price : Int) : List Exn := (attL es es.length).filterMap (badX (linesH h) ps price)
def RetBad (h : HH) (ps : List Fm) (es : List En) (price : Int) (w : World) (e : Ending) (w' : World) : Prop :=
  ∃ (a : Option Addr) (n c : Nat) (err : Int), e = .returned (.tuple #[.slice a n c, .int .i64 err]) ∧ Ext w w' ∧ Hid (err ≠ 0 → n = 0) ∧ Hid (err = 0 → attB h ps es = true ∧ RdK 4 Exn.enc w' a n c (badL h ps es price)) ∧ Hid (h.ls = [] → attB h ps es = true → err = 0)
theorem info_exn : (Tryz.prog.info? 47).map (fun i => (i.zero, i.size, i.bytes)) = some (some (.agg #[.int .i64 0, .int .i64 0, .int .i64 0, .int .i64 0]), 4, 32) := by kernel_rfl
/-- What stands while the attested words are gone through. -/
structure BadI (w2 : World) (lines : Nat → List HL) (nl b8 b7 K G : Nat) (ms : List Value) (hd : Nat → Value) (b11 b12 : Nat) (bad : At → Option Exn) (s : List At) (v : Value) (X : World) : Prop where
  der : DerI w2 lines nl b8 b7 K G ms hd s.length X
  k11 : Boxed X b11 66 (.func (.func 25) #[] #[.pointer (some ⟨b8, 0, none⟩), .pointer (some ⟨b7, 0, none⟩)])
  k12 : Boxed X b12 31 v
  own : OwnK 4 Exn.enc w2.heap.size 47 X v (s.filterMap bad)
def BadT (b12 : Nat) (X : World) (r : Nat) : Prop := r = b12 ∨ ∃ v, X.cell? ⟨b12, 0, none⟩ = some v ∧ v.ownBlock = some r
section
variable {w2 X Y : World} {lines : Nat → List HL} {nl b8 b7 K G b11 b12 : Nat} {ms : List Value} {hd : Nat → Value} {bad : At → Option Exn} {s : List At} {v : Value}
theorem BadI.grown (h : BadI w2 lines nl b8 b7 K G ms hd b11 b12 bad s v X) {row : Option Nat} (hg : X.grownBy Y row) (hr : ∀ r, row = some r → (∃ o : Obj, X.heap[r]? = some o ∧ o.isCells = false) ∧ w2.heap.size ≤ r ∧ ∀ v : Nat, ms[v]? ≠ some (Value.map (some r))) : BadI w2 lines nl b8 b7 K G ms hd b11 b12 bad s v Y ∧ ∀ r, BadT b12 Y r ↔ BadT b12 X r := by
  have hno : ∀ r, row = some r → ∀ (cur : Array Value) (e : TypeId), X.heap[r]? ≠ some (.cells cur e (0, 0)) := fun r e cur e0 h1 => by
    obtain ⟨⟨o, h2, h3⟩, _⟩ := hr r e
    rw [h2] at h1; cases h1; cases h3
  have k12' := boxed_typed h.k12 hg fun r e cur => hno r e cur _
  refine ⟨⟨h.der.grown hg fun r e => ⟨(hr r e).2.1, (hr r e).2.2, fun cur e0 h1 => absurd h1 (hno r e cur e0)⟩, boxed_typed h.k11 hg fun r e cur => hno r e cur _, k12', own_typed h.own hg fun r e cur => hno r e cur _⟩, fun r => ?_⟩
  unfold BadT
  rw [k12'.cell, h.k12.cell]
theorem BadI.ext' (h : BadI w2 lines nl b8 b7 K G ms hd b11 b12 bad s v X) (hx : Ext X Y) : BadI w2 lines nl b8 b7 K G ms hd b11 b12 bad s v Y ∧ ∀ r, BadT b12 Y r ↔ BadT b12 X r := h.grown (gb_ext hx none) fun r e => by cases e
theorem BadI.cells (h : BadI w2 lines nl b8 b7 K G ms hd b11 b12 bad s v X) {r : Nat} (ht : BadT b12 X r) : ∃ cur e, X.heap[r]? = some (.cells cur e (0, 0)) ∧ (e = 31 ∨ e = 47) := by
  rcases ht with rfl | ⟨u, h1, h2⟩
  · exact ⟨_, _, h.k12, .inl rfl⟩
  · rw [h.k12.cell] at h1; cases h1
    obtain ⟨c, hc⟩ := own_type h.own h2
    exact ⟨c, _, hc, .inr rfl⟩
end
theorem att_mem {es : List En} {n : Nat} {x : At} (h : x ∈ attL es n) : x.i < n ∧ ∃ e, es[x.i]? = some e ∧ e.fs[x.k]? = some x.f := by
  unfold attL at h
  obtain ⟨i, hi, hx⟩ := List.mem_flatMap.1 h
  have hin := List.mem_range.1 hi
  cases he : es[i]? with
  | none => rw [he] at hx; cases hx
  | some e =>
    rw [he] at hx
    simp only at hx
    unfold attE at hx
    obtain ⟨j, hj, hf⟩ := List.mem_filterMap.1 hx
    cases hfj : e.fs[j]? with
    | none => rw [hfj] at hf; cases hf
    | some f =>
      rw [hfj] at hf
      simp only [Option.bind_some] at hf
      split at hf
      · cases hf; exact ⟨hin, e, he, hfj⟩
      · cases hf
theorem attL_len {es : List En} {m : Nat} (h : ∀ e ∈ es, e.fs.length ≤ m) : ∀ n, (attL es n).length ≤ n * m
  | 0 => by simp [attL]
  | n + 1 => by
    have ih := attL_len h n
    rw [Nat.add_mul]
    cases he : es[n]? with
    | none =>
      have h1 : attL es (n + 1) = attL es n := by
        unfold attL; rw [List.range_succ, List.flatMap_append]; simp [he]
      rw [h1]; omega
    | some e =>
      rw [attL_succ he, List.length_append]
      have h2 : (attE n e.fs e.fs.length).length ≤ e.fs.length := by
        unfold attE
        have := List.length_filterMap_le (fun j => (e.fs[j]?).bind fun f => if f.on = true then some (⟨n, j, f⟩ : At) else none) (List.range e.fs.length)
        simpa using this
      have := h e (List.mem_of_getElem? he)
      omega
theorem keepsFrom_ext {B : Nat} {X Y : World} (h : Ext X Y) : KeepsFrom B X Y := ⟨h.le, fun k _ _ hk _ => (Below.block h.bel k (Array.getElem?_eq_some_iff.1 hk).1).trans hk⟩
section
variable {w2 W Y Ya Y5 : World} {lines : Nat → List HL} {nl b8 b7 K G b11 b12 B : Nat} {ms : List Value} {hd : Nat → Value} {bad : At → Option Exn} {s : List At} {v v' : Value}
theorem BadI.keep0 (h : BadI w2 lines nl b8 b7 K G ms hd b11 b12 bad s v W) (hs : SameM ms W Y) (hm : ∀ u r : Nat, B ≤ r → ms[u]? ≠ some (Value.map (some r))) : KeepsFrom B W Y ∧ KeepT (BadT b12) W Y := by
  have hc : ∀ (r : Nat) (o : Obj), W.heap[r]? = some o → o.isCells = true → Y.heap[r]? = some o := fun r o h1 h2 => (hs.2 r (Array.getElem?_eq_some_iff.1 h1).1 (h.der.noMap ⟨o, h1, h2⟩)).trans h1
  refine ⟨⟨hs.1, fun k o hB hk _ => (hs.2 k (Array.getElem?_eq_some_iff.1 hk).1 fun u => hm u k hB).trans hk⟩, hs.1, fun r _ h1 h2 _ => hc r _ h1 h2, fun r hr => ?_⟩
  rcases hr with h1 | ⟨u, h1, h2⟩
  · exact .inl (.inl h1)
  · have : Boxed Y b12 31 v := hc _ _ h.k12 rfl
    rw [this.cell] at h1; cases h1
    exact .inl (.inr ⟨v, h.k12.cell, h2⟩)
theorem BadI.keep1 (h : BadI w2 lines nl b8 b7 K G ms hd b11 b12 bad s v W) (hs : SameM ms W Y) (hm : ∀ u r : Nat, B ≤ r → ms[u]? ≠ some (Value.map (some r))) (hx : Ext Y Ya) (hg : Ya.grownBy Y5 v.ownBlock) (hv : v'.ownBlock = v.ownBlock ∨ ∃ g, v'.ownBlock = some g ∧ Ya.heap.size ≤ g) : KeepsFrom B W (Y5.setCell ⟨b12, 0, none⟩ v') ∧ KeepT (BadT b12) W (Y5.setCell ⟨b12, 0, none⟩ v') := by
  have h12 := h.k12
  have hsz := (grownBy_set Y5 b12 0 v').size
  have hle : W.heap.size ≤ (Y5.setCell ⟨b12, 0, none⟩ v').heap.size := Nat.le_trans hs.1 (Nat.le_trans hx.le (Nat.le_trans hg.size hsz))
  have hchain : ∀ r, r < W.heap.size → (∀ u : Nat, ms[u]? ≠ some (Value.map (some r))) → some r ≠ v.ownBlock → r ≠ b12 → (Y5.setCell ⟨b12, 0, none⟩ v').heap[r]? = W.heap[r]? := fun r hr h1 h2 h3 => by
    have e1 := hs.2 r hr h1
    have e2 := Below.block hx.bel r (Nat.lt_of_lt_of_le hr hs.1)
    have e3 := hg.block r (Nat.lt_of_lt_of_le hr (Nat.le_trans hs.1 hx.le)) h2
    have e4 := (grownBy_set Y5 b12 0 v').block r (Nat.lt_of_lt_of_le hr (Nat.le_trans hs.1 (Nat.le_trans hx.le hg.size))) (fun e => h3 (by cases e; rfl))
    rw [e4, e3, e2, e1]
  have hcell : ∀ r, BadT b12 W r → ∃ o, W.heap[r]? = some o ∧ o.isCells = true := fun r hr => by
    obtain ⟨c, e, h1, _⟩ := h.cells hr
    exact ⟨_, h1, rfl⟩
  have hT : ∀ r, ¬ BadT b12 W r → some r ≠ v.ownBlock ∧ r ≠ b12 := fun r hr => ⟨fun e => hr (.inr ⟨v, h12.cell, e.symm⟩), fun e => hr (.inl e)⟩
  refine ⟨⟨hle, fun k o hB hk hc => ?_⟩, hle, fun r o h1 h2 h3 => ?_, fun r hr => ?_⟩
  · have hnt : ¬ BadT b12 W k := fun ht => by
      obtain ⟨o', h4, h5⟩ := hcell k ht
      rw [hk] at h4; cases h4; rw [hc] at h5; cases h5
    exact (hchain k (Array.getElem?_eq_some_iff.1 hk).1 (fun u => hm u k hB) (hT k hnt).1 (hT k hnt).2).trans hk
  · exact (hchain r (Array.getElem?_eq_some_iff.1 h1).1 (h.der.noMap ⟨o, h1, h2⟩) (hT r h3).1 (hT r h3).2).trans h1
  · rcases hr with h1 | ⟨u, h1, h2⟩
    · exact .inl (.inl h1)
    · have hY : Boxed Y b12 31 v := (hs.2 b12 h12.lt (h.der.noMap ⟨_, h12, rfl⟩)).trans h12
      have hYa := boxed_more hY hx
      have hY5 : Boxed Y5 b12 31 v := (hg.block b12 hYa.lt fun e => by
        obtain ⟨c, hc⟩ := own_type h.own e.symm
        rw [show W.heap[b12]? = _ from h12] at hc; cases hc).trans hYa
      rw [(hY5.set v').cell] at h1; cases h1
      rcases hv with h3 | ⟨g, h3, h4⟩
      · exact .inl (.inr ⟨v, h12.cell, h3 ▸ h2⟩)
      · rw [h3] at h2; cases h2
        exact .inr (Nat.le_trans hs.1 (Nat.le_trans hx.le h4))
/-- An exception is appended. -/
theorem BadI.app {x : At} {y : Exn} (hI : BadI w2 lines nl b8 b7 K G ms hd b11 b12 bad s v W) (hD : DerI w2 lines nl b8 b7 K G ms hd (s.length + 1) Y) (hs : SameM ms W Y) (hx : Ext Y Ya) (hg : Ya.grownBy Y5 v.ownBlock) (ho : OwnK 4 Exn.enc w2.heap.size 47 Y5 v' (s.filterMap bad ++ [y])) (hb : bad x = some y) (hb12 : w2.heap.size ≤ b12) : BadI w2 lines nl b8 b7 K G ms hd b11 b12 bad (s ++ [x]) v' (Y5.setCell ⟨b12, 0, none⟩ v') := by
  have hY12 : Boxed Y b12 31 v := (hs.2 b12 hI.k12.lt (hI.der.noMap ⟨_, hI.k12, rfl⟩)).trans hI.k12
  have hY11 : Boxed Y b11 _ _ := (hs.2 b11 hI.k11.lt (hI.der.noMap ⟨_, hI.k11, rfl⟩)).trans hI.k11
  have hty : ∀ r, v.ownBlock = some r → w2.heap.size ≤ r ∧ ∃ c, Ya.heap[r]? = some (.cells c 47 (0, 0)) := fun r e => by
    obtain ⟨c, hc⟩ := own_type hI.own e
    exact ⟨(own_lt hI.own e).1, c, blk_kept ((hs.2 r (Array.getElem?_eq_some_iff.1 hc).1 (hI.der.noMap ⟨_, hc, rfl⟩)).trans hc) hx⟩
  have hDa := hD.ext' hx
  have hD5 := hDa.grown hg fun r e => by
    obtain ⟨h1, c, h2⟩ := hty r e
    refine ⟨h1, hDa.noMap ⟨_, h2, rfl⟩, fun cur e0 h3 => ?_⟩
    rw [h2] at h3; cases h3; decide
  have h5 : ∀ (t : TypeId), t ≠ 47 → ∀ r, v.ownBlock = some r → ∀ c, Ya.heap[r]? ≠ some (.cells c t (0, 0)) := fun t hne r e c h1 => by
    obtain ⟨_, c2, h2⟩ := hty r e
    rw [h2] at h1; cases h1; exact hne rfl
  have b5 := boxed_typed (boxed_more hY12 hx) hg (h5 _ (by decide))
  have b6 := boxed_typed (boxed_more hY11 hx) hg (h5 _ (by decide))
  have hse := grownBy_set Y5 b12 0 v'
  refine ⟨?_, boxed_typed b6 hse fun r e c h1 => ?_, b5.set v', ?_⟩
  · rw [List.length_append]
    refine hD5.grown hse fun r e => ?_
    cases e
    refine ⟨hb12, hD5.noMap ⟨_, b5, rfl⟩, fun cur e0 h3 => ?_⟩
    rw [show Y5.heap[b12]? = _ from b5] at h3; cases h3; decide
  · cases e
    rw [show Y5.heap[b12]? = _ from b5] at h1; cases h1
  · rw [List.filterMap_append, List.filterMap_cons, hb]
    exact own_typed ho hse fun r e c h1 => by
      cases e
      rw [show Y5.heap[b12]? = _ from b5] at h1; cases h1
theorem BadI.ownY (hI : BadI w2 lines nl b8 b7 K G ms hd b11 b12 bad s v W) (hs : SameM ms W Y) : OwnK 4 Exn.enc w2.heap.size 47 Y v (s.filterMap bad) := by
  obtain ⟨h1, h2⟩ := hI.own
  refine ⟨h1, ?_⟩
  rcases h2 with h2 | ⟨g, cap, cur, e1, e2, e3, e4⟩
  · exact .inl h2
  · exact .inr ⟨g, cap, cur, e1, e2, (hs.2 g (Array.getElem?_eq_some_iff.1 e3).1 (hI.der.noMap ⟨_, e3, rfl⟩)).trans e3, e4⟩
theorem SameM.then_ext {X Z : World} (h : SameM ms X Y) (hx : Ext Y Z) : SameM ms X Z :=
  ⟨Nat.le_trans h.1 hx.le, fun r hr hn => (Below.block hx.bel r (Nat.lt_of_lt_of_le hr h.1)).trans (h.2 r hr hn)⟩
theorem BadI.none {x : At} (hI : BadI w2 lines nl b8 b7 K G ms hd b11 b12 bad s v W) (hD : DerI w2 lines nl b8 b7 K G ms hd (s.length + 1) Y) (hs : SameM ms W Y) (hb : bad x = Option.none) : BadI w2 lines nl b8 b7 K G ms hd b11 b12 bad (s ++ [x]) v Y := by
  refine ⟨by rw [List.length_append]; exact hD, (hs.2 b11 hI.k11.lt (hI.der.noMap ⟨_, hI.k11, rfl⟩)).trans hI.k11, (hs.2 b12 hI.k12.lt (hI.der.noMap ⟨_, hI.k12, rfl⟩)).trans hI.k12, ?_⟩
  rw [List.filterMap_append, List.filterMap_cons, hb]
  simp only [List.filterMap_nil, List.append_nil]
  exact hI.ownY hs
end
set_option maxHeartbeats 4000000 in
set_option maxRecDepth 20000 in
theorem bad_any (h : HH) (ap : Option Addr) (np cp : Nat) (ps : List Fm) (ae : Option Addr) (ne ce : Nat) (es : List En) (price : Int) (w : World) (hr : RdH w h) (hsm : ∀ p ∈ h.ps, p.n ≤ 4) (hps : RdFs w ap np cp ps) (hes : RdEs w ae ne ce es) (hT : Tab64 w) (hp0 : 0 ≤ price) (hp1 : price ≤ 1073741824) :
    Calls Tryz.prog 6 #[h.v, .slice ap np cp, .slice ae ne ce, .int .i64 price] w (RetBad h ps es price w) := by
  refine (callsIn_wide (n := 9)).1 ?_
  refine callsIn_of_wp_marks Tryz.func6 rfl trivial ?_ rfl
  simp only [Tryz.ntmps6, List.size_toArray, List.length_cons, List.length_nil, Nat.reduceAdd, Nat.reduceSub, Array.replicate_succ, Array.replicate_zero, List.push_toArray, List.append_toArray, List.nil_append, List.cons_append]
  have hck := fun W (hx : Ext w W) => acheck_any h ap np cp ps ae ne ce es W (hr.ext hx) hsm (hps.ext hx) (hes.ext hx)
  have hdv := fun W (hx : Ext w W) (hh : histB h = true) => deriver_any h W (hr.ext hx) hh hsm (hT.ext hx)
  obtain ⟨ta, tn, tc, ts, la, ln, lc, ls, pa, pn, pc, pss⟩ := h
  simp only at hck hdv
  have hX3 : Ext w (((w.alloc (.cells #[.slice ta tn tc, .slice la ln lc, .slice pa pn pc] 26)).alloc (.cells #[.slice ap np cp] 27)).alloc (.cells #[.int .i64 price] 2)) := (by repeat (first | exact Ext.refl _ | refine Ext.drew ?_ | refine Ext.drewN ?_ _ | refine Ext.alloc ?_ _))
  have k4 : (((w.alloc (.cells #[.slice ta tn tc, .slice la ln lc, .slice pa pn pc] 26)).alloc (.cells #[.slice ap np cp] 27)).alloc (.cells #[.int .i64 price] 2)).heap[w.heap.size]? = some (.cells #[.slice ta tn tc, .slice la ln lc, .slice pa pn pc] 26 (0, 0)) := blk_kept (World.alloc_heap_new w _) (by repeat (first | exact Ext.refl _ | refine Ext.drew ?_ | refine Ext.drewN ?_ _ | refine Ext.alloc ?_ _))
  have k5 : Boxed (((w.alloc (.cells #[.slice ta tn tc, .slice la ln lc, .slice pa pn pc] 26)).alloc (.cells #[.slice ap np cp] 27)).alloc (.cells #[.int .i64 price] 2)) (w.heap.size + 1) 27 (.slice ap np cp) := by
    have := World.alloc_heap_new (w.alloc (.cells #[.slice ta tn tc, .slice la ln lc, .slice pa pn pc] 26)) (.cells #[.slice ap np cp] 27)
    rw [World.size_alloc] at this
    exact blk_kept this (by repeat (first | exact Ext.refl _ | refine Ext.drew ?_ | refine Ext.drewN ?_ _ | refine Ext.alloc ?_ _))
  have k7 : Boxed (((w.alloc (.cells #[.slice ta tn tc, .slice la ln lc, .slice pa pn pc] 26)).alloc (.cells #[.slice ap np cp] 27)).alloc (.cells #[.int .i64 price] 2)) (w.heap.size + 1 + 1) 2 (.int .i64 price) := by
    have := World.alloc_heap_new ((w.alloc (.cells #[.slice ta tn tc, .slice la ln lc, .slice pa pn pc] 26)).alloc (.cells #[.slice ap np cp] 27)) (.cells #[.int .i64 price] 2)
    rw [World.size_alloc, World.size_alloc] at this
    exact this
  have hc3 := hck _ hX3
  gi_wp2
  generalize hw3 : (((w.alloc (.cells #[.slice ta tn tc, .slice la ln lc, .slice pa pn pc] 26)).alloc (.cells #[.slice ap np cp] 27)).alloc (.cells #[.int .i64 price] 2)) = w3 at *
  clear hw3 hck
  generalize hB5 : w.heap.size + 1 = B5 at *
  generalize hB7 : B5 + 1 = B7 at *
  replace hB5 := Lib.hid hB5
  replace hB7 := Lib.hid hB7
  refine ⟨trivial, ?_⟩
  gi_at_call 12
  refine (callsIn_wide.2 hc3).mono ?_
  rintro e w4 ⟨err, rfl, h1, h2, hx4⟩
  have hX4 := hX3.trans hx4
  have m4 := blk_kept k4 hx4
  have m5 := boxed_more k5 hx4
  have m7 := boxed_more k7 hx4
  clear hc3 k4 k5 k7 hx4 hX3
  by_cases he0 : err = 0
  · subst he0
    have hat := h1.out rfl
    have hdv4 := hdv w4 hX4 (att_hist hat)
    have c0 : w4.cell? ⟨w.heap.size, 0, none⟩ = some (.slice ta tn tc) := by simp [World.cell?, m4]
    have c1 : w4.cell? ⟨w.heap.size, 1, none⟩ = some (.slice la ln lc) := by simp [World.cell?, m4]
    have c2 : w4.cell? ⟨w.heap.size, 2, none⟩ = some (.slice pa pn pc) := by simp [World.cell?, m4]
    have d7 := m7.cell
    have hpa : ¬ price < 0 := by omega
    have hpb : ¬ 1073741824 < price := by omega
    replace hat := Lib.hid hat
    clear h1 hdv
    gi_wp2
    refine ⟨trivial, ?_⟩
    gi_at_call 13
    refine (callsIn_wide.2 hdv4).mono ?_
    rintro e w5 ⟨w2, b8, b7, K, G, ms, hd, rfl, hx42, hD⟩
    have hX2 := hX4.trans hx42
    have hlines : (fun k => lineL ls pss ts (((leafL ts)[k]?).getD 0).toNat) = linesH ⟨ta, tn, tc, ts, la, ln, lc, ls, pa, pn, pc, pss⟩ := rfl
    have n5 := boxed_more m5 hx42
    have n7 := boxed_more m7 hx42
    clear hdv4 c0 c1 c2 d7 m4 m5 m7 hx42
    gi_wp2
    have hI7 : BadI w2 (fun k => lineL ls pss ts (((leafL ts)[k]?).getD 0).toNat) (leafL ts).length b8 b7 K G ms hd w5.heap.size (w5.heap.size + 1) (badX (linesH ⟨ta, tn, tc, ts, la, ln, lc, ls, pa, pn, pc, pss⟩) ps price) [] (.slice none 0 0) ((w5.alloc (.cells #[.func (.func 25) #[] #[.pointer (some ⟨b8, 0, none⟩), .pointer (some ⟨b7, 0, none⟩)]] 66)).alloc (.cells #[.slice none 0 0] 31)) := by
      refine ⟨(hD.ext' (Ext.alloc1 _ _)).ext' (Ext.alloc1 _ _), boxed_more (Boxed.new w5 _ _) (Ext.alloc1 _ _), ?_, OwnK.nil _ _ _⟩
      have := Boxed.new (w5.alloc (.cells #[.func (.func 25) #[] #[.pointer (some ⟨b8, 0, none⟩), .pointer (some ⟨b7, 0, none⟩)]] 66)) 31 (.slice none 0 0)
      rwa [World.size_alloc] at this
    have hw7s : ((w5.alloc (.cells #[.func (.func 25) #[] #[.pointer (some ⟨b8, 0, none⟩), .pointer (some ⟨b7, 0, none⟩)]] 66)).alloc (.cells #[.slice none 0 0] 31)).heap.size = w5.heap.size + 1 + 1 := by simp
    have hx57 : Ext w5 ((w5.alloc (.cells #[.func (.func 25) #[] #[.pointer (some ⟨b8, 0, none⟩), .pointer (some ⟨b7, 0, none⟩)]] 66)).alloc (.cells #[.slice none 0 0] 31)) := (by repeat (first | exact Ext.refl _ | refine Ext.drew ?_ | refine Ext.drewN ?_ _ | refine Ext.alloc ?_ _))
    generalize (w5.alloc (.cells #[.func (.func 25) #[] #[.pointer (some ⟨b8, 0, none⟩), .pointer (some ⟨b7, 0, none⟩)]] 66)).alloc (.cells #[.slice none 0 0] 31) = w7 at *
    have hbB : w2.heap.size ≤ w5.heap.size := hD.ext.le
    generalize w5.heap.size = b11 at *
    generalize hb12 : b11 + 1 = b12 at *
    replace hb12 := Lib.hid hb12
    clear hx57 hD
    refine ⟨trivial, ?_⟩
    gi_at_call 14
    refine (callsIn_wide.2 (attested_any ae ne ce w7)).mono ?_
    rintro e w8 ⟨rfl, hw8⟩
    have hx78 : Ext w7 w8 := by rw [hw8]; exact Ext.alloc1 _ _
    have kl8 : w8.heap[w7.heap.size]? = some (entsO ae ne ce) := by rw [hw8]; exact World.alloc_heap_new _ _
    have hz8 : w8.heap.size = w7.heap.size + 1 := by rw [hw8]; simp
    obtain ⟨hI8, _⟩ := hI7.ext' hx78
    clear hw8 hI7 hx78
    have hmlt : ∀ v r : Nat, w8.heap.size ≤ r → ms[v]? ≠ some (Value.map (some r)) := fun v r hr e => by
      have hl := (own_ge hI8.der.own).2.2.1
      obtain ⟨b, n, f, h1, _, _, h4, _⟩ := hI8.der.maps v (by have := (List.getElem?_eq_some_iff.1 e).1; omega)
      rw [e] at h1; cases h1
      have := h4.lt; omega
    have hsz : Hid (w2.heap.size ≤ w8.heap.size) := Lib.hid hI8.der.ext.le
    generalize hbl : w7.heap.size = bl at *
    replace hbl := Lib.hid hbl
    replace hw7s := Lib.hid hw7s
    replace hz8 := Lib.hid hz8
    replace hmlt := Lib.hid hmlt
    gi_wp2
    obtain ⟨bad, hbad⟩ : ∃ bad, bad = badX (linesH ⟨ta, tn, tc, ts, la, ln, lc, ls, pa, pn, pc, pss⟩) ps price := ⟨_, rfl⟩
    rw [← hbad] at hI8
    obtain ⟨lines, hlin⟩ : ∃ lines, lines = linesH ⟨ta, tn, tc, ts, la, ln, lc, ls, pa, pn, pc, pss⟩ := ⟨_, rfl⟩
    rw [hlines, ← hlin] at hI8
    clear hlines
    refine wpIn_range_T5 (α := At) rfl (by decide : 1 ≤ 9) (gf := 28) (lb := #[.pointer (some ⟨bl, 0, none⟩)]) rfl trivial (enters_of Tryz.func28 (by kernel_rfl) rfl)
      (BadT b12) (fun s x v _ => v = encA x ∧ (s ++ [x]) <+: attL es ne) (fun s X => ∃ v, BadI w2 lines (leafL ts).length b8 b7 K G ms hd b11 b12 bad s v X) (fun _ _ _ => False) (fun s => s = attL es ne) (fun X r => ∃ o : Obj, X.heap[r]? = some o ∧ o.isCells = false) (fun _ _ => False)
      (fun pre x aa X => ∃ v bt, BadI w2 lines (leafL ts).length b8 b7 K G ms hd b11 b12 bad pre v X ∧ Hid ((pre ++ [x]) <+: attL es ne) ∧ X.heap[bt]? = some (.cells #[.int .i64 (x.i : Int), .int .i64 (x.k : Int)] 72 (0, 0)) ∧ aa = { tmps := #[HH.v ⟨ta, tn, tc, ts, la, ln, lc, ls, pa, pn, pc, pss⟩, .slice ap np cp, .slice ae ne ce, .int .i64 price, .pointer (some ⟨w.heap.size, 0, none⟩), .pointer (some ⟨B5, 0, none⟩), undef, .pointer (some ⟨B7, 0, none⟩), .slice none 0 0, .int .i64 0, .int .i64 0, .pointer (some ⟨b11, 0, none⟩), .pointer (some ⟨b12, 0, none⟩), .pointer (some ⟨bt, 0, none⟩), .slice x.f.a x.f.n x.f.cap, undef, undef, .agg #[.slice ta tn tc, .slice la ln lc, .slice pa pn pc], .slice ap np cp, .slice ae ne ce, .int .i64 0, .int .i64 0, .bool false, undef, .int .i64 price, .bool (decide (price < 0)), .bool (decide (price < 0)), .int .i64 price, .bool (decide (1073741824 < price)), .bool (decide (price < 0) || decide (1073741824 < price)), .agg #[.slice ta tn tc, .slice la ln lc, .slice pa pn pc], .func (.func 25) #[] #[.pointer (some ⟨b8, 0, none⟩), .pointer (some ⟨b7, 0, none⟩)], .slice ae ne ce, .func (.func 28) #[] #[.pointer (some ⟨bl, 0, none⟩)], .agg #[.int .i64 (x.i : Int), .int .i64 (x.k : Int)], .slice x.f.a x.f.n x.f.cap, undef, undef, undef, undef, undef, undef, undef, undef, undef, undef, undef, undef, undef, undef, undef, undef, undef, undef, undef, undef, undef, undef, undef, undef, undef, undef, undef, undef, undef, undef, undef, undef, undef, undef, undef, undef, undef, undef, undef], defers := [] })
      (fun X r o h1 h2 => ⟨o, h1, h2⟩)
      (fun s X r hi ht => by
        obtain ⟨v, hi⟩ := hi
        obtain ⟨c, e, h1, _⟩ := hi.cells ht
        exact ⟨_, h1, rfl⟩)
      (fun s X Y row hs hg hr => by
        obtain ⟨v, hi⟩ := hs
        obtain ⟨k1, k2⟩ := hi.grown hg fun r e => ⟨(hr r e).2.2, by have := (hr r e).2.1; have := hsz.out; omega, fun u => hmlt.out u r (hr r e).2.1⟩
        exact ⟨⟨v, k1⟩, k2⟩)
      (fun _ _ _ _ _ h _ _ _ => h.elim)
      (fun pre x aa X Y row hs hg hr => by
        obtain ⟨v, bt, hi, hp, hb, ha⟩ := hs
        obtain ⟨k1, k2⟩ := hi.grown hg fun r e => ⟨(hr r e).1, by have := (hr r e).2; have := hsz.out; omega, fun u => hmlt.out u r (hr r e).2⟩
        refine ⟨⟨v, bt, k1, hp, (hg.block bt (Array.getElem?_eq_some_iff.1 hb).1 fun e => ?_).trans hb, ha⟩, k2⟩
        obtain ⟨o, h1, h2⟩ := (hr bt e.symm).1
        rw [hb] at h1; cases h1; cases h2)
      ⟨_, hI8⟩
      (fun l J Jx W hB hJ0 hJI hJg hJx hY => ?iter) ?assign ?body ?done ?panic ?stop
    case iter =>
      have hxW : Ext w8 W := ⟨hB⟩
      obtain ⟨v0, hi0⟩ := hJI _ _ hJ0
      refine (attested1_T ae ne ce es w hes (BadT b12) J Jx (fun s X Y hs hx => hJg s X Y none hs (gb_ext hx none) (fun r e => by cases e)) (fun s X hs => by
          obtain ⟨v, hi⟩ := hJI s X hs
          exact hX2.trans hi.der.ext) 8 l bl (by decide)
        (fun pre x X hs hp => (hY pre x (encA x) X hs rfl ⟨rfl, hp⟩).mono fun e Y h => h.2) W hJ0 ⟨blk_kept kl8 hxW, rfl, fun ht => ?_⟩).mono ?_
      · obtain ⟨c, e, h1, h2⟩ := hi0.cells ht
        rw [blk_kept kl8 hxW] at h1; cases h1
        rcases h2 with h2 | h2 <;> cases h2
      · exact fun e Y h => .inl ⟨h.1, h.2.elim (fun h => .inl ⟨_, rfl, h⟩) .inr⟩
    case assign =>
      rintro l pre x v W K' ⟨u, hi⟩ hv ⟨rfl, hp⟩ hK'
      obtain ⟨g1, g2⟩ := hi.keep0 (SameM.of_ext (Ext.alloc1 W (.cells #[.int .i64 (x.i : Int), .int .i64 (x.k : Int)] 72))) (fun u r h => hmlt.out u r h)
      simp only [encA]
      gi_wp2
      exact hK' _ _ g1 g2 ⟨u, W.heap.size, (hi.ext' (Ext.alloc1 _ _)).1, Lib.hid hp, World.alloc_heap_new _ _, rfl⟩
    case body =>
      rintro l pre x aa W ⟨v, bt, hi, hp, hb, rfl⟩
      have hxm : x ∈ attL es ne := hp.out.subset (by simp)
      obtain ⟨hxi, en, hen, hfx⟩ := att_mem hxm
      have hatt := hat.out
      simp only [attB, Bool.and_eq_true, decide_eq_true_eq] at hatt
      obtain ⟨hhist, h256, hlenp, hempt, hent, hwdp, hwde⟩ := hatt
      have hpl := hps.rd.len
      have hel := hes.rd.len
      obtain ⟨p, hpp⟩ : ∃ p, ps[x.i]? = some p := ⟨_, List.getElem?_eq_getElem (by omega)⟩
      have hwok : wordOk p.ws = true := List.all_eq_true.1 hwdp p (List.mem_of_getElem? hpp)
      have hlv : leavesR ts = leafL ts := by
        unfold leavesR
        rw [if_pos]
        unfold histB at hhist
        rw [Bool.and_eq_true] at hhist
        exact hhist.1
      have hall : ∀ e ∈ es, e.fs.length = (leafL ts).length := fun e hm => by
        have h1 : en1B (leavesR ts).length e = true := by
          unfold entB at hent
          rw [Bool.and_eq_true] at hent
          exact List.all_eq_true.1 hent.1 e hm
        unfold en1B at h1
        rw [Bool.and_eq_true, decide_eq_true_eq] at h1
        have h3 := (hes.words e hm).rd.len
        rw [h3, h1.1, hlv]
      have hnl : x.k < (leafL ts).length := by
        have h4 := (List.getElem?_eq_some_iff.1 hfx).1
        have := hall en (List.mem_of_getElem? hen)
        omega
      have hnp : x.i < np := by omega
      have hll : (leafL ts).length ≤ 63 := by
        have htb : treeB ts = true := by
          unfold histB at hhist
          rw [Bool.and_eq_true] at hhist
          exact hhist.1
        have := (treeB_len htb).2
        unfold leafL leafTo
        rw [List.length_map]
        have h2 := List.length_filter_le (fun v => decide (kidsTo ts ts.length v = [])) (List.range ts.length)
        rw [List.length_range] at h2
        omega
      have hpre : pre.length ≤ 60000 := by
        have h1 := hp.out.length_le
        have h2 := attL_len (m := 63) (fun e hm => by rw [hall e hm]; exact hll) ne
        rw [List.length_append, List.length_singleton] at h1
        have : ne * 63 ≤ 256 * 63 := Nat.mul_le_mul_right 63 (by omega)
        omega
      have hxw : Ext w W := hX2.trans hi.der.ext
      obtain ⟨bp, offp, p', hap, hpp', hbp, f0, f1, hpw⟩ := (hps.ext hX2).fm hnp
      have hppe : p' = p := by have := hpp'.out; rw [hpp] at this; exact (Option.some.inj this).symm
      subst hppe
      have hfw : RdS w x.f.a x.f.n x.f.cap x.f.ws := (hes.words en (List.mem_of_getElem? hen)).words x.f (List.mem_of_getElem? hfx)
      have e5 := (boxed_more n5 hi.der.ext).cell
      have e7 := (boxed_more n7 hi.der.ext).cell
      have hrL : ∀ L ∈ lines x.k, RdLw w2 L := fun L hL => by
        rw [hlin] at hL
        exact (hr.laws.laws L (lineTo_mem hL)).ext hX2
      have hdr : ∀ W', W.drew = W' → Calls Tryz.prog 25 #[Fm.v p', .int .i64 (x.k : Int), .pointer (some ⟨b8, 0, none⟩), .pointer (some ⟨b7, 0, none⟩)] W' (RetD1 w2 lines (leafL ts).length b8 b7 K G ms hd (pre.length + 1) p' x.k W') := fun W' hW' => by
        subst hW'
        exact deriver1_any w2 lines (leafL ts).length b8 b7 K G ms hd pre.length p' x.k W.drew (hi.der.ext' ((Ext.refl _).drew)) hnl hrL ((hps.words p' (List.mem_of_getElem? hpp)).ext hX2) hwok (hT.ext hX2) (by omega)
      have hbx : Hid (bad x = if (p'.on && (deriveM (lines x.k) p'.ws).isSome) = true then (if deriveM (lines x.k) p'.ws = some x.f.ws then none else some ⟨x.i, x.k, 1, price⟩) else some ⟨x.i, x.k, 2, price⟩) := Lib.hid (by
        rw [hbad, hlin]; unfold badX; rw [hpp])
      replace hdr := Lib.hid hdr
      obtain ⟨pon, pa', pn', pc', pws⟩ := p'
      simp only at f0 f1 hwok hpw
      have k11 := hi.k11
      have hxW2 := hi.der.ext
      clear hempt hent hwdp hwde hall hhist hpp hpp' hpl hel hlenp h256 hrL hen hfx hlv hxm
      subst hap
      have g0 : ∀ W', Ext w2 W' → W'.cell? ⟨bp, offp + x.i * 2, none⟩ = some (.bool pon) ∧ W'.cell? ⟨bp, offp + x.i * 2 + 1, none⟩ = some (.slice pa' pn' pc') := fun W' h => ⟨h.cellv f0, h.cellv f1⟩
      have hmx : Tryz.prog.follows .mixedOrders = true := by kernel_rfl
      gi_wp2
      refine wpIn_region_HR (fun W' : World => Ext w2 W' ∧ Boxed W' b11 66 (.func (.func 25) #[] #[.pointer (some ⟨b8, 0, none⟩), .pointer (some ⟨b7, 0, none⟩)]) ∧ W'.heap[bt]? = some (.cells #[.int .i64 (x.i : Int), .int .i64 (x.k : Int)] 72 (0, 0))) [0, 1, 2, 3, 4, 5, 6, 7, 9, 10, 11] hmx (by kernel_rfl) (by rintro ⟨_, _, h⟩; exact h) ?_
      show wpH _ _ _ _ _ _ 14 _ _ _
      have hS0 : (fun W' : World => Ext w2 W' ∧ Boxed W' b11 66 (.func (.func 25) #[] #[.pointer (some ⟨b8, 0, none⟩), .pointer (some ⟨b7, 0, none⟩)]) ∧ W'.heap[bt]? = some (.cells #[.int .i64 (x.i : Int), .int .i64 (x.k : Int)] 72 (0, 0))) W.drew := ⟨hxW2.drew, k11, hb⟩
      refine wpH_take (i := 0) (v := (.func (.func 25) #[] #[.pointer (some ⟨b8, 0, none⟩), .pointer (some ⟨b7, 0, none⟩)])) rfl (by kernel_rfl) (by kernel_rfl) (by kernel_rfl) (by kernel_rfl) (by kernel_rfl) (fun _ _ _ h => h) (.inl ⟨rfl, fun W' hW' => ?_⟩) hS0 ?_
      · have u := hW'.2.1.cell
        go_simp
      refine wpH_take (i := 1) (v := (.slice (some ⟨bp, offp, none⟩) np cp)) rfl (by kernel_rfl) (by kernel_rfl) (by kernel_rfl) (by kernel_rfl) (by kernel_rfl) (fun _ _ _ h => h) (.inl ⟨rfl, fun W' hW' => ?_⟩) hS0 ?_
      · have u := (boxed_more n5 hW'.1).cell
        go_simp
      refine wpH_take (i := 2) (v := (.pointer (some ⟨bt, 0, none⟩))) rfl (by kernel_rfl) (by kernel_rfl) (by kernel_rfl) (by kernel_rfl) (by kernel_rfl) (fun _ _ _ h => h) (.inl ⟨rfl, fun W' hW' => ?_⟩) hS0 ?_
      · go_simp
      refine wpH_take (i := 3) (v := (.int .i64 (x.i : Int))) rfl (by kernel_rfl) (by kernel_rfl) (by kernel_rfl) (by kernel_rfl) (by kernel_rfl) (fun _ _ _ h => h) (.inl ⟨rfl, fun W' hW' => ?_⟩) hS0 ?_
      · have u : W'.cell? ⟨bt, 0, none⟩ = some (.int .i64 (x.i : Int)) := by simp [World.cell?, hW'.2.2]
        go_simp
      refine wpH_take (i := 4) (v := (.pointer (some ⟨bp, offp + x.i * 2, none⟩))) rfl (by kernel_rfl) (by kernel_rfl) (by kernel_rfl) (by kernel_rfl) (by kernel_rfl) (fun _ _ _ h => h) (.inl ⟨rfl, fun W' hW' => ?_⟩) hS0 ?_
      · go_simp
      refine wpH_take (i := 5) (v := (.agg #[.bool pon, .slice pa' pn' pc'])) rfl (by kernel_rfl) (by kernel_rfl) (by kernel_rfl) (by kernel_rfl) (by kernel_rfl) (fun _ _ _ h => h) (.inl ⟨rfl, fun W' hW' => ?_⟩) hS0 ?_
      · obtain ⟨u, v⟩ := g0 W' hW'.1
        go_simp
      refine wpH_take (i := 6) (v := (.pointer (some ⟨bt, 1, none⟩))) rfl (by kernel_rfl) (by kernel_rfl) (by kernel_rfl) (by kernel_rfl) (by kernel_rfl) (fun _ _ _ h => h) (.inl ⟨rfl, fun W' hW' => ?_⟩) hS0 ?_
      · go_simp
      refine wpH_take (i := 7) (v := (.int .i64 (x.k : Int))) rfl (by kernel_rfl) (by kernel_rfl) (by kernel_rfl) (by kernel_rfl) (by kernel_rfl) (fun _ _ _ h => h) (.inl ⟨rfl, fun W' hW' => ?_⟩) hS0 ?_
      · have u : W'.cell? ⟨bt, 1, none⟩ = some (.int .i64 (x.k : Int)) := by simp [World.cell?, hW'.2.2]
        go_simp
      refine wpH_step (k := 8) rfl (by kernel_rfl) rfl fun K hK => ?_
      go_simp
      refine (hdr.out _ rfl).mono ?_
      rintro e Y ⟨has, a3, n3, c3, rfl, hDY, hsame, hhas, hout⟩
      have hsW : SameM ms W Y := ⟨hsame.1, hsame.2⟩
      have hbY : Y.heap[bt]? = some (.cells #[.int .i64 (x.i : Int), .int .i64 (x.k : Int)] 72 (0, 0)) := (hsW.2 bt (Array.getElem?_eq_some_iff.1 hb).1 (hi.der.noMap ⟨_, hb, rfl⟩)).trans hb
      have k11Y : Boxed Y b11 _ _ := (hsW.2 b11 k11.lt (hi.der.noMap ⟨_, k11, rfl⟩)).trans k11
      have k12Y : Boxed Y b12 31 v := (hsW.2 b12 hi.k12.lt (hi.der.noMap ⟨_, hi.k12, rfl⟩)).trans hi.k12
      replace hS0 : (fun W' : World => Ext w2 W' ∧ Boxed W' b11 66 (.func (.func 25) #[] #[.pointer (some ⟨b8, 0, none⟩), .pointer (some ⟨b7, 0, none⟩)]) ∧ W'.heap[bt]? = some (.cells #[.int .i64 (x.i : Int), .int .i64 (x.k : Int)] 72 (0, 0))) Y := ⟨hDY.ext, k11Y, hbY⟩
      refine hK _ _ (fun _ => hS0) ?_
      clear hK K hdr hsame
      refine wpH_take (i := 9) (v := (.tuple #[.slice a3 n3 c3, .bool has])) rfl (by kernel_rfl) (by kernel_rfl) (by kernel_rfl) (by kernel_rfl) (by kernel_rfl) (fun _ _ _ h => h) (.inl ⟨rfl, fun W' hW' => ?_⟩) hS0 ?_
      · go_simp
      refine wpH_take (i := 10) (v := (.slice a3 n3 c3)) rfl (by kernel_rfl) (by kernel_rfl) (by kernel_rfl) (by kernel_rfl) (by kernel_rfl) (fun _ _ _ h => h) (.inl ⟨rfl, fun W' hW' => ?_⟩) hS0 ?_
      · go_simp
      refine wpH_take (i := 11) (v := (.bool has)) rfl (by kernel_rfl) (by kernel_rfl) (by kernel_rfl) (by kernel_rfl) (by kernel_rfl) (fun _ _ _ h => h) (.inl ⟨rfl, fun W' hW' => ?_⟩) hS0 ?_
      · go_simp
      refine wpH_step (k := 12) rfl (by kernel_rfl) rfl fun K hK => ?_
      go_simp
      refine hK _ _ (fun _ => hS0) ?_
      clear hK K
      refine wpH_step (k := 13) rfl (by kernel_rfl) rfl fun K hK => ?_
      go_simp
      refine hK _ _ (needA_no (by kernel_rfl)) ?_
      clear hK K
      refine wpH_last (by kernel_rfl) ?_
      have p0 : Y.cell? ⟨bt, 0, none⟩ = some (.int .i64 (x.i : Int)) := by simp [World.cell?, hbY]
      have p1 : Y.cell? ⟨bt, 1, none⟩ = some (.int .i64 (x.k : Int)) := by simp [World.cell?, hbY]
      have e7Y := (boxed_more n7 hDY.ext).cell
      have c12 := k12Y.cell
      clear hS0 g0 k11 k11Y hb hbY e5 e7
      have hoY := hi.ownY hsW
      have hfl : (pre.filterMap bad).length ≤ 60000 := Nat.le_trans (List.length_filterMap_le _ _) hpre
      have hxY := hDY.ext
      have hxYl := hxY.le
      have hbge : w2.heap.size ≤ b12 := by
        have := hb12.out; omega
      have hkp := fun (v' : Value) (Y5 : World) g5 r5 => hi.keep1 (v' := v') (Y5 := Y5) hsW (fun u r h => hmlt.out u r h) (Ext.refl Y) g5 r5
      have hap := fun (v' : Value) (Y5 : World) (y : Exn) g5 o5 hb5 => hi.app (x := x) (y := y) (v' := v') (Y5 := Y5) hDY hsW (Ext.refl Y) g5 o5 hb5 hbge
      obtain ⟨ao, no, co, hno, rfl, _⟩ := OwnK.rdn Exn.len hi.own
      replace hno := Lib.hid hno
      replace hkp := Lib.hid hkp
      replace hap := Lib.hid hap
      have hi' := hi
      clear hi
      cases has
      · have hb2 : bad x = some ⟨x.i, x.k, 2, price⟩ := by rw [hbx.out, ← hhas.out]; rfl
        replace hb2 := Lib.hid hb2
        gi_wp2_with (refine list_bridge (by rintro ⟨_, _, h⟩; exact h) _ _ _ (by kernel_rfl) ?_; at_builtin; refine wp_appA w2.heap.size Y (⟨x.i, x.k, 2, price⟩ : Exn) #[.int .i64 (x.i : Int), .int .i64 (x.k : Int), .int .i64 2, .int .i64 price] rfl rfl _ _ 31 rfl 47 Tryz.underlying31 info_exn rfl (by decide) Exn.len Exn.one (.slice ao no co) (pre.filterMap bad) rfl hoY hxYl rfl hfl (by decide) ?_; intro v5 w5 o5 g5 r5)
        have k5 := boxed_typed k12Y g5 fun r e c h1 => by
          obtain ⟨c2, h2⟩ := own_type hoY e
          rw [h1] at h2; cases h2
        obtain ⟨a6, m6, c6, hm6, rfl, _⟩ := OwnK.rdn Exn.len o5
        replace hm6 := Lib.hid hm6
        obtain ⟨f1, f2⟩ := hkp.out _ _ g5 r5
        have f3 := hap.out _ _ _ g5 o5 hb2.out
        have d5 := k5.cell
        have d6 := k5.frozen
        have fin : KeepsFrom w8.heap.size W (w5.setCell ⟨b12, 0, none⟩ (.slice a6 m6 c6)) ∧ KeepT (BadT b12) W (w5.setCell ⟨b12, 0, none⟩ (.slice a6 m6 c6)) ∧ ∃ v, BadI w2 lines (leafL ts).length b8 b7 K G ms hd b11 b12 bad (pre ++ [x]) v (w5.setCell ⟨b12, 0, none⟩ (.slice a6 m6 c6)) := ⟨f1, f2, _, f3⟩
        replace fin := Lib.hid fin
        clear g5 r5 o5 hkp hap k5 f1 f2 f3 hi'
        go_wp2_with fail
        gi_wp2
        exact fin.out
      · have hbt := hhas.out.symm
        rw [Bool.and_eq_true] at hbt
        simp only at hbt
        obtain ⟨out, ho⟩ := Option.isSome_iff_exists.1 hbt.2
        have hrd := OwnK.rdc Snd.len (hout.out hbt.1 out ho)
        have heq := wequal_any a3 x.f.a n3 c3 x.f.n x.f.cap out x.f.ws Y hrd (hfw.ext (hX2.trans hDY.ext))
        have hbx3 : bad x = if out = x.f.ws then none else some ⟨x.i, x.k, 1, price⟩ := by
          rw [hbx.out, ← hhas.out, if_pos rfl, ho]
          by_cases e : out = x.f.ws
          · rw [if_pos e, if_pos (by rw [e])]
          · rw [if_neg e, if_neg (fun h => e (Option.some.inj h))]
        clear hhas hout hbt hrd hkp hap hbx hoY
        gi_wp2
        refine ⟨trivial, ?_⟩
        gi_at_call 9
        refine (CallsIn.inRound l (callsIn_wide.2 heq)).mono ?_
        rintro e Y2 ⟨rfl, hxe⟩
        have hsW2 := hsW.then_ext hxe
        have hDY2 := hDY.ext' hxe
        have q0 := hxe.cellv p0
        have q1 := hxe.cellv p1
        have q7 := hxe.cellv e7Y
        have q12 := hxe.cellv c12
        have k12Z := boxed_more k12Y hxe
        clear p0 p1 e7Y c12 heq hsW k12Y hDY
        by_cases hoe : out = x.f.ws
        · rw [if_pos hoe] at hbx3
          have f3 := hi'.none hDY2 hsW2 hbx3
          obtain ⟨f1, f2⟩ := hi'.keep0 hsW2 (fun u r h => hmlt.out u r h)
          have fin : KeepsFrom w8.heap.size W Y2 ∧ KeepT (BadT b12) W Y2 ∧ ∃ v, BadI w2 lines (leafL ts).length b8 b7 K G ms hd b11 b12 bad (pre ++ [x]) v Y2 := ⟨f1, f2, _, f3⟩
          replace fin := Lib.hid fin
          have hoe2 : decide (out = x.f.ws) = true := decide_eq_true hoe
          replace hoe := Lib.hid hoe
          clear f1 f2 f3 hi' hbx3
          gi_wp2
          exact fin.out
        · rw [if_neg hoe] at hbx3
          have hoe2 : decide (out = x.f.ws) = false := decide_eq_false hoe
          have hoY := hi'.ownY hsW2
          have hxYl2 := hDY2.ext.le
          replace hoe := Lib.hid hoe
          replace hbx3 := Lib.hid hbx3
          gi_wp2_with (refine list_bridge (by rintro ⟨_, _, h⟩; exact h) _ _ _ (by kernel_rfl) ?_; at_builtin; refine wp_appA w2.heap.size Y2 (⟨x.i, x.k, 1, price⟩ : Exn) #[.int .i64 (x.i : Int), .int .i64 (x.k : Int), .int .i64 1, .int .i64 price] rfl rfl _ _ 31 rfl 47 Tryz.underlying31 info_exn rfl (by decide) Exn.len Exn.one (.slice ao no co) (pre.filterMap bad) rfl hoY hxYl2 rfl hfl (by decide) ?_; intro v5 w5 o5 g5 r5)
          have k5 := boxed_typed k12Z g5 fun r e c h1 => by
            obtain ⟨c2, h2⟩ := own_type hoY e
            rw [h1] at h2; cases h2
          obtain ⟨a6, m6, c6, hm6, rfl, _⟩ := OwnK.rdn Exn.len o5
          replace hm6 := Lib.hid hm6
          obtain ⟨f1, f2⟩ := hi'.keep1 hsW2 (fun u r h => hmlt.out u r h) (Ext.refl Y2) g5 r5
          have f3 := hi'.app hDY2 hsW2 (Ext.refl Y2) g5 o5 hbx3.out hbge
          have d5 := k5.cell
          have d6 := k5.frozen
          have fin : KeepsFrom w8.heap.size W (w5.setCell ⟨b12, 0, none⟩ (.slice a6 m6 c6)) ∧ KeepT (BadT b12) W (w5.setCell ⟨b12, 0, none⟩ (.slice a6 m6 c6)) ∧ ∃ v, BadI w2 lines (leafL ts).length b8 b7 K G ms hd b11 b12 bad (pre ++ [x]) v (w5.setCell ⟨b12, 0, none⟩ (.slice a6 m6 c6)) := ⟨f1, f2, _, f3⟩
          replace fin := Lib.hid fin
          clear g5 r5 o5 k5 f1 f2 f3 hi'
          go_wp2_with fail
          gi_wp2
          exact fin.out
    case done =>
      rintro D s W hD rfl ⟨v, hi⟩ hDX
      have d12 := hi.k12.cell
      obtain ⟨ao, no, co, hno, rfl, hro⟩ := OwnK.rdn Exn.len hi.own
      replace hno := Lib.hid hno
      have hxW : Ext w W := hX2.trans hi.der.ext
      have hDw : Hid (w.heap.size ≤ D) := Lib.hid (by have := hX2.le; have := hsz.out; omega)
      clear hi
      gi_wp2
      refine leaves_marksS (fun W => Ext w W ∧ RdK 4 Exn.enc W ao no co ((attL es ne).filterMap bad)) [D] _ (by simp) (fun E hE => ?_) ⟨hxW, hro⟩ (fun W E o hs hE hd => ?_) fun w' hs => ?_
      · rw [List.mem_singleton.1 hE]; exact hDX
      · rw [List.mem_singleton.1 hE] at hd ⊢
        refine ⟨hs.1.grown (grownBy_putObj' W D o) fun r e => by cases e; exact hDw.out, ?_⟩
        refine ⟨hs.2.len, hs.2.le, hs.2.most, hs.2.isnil, fun hn => ?_⟩
        obtain ⟨b, off, h1, h2, h3⟩ := hs.2.pos hn
        refine ⟨b, off, h1, Nat.lt_of_lt_of_le h2 (grownBy_putObj' W D o).size, fun i x hx j u hu => ?_⟩
        have h4 := h3 i x hx j u hu
        have hne : b ≠ D := fun e => by
          subst e
          simp only [World.cell?, hd] at h4
          cases h4
        have h5 := (grownBy_putObj' W D o).block b h2 fun e => by cases e; exact hne rfl
        simp only [World.cell?] at h4 ⊢
        rw [h5]; exact h4
      · refine ⟨_, results_tmp2 rfl _ _ _, ?_⟩
        refine ⟨ao, no, co, 0, rfl, hs.1, Lib.hid (fun h => absurd rfl h), Lib.hid (fun _ => ⟨hat.out, ?_⟩), Lib.hid fun _ _ => rfl⟩
        have h6 := hs.2
        rw [hbad] at h6
        unfold badL
        rw [hes.rd.len]
        exact h6
    case panic =>
      exact fun D s ch W hD hp => hp.elim
    case stop =>
      exact fun D c pre W hD hp => hp.elim
  · have he1 : Hid (¬ err = 0) := Lib.hid he0
    gi_wp2
    refine leaves_marksS (fun W => W = w4) [] _ (by simp) (fun E hE => by cases hE) rfl (fun W E o hs hE hd => by cases hE) fun w' hs => ?_
    subst hs
    refine ⟨_, results_tmp2 rfl _ _ _, ?_⟩
    exact ⟨none, 0, 0, err, rfl, hX4, Lib.hid fun _ => rfl, Lib.hid fun h => absurd h he1.out, h2⟩
end Go.Proofs.YtadncjpknckaaaaGreatDoor
