/-
  law.hit: is a place hit?
  law.run: what stands while a law runs; the closure.
-/
import Derived.Test.YtadncjpknckaaaaGreatDoorA20
import Derived.BigRegionIn
namespace Go.Proofs.YtadncjpknckaaaaGreatDoor
open Go.RowKit Go.Shelf
attribute [local go_sem] Oper.semAt_some
theorem hitsM_sorted (L : HL) (ws : List Snd) (b : Nat) : (hitsM L ws b).Pairwise (· < ·) := by
  unfold hitsM
  exact List.Pairwise.filter _ List.pairwise_lt_range
theorem hitsM_mem {L : HL} {ws : List Snd} {b x : Nat} : x ∈ hitsM L ws b ↔ x < ws.length + 1 ∧ b ≤ x ∧ hitB' L ws x = true := by
  unfold hitsM; rw [List.mem_filter, List.mem_range]; simp
theorem hitB_le {L : HL} {ws : List Snd} {x : Nat} (h : hitB' L ws x = true) : x ≤ ws.length := by
  unfold hitB' at h
  rw [Bool.and_eq_true, decide_eq_true_eq] at h
  omega
theorem hits_first {L : HL} {ws : List Snd} {b x : Nat} (h : [x] <+: hitsM L ws b) : decide (x = b) = hitB' L ws b := by
  obtain ⟨t, ht⟩ := h
  have hx : x ∈ hitsM L ws b := by rw [← ht]; simp
  have hs := hitsM_sorted L ws b
  obtain ⟨_, h2, h3⟩ := hitsM_mem.1 hx
  by_cases e : x = b
  · subst e; rw [h3]; simp
  · rw [decide_eq_false e]
    symm
    rw [Bool.eq_false_iff]
    intro hb
    have hbm : b ∈ hitsM L ws b := hitsM_mem.2 ⟨by have := hitB_le hb; omega, Nat.le_refl _, hb⟩
    rw [← ht] at hbm hs
    rw [List.singleton_append, List.pairwise_cons] at hs
    rw [List.singleton_append, List.mem_cons] at hbm
    rcases hbm with h | h
    · exact e h.symm
    · have := hs.1 b h; omega
theorem hits_none {L : HL} {ws : List Snd} {b : Nat} (h : hitsM L ws b = []) : hitB' L ws b = false := by
  rw [Bool.eq_false_iff]
  intro hb
  have : b ∈ hitsM L ws b := hitsM_mem.2 ⟨by have := hitB_le hb; omega, Nat.le_refl _, hb⟩
  rw [h] at this; simp at this
theorem results_bool {fn : Func} {p : Tmp} (h : fn.results = #[.cell p 4]) (tmps : Array Value) (w : World) (g : Nat) (v : Value) (hp : tmps.getD p undef = .pointer (some ⟨g, 0, none⟩)) (hc : w.cell? ⟨g, 0, none⟩ = some v) : (results fn tmps).run Tryz.prog w = .ok v w := by
  have hp' : tmps[p]?.getD undef = .pointer (some ⟨g, 0, none⟩) := by simpa using hp
  simp [results, h, hp', asAddr, loadVar, go_sem, hc]
theorem size_one {v : Array Value} (h : v.size = 1) : ∃ x, v = #[x] := Array.size_eq_one_iff.1 h
theorem keepsFrom_set {B : Nat} {X : World} {b : Nat} {t : TypeId} {u : Value} (h : Boxed X b t u) (v : Value) : KeepsFrom B X (X.setCell ⟨b, 0, none⟩ v) := by
  refine ⟨(grownBy_set X b 0 v).size, fun k o _ hk hcl => ?_⟩
  refine ((grownBy_set X b 0 v).block k (Array.getElem?_eq_some_iff.1 hk).1 fun e => ?_).trans hk
  cases e
  rw [show X.heap[b]? = _ from h] at hk; cases hk; cases hcl
set_option maxHeartbeats 2000000 in
set_option maxRecDepth 20000 in
theorem hit_any (L : HL) (a : Option Addr) (nw cap : Nat) (ws : List Snd) (b : Nat) (hok : lawOkB L = true) (w : World) (hL : RdLw w L) (hws : RdS w a nw cap ws) (hT : Tab64 w) (hn4 : nw ≤ 4000) (hb : b ≤ nw + 1) :
    Calls Tryz.prog 69 #[lawV L, .slice a nw cap, .int .i64 (b : Int)] w fun e w' => e = .returned (.bool (hitB' L ws b)) ∧ Ext w w' := by
  refine (callsIn_wide (n := 9)).1 ?_
  refine callsIn_of_wp_marks Tryz.func69 rfl trivial ?_ rfl
  simp only [Tryz.ntmps69, List.size_toArray, List.length_cons, List.length_nil, Nat.reduceAdd, Nat.reduceSub, Array.replicate_succ, Array.replicate_zero, List.push_toArray, List.append_toArray, List.nil_append, List.cons_append]
  obtain ⟨R, hR⟩ : ∃ R, R = hitB' L ws b := ⟨_, rfl⟩
  rw [← hR]
  have hB3 : LawB (((w.alloc (.cells #[.string L.name, .int .i64 L.left.kind, .int .u32 L.left.is.p.toNat, .int .u32 L.left.is.m.toNat, .bool L.left.neg, .int .i64 L.left.mn, .int .i64 L.left.mx, .slice L.left.a L.left.n L.left.cap, .int .i64 L.right.kind, .int .u32 L.right.is.p.toNat, .int .u32 L.right.is.m.toNat, .bool L.right.neg, .int .i64 L.right.mn, .int .i64 L.right.mx, .slice L.right.a L.right.n L.right.cap, .slice L.ia L.ifs.length L.icap, .slice L.oa L.outs.length L.ocap, .int .i64 L.mode] 58)).alloc (.cells #[.int .i64 (b : Int)] 3)).alloc (.cells #[.bool false] 4)) w.heap.size L := ((LawB.new w L).ext (Ext.alloc1 _ _)).ext (Ext.alloc1 _ _)
  have hB5 : Boxed (((w.alloc (.cells #[.string L.name, .int .i64 L.left.kind, .int .u32 L.left.is.p.toNat, .int .u32 L.left.is.m.toNat, .bool L.left.neg, .int .i64 L.left.mn, .int .i64 L.left.mx, .slice L.left.a L.left.n L.left.cap, .int .i64 L.right.kind, .int .u32 L.right.is.p.toNat, .int .u32 L.right.is.m.toNat, .bool L.right.neg, .int .i64 L.right.mn, .int .i64 L.right.mx, .slice L.right.a L.right.n L.right.cap, .slice L.ia L.ifs.length L.icap, .slice L.oa L.outs.length L.ocap, .int .i64 L.mode] 58)).alloc (.cells #[.int .i64 (b : Int)] 3)).alloc (.cells #[.bool false] 4)) (w.heap.size + 1) 3 (.int .i64 (b : Int)) := by
    have := boxed_more (Boxed.new (w.alloc (.cells #[.string L.name, .int .i64 L.left.kind, .int .u32 L.left.is.p.toNat, .int .u32 L.left.is.m.toNat, .bool L.left.neg, .int .i64 L.left.mn, .int .i64 L.left.mx, .slice L.left.a L.left.n L.left.cap, .int .i64 L.right.kind, .int .u32 L.right.is.p.toNat, .int .u32 L.right.is.m.toNat, .bool L.right.neg, .int .i64 L.right.mn, .int .i64 L.right.mx, .slice L.right.a L.right.n L.right.cap, .slice L.ia L.ifs.length L.icap, .slice L.oa L.outs.length L.ocap, .int .i64 L.mode] 58)) 3 (.int .i64 (b : Int))) (Ext.alloc1 _ (.cells #[.bool false] 4))
    rwa [World.size_alloc] at this
  have hB6 : Boxed (((w.alloc (.cells #[.string L.name, .int .i64 L.left.kind, .int .u32 L.left.is.p.toNat, .int .u32 L.left.is.m.toNat, .bool L.left.neg, .int .i64 L.left.mn, .int .i64 L.left.mx, .slice L.left.a L.left.n L.left.cap, .int .i64 L.right.kind, .int .u32 L.right.is.p.toNat, .int .u32 L.right.is.m.toNat, .bool L.right.neg, .int .i64 L.right.mn, .int .i64 L.right.mx, .slice L.right.a L.right.n L.right.cap, .slice L.ia L.ifs.length L.icap, .slice L.oa L.outs.length L.ocap, .int .i64 L.mode] 58)).alloc (.cells #[.int .i64 (b : Int)] 3)).alloc (.cells #[.bool false] 4)) (w.heap.size + 1 + 1) 4 (.bool false) := by
    have := Boxed.new ((w.alloc (.cells #[.string L.name, .int .i64 L.left.kind, .int .u32 L.left.is.p.toNat, .int .u32 L.left.is.m.toNat, .bool L.left.neg, .int .i64 L.left.mn, .int .i64 L.left.mx, .slice L.left.a L.left.n L.left.cap, .int .i64 L.right.kind, .int .u32 L.right.is.p.toNat, .int .u32 L.right.is.m.toNat, .bool L.right.neg, .int .i64 L.right.mn, .int .i64 L.right.mx, .slice L.right.a L.right.n L.right.cap, .slice L.ia L.ifs.length L.icap, .slice L.oa L.outs.length L.ocap, .int .i64 L.mode] 58)).alloc (.cells #[.int .i64 (b : Int)] 3)) 4 (.bool false)
    rwa [World.size_alloc, World.size_alloc] at this
  have hX : Ext w (((w.alloc (.cells #[.string L.name, .int .i64 L.left.kind, .int .u32 L.left.is.p.toNat, .int .u32 L.left.is.m.toNat, .bool L.left.neg, .int .i64 L.left.mn, .int .i64 L.left.mx, .slice L.left.a L.left.n L.left.cap, .int .i64 L.right.kind, .int .u32 L.right.is.p.toNat, .int .u32 L.right.is.m.toNat, .bool L.right.neg, .int .i64 L.right.mn, .int .i64 L.right.mx, .slice L.right.a L.right.n L.right.cap, .slice L.ia L.ifs.length L.icap, .slice L.oa L.outs.length L.ocap, .int .i64 L.mode] 58)).alloc (.cells #[.int .i64 (b : Int)] 3)).alloc (.cells #[.bool false] 4)) := (by repeat (first | exact Ext.refl _ | refine Ext.drew ?_ | refine Ext.drewN ?_ _ | refine Ext.alloc ?_ _))
  generalize hw3 : (((w.alloc (.cells #[.string L.name, .int .i64 L.left.kind, .int .u32 L.left.is.p.toNat, .int .u32 L.left.is.m.toNat, .bool L.left.neg, .int .i64 L.left.mn, .int .i64 L.left.mx, .slice L.left.a L.left.n L.left.cap, .int .i64 L.right.kind, .int .u32 L.right.is.p.toNat, .int .u32 L.right.is.m.toNat, .bool L.right.neg, .int .i64 L.right.mn, .int .i64 L.right.mx, .slice L.right.a L.right.n L.right.cap, .slice L.ia L.ifs.length L.icap, .slice L.oa L.outs.length L.ocap, .int .i64 L.mode] 58)).alloc (.cells #[.int .i64 (b : Int)] 3)).alloc (.cells #[.bool false] 4)) = w3 at *
  have c5 := hB5.cell
  gi_wp2_with (refine listIn_of rfl (fun c h => by cases h) fun K hK => ?_; refine wp_load_row 58 _ rfl w.heap.size rfl 58 _ (0, 0) _ hB3 Tryz.underlying58 rfl (by kernel_rfl) ?_; refine hK _ _ ?_)
  refine ⟨trivial, ?_⟩
  gi_at_call 66
  refine (callsIn_wide.2 (hits_any L a nw cap b w3)).mono ?_
  rintro e w4 ⟨rfl, hw4⟩
  have hzz : w3.heap.size = w.heap.size + 1 + 1 + 1 := by rw [← hw3]; simp
  have hx34 : Ext w3 w4 := by rw [hw4]; exact (by repeat (first | exact Ext.refl _ | refine Ext.drew ?_ | refine Ext.drewN ?_ _ | refine Ext.alloc ?_ _))
  have kl : LawB w4 w3.heap.size L := by rw [hw4]; exact ((LawB.new w3 L).ext (Ext.alloc1 _ _)).ext (Ext.alloc1 _ _)
  have kw : w4.heap[w3.heap.size + 1]? = some (wordO a nw cap) := by
    rw [hw4]
    have := World.alloc_heap_new (w3.alloc (.cells #[.string L.name, .int .i64 L.left.kind, .int .u32 L.left.is.p.toNat, .int .u32 L.left.is.m.toNat, .bool L.left.neg, .int .i64 L.left.mn, .int .i64 L.left.mx, .slice L.left.a L.left.n L.left.cap, .int .i64 L.right.kind, .int .u32 L.right.is.p.toNat, .int .u32 L.right.is.m.toNat, .bool L.right.neg, .int .i64 L.right.mn, .int .i64 L.right.mx, .slice L.right.a L.right.n L.right.cap, .slice L.ia L.ifs.length L.icap, .slice L.oa L.outs.length L.ocap, .int .i64 L.mode] 58)) (.cells #[.slice a nw cap] 40)
    rw [World.size_alloc] at this
    exact (Below.heap_alloc _ _ _ (by simp)).trans this
  have kf : w4.heap[w3.heap.size + 1 + 1]? = some (intO b) := by
    rw [hw4]
    have := World.alloc_heap_new ((w3.alloc (.cells #[.string L.name, .int .i64 L.left.kind, .int .u32 L.left.is.p.toNat, .int .u32 L.left.is.m.toNat, .bool L.left.neg, .int .i64 L.left.mn, .int .i64 L.left.mx, .slice L.left.a L.left.n L.left.cap, .int .i64 L.right.kind, .int .u32 L.right.is.p.toNat, .int .u32 L.right.is.m.toNat, .bool L.right.neg, .int .i64 L.right.mn, .int .i64 L.right.mx, .slice L.right.a L.right.n L.right.cap, .slice L.ia L.ifs.length L.icap, .slice L.oa L.outs.length L.ocap, .int .i64 L.mode] 58)).alloc (.cells #[.slice a nw cap] 40)) (.cells #[.int .i64 (b : Int)] 3)
    rwa [World.size_alloc, World.size_alloc] at this
  have hb5 := boxed_more hB5 hx34
  have hb6 := boxed_more hB6 hx34
  have hx4 := hX.trans hx34
  have hle : Hid (w3.heap.size < w4.heap.size ∧ w3.heap.size + 1 + 1 < w4.heap.size) := Lib.hid (by rw [hw4]; simp; omega)
  clear hw4 hw3 hX hB3 hB5 hB6 c5
  generalize hb3 : w3.heap.size = B3 at *
  generalize hc1 : w.heap.size + 1 = B5 at *
  generalize hc2 : B5 + 1 = B6 at *
  have hns : Hid (B3 ≠ B6 ∧ B3 + 1 ≠ B6 ∧ B3 + 1 + 1 ≠ B6 ∧ B5 ≠ B6 ∧ w.heap.size ≤ B6 ∧ B3 = B6 + 1 ∧ w.heap.size ≤ w4.heap.size) := Lib.hid (by have := hx4.le; omega)
  replace hb3 := Lib.hid hb3
  replace hc1 := Lib.hid hc1
  replace hc2 := Lib.hid hc2
  replace hzz := Lib.hid hzz
  gi_wp2
  obtain ⟨T, hTd⟩ : ∃ T : World → Nat → Prop, T = fun _ r => r = B6 := ⟨_, rfl⟩
  have hT1 : ∀ X Y : World, ∀ r, T Y r ↔ T X r := fun X Y r => by subst hTd; exact Iff.rfl
  have hTi : ∀ X r, T X r ↔ r = B6 := fun X r => by subst hTd; exact Iff.rfl
  replace hTd := Lib.hid hTd
  refine wpIn_range_T2 (α := Nat) rfl (by decide : 1 ≤ 9) (gf := 79) (lb := #[.pointer (some ⟨B3, 0, none⟩), .pointer (some ⟨B3 + 1, 0, none⟩), .pointer (some ⟨B3 + 1 + 1, 0, none⟩)]) rfl trivial (enters_of Tryz.func79 (by kernel_rfl) rfl)
    T (fun s x v _ => v = encF x ∧ (s ++ [x]) <+: hitsM L ws b) (fun s X => s = [] ∧ Ext w X ∧ Boxed X B5 3 (.int .i64 (b : Int)) ∧ Boxed X B6 4 (.bool false)) (fun c s X => c = .ret ∧ Ext w X ∧ Boxed X B6 4 (.bool R)) (fun s => s = hitsM L ws b) (fun _ _ => True) (fun _ _ _ _ _ => trivial)
    (fun s X r hi ht => by
      obtain rfl := (hTi X r).1 ht
      exact ⟨_, hi.2.2.2, rfl⟩)
    (fun s X Y row hs hg hr => by
      obtain ⟨k1, k2, k3, k4⟩ := hs
      have hr2 : ∀ r, row = some r → r ≠ B6 ∧ w4.heap.size ≤ r := fun r e => ⟨fun h => (hr r e).1 ((hTi X r).2 h), (hr r e).2.1⟩
      exact ⟨⟨k1, k2.grown hg fun r e => by have := (hr2 r e).2; have := hns.out; omega, k3.kept hg fun e => by have := (hr2 _ e.symm).2; have := hns.out; have := hb5.lt; omega, k4.kept hg fun e => (hr2 _ e.symm).1 rfl⟩, hT1 X Y⟩)
    (fun c s X Y row hs hg hr hr2 => by
      obtain ⟨k1, k2, k3⟩ := hs
      refine ⟨k1, k2.grown hg fun r e => by have := hr2 r e; have := hns.out; omega, k3.kept hg fun e => ?_⟩
      obtain ⟨o, h1, h2⟩ := hr _ e.symm
      rw [show X.heap[B6]? = _ from k3] at h1; cases h1; cases h2)
    (fun s x v X Y row hs hg hr => hs)
    ⟨rfl, hx4, hb5, hb6⟩
    (fun l J Jx W hB hJ0 hJI hJg hJx hY => ?iter)
    (fun v t => (t.setIfInBounds 12 (v.getD 0 undef)).setIfInBounds 7 (v.getD 0 undef)) ?assign ?body ?done ?stop
  case iter =>
    have hxW : Ext w4 W := ⟨hB⟩
    refine (hits1_T L a nw cap ws b hok w hL hws hT hn4 hb T J Jx (fun s X Y hs hx => hJg s X Y none hs (gb_ext hx none) (fun r e => by cases e)) (fun s X hs => (hJI s X hs).2.1) (fun s X r hs ht => by rw [(hTi X r).1 ht]; exact (hJI s X hs).2.2.2.lt) 8 l B3 (B3 + 1) (B3 + 1 + 1) (by decide)
      (fun pre x X hs hp => (hY pre x (encF x) X hs rfl ⟨rfl, hp⟩).mono fun e Y h => h.2) W hJ0
      ⟨LawB.ext kl hxW, rfl, fun h => hns.out.1 ((hTi _ _).1 h)⟩ ⟨(Below.block hxW.bel _ (Array.getElem?_eq_some_iff.1 kw).1).trans kw, rfl, fun h => hns.out.2.1 ((hTi _ _).1 h)⟩ ⟨(Below.block hxW.bel _ (Array.getElem?_eq_some_iff.1 kf).1).trans kf, rfl, fun h => hns.out.2.2.1 ((hTi _ _).1 h)⟩).mono ?_
    exact fun e Y h => ⟨h.1, h.2.elim (fun h => .inl ⟨_, rfl, h⟩) .inr⟩
  case assign =>
    intro l v W K' hv hK'
    obtain ⟨x, rfl⟩ := size_one hv
    gi_wp2
    exact hK'
  case body =>
    rintro l pre x v W ⟨rfl, hx, k5, k6⟩ hv ⟨rfl, hp⟩
    have c5 := k5.cell
    have c6 := k6.cell
    have f6 := k6.frozen
    have hR2 : ((x : Int) == (b : Int)) = R := by
      rw [hR, ← hits_first (x := x) hp]
      by_cases e : x = b
      · subst e; simp
      · rw [decide_eq_false e]; simp; omega
    replace hR2 := Lib.hid hR2
    gi_wp2
    rw [hR2.out]
    exact ⟨keepsFrom_set k6 _, rfl, hx.setCell hns.out.2.2.2.2.1 _, k6.set _⟩
  case done =>
    rintro D s W hD hs0 ⟨rfl, hx, k5, k6⟩ hDX
    have hR0 : R = false := by rw [hR]; exact hits_none hs0.symm
    have c6 := k6.cell
    have f6 := k6.frozen
    have hDB : Hid (w.heap.size ≤ D ∧ B6 ≠ D) := Lib.hid ⟨by have := hns.out; omega, fun e => by
      subst e; rw [show W.heap[B6]? = _ from k6] at hDX; cases hDX⟩
    gi_wp2
    refine leaves_marksS (fun W => Ext w W ∧ Boxed W B6 4 (.bool false)) [D] _ (by simp) (fun E hE => ?_) ⟨hx.setCell hns.out.2.2.2.2.1 _, k6.set _⟩ (fun W E o hs hE hd => ?_) fun w' hs => ?_
    · rw [List.mem_singleton.1 hE]
      exact ((grownBy_set W B6 0 (.bool false)).block D (Array.getElem?_eq_some_iff.1 hDX).1 fun e => hDB.out.2 (by cases e; rfl)).trans hDX
    · rw [List.mem_singleton.1 hE]
      exact ⟨hs.1.grown (grownBy_putObj' W D o) fun r e => by cases e; exact hDB.out.1, hs.2.kept (grownBy_putObj' W D o) fun e => hDB.out.2 (by cases e; rfl)⟩
    · refine ⟨_, results_bool rfl _ _ B6 _ rfl hs.2.cell, ?_⟩
      exact ⟨by rw [hR0], hs.1⟩
  case stop =>
    rintro D c pre W hD ⟨rfl, hx, k6⟩ hDX
    have hDB : Hid (w.heap.size ≤ D ∧ B6 ≠ D) := Lib.hid ⟨by have := hns.out; omega, fun e => by
      subst e; rw [show W.heap[B6]? = _ from k6] at hDX; cases hDX⟩
    gi_wp2
    refine leaves_marksS (fun W => Ext w W ∧ Boxed W B6 4 (.bool R)) [D] _ (by simp) (fun E hE => ?_) ⟨hx, k6⟩ (fun W E o hs hE hd => ?_) fun w' hs => ?_
    · rw [List.mem_singleton.1 hE]
      exact hDX
    · rw [List.mem_singleton.1 hE]
      exact ⟨hs.1.grown (grownBy_putObj' W D o) fun r e => by cases e; exact hDB.out.1, hs.2.kept (grownBy_putObj' W D o) fun e => hDB.out.2 (by cases e; rfl)⟩
    · refine ⟨_, results_bool rfl _ _ B6 _ rfl hs.2.cell, ?_⟩
      exact ⟨rfl, hs.1⟩
end Go.Proofs.YtadncjpknckaaaaGreatDoor
namespace Go.Proofs.YtadncjpknckaaaaGreatDoor
open Go.RowKit Go.Shelf
attribute [local go_sem] Oper.semAt_some
def notSnd (X : World) (r : Nat) : Prop := ∀ cs t fr, X.heap[r]? = some (.cells cs t fr) → t ≠ 52
def StabT (T : World → Nat → Prop) (B : Nat) {α : Type} (J : List α → World → Prop) : Prop := ∀ s X Y row, J s X → X.grownBy Y row → (∀ r, row = some r → ¬ T X r ∧ B ≤ r ∧ notSnd X r) → J s Y ∧ ∀ r, T Y r ↔ T X r
def StabX (B : Nat) {α : Type} (Jx : List α → World → Prop) : Prop := ∀ s X Y row, Jx s X → X.grownBy Y row → (∀ r, row = some r → (∃ o : Obj, X.heap[r]? = some o ∧ o.isCells = false) ∧ B ≤ r) → Jx s Y
theorem StabT.new {T : World → Nat → Prop} {B : Nat} {α : Type} {J : List α → World → Prop} (h : StabT T B J) : NewT T J := fun s X Y hs hx => h s X Y none hs (gb_ext hx none) fun r e => by cases e
def lastW (u : List (List Snd)) (d : List Snd) : List Snd := u.getLastD d
/-- A place and a word of the call's own, as they are yielded. -/
def OutW (B : Nat) (x : List Snd) (v : Array Value) (X : World) : Prop := ∃ (i : Nat) (a : Option Addr) (n cap : Nat), v = #[.int .i64 (i : Int), .slice a n cap] ∧ OwnS B 52 X (.slice a n cap) x
/-- What a run is told of its yield. -/
structure RunH (L : HL) (ws : List Snd) (w0 : World) (T : World → Nat → Prop) (B : Nat) (J Jx : List (List Snd) → World → Prop) (l : Nat) : Prop where
  stab : StabT T B J
  stabx : StabX B Jx
  ext : ∀ s X, J s X → Ext w0 X
  low : ∀ s X r, J s X → T X r → w0.heap.size ≤ r ∧ r < X.heap.size
  cells : ∀ s X r, J s X → T X r → ∃ o : Obj, X.heap[r]? = some o ∧ o.isCells = true
  short : ∀ s x X, J (s ++ [x]) X → x.length ≤ 32
  yield : ∀ pre x v X, J pre X → pre.length ≤ 80 → OutW B x v X → (32 < x.length → runM L ws = none) → YieldAt Fence.wide 0 Tryz.prog l v X fun e Y => KeepsFrom B X Y ∧ ((e = .returned (.bool true) ∧ J (pre ++ [x]) Y ∧ KeepT T X Y) ∨ (e = .returned (.bool false) ∧ Jx (pre ++ [x]) Y))
theorem Held.grown {T : World → Nat → Prop} {X Y : World} {b : Nat} {o : Obj} (h : Held T X b o) {row : Option Nat} (hg : X.grownBy Y row) (hr : ∀ r, row = some r → r ≠ b) (hT : ∀ r, T Y r ↔ T X r) : Held T Y b o :=
  ⟨(hg.block b (Array.getElem?_eq_some_iff.1 h.at').1 fun e => hr b e.symm rfl).trans h.at', h.cl, fun h2 => h.no ((hT b).1 h2)⟩
abbrev yO (l : Nat) : Obj := .cells #[.func (.yield l) #[] #[]] 134 (0, 0)
/-- The boxes of a run stand. -/
structure RunS (T : World → Nat → Prop) (L : HL) (a : Option Addr) (nw cap bl bw bk bm B l : Nat) (X : World) : Prop where
  kl : Held T X bl (lawO L)
  kw : Held T X bw (wordO a nw cap)
  kk : Held T X bk (intO L.ifs.length)
  km : Held T X bm (intO L.outs.length)
  ky : Held T X B (yO l)
section
variable {T : World → Nat → Prop} {L : HL} {a : Option Addr} {nw cap bl bw bk bm B l : Nat} {X Y : World}
theorem RunS.ext (h : RunS T L a nw cap bl bw bk bm B l X) (hx : Ext X Y) (hT : ∀ r, T Y r ↔ T X r) : RunS T L a nw cap bl bw bk bm B l Y :=
  ⟨h.kl.ext hx hT, h.kw.ext hx hT, h.kk.ext hx hT, h.km.ext hx hT, h.ky.ext hx hT⟩
theorem RunS.keep (h : RunS T L a nw cap bl bw bk bm B l X) (hk : KeepT T X Y) : RunS T L a nw cap bl bw bk bm B l Y :=
  ⟨h.kl.keep hk, h.kw.keep hk, h.kk.keep hk, h.km.keep hk, h.ky.keep hk⟩
theorem RunS.grown (h : RunS T L a nw cap bl bw bk bm B l X) {row : Option Nat} (hg : X.grownBy Y row) (hlt : bl < B ∧ bw < B ∧ bk < B ∧ bm < B) (hr : ∀ r, row = some r → B < r) (hT : ∀ r, T Y r ↔ T X r) : RunS T L a nw cap bl bw bk bm B l Y :=
  ⟨h.kl.grown hg (fun r e => by have := hr r e; omega) hT, h.kw.grown hg (fun r e => by have := hr r e; omega) hT, h.kk.grown hg (fun r e => by have := hr r e; omega) hT, h.km.grown hg (fun r e => by have := hr r e; omega) hT, h.ky.grown hg (fun r e => by have := hr r e; omega) hT⟩
end
/-- The word that a run has reached: the given one, or one of the call's own. -/
def NowS (T : World → Nat → Prop) (w0 : World) (B : Nat) (X : World) (a : Option Addr) (n cap : Nat) (xs : List Snd) : Prop := RdS w0 a n cap xs ∨ (OwnS B 52 X (.slice a n cap) xs ∧ ∀ g, (Value.slice a n cap).ownBlock = some g → ¬ T X g)
section
variable {T : World → Nat → Prop} {w0 : World} {B : Nat} {X Y : World} {a : Option Addr} {n cap : Nat} {xs : List Snd}
theorem NowS.rd (h : NowS T w0 B X a n cap xs) (hx : Ext w0 X) : RdS X a n cap xs := by
  rcases h with h | ⟨h, _⟩
  · exact h.ext hx
  · obtain ⟨a', n', c', h1, h2, h3⟩ := OwnK.rdn Snd.len h
    cases h2; exact h3
theorem NowS.grown (h : NowS T w0 B X a n cap xs) {row : Option Nat} (hg : X.grownBy Y row) (hr : ∀ r, row = some r → notSnd X r) (hT : ∀ r, T Y r ↔ T X r) : NowS T w0 B Y a n cap xs := by
  rcases h with h | ⟨h, h2⟩
  · exact .inl h
  · refine .inr ⟨own_apart h hg fun g e e2 => ?_, fun g e h3 => h2 g e ((hT g).1 h3)⟩
    obtain ⟨cur, hc⟩ := own_type h e2
    exact hr g e _ _ _ hc rfl
theorem NowS.ext (h : NowS T w0 B X a n cap xs) (hx : Ext X Y) (hT : ∀ r, T Y r ↔ T X r) : NowS T w0 B Y a n cap xs := h.grown (gb_ext hx none) (fun r e => by cases e) hT
theorem own_keepT (h : OwnS B 52 X (.slice a n cap) xs) (hk : KeepT T X Y) (hn : ∀ g, (Value.slice a n cap).ownBlock = some g → ¬ T X g) : OwnS B 52 Y (.slice a n cap) xs := by
  obtain ⟨h1, h2⟩ := h
  refine ⟨h1, ?_⟩
  rcases h2 with h2 | ⟨g, cap, cur, hv, hg, hh, r⟩
  · exact .inl h2
  · exact .inr ⟨g, cap, cur, hv, hg, hk.same g _ hh rfl (hn g (by rw [hv]; rfl)), r⟩
theorem NowS.keep (h : NowS T w0 B X a n cap xs) (hk : KeepT T X Y) : NowS T w0 B Y a n cap xs := by
  rcases h with h | ⟨h, h2⟩
  · exact .inl h
  · refine .inr ⟨own_keepT h hk h2, fun g e h3 => ?_⟩
    rcases hk.new g h3 with h4 | h4
    · exact h2 g e h4
    · have := (own_lt h e).2; omega
end
/-- .. and the box that holds it. -/
structure RunN (T : World → Nat → Prop) (w0 : World) (B : Nat) (now : List Snd) (an : Option Addr) (nn cn : Nat) (X : World) : Prop where
  box : Held T X (B + 1) (wordO an nn cn)
  rd : NowS T w0 B X an nn cn now
section
variable {T : World → Nat → Prop} {w0 : World} {B : Nat} {now : List Snd} {an : Option Addr} {nn cn : Nat} {X Y : World}
theorem RunN.ext (h : RunN T w0 B now an nn cn X) (hx : Ext X Y) (hT : ∀ r, T Y r ↔ T X r) : RunN T w0 B now an nn cn Y := ⟨h.box.ext hx hT, h.rd.ext hx hT⟩
theorem RunN.keep (h : RunN T w0 B now an nn cn X) (hk : KeepT T X Y) : RunN T w0 B now an nn cn Y := ⟨h.box.keep hk, h.rd.keep hk⟩
theorem RunN.grown (h : RunN T w0 B now an nn cn X) {row : Option Nat} (hg : X.grownBy Y row) (hr : ∀ r, row = some r → B + 1 < r ∧ notSnd X r) (hT : ∀ r, T Y r ↔ T X r) : RunN T w0 B now an nn cn Y :=
  ⟨h.box.grown hg (fun r e => by have := (hr r e).1; omega) hT, h.rd.grown hg (fun r e => (hr r e).2) hT⟩
end
theorem boxed_notSnd {X : World} {b : Nat} {t : TypeId} {v : Value} (h : X.heap[b]? = some (.cells #[v] t (0, 0))) (ht : t ≠ 52) : notSnd X b := fun cs t' fr h2 => by
  rw [h] at h2; cases h2; exact ht
theorem notCells_notSnd {X : World} {r : Nat} (h : ∃ o : Obj, X.heap[r]? = some o ∧ o.isCells = false) : notSnd X r := fun cs t fr h2 => by
  obtain ⟨o, h3, h4⟩ := h
  rw [h2] at h3; cases h3; cases h4
/-! ### The steps of a run, outright -/
theorem replM_len (L : HL) (w : List Snd) (a : Nat) (h : a + L.ifs.length ≤ w.length) : (replM L w a).length = w.length + L.outs.length - L.ifs.length := by
  unfold replM
  rw [List.length_append, List.length_append, putM_len, List.length_take, List.length_drop]; omega
theorem lastW_snoc (u : List (List Snd)) (x d : List Snd) : lastW (u ++ [x]) d = x := by
  unfold lastW; rw [List.getLastD_concat]
theorem hits_len (L : HL) (ws : List Snd) (b : Nat) : (hitsM L ws b).length ≤ ws.length + 1 := by
  unfold hitsM
  refine Nat.le_trans (List.length_filter_le _ _) ?_
  rw [List.length_range]; exact Nat.le_refl _
theorem hitB_at {L : HL} {w : List Snd} {a : Nat} (h : hitB' L w a = true) : a + L.ifs.length ≤ w.length := by
  unfold hitB' at h
  rw [Bool.and_eq_true, decide_eq_true_eq] at h
  exact h.1
theorem hits_drop {L : HL} {ws : List Snd} {s : List Nat} {x : Nat} (h : (s ++ [x]) <+: hitsM L ws 0) : (hitsM L ws 0).drop s.length = x :: (hitsM L ws 0).drop (s ++ [x]).length ∧ x + L.ifs.length ≤ ws.length := by
  obtain ⟨t, ht⟩ := h
  have hx : x ∈ hitsM L ws 0 := by rw [← ht]; simp
  refine ⟨?_, hitB_at (hitsM_mem.1 hx).2.2⟩
  rw [← ht]
  simp
set_option maxHeartbeats 1000000 in
set_option maxRecDepth 20000 in
theorem run_any (L : HL) (a : Option Addr) (n cap : Nat) (w : World) : Calls Tryz.prog 50 #[lawV L, .slice a n cap] w fun e w' => ∃ bl bw bk bm : Nat,
    e = .returned (.func (.func 65) #[] #[.pointer (some ⟨bw, 0, none⟩), .pointer (some ⟨bl, 0, none⟩), .pointer (some ⟨bk, 0, none⟩), .pointer (some ⟨bm, 0, none⟩)]) ∧ Ext w w' ∧
    (w.heap.size ≤ bl ∧ w'.heap[bl]? = some (lawO L)) ∧ (w.heap.size ≤ bw ∧ w'.heap[bw]? = some (wordO a n cap)) ∧ (w.heap.size ≤ bk ∧ w'.heap[bk]? = some (intO L.ifs.length)) ∧ (w.heap.size ≤ bm ∧ w'.heap[bm]? = some (intO L.outs.length)) := by
  have hB0 := LawB.new w L
  have hX : Ext w (w.alloc (.cells #[.string L.name, .int .i64 L.left.kind, .int .u32 L.left.is.p.toNat, .int .u32 L.left.is.m.toNat, .bool L.left.neg, .int .i64 L.left.mn, .int .i64 L.left.mx, .slice L.left.a L.left.n L.left.cap, .int .i64 L.right.kind, .int .u32 L.right.is.p.toNat, .int .u32 L.right.is.m.toNat, .bool L.right.neg, .int .i64 L.right.mn, .int .i64 L.right.mx, .slice L.right.a L.right.n L.right.cap, .slice L.ia L.ifs.length L.icap, .slice L.oa L.outs.length L.ocap, .int .i64 L.mode] 58)) := Ext.alloc1 _ _
  have hB := hB0.ext (Ext.alloc1 _ (.cells #[.slice a n cap] 40))
  have hW := World.alloc_heap_new (w.alloc (.cells #[.string L.name, .int .i64 L.left.kind, .int .u32 L.left.is.p.toNat, .int .u32 L.left.is.m.toNat, .bool L.left.neg, .int .i64 L.left.mn, .int .i64 L.left.mx, .slice L.left.a L.left.n L.left.cap, .int .i64 L.right.kind, .int .u32 L.right.is.p.toNat, .int .u32 L.right.is.m.toNat, .bool L.right.neg, .int .i64 L.right.mn, .int .i64 L.right.mx, .slice L.right.a L.right.n L.right.cap, .slice L.ia L.ifs.length L.icap, .slice L.oa L.outs.length L.ocap, .int .i64 L.mode] 58)) (.cells #[.slice a n cap] 40)
  refine (callsIn_wide (n := 9)).1 ?_
  refine callsIn_of_wp Tryz.func50 rfl trivial ?_ rfl
  simp only [Tryz.ntmps50, List.size_toArray, List.length_cons, List.length_nil, Nat.reduceAdd, Nat.reduceSub, Array.replicate_succ, Array.replicate_zero, List.push_toArray, List.append_toArray, List.nil_append, List.cons_append]
  gi_wp2
  have hX2 := hX.trans (Ext.alloc1 (w.alloc (.cells #[.string L.name, .int .i64 L.left.kind, .int .u32 L.left.is.p.toNat, .int .u32 L.left.is.m.toNat, .bool L.left.neg, .int .i64 L.left.mn, .int .i64 L.left.mx, .slice L.left.a L.left.n L.left.cap, .int .i64 L.right.kind, .int .u32 L.right.is.p.toNat, .int .u32 L.right.is.m.toNat, .bool L.right.neg, .int .i64 L.right.mn, .int .i64 L.right.mx, .slice L.right.a L.right.n L.right.cap, .slice L.ia L.ifs.length L.icap, .slice L.oa L.outs.length L.ocap, .int .i64 L.mode] 58)) (.cells #[.slice a n cap] 40))
  rw [World.size_alloc] at hW
  generalize ((w.alloc (.cells #[.string L.name, .int .i64 L.left.kind, .int .u32 L.left.is.p.toNat, .int .u32 L.left.is.m.toNat, .bool L.left.neg, .int .i64 L.left.mn, .int .i64 L.left.mx, .slice L.left.a L.left.n L.left.cap, .int .i64 L.right.kind, .int .u32 L.right.is.p.toNat, .int .u32 L.right.is.m.toNat, .bool L.right.neg, .int .i64 L.right.mn, .int .i64 L.right.mx, .slice L.right.a L.right.n L.right.cap, .slice L.ia L.ifs.length L.icap, .slice L.oa L.outs.length L.ocap, .int .i64 L.mode] 58)).alloc (.cells #[.slice a n cap] 40)) = w1 at *
  have hle1 := hX2.le
  generalize hb1 : w.heap.size = b1 at *
  obtain ⟨c0, c1, c2, c3⟩ := hB.c
  have hlt := hB.lt
  clear c0 c3 hB0 hX
  gi_region
  all_goals gi_wp2
  all_goals refine bodyPost_ret (results_tmp rfl _ _ _) rfl ?_
  · refine ⟨b1, b1 + 1, w1.heap.size, w1.heap.size + 1, rfl, ?_, ⟨by omega, ?_⟩, ⟨by omega, ?_⟩, ⟨by omega, ?_⟩, ⟨by omega, ?_⟩⟩
    · exact ((hX2.alloc _).alloc _).drew
    · exact (Below.block (((Ext.refl w1).alloc _).alloc _).drew.bel _ hlt).trans hB
    · exact (Below.block (((Ext.refl w1).alloc _).alloc _).drew.bel _ (Array.getElem?_eq_some_iff.1 hW).1).trans hW
    · exact (Below.block ((Ext.refl _).alloc (.cells #[.int .i64 (L.outs.length : Int)] 3)).drew.bel _ (by simp)).trans (World.alloc_heap_new w1 _)
    · have := World.alloc_heap_new (w1.alloc (.cells #[.int .i64 (L.ifs.length : Int)] 3)) (.cells #[.int .i64 (L.outs.length : Int)] 3)
      rwa [World.size_alloc] at this
  · refine ⟨b1, b1 + 1, w1.heap.size + 1, w1.heap.size, rfl, ?_, ⟨by omega, ?_⟩, ⟨by omega, ?_⟩, ⟨by omega, ?_⟩, ⟨by omega, ?_⟩⟩
    · exact ((hX2.alloc _).alloc _).drew
    · exact (Below.block (((Ext.refl w1).alloc _).alloc _).drew.bel _ hlt).trans hB
    · exact (Below.block (((Ext.refl w1).alloc _).alloc _).drew.bel _ (Array.getElem?_eq_some_iff.1 hW).1).trans hW
    · have := World.alloc_heap_new (w1.alloc (.cells #[.int .i64 (L.outs.length : Int)] 3)) (.cells #[.int .i64 (L.ifs.length : Int)] 3)
      rwa [World.size_alloc] at this
    · exact (Below.block ((Ext.refl _).alloc (.cells #[.int .i64 (L.ifs.length : Int)] 3)).drew.bel _ (by simp)).trans (World.alloc_heap_new w1 _)
end Go.Proofs.YtadncjpknckaaaaGreatDoor
