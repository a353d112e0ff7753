/-
  law.run$1, mode All: over the places that are hit.
-/
import Derived.Test.YtadncjpknckaaaaGreatDoorA21
namespace Go.Proofs.YtadncjpknckaaaaGreatDoor
open Go.RowKit Go.Shelf
attribute [local go_sem] Oper.semAt_some
/-- What stands in a run over all places: how far it has come. -/
structure AllI (L : HL) (ws : List Snd) (w0 : World) (T : World → Nat → Prop) (J : List (List Snd) → World → Prop) (a : Option Addr) (nw cap bl bw bk bm B l : Nat) (s : List Nat) (u : List (List Snd)) (now : List Snd) (an : Option Addr) (nn cn next : Nat) (shift : Int) (X : World) : Prop where
  j : J u X
  bx : RunS T L a nw cap bl bw bk bm B l X
  n : RunN T w0 B now an nn cn X
  b7 : Held T X (B + 1 + 1) (intO next)
  b8 : Held T X (B + 1 + 1 + 1) (.cells #[.int .i64 shift] 3 (0, 0))
  last : now = lastW u ws
  len : (now.length : Int) = ws.length + shift
  le : now.length ≤ 32
  low : 0 ≤ next + shift
  nx : next ≤ 40
  ul : u.length ≤ s.length
  go : runM L ws = allGo L ws ((hitsM L ws 0).drop s.length) now next shift
section
variable {L : HL} {ws : List Snd} {w0 : World} {T : World → Nat → Prop} {J : List (List Snd) → World → Prop} {a : Option Addr} {nw cap bl bw bk bm B l : Nat} {s : List Nat} {u : List (List Snd)} {now : List Snd} {an : Option Addr} {nn cn next : Nat} {shift : Int} {X Y : World}
theorem AllI.grown (h : AllI L ws w0 T J a nw cap bl bw bk bm B l s u now an nn cn next shift X) (hst : StabT T B J) (hlt : bl < B ∧ bw < B ∧ bk < B ∧ bm < B) {row : Option Nat} (hg : X.grownBy Y row) (hr : ∀ r, row = some r → ¬ T X r ∧ B + 3 < r ∧ notSnd X r) : AllI L ws w0 T J a nw cap bl bw bk bm B l s u now an nn cn next shift Y ∧ ∀ r, T Y r ↔ T X r := by
  obtain ⟨h1, h2⟩ := hst _ _ _ _ h.j hg (fun r e => by have := hr r e; exact ⟨this.1, by omega, this.2.2⟩)
  exact ⟨⟨h1, h.bx.grown hg hlt (fun r e => by have := (hr r e).2.1; omega) h2, h.n.grown hg (fun r e => by have := hr r e; exact ⟨by omega, this.2.2⟩) h2, h.b7.grown hg (fun r e => by have := (hr r e).2.1; omega) h2, h.b8.grown hg (fun r e => by have := (hr r e).2.1; omega) h2, h.last, h.len, h.le, h.low, h.nx, h.ul, h.go⟩, h2⟩
theorem AllI.ext (h : AllI L ws w0 T J a nw cap bl bw bk bm B l s u now an nn cn next shift X) (hst : StabT T B J) (hlt : bl < B ∧ bw < B ∧ bk < B ∧ bm < B) (hx : Ext X Y) : AllI L ws w0 T J a nw cap bl bw bk bm B l s u now an nn cn next shift Y ∧ ∀ r, T Y r ↔ T X r := h.grown hst hlt (gb_ext hx none) fun r e => by cases e
end
theorem all_skip {L : HL} {ws : List Snd} {s : List Nat} {x : Nat} {now : List Snd} {next : Nat} {shift : Int} (h : (s ++ [x]) <+: hitsM L ws 0) (hx : x < next) (hg : runM L ws = allGo L ws ((hitsM L ws 0).drop s.length) now next shift) : runM L ws = allGo L ws ((hitsM L ws 0).drop (s ++ [x]).length) now next shift := by
  rw [hg, (hits_drop h).1, allGo, if_pos hx]
theorem all_step {L : HL} {ws : List Snd} {s : List Nat} {x p : Nat} {now : List Snd} {next : Nat} {shift : Int} (h : (s ++ [x]) <+: hitsM L ws 0) (hx : ¬ x < next) (hp : (x : Int) + shift = p) (hg : runM L ws = allGo L ws ((hitsM L ws 0).drop s.length) now next shift) :
    runM L ws = if 32 < (now.take p ++ (putM L.outs ((ws.drop x).take L.ifs.length) ++ ws.drop (x + L.ifs.length))).length then none else allGo L ws ((hitsM L ws 0).drop (s ++ [x]).length) (now.take p ++ (putM L.outs ((ws.drop x).take L.ifs.length) ++ ws.drop (x + L.ifs.length))) (x + max L.ifs.length 1) (shift + L.outs.length - L.ifs.length) := by
  rw [hg, (hits_drop h).1, allGo, if_neg hx, hp]; rfl
theorem cellv_set {w : World} {b c : Nat} {v u : Value} (h : w.cell? ⟨c, 0, none⟩ = some u) (hne : c ≠ b) : (w.setCell ⟨b, 0, none⟩ v).cell? ⟨c, 0, none⟩ = some u := by
  have hl : c < w.heap.size := cell_lt h
  rw [World.cell?_of_block (a := ⟨c, 0, none⟩) ((grownBy_set w b 0 v).block c hl fun e => hne (by cases e; rfl))]
  exact h
theorem keepsFrom_up {B B' : Nat} {X Y : World} (h : KeepsFrom B X Y) (hB : B ≤ B') : KeepsFrom B' X Y := ⟨h.size, fun k o h1 h2 h3 => h.same k o (Nat.le_trans hB h1) h2 h3⟩
theorem keepT_grown {T : World → Nat → Prop} {X Y : World} {row : Option Nat} (hg : X.grownBy Y row) (hr : ∀ r, row = some r → T X r) (hn : ∀ r, T Y r → T X r ∨ X.heap.size ≤ r) : KeepT T X Y :=
  ⟨hg.size, fun r _ h1 _ h3 => (hg.block r (Array.getElem?_eq_some_iff.1 h1).1 fun e => h3 (hr r e.symm)).trans h1, hn⟩
theorem keepT_or {T : World → Nat → Prop} {S : Nat → Prop} {X Y : World} (h : KeepT T X Y) : KeepT (fun X r => T X r ∨ S r) X Y :=
  ⟨h.le, fun r o h1 h2 h3 => h.same r o h1 h2 fun h4 => h3 (.inl h4), fun r h1 => by
    rcases h1 with h1 | h1
    · exact (h.new r h1).elim (fun h => .inl (.inl h)) .inr
    · exact .inl (.inr h1)⟩
set_option maxHeartbeats 4000000 in
set_option maxRecDepth 20000 in
theorem run1_all (L : HL) (a : Option Addr) (nw cap : Nat) (ws : List Snd) (hok : lawOkB L = true) (hmode : L.mode = 1) (w0 : World) (hL : RdLw w0 L) (hws : RdS w0 a nw cap ws) (hT0 : Tab64 w0) (hn32 : nw ≤ 32) (T : World → Nat → Prop) (W : World) (J Jx : List (List Snd) → World → Prop) (l bl bw bk bm : Nat)
    (hH : RunH L ws w0 T W.heap.size J Jx l) (h0 : J [] W) (kl : Held T W bl (lawO L)) (kw : Held T W bw (wordO a nw cap)) (kk : Held T W bk (intO L.ifs.length)) (km : Held T W bm (intO L.outs.length)) :
    CallsIn Fence.wide 8 Tryz.prog 65 #[.func (.yield l) #[] #[], .pointer (some ⟨bw, 0, none⟩), .pointer (some ⟨bl, 0, none⟩), .pointer (some ⟨bk, 0, none⟩), .pointer (some ⟨bm, 0, none⟩)] W fun e W' => (∃ v, e = .returned v) ∧ ((∃ s, runM L ws = some (lastW s ws) ∧ J s W') ∨ ∃ pre, Jx pre W') := by
  have hro : Fence.wide.round = none := rfl
  refine callsIn_of_wp_marks Tryz.func65 rfl trivial ?_ hro
  simp only [Tryz.ntmps65, List.size_toArray, List.length_cons, List.length_nil, Nat.reduceAdd, Nat.reduceSub, Array.replicate_succ, Array.replicate_zero, List.push_toArray, List.append_toArray, List.nil_append, List.cons_append]
  have c2 := kw.word
  obtain ⟨l0, l1, l2, l3⟩ := kl.law.c
  rw [hmode] at l3
  replace hmode := Lib.hid hmode
  have e1 := (Array.getElem?_eq_some_iff.1 kl.at').1
  have e2 := (Array.getElem?_eq_some_iff.1 kw.at').1
  clear l0 l1 l2
  have hX4 : Ext W ((((W.alloc (.cells #[.func (.yield l) #[] #[]] 134)).alloc (.cells #[.slice a nw cap] 40)).alloc (.cells #[.int .i64 0] 3)).alloc (.cells #[.int .i64 0] 3)) := (by repeat (first | exact Ext.refl _ | refine Ext.drew ?_ | refine Ext.drewN ?_ _ | refine Ext.alloc ?_ _))
  have hB4 := LawB.ext kl.law hX4
  have c4 := hX4.cellv c2
  gi_wp2_with (refine listIn_of rfl (fun c h => by cases h) fun K hK => ?_; refine wp_load_row 58 _ rfl bl rfl 58 _ (0, 0) _ hB4 Tryz.underlying58 rfl (by kernel_rfl) ?_; refine hK _ _ ?_)
  obtain ⟨hJ4, hT4⟩ := hH.stab.new _ _ _ h0 hX4
  have hnew : ∀ r, W.heap.size ≤ r → ¬ T ((((W.alloc (.cells #[.func (.yield l) #[] #[]] 134)).alloc (.cells #[.slice a nw cap] 40)).alloc (.cells #[.int .i64 0] 3)).alloc (.cells #[.int .i64 0] 3)) r := fun r hr h => by have := (hH.low _ _ _ h0 ((hT4 r).1 h)).2; omega
  have y5 : ((((W.alloc (.cells #[.func (.yield l) #[] #[]] 134)).alloc (.cells #[.slice a nw cap] 40)).alloc (.cells #[.int .i64 0] 3)).alloc (.cells #[.int .i64 0] 3)).heap[W.heap.size]? = some (yO l) := (Below.block ((((Ext.refl (W.alloc (yO l))).alloc (wordO a nw cap)).alloc (.cells #[.int .i64 0] 3)).alloc (.cells #[.int .i64 0] 3)).bel _ (by simp)).trans (World.alloc_heap_new W _)
  have y6 : ((((W.alloc (.cells #[.func (.yield l) #[] #[]] 134)).alloc (.cells #[.slice a nw cap] 40)).alloc (.cells #[.int .i64 0] 3)).alloc (.cells #[.int .i64 0] 3)).heap[W.heap.size + 1]? = some (wordO a nw cap) := (Below.block (((Ext.refl ((W.alloc (yO l)).alloc (wordO a nw cap))).alloc (.cells #[.int .i64 0] 3)).alloc (.cells #[.int .i64 0] 3)).bel _ (by simp)).trans (by
    have := World.alloc_heap_new (W.alloc (yO l)) (wordO a nw cap); rwa [World.size_alloc] at this)
  have y7 : ((((W.alloc (.cells #[.func (.yield l) #[] #[]] 134)).alloc (.cells #[.slice a nw cap] 40)).alloc (.cells #[.int .i64 0] 3)).alloc (.cells #[.int .i64 0] 3)).heap[W.heap.size + 2]? = some (.cells #[.int .i64 0] 3) := (Below.block ((Ext.refl (((W.alloc (yO l)).alloc (wordO a nw cap)).alloc (.cells #[.int .i64 0] 3))).alloc (.cells #[.int .i64 0] 3)).bel _ (by simp)).trans (by
    have := World.alloc_heap_new ((W.alloc (yO l)).alloc (wordO a nw cap)) (.cells #[.int .i64 0] 3); rwa [World.size_alloc, World.size_alloc] at this)
  have y8 : ((((W.alloc (.cells #[.func (.yield l) #[] #[]] 134)).alloc (.cells #[.slice a nw cap] 40)).alloc (.cells #[.int .i64 0] 3)).alloc (.cells #[.int .i64 0] 3)).heap[W.heap.size + 3]? = some (.cells #[.int .i64 0] 3) := by
    have := World.alloc_heap_new (((W.alloc (yO l)).alloc (wordO a nw cap)).alloc (.cells #[.int .i64 0] 3)) (.cells #[.int .i64 0] 3); rwa [World.size_alloc, World.size_alloc, World.size_alloc] at this
  have hzz : ((((W.alloc (.cells #[.func (.yield l) #[] #[]] 134)).alloc (.cells #[.slice a nw cap] 40)).alloc (.cells #[.int .i64 0] 3)).alloc (.cells #[.int .i64 0] 3)).heap.size = W.heap.size + 4 := by simp
  have hA4 : AllI L ws w0 T J a nw cap bl bw bk bm W.heap.size l [] [] ws a nw cap 0 0 ((((W.alloc (.cells #[.func (.yield l) #[] #[]] 134)).alloc (.cells #[.slice a nw cap] 40)).alloc (.cells #[.int .i64 0] 3)).alloc (.cells #[.int .i64 0] 3)) :=
    ⟨hJ4, ⟨kl.ext hX4 hT4, kw.ext hX4 hT4, kk.ext hX4 hT4, km.ext hX4 hT4, ⟨y5, rfl, hnew _ (Nat.le_refl _)⟩⟩, ⟨⟨y6, rfl, hnew _ (by omega)⟩, .inl hws⟩, ⟨y7, rfl, hnew _ (by omega)⟩, ⟨y8, rfl, hnew _ (by omega)⟩, rfl, by simp, by rw [hws.len]; exact hn32, by simp, by omega, Nat.le_refl _, by
      unfold runM; rw [if_pos hmode.out]; rfl⟩
  have hx04 : Ext w0 ((((W.alloc (.cells #[.func (.yield l) #[] #[]] 134)).alloc (.cells #[.slice a nw cap] 40)).alloc (.cells #[.int .i64 0] 3)).alloc (.cells #[.int .i64 0] 3)) := (hH.ext _ _ h0).trans hX4
  have hlt : Hid (bl < W.heap.size ∧ bw < W.heap.size ∧ bk < W.heap.size ∧ bm < W.heap.size ∧ w0.heap.size ≤ W.heap.size) := Lib.hid ⟨e1, e2, (Array.getElem?_eq_some_iff.1 kk.at').1, (Array.getElem?_eq_some_iff.1 km.at').1, (hH.ext _ _ h0).le⟩
  have hTlt : ∀ r, T ((((W.alloc (.cells #[.func (.yield l) #[] #[]] 134)).alloc (.cells #[.slice a nw cap] 40)).alloc (.cells #[.int .i64 0] 3)).alloc (.cells #[.int .i64 0] 3)) r → r < W.heap.size := fun r h => (hH.low _ _ _ h0 ((hT4 r).1 h)).2
  clear c4 hB4 hX4 y5 y6 y7 y8 hnew kl kw kk km c2 l3 e1 e2 hJ4 hT4 h0
  have hlaw := hA4.bx.kl.law
  generalize hW4 : ((((W.alloc (.cells #[.func (.yield l) #[] #[]] 134)).alloc (.cells #[.slice a nw cap] 40)).alloc (.cells #[.int .i64 0] 3)).alloc (.cells #[.int .i64 0] 3)) = w4 at *
  clear hW4
  generalize hBW : W.heap.size = B at *
  refine ⟨trivial, ?_⟩
  gi_at_call 66
  refine (callsIn_wide.2 (hits_any L a nw cap 0 w4)).mono ?_
  rintro e w5 ⟨rfl, hw5⟩
  have hx45 : Ext w4 w5 := by rw [hw5]; exact (by repeat (first | exact Ext.refl _ | refine Ext.drew ?_ | refine Ext.drewN ?_ _ | refine Ext.alloc ?_ _))
  have kl5 : LawB w5 w4.heap.size L := by rw [hw5]; exact ((LawB.new w4 L).ext (Ext.alloc1 _ _)).ext (Ext.alloc1 _ _)
  have kw5 : w5.heap[w4.heap.size + 1]? = some (wordO a nw cap) := by
    rw [hw5]
    have := World.alloc_heap_new (w4.alloc (.cells #[.string L.name, .int .i64 L.left.kind, .int .u32 L.left.is.p.toNat, .int .u32 L.left.is.m.toNat, .bool L.left.neg, .int .i64 L.left.mn, .int .i64 L.left.mx, .slice L.left.a L.left.n L.left.cap, .int .i64 L.right.kind, .int .u32 L.right.is.p.toNat, .int .u32 L.right.is.m.toNat, .bool L.right.neg, .int .i64 L.right.mn, .int .i64 L.right.mx, .slice L.right.a L.right.n L.right.cap, .slice L.ia L.ifs.length L.icap, .slice L.oa L.outs.length L.ocap, .int .i64 L.mode] 58)) (.cells #[.slice a nw cap] 40)
    rw [World.size_alloc] at this
    exact (Below.heap_alloc _ _ _ (by simp)).trans this
  have kf5 : w5.heap[w4.heap.size + 1 + 1]? = some (intO 0) := by
    rw [hw5]
    have := World.alloc_heap_new ((w4.alloc (.cells #[.string L.name, .int .i64 L.left.kind, .int .u32 L.left.is.p.toNat, .int .u32 L.left.is.m.toNat, .bool L.left.neg, .int .i64 L.left.mn, .int .i64 L.left.mx, .slice L.left.a L.left.n L.left.cap, .int .i64 L.right.kind, .int .u32 L.right.is.p.toNat, .int .u32 L.right.is.m.toNat, .bool L.right.neg, .int .i64 L.right.mn, .int .i64 L.right.mx, .slice L.right.a L.right.n L.right.cap, .slice L.ia L.ifs.length L.icap, .slice L.oa L.outs.length L.ocap, .int .i64 L.mode] 58)).alloc (.cells #[.slice a nw cap] 40)) (.cells #[.int .i64 ((0 : Nat) : Int)] 3)
    rwa [World.size_alloc, World.size_alloc] at this
  have hlt4 : bl < B ∧ bw < B ∧ bk < B ∧ bm < B := ⟨hlt.out.1, hlt.out.2.1, hlt.out.2.2.1, hlt.out.2.2.2.1⟩
  obtain ⟨hA5, hT5⟩ := hA4.ext hH.stab hlt4 hx45
  replace hlt4 := Lib.hid hlt4
  have hle5 := hx45.le
  replace hzz := Lib.hid hzz
  have hTlt5 : ∀ r, T w5 r → r < B := fun r h => hTlt r ((hT5 r).1 h)
  have hx05 := hx04.trans hx45
  clear hw5 hA4 hx04 hT5 hTlt hlaw
  generalize hB1 : w4.heap.size = B1 at *
  gi_wp2
  have hle5' : Hid (B + 4 ≤ w5.heap.size ∧ B + 4 = B1) := Lib.hid (by have := hzz.out; omega)
  clear hx45 hzz hle5 hB1
  refine wpIn_range_T2 (α := Nat) rfl (by decide : 1 ≤ 8) (gf := 79) (lb := #[.pointer (some ⟨B1, 0, none⟩), .pointer (some ⟨B1 + 1, 0, none⟩), .pointer (some ⟨B1 + 1 + 1, 0, none⟩)]) rfl trivial (enters_of Tryz.func79 (by kernel_rfl) rfl)
    (fun X r => T X r ∨ r = B + 1 ∨ r = B + 1 + 1 ∨ r = B + 1 + 1 + 1) (fun s x v _ => v = encF x ∧ (s ++ [x]) <+: hitsM L ws 0) (fun s X => ∃ u now an nn cn next shift, AllI L ws w0 T J a nw cap bl bw bk bm B l s u now an nn cn next shift X)
    (fun c s X => c = .ret ∧ ∃ pre, Jx pre X) (fun s => s = hitsM L ws 0) (fun X r => ∃ o : Obj, X.heap[r]? = some o ∧ o.isCells = false) (fun X r o h1 h2 => ⟨o, h1, h2⟩)
    (fun s X r hi ht => by
      obtain ⟨u, now, an, nn, cn, next, shift, hA⟩ := hi
      rcases ht with h | rfl | rfl | rfl
      · exact hH.cells _ _ _ hA.j h
      · exact ⟨_, hA.n.box.at', rfl⟩
      · exact ⟨_, hA.b7.at', rfl⟩
      · exact ⟨_, hA.b8.at', rfl⟩)
    (fun s X Y row hs hg hr => by
      obtain ⟨u, now, an, nn, cn, next, shift, hA⟩ := hs
      obtain ⟨k1, k2⟩ := hA.grown hH.stab hlt4.out hg fun r e => ⟨fun h => (hr r e).1 (.inl h), by have := (hr r e).2.1; have := hle5'.out; omega, notCells_notSnd (hr r e).2.2⟩
      exact ⟨⟨u, now, an, nn, cn, next, shift, k1⟩, fun r => by rw [k2 r]⟩)
    (fun c s X Y row hs hg hr hr2 => by
      obtain ⟨k1, pre, k2⟩ := hs
      exact ⟨k1, pre, hH.stabx _ _ _ _ k2 hg fun r e => ⟨hr r e, by have := hr2 r e; have := hle5'.out; omega⟩⟩)
    (fun s x v X Y row hs hg hr => hs)
    ⟨[], ws, a, nw, cap, 0, 0, hA5⟩
    (fun l' J' Jx' W' hB' hJ0 hJI hJg hJx hY => ?iter)
    (fun v t => (t.setIfInBounds 20 (v.getD 0 undef)).setIfInBounds 9 (v.getD 0 undef)) ?assign ?body ?done ?stop
  case iter =>
    have hxW : Ext w5 W' := ⟨hB'⟩
    have hnoT : ∀ r, B1 ≤ r → r < w5.heap.size → ¬ (T W' r ∨ r = B + 1 ∨ r = B + 1 + 1 ∨ r = B + 1 + 1 + 1) := fun r h1 h2 h => by
      have := hle5'.out
      rcases h with h | h | h | h
      · have h3 := ((hA5.ext hH.stab hlt4.out hxW).2 r).1 h
        have := hTlt5 r h3; omega
      · omega
      · omega
      · omega
    refine (hits1_T L a nw cap ws 0 hok w0 hL hws hT0 (by omega) (Nat.zero_le _) (fun X r => T X r ∨ r = B + 1 ∨ r = B + 1 + 1 ∨ r = B + 1 + 1 + 1) J' Jx' (fun s X Y hs hx => hJg s X Y none hs (gb_ext hx none) (fun r e => by cases e)) (fun s X hs => by obtain ⟨u, now, an, nn, cn, next, shift, hA⟩ := hJI s X hs; exact hH.ext _ _ hA.j)
      (fun s X r hs ht => by
        obtain ⟨u, now, an, nn, cn, next, shift, hA⟩ := hJI s X hs
        rcases ht with h | rfl | rfl | rfl
        · exact (hH.low _ _ _ hA.j h).2
        · exact (Array.getElem?_eq_some_iff.1 hA.n.box.at').1
        · exact (Array.getElem?_eq_some_iff.1 hA.b7.at').1
        · exact (Array.getElem?_eq_some_iff.1 hA.b8.at').1) 7 l' B1 (B1 + 1) (B1 + 1 + 1) (by decide)
      (fun pre x X hs hp => (hY pre x (encF x) X hs rfl ⟨rfl, hp⟩).mono fun e Y h => h.2) W' hJ0
      ⟨LawB.ext kl5 hxW, rfl, hnoT _ (Nat.le_refl _) (Array.getElem?_eq_some_iff.1 kl5).1⟩ ⟨(Below.block hxW.bel _ (Array.getElem?_eq_some_iff.1 kw5).1).trans kw5, rfl, hnoT _ (by omega) (Array.getElem?_eq_some_iff.1 kw5).1⟩ ⟨(Below.block hxW.bel _ (Array.getElem?_eq_some_iff.1 kf5).1).trans kf5, rfl, hnoT _ (by omega) (Array.getElem?_eq_some_iff.1 kf5).1⟩).mono ?_
    exact fun e Y h => ⟨h.1, h.2.elim (fun h => .inl ⟨_, rfl, h⟩) .inr⟩
  case assign =>
    intro l' v W K' hv hK'
    obtain ⟨x, rfl⟩ := size_one hv
    gi_wp2
    exact hK'
  case body =>
    rintro l' pre x v X ⟨u, now, an, nn, cn, next, shift, hA⟩ hv ⟨rfl, hp⟩
    have c7 := hA.b7.int
    by_cases hxn : x < next
    · have hxn' : (x : Int) < (next : Int) := by omega
      gi_wp2
      exact ⟨KeepsFrom.refl _ _, KeepT.refl _ _, u, now, an, nn, cn, next, shift, { hA with ul := by rw [List.length_append]; exact Nat.le_succ_of_le hA.ul, go := all_skip hp hxn hA.go }⟩
    · have hxn' : ¬ (x : Int) < (next : Int) := by omega
      have hx0X := hH.ext _ _ hA.j
      have hrd := hA.n.rd.rd hx0X
      have hwX := hws.ext hx0X
      have hLX := hL.ext hx0X
      have hxk := (hits_drop hp).2
      have hu80 : u.length ≤ 80 := by
        have h1 := hp.length_le
        rw [List.length_append, List.length_singleton] at h1
        have h2 := hits_len L ws 0
        rw [hws.len] at h2
        have h3 := hA.ul
        omega
      have hul := hA.ul
      have hl := hws.len
      have hnl := hrd.len
      have hkk := (lawOk_parts hok).2.2.1
      have hmm := (lawOk_parts hok).2.2.2.1
      have hA1 := hA.len
      have hA2 := hA.low
      have hA3 := hA.le
      have hcn := hrd.le
      have hcp := hws.le
      obtain ⟨p, hp1⟩ : ∃ p : Nat, (x : Int) + shift = (p : Int) := ⟨(x + shift).toNat, by omega⟩
      have hpn : p ≤ nn := by omega
      have hpn32 : p ≤ 32 := by omega
      have hstep := all_step hp hxn hp1 hA.go
      obtain ⟨j, hj⟩ : ∃ j, j = x + L.ifs.length := ⟨_, rfl⟩
      have hjn : j ≤ nw := by omega
      have hxj : x ≤ j := by omega
      have hjx : j - x = L.ifs.length := by omega
      have hsum : (x : Int) + (L.ifs.length : Int) = (j : Int) := by omega
      obtain ⟨now', hnow⟩ : ∃ now', now' = now.take p ++ (putM L.outs ((ws.drop x).take L.ifs.length) ++ ws.drop (x + L.ifs.length)) := ⟨_, rfl⟩
      rw [← hnow] at hstep
      have hcat : [now.take p, putM L.outs ((ws.take j).drop x), ws.drop j].flatten = now' := by
        rw [List.flatten_cons, List.flatten_cons, List.flatten_cons, List.flatten_nil, List.append_nil, List.drop_take, hjx, hj, hnow]
      have hlen2 : (now'.length : Int) = ws.length + (shift + L.outs.length - L.ifs.length) := by
        rw [hnow, List.length_append, List.length_append, putM_len, List.length_take, List.length_drop]; omega
      have s1 := fun W => run_sub_h (P := Tryz.prog) elem_snds size_snds an nn cn p (by omega) W
      have s2 := fun W => run_sub_lh (P := Tryz.prog) elem_snds size_snds a nw cap x j hxj (by omega) W
      have s3 := fun W => run_sub_l (P := Tryz.prog) elem_snds size_snds a nw cap j hjn W
      have e1 := fun W (h : Ext X W) => rdk_pre (hrd.ext h) (m := p) (by omega)
      have e2 := fun W (h : Ext X W) => (hwX.ext h).sub (l := x) (m := j) hxj hjn
      have e3 := fun W (h : Ext X W) => (hwX.ext h).from (k := j) hjn
      rw [subA_zero] at s1
      rw [hjx] at s2 e2
      have hflen : now'.length ≤ 60000 := by omega
      have hoks : ∀ y ∈ L.outs, OutOk L.ifs.length y := fun y hy => fits_out ((lawOk_parts hok).2.2.2.2.2.2.2 y hy)
      have hkB := hA.bx.kl.law
      have ck := hA.bx.kk.int
      have cw := hA.bx.kw.word
      have cn6 := hA.n.box.word
      have c8 : X.cell? ⟨B + 1 + 1 + 1, 0, none⟩ = some (.int .i64 shift) := by simp [World.cell?, hA.b8.at']
      replace hcat := Lib.hid hcat
      replace hl := Lib.hid hl
      replace hnl := Lib.hid hnl
      replace hjx := Lib.hid hjx
      replace hj := Lib.hid hj
      replace hnow := Lib.hid hnow
      replace hlen2 := Lib.hid hlen2
      replace hstep := Lib.hid hstep
      replace hA1 := Lib.hid hA1
      have t1 := Lib.hid s1
      have t2 := Lib.hid s2
      have t3 := Lib.hid s3
      clear s1 s2 s3
      gi_wp2
      have hmx : Tryz.prog.follows .mixedOrders = true := by kernel_rfl
      refine region_only ?_
      refine wpIn_region_HR (fun W' : World => Ext X W') [0, 1, 2, 3, 4, 5, 6, 7, 8, 9, 10, 11, 13, 14, 15, 16, 17] hmx (by kernel_rfl) (by rintro ⟨_, _, h⟩; exact h) ?_
      show wpH _ _ _ _ _ _ 21 _ _ _
      have hS0 : (fun W' : World => Ext X W') X.drew := (Ext.refl _).drew
      refine wpH_take (i := 0) (v := (.slice an nn cn)) rfl (by kernel_rfl) (by kernel_rfl) (by kernel_rfl) (by kernel_rfl) (by kernel_rfl) (fun _ _ _ h => h) (.inl ⟨rfl, fun W' hW' => ?_⟩) hS0 ?_
      · have u := Ext.cellv hW' cn6
        go_simp
      refine wpH_take (i := 1) (v := (.int .i64 (x : Int))) rfl (by kernel_rfl) (by kernel_rfl) (by kernel_rfl) (by kernel_rfl) (by kernel_rfl) (fun _ _ _ h => h) (.inl ⟨rfl, fun W' hW' => ?_⟩) hS0 ?_
      · go_simp
      refine wpH_take (i := 2) (v := (.int .i64 shift)) rfl (by kernel_rfl) (by kernel_rfl) (by kernel_rfl) (by kernel_rfl) (by kernel_rfl) (fun _ _ _ h => h) (.inl ⟨rfl, fun W' hW' => ?_⟩) hS0 ?_
      · have u := Ext.cellv hW' c8
        go_simp
      refine wpH_take (i := 3) (v := (.int .i64 (p : Int))) rfl (by kernel_rfl) (by kernel_rfl) (by kernel_rfl) (by kernel_rfl) (by kernel_rfl) (fun _ _ _ h => h) (.inl ⟨rfl, fun W' hW' => ?_⟩) hS0 ?_
      · have hw : IntKind.i64.wrap (p : Int) = (p : Int) := by rw [IntKind.wrap_i64]; omega
        go_simp
      refine wpH_take (i := 4) (v := (.slice an p cn)) rfl (by kernel_rfl) (by kernel_rfl) (by kernel_rfl) (by kernel_rfl) (by kernel_rfl) (fun _ _ _ h => h) (.inl ⟨rfl, fun W' hW' => ?_⟩) hS0 ?_
      · have u := t1.out W'
        go_simp
      refine wpH_take (i := 5) (v := lawV L) rfl (by kernel_rfl) (by kernel_rfl) (by kernel_rfl) (by kernel_rfl) (by kernel_rfl) (fun _ _ _ h => h) (.inl ⟨rfl, fun W' hW' => exec_load_row 58 _ rfl bl rfl 58 _ (0, 0) _ (LawB.ext hkB hW') Tryz.underlying58 rfl (by kernel_rfl)⟩) hS0 ?_
      refine wpH_take (i := 6) (v := (.slice a nw cap)) rfl (by kernel_rfl) (by kernel_rfl) (by kernel_rfl) (by kernel_rfl) (by kernel_rfl) (fun _ _ _ h => h) (.inl ⟨rfl, fun W' hW' => ?_⟩) hS0 ?_
      · have u := Ext.cellv hW' cw
        go_simp
      refine wpH_take (i := 7) (v := (.int .i64 (x : Int))) rfl (by kernel_rfl) (by kernel_rfl) (by kernel_rfl) (by kernel_rfl) (by kernel_rfl) (fun _ _ _ h => h) (.inl ⟨rfl, fun W' hW' => ?_⟩) hS0 ?_
      · go_simp
      refine wpH_take (i := 8) (v := (.int .i64 (x : Int))) rfl (by kernel_rfl) (by kernel_rfl) (by kernel_rfl) (by kernel_rfl) (by kernel_rfl) (fun _ _ _ h => h) (.inl ⟨rfl, fun W' hW' => ?_⟩) hS0 ?_
      · go_simp
      refine wpH_take (i := 9) (v := (.int .i64 (L.ifs.length : Int))) rfl (by kernel_rfl) (by kernel_rfl) (by kernel_rfl) (by kernel_rfl) (by kernel_rfl) (fun _ _ _ h => h) (.inl ⟨rfl, fun W' hW' => ?_⟩) hS0 ?_
      · have u := Ext.cellv hW' ck
        go_simp
      refine wpH_take (i := 10) (v := (.int .i64 (j : Int))) rfl (by kernel_rfl) (by kernel_rfl) (by kernel_rfl) (by kernel_rfl) (by kernel_rfl) (fun _ _ _ h => h) (.inl ⟨rfl, fun W' hW' => ?_⟩) hS0 ?_
      · have hw : IntKind.i64.wrap (j : Int) = (j : Int) := by rw [IntKind.wrap_i64]; omega
        go_simp
      refine wpH_take (i := 11) (v := (.slice (subA 2 a cap x) L.ifs.length (cap - x))) rfl (by kernel_rfl) (by kernel_rfl) (by kernel_rfl) (by kernel_rfl) (by kernel_rfl) (fun _ _ _ h => h) (.inl ⟨rfl, fun W' hW' => ?_⟩) hS0 ?_
      · have u := t2.out W'
        go_simp
      refine wpH_take (i := 13) (v := (.slice a nw cap)) rfl (by kernel_rfl) (by kernel_rfl) (by kernel_rfl) (by kernel_rfl) (by kernel_rfl) (fun _ _ _ h => h) (.inl ⟨rfl, fun W' hW' => ?_⟩) hS0 ?_
      · have u := Ext.cellv hW' cw
        go_simp
      refine wpH_take (i := 14) (v := (.int .i64 (x : Int))) rfl (by kernel_rfl) (by kernel_rfl) (by kernel_rfl) (by kernel_rfl) (by kernel_rfl) (fun _ _ _ h => h) (.inl ⟨rfl, fun W' hW' => ?_⟩) hS0 ?_
      · go_simp
      refine wpH_take (i := 15) (v := (.int .i64 (L.ifs.length : Int))) rfl (by kernel_rfl) (by kernel_rfl) (by kernel_rfl) (by kernel_rfl) (by kernel_rfl) (fun _ _ _ h => h) (.inl ⟨rfl, fun W' hW' => ?_⟩) hS0 ?_
      · have u := Ext.cellv hW' ck
        go_simp
      refine wpH_take (i := 16) (v := (.int .i64 (j : Int))) rfl (by kernel_rfl) (by kernel_rfl) (by kernel_rfl) (by kernel_rfl) (by kernel_rfl) (fun _ _ _ h => h) (.inl ⟨rfl, fun W' hW' => ?_⟩) hS0 ?_
      · have hw : IntKind.i64.wrap (j : Int) = (j : Int) := by rw [IntKind.wrap_i64]; omega
        go_simp
      refine wpH_take (i := 17) (v := (.slice (subA 2 a cap j) (nw - j) (cap - j))) rfl (by kernel_rfl) (by kernel_rfl) (by kernel_rfl) (by kernel_rfl) (by kernel_rfl) (fun _ _ _ h => h) (.inl ⟨rfl, fun W' hW' => ?_⟩) hS0 ?_
      · have u := t3.out W'
        go_simp
      refine wpH_step (k := 12) rfl (by kernel_rfl) rfl fun K hK => ?_
      go_simp
      refine (put_any L _ _ _ ((ws.take j).drop x) _ (hLX.ext hS0) (e2 _ hS0) hoks (by omega)).mono ?_
      rintro e w2 ⟨a2, m2, c2, rfl, hm2, ho2, hx2⟩
      have hS2 : (fun W' : World => Ext X W') w2 := hS0.trans hx2
      refine hK _ _ (fun _ => hS2) ?_
      clear hK K hS0
      obtain ⟨a2', m2', c2', hm2', hv2, hr2⟩ := OwnK.rdn Snd.len ho2
      cases hv2
      have g1 := e1 w2 hS2
      have g3 := e3 w2 hS2
      have hmade := RdWs.made3 (w := w2) 40 ⟨_, _, _, rfl, g1⟩ ⟨_, _, _, rfl, hr2⟩ ⟨_, _, _, rfl, g3⟩
      clear e1 e2 e3 t1 t2 t3 hm2' ho2
      refine wpH_step (k := 18) rfl (by kernel_rfl) rfl fun K hK => ?_
      go_simp
      refine hK _ _ (needA_no (by kernel_rfl)) ?_
      clear hK K
      refine wpH_step (k := 19) rfl (by kernel_rfl) rfl fun K hK => ?_
      go_simp
      refine (concat_any _ 3 3 [now.take p, putM L.outs ((ws.take j).drop x), ws.drop j] _ hmade (by decide) (by rw [hcat.out]; exact hflen)).mono ?_
      rintro e w3 ⟨v3, rfl, ho3, hx3⟩
      rw [hcat.out] at ho3
      refine hK _ _ (needA_no (by kernel_rfl)) ?_
      clear hK K
      have hX3 : Ext X w3 := (hS2.trans (Ext.alloc1 _ _)).trans hx3
      obtain ⟨J3, T3⟩ := hH.stab.new _ _ _ hA.j hX3
      have k6 := hA.n.box.ext hX3 T3
      have b6 : Boxed w3 (B + 1) 40 (.slice an nn cn) := k6.at'
      have f6 := b6.frozen
      have c6 := b6.cell
      obtain ⟨a3, n3, c3, hn3, rfl, _⟩ := OwnK.rdn Snd.len ho3
      replace hn3 := Lib.hid hn3
      refine wpH_step (k := 20) rfl (by kernel_rfl) rfl fun K hK => ?_
      go_simp
      refine hK _ _ (needA_no (by kernel_rfl)) ?_
      clear hK K
      refine wpH_last (by kernel_rfl) ?_
      have g3' := grownBy_set w3 (B + 1) 0 (.slice a3 n3 c3)
      have hBn : ¬ T w3 (B + 1) := k6.no
      have hns : notSnd w3 (B + 1) := boxed_notSnd b6 (by decide)
      have ho4 : OwnS B 52 (w3.setCell ⟨B + 1, 0, none⟩ (.slice a3 n3 c3)) (.slice a3 n3 c3) now' := own_setOff (ho3.base (by have := (hS2.trans (Ext.alloc1 _ (.cells #[Value.slice an p cn, Value.slice a2 m2 c2, Value.slice (subA 2 a cap j) (nw - j) (cap - j)] 40))).le; have := (Array.getElem?_eq_some_iff.1 hA.b8.at').1; omega)) fun e => by
        obtain ⟨cur, hc⟩ := own_type ho3 e
        exact hns _ _ _ hc rfl
      have hoT : ∀ g, (Value.slice a3 n3 c3).ownBlock = some g → ¬ T w3 g := fun g e h => by
        have h1 := (own_lt ho3 e).1
        have h2 := (hH.low _ _ _ hA.j ((T3 g).1 h)).2
        have h3 := (hS2.trans (Ext.alloc1 _ (.cells #[Value.slice an p cn, Value.slice a2 m2 c2, Value.slice (subA 2 a cap j) (nw - j) (cap - j)] 40))).le
        omega
      obtain ⟨J4, T4⟩ := hH.stab _ _ _ _ J3 g3' (fun r e => by cases e; exact ⟨hBn, by omega, hns⟩)
      have S4 := (hA.bx.ext hX3 T3).grown g3' hlt4.out (fun r e => by cases e; omega) T4
      have b7' := (hA.b7.ext hX3 T3).grown g3' (fun r e => by cases e; omega) T4
      have b8' := (hA.b8.ext hX3 T3).grown g3' (fun r e => by cases e; omega) T4
      have N4 : RunN T w0 B now' a3 n3 c3 (w3.setCell ⟨B + 1, 0, none⟩ (.slice a3 n3 c3)) := ⟨⟨b6.set _, rfl, fun h => hBn ((T4 _).1 h)⟩, .inr ⟨ho4, fun g e h => hoT g e ((T4 g).1 h)⟩⟩
      have kp4 : KeepsFrom w5.heap.size X (w3.setCell ⟨B + 1, 0, none⟩ (.slice a3 n3 c3)) := (KeepsFrom.of_grownBy (gb_ext hX3 none) (fun _ e => by cases e)).trans (keepsFrom_set b6 _)
      have kt4 : KeepT (fun X r => T X r ∨ r = B + 1 ∨ r = B + 1 + 1 ∨ r = B + 1 + 1 + 1) X (w3.setCell ⟨B + 1, 0, none⟩ (.slice a3 n3 c3)) :=
        (keepT_grown (gb_ext hX3 none) (fun r e => by cases e) (fun r h => .inl (by rwa [T3 r] at h))).trans (keepT_grown g3' (fun r e => by cases e; exact .inr (.inl rfl)) (fun r h => .inl (by rwa [T4 r] at h)))
      have ho5 := ho4
      generalize (w3.setCell ⟨B + 1, 0, none⟩ (.slice a3 n3 c3)) = w6 at *
      clear hoT ho4 hns hBn g3' ho3 c6 f6 b6 k6 T3 J3 hX3 hx3 hmade g1 g3 hr2 hS2 hx2 c8 cn6 cw ck hkB hLX hwX hrd c7
      have cy : w6.cell? ⟨B, 0, none⟩ = some (.func (.yield l) #[] #[]) := by simp [World.cell?, S4.ky.at']
      have cb6 := N4.box.word
      obtain ⟨fn, tmps, assign, body, hyl, hR⟩ := YieldAt.wide (m' := 5) (hH.yield u now' #[.int .i64 (x : Int), .slice a3 n3 c3] w6 J4 hu80 ⟨x, a3, n3, c3, rfl, ho5⟩ (fun h => by rw [hstep.out, if_pos h]))
      gi_wp2
      refine RoundIn.mono (F := Fence.wide) hR ?_
      rintro e w7 ⟨hkf, (⟨rfl, J7, hk7⟩ | ⟨rfl, hJx7⟩)⟩
      rotate_left
      · gi_wp2
        exact ⟨kp4.trans (keepsFrom_up hkf (by have := hle5'.out; omega)), rfl, _, hJx7⟩
      have hshort := hH.short _ _ _ J7
      have kp7 := kp4.trans (keepsFrom_up (B' := w5.heap.size) hkf (by have := hle5'.out; omega))
      have kt7 := kt4.trans (keepT_or (S := fun r => r = B + 1 ∨ r = B + 1 + 1 ∨ r = B + 1 + 1 + 1) hk7)
      have S7 := S4.keep hk7
      have N7 := N4.keep hk7
      have q7 := b7'.keep hk7
      have q8 := b8'.keep hk7
      clear kp4 kt4 S4 N4 b7' b8' hk7 hkf hyl hR cb6 cy ho5 J4 T4 hA
      gi_wp2
      obtain ⟨mk, hmk⟩ : ∃ mk, mk = max L.ifs.length 1 := ⟨_, rfl⟩
      have hmk2 : mk ≤ 4 := by omega
      have hmx1 : max (L.ifs.length : Int) 1 = (mk : Int) := by omega
      obtain ⟨y, hy⟩ : ∃ y, y = x + mk := ⟨_, rfl⟩
      have hxy : (x : Int) + (mk : Int) = (y : Int) := by omega
      obtain ⟨z, hz⟩ : ∃ z : Int, z = shift + (L.outs.length : Int) := ⟨_, rfl⟩
      have hz1 := hz.symm
      obtain ⟨z2, hz2⟩ : ∃ z2 : Int, z2 = z - (L.ifs.length : Int) := ⟨_, rfl⟩
      have hz3 := hz2.symm
      have hby : y ≤ 100 := by omega
      have hbz : -200 ≤ z ∧ z ≤ 200 ∧ -200 ≤ z2 ∧ z2 ≤ 200 := by have := hA1.out; omega
      replace hmk := Lib.hid hmk
      replace hy := Lib.hid hy
      replace hz := Lib.hid hz
      replace hz2 := Lib.hid hz2
      have hbd : -100 ≤ shift ∧ shift ≤ 100 := by have := hA1.out; omega
      have d7 : Boxed w7.drew (B + 1 + 1) 3 (.int .i64 (next : Int)) := q7.at'
      have d8 : Boxed w7.drew (B + 1 + 1 + 1) 3 (.int .i64 shift) := q8.at'
      have e7 := d7.cell
      have f7 := d7.frozen
      have e8 := d8.cell
      have f8 := d8.frozen
      refine wpIn_region_HR (fun W' : World => W'.cell? ⟨bk, 0, none⟩ = some (.int .i64 (L.ifs.length : Int)) ∧ W'.cell? ⟨bm, 0, none⟩ = some (.int .i64 (L.outs.length : Int)) ∧ W'.cell? ⟨B + 1 + 1 + 1, 0, none⟩ = some (.int .i64 shift)) [0, 1, 2, 3, 4, 5, 6, 7, 8] hmx (by kernel_rfl) (by rintro ⟨_, _, h⟩; exact h) ?_
      show wpH _ _ _ _ _ _ 11 _ _ _
      have hS0 : (fun W' : World => W'.cell? ⟨bk, 0, none⟩ = some (.int .i64 (L.ifs.length : Int)) ∧ W'.cell? ⟨bm, 0, none⟩ = some (.int .i64 (L.outs.length : Int)) ∧ W'.cell? ⟨B + 1 + 1 + 1, 0, none⟩ = some (.int .i64 shift)) w7.drew := ⟨S7.kk.int, S7.km.int, e8⟩
      refine wpH_take (i := 0) (v := (.int .i64 (x : Int))) rfl (by kernel_rfl) (by kernel_rfl) (by kernel_rfl) (by kernel_rfl) (by kernel_rfl) (fun _ _ _ h => h) (.inl ⟨rfl, fun W' hW' => ?_⟩) hS0 ?_
      · go_simp
      refine wpH_take (i := 1) (v := (.int .i64 (L.ifs.length : Int))) rfl (by kernel_rfl) (by kernel_rfl) (by kernel_rfl) (by kernel_rfl) (by kernel_rfl) (fun _ _ _ h => h) (.inl ⟨rfl, fun W' hW' => ?_⟩) hS0 ?_
      · obtain ⟨u1, u2, u3⟩ := hW'
        go_simp
      refine wpH_take (i := 2) (v := (.int .i64 (mk : Int))) rfl (by kernel_rfl) (by kernel_rfl) (by kernel_rfl) (by kernel_rfl) (by kernel_rfl) (fun _ _ _ h => h) (.inl ⟨rfl, fun W' hW' => ?_⟩) hS0 ?_
      · skip
        go_simp
      refine wpH_take (i := 3) (v := (.int .i64 (y : Int))) rfl (by kernel_rfl) (by kernel_rfl) (by kernel_rfl) (by kernel_rfl) (by kernel_rfl) (fun _ _ _ h => h) (.inl ⟨rfl, fun W' hW' => ?_⟩) hS0 ?_
      · have hw : IntKind.i64.wrap (y : Int) = (y : Int) := by rw [IntKind.wrap_i64]; omega
        go_simp
      refine wpH_take (i := 4) (v := (.int .i64 shift)) rfl (by kernel_rfl) (by kernel_rfl) (by kernel_rfl) (by kernel_rfl) (by kernel_rfl) (fun _ _ _ h => h) (.inl ⟨rfl, fun W' hW' => ?_⟩) hS0 ?_
      · obtain ⟨u1, u2, u3⟩ := hW'
        go_simp
      refine wpH_take (i := 5) (v := (.int .i64 (L.outs.length : Int))) rfl (by kernel_rfl) (by kernel_rfl) (by kernel_rfl) (by kernel_rfl) (by kernel_rfl) (fun _ _ _ h => h) (.inl ⟨rfl, fun W' hW' => ?_⟩) hS0 ?_
      · obtain ⟨u1, u2, u3⟩ := hW'
        go_simp
      refine wpH_take (i := 6) (v := (.int .i64 z)) rfl (by kernel_rfl) (by kernel_rfl) (by kernel_rfl) (by kernel_rfl) (by kernel_rfl) (fun _ _ _ h => h) (.inl ⟨rfl, fun W' hW' => ?_⟩) hS0 ?_
      · have hw : IntKind.i64.wrap z = z := by rw [IntKind.wrap_i64]; omega
        go_simp
      refine wpH_take (i := 7) (v := (.int .i64 (L.ifs.length : Int))) rfl (by kernel_rfl) (by kernel_rfl) (by kernel_rfl) (by kernel_rfl) (by kernel_rfl) (fun _ _ _ h => h) (.inl ⟨rfl, fun W' hW' => ?_⟩) hS0 ?_
      · obtain ⟨u1, u2, u3⟩ := hW'
        go_simp
      refine wpH_take (i := 8) (v := (.int .i64 z2)) rfl (by kernel_rfl) (by kernel_rfl) (by kernel_rfl) (by kernel_rfl) (by kernel_rfl) (fun _ _ _ h => h) (.inl ⟨rfl, fun W' hW' => ?_⟩) hS0 ?_
      · have hw : IntKind.i64.wrap z2 = z2 := by rw [IntKind.wrap_i64]; omega
        go_simp
      refine wpH_step (k := 9) rfl (by kernel_rfl) rfl fun K hK => ?_
      go_simp
      have nk : bk ≠ B + 1 + 1 ∧ bm ≠ B + 1 + 1 := by have := hlt4.out; omega
      refine hK _ _ (fun _ => ⟨cellv_set hS0.1 nk.1, cellv_set hS0.2.1 nk.2, cellv_set hS0.2.2 (by omega)⟩) ?_
      clear hK K hS0 nk
      have d7a : Boxed w7 (B + 1 + 1) 3 (.int .i64 (next : Int)) := q7.at'
      have d8a : Boxed w7 (B + 1 + 1 + 1) 3 (.int .i64 shift) := q8.at'
      have d8' : Boxed (w7.setCell ⟨B + 1 + 1, 0, none⟩ (.int .i64 (y : Int))).drew (B + 1 + 1 + 1) 3 (.int .i64 shift) := d8a.other (B' := B + 1 + 1) (by omega) (.int .i64 (y : Int))
      have d7' : Boxed (w7.setCell ⟨B + 1 + 1, 0, none⟩ (.int .i64 (y : Int))).drew (B + 1 + 1) 3 (.int .i64 (y : Int)) := d7a.set (.int .i64 (y : Int))
      have g8 := grownBy_set w7 (B + 1 + 1) 0 (.int .i64 (y : Int))
      have hxd := (Ext.refl (w7.setCell ⟨B + 1 + 1, 0, none⟩ (.int .i64 (y : Int)))).drew
      have gd := gb_ext hxd none
      have n8 : ¬ T w7 (B + 1 + 1) := q7.no
      obtain ⟨J8, T8⟩ := hH.stab _ _ _ _ J7 g8 (fun r e => by cases e; exact ⟨n8, by omega, boxed_notSnd d7a (by decide)⟩)
      obtain ⟨J9, T9⟩ := hH.stab _ _ _ _ J8 gd (fun r e => by cases e)
      have S9 := (S7.grown g8 hlt4.out (fun r e => by cases e; omega) T8).ext hxd T9
      have N9 := (N7.grown g8 (fun r e => by cases e; exact ⟨by omega, boxed_notSnd d7a (by decide)⟩) T8).ext hxd T9
      have kp9 := (kp7.trans (keepsFrom_set (B := w5.heap.size) d7a (.int .i64 (y : Int)))).trans (KeepsFrom.of_grownBy gd (fun _ e => by cases e))
      have kt9 := (kt7.trans (keepT_grown g8 (fun r e => by cases e; exact .inr (.inr (.inl rfl))) (fun r h => .inl (by rwa [T8 r] at h)))).trans (keepT_grown gd (fun r e => by cases e) (fun r h => .inl (by rwa [T9 r] at h)))
      have m7 : ¬ T (w7.setCell ⟨B + 1 + 1, 0, none⟩ (.int .i64 (y : Int))).drew (B + 1 + 1) := fun h => n8 ((T8 _).1 ((T9 _).1 h))
      have m8 : ¬ T (w7.setCell ⟨B + 1 + 1, 0, none⟩ (.int .i64 (y : Int))).drew (B + 1 + 1 + 1) := fun h => q8.no ((T8 _).1 ((T9 _).1 h))
      clear e7 f7 e8 f8 d7 d8 q7 q8 g8 gd hxd n8 T8 T9 J8 J7 kp7 kt7 S7 N7 d7a d8a
      generalize (w7.setCell ⟨B + 1 + 1, 0, none⟩ (.int .i64 (y : Int))).drew = w9 at *
      have e8 := d8'.cell
      have f8 := d8'.frozen
      refine wpH_step (k := 10) rfl (by kernel_rfl) rfl fun K hK => ?_
      go_simp
      refine hK _ _ (needA_no (by kernel_rfl)) ?_
      clear hK K
      refine wpH_last (by kernel_rfl) ?_
      have g10 := grownBy_set w9 (B + 1 + 1 + 1) 0 (.int .i64 z2)
      obtain ⟨J10, T10⟩ := hH.stab _ _ _ _ J9 g10 (fun r e => by cases e; exact ⟨m8, by omega, boxed_notSnd d8' (by decide)⟩)
      refine ⟨kp9.trans (keepsFrom_set d8' _), kt9.trans (keepT_grown g10 (fun r e => by cases e; exact .inr (.inr (.inr rfl))) (fun r h => .inl (by rwa [T10 r] at h))), u ++ [now'], now', a3, n3, c3, y, z2, J10, S9.grown g10 hlt4.out (fun r e => by cases e; omega) T10,
        N9.grown g10 (fun r e => by cases e; exact ⟨by omega, boxed_notSnd d8' (by decide)⟩) T10, ⟨d7'.other (by omega) _, rfl, fun h => m7 ((T10 _).1 h)⟩, ⟨d8'.set _, rfl, fun h => m8 ((T10 _).1 h)⟩, (lastW_snoc _ _ _).symm, ?_, hshort, ?_, ?_, by rw [List.length_append, List.length_append]; exact Nat.succ_le_succ hul, ?_⟩
      · rw [hlen2.out, hz2.out, hz.out]
      · have := hmk.out; omega
      · omega
      · rw [hstep.out, if_neg (by omega), hy.out, hmk.out, hz2.out, hz.out]
  case done =>
    rintro D s W hD rfl ⟨u, now, an, nn, cn, next, shift, hA⟩ hDX
    have hfin : runM L ws = some (lastW u ws) := by
      rw [hA.go, List.drop_length, allGo, ← hA.last]
    have hDB : Hid (B ≤ D) := Lib.hid (by have := hle5'.out; omega)
    have hDc : ∃ o : Obj, W.heap[D]? = some o ∧ o.isCells = false := ⟨_, hDX, rfl⟩
    gi_wp2
    refine leaves_marksS (fun W => J u W) [D] _ (by simp) (fun E hE => by rw [List.mem_singleton.1 hE]; exact hDX) hA.j (fun W E o hs hE hd => ?_) fun w' hs => ?_
    · rw [List.mem_singleton.1 hE] at *
      exact (hH.stab _ _ _ (some D) hs (grownBy_putObj' W D o) fun r e => by
        cases e
        refine ⟨fun h => ?_, hDB.out, notCells_notSnd ⟨_, hd, rfl⟩⟩
        obtain ⟨o, h1, h2⟩ := hH.cells _ _ _ hs h
        rw [hd] at h1; cases h1; cases h2).1
    · exact ⟨_, results_none rfl _ _ _, ⟨_, rfl⟩, .inl ⟨u, hfin, hs⟩⟩
  case stop =>
    rintro D c pre W hD ⟨rfl, pre', hJx⟩ hDX
    have hDB : Hid (B ≤ D) := Lib.hid (by have := hle5'.out; omega)
    gi_wp2
    refine leaves_marksS (fun W => Jx pre' W) [D] _ (by simp) (fun E hE => by rw [List.mem_singleton.1 hE]; exact hDX) hJx (fun W E o hs hE hd => ?_) fun w' hs => ?_
    · rw [List.mem_singleton.1 hE] at *
      exact hH.stabx _ _ _ (some D) hs (grownBy_putObj' W D o) fun r e => by
        cases e
        exact ⟨⟨_, hd, rfl⟩, hDB.out⟩
    · exact ⟨_, results_none rfl _ _ _, ⟨_, rfl⟩, .inr ⟨_, hs⟩⟩
end Go.Proofs.YtadncjpknckaaaaGreatDoor
