/-
  law.run$1, mode Right: from left to right, over what has become of the word.
  law.run$1, mode Left: from right to left, over what has become of the word; all modes.
  law.Trace: the places and the words of a run.
-/
import Derived.Test.YtadncjpknckaaaaGreatDoorA22
namespace Go.Proofs.YtadncjpknckaaaaGreatDoor
open Go.RowKit Go.Shelf
attribute [local go_sem] Oper.semAt_some
/-- What stands in a run that goes on over what has become of the word. -/
structure LoopI (L : HL) (ws : List Snd) (w0 : World) (T : World → Nat → Prop) (J : List (List Snd) → World → Prop) (a : Option Addr) (nw cap bl bw bk bm B l : Nat) (u : List (List Snd)) (now : List Snd) (an : Option Addr) (nn cn : Nat) (X : World) : Prop where
  j : J u X
  bx : RunS T L a nw cap bl bw bk bm B l X
  n : RunN T w0 B now an nn cn X
  last : now = lastW u ws
  le : now.length ≤ 32
section
variable {L : HL} {ws : List Snd} {w0 : World} {T : World → Nat → Prop} {J Jx : List (List Snd) → World → Prop} {a : Option Addr} {nw cap bl bw bk bm B l : Nat} {u : List (List Snd)} {now : List Snd} {an : Option Addr} {nn cn : Nat} {X Y : World}
theorem LoopI.ext (h : LoopI L ws w0 T J a nw cap bl bw bk bm B l u now an nn cn X) (hst : StabT T B J) (hx : Ext X Y) : LoopI L ws w0 T J a nw cap bl bw bk bm B l u now an nn cn Y := by
  obtain ⟨h1, h2⟩ := hst.new _ _ _ h.j hx
  exact ⟨h1, h.bx.ext hx h2, h.n.ext hx h2, h.last, h.le⟩
/-- The word that replace has made goes into the box. -/
theorem LoopI.set (h : LoopI L ws w0 T J a nw cap bl bw bk bm B l u now an nn cn X) (hH : RunH L ws w0 T B J Jx l) (hlt : bl < B ∧ bw < B ∧ bk < B ∧ bm < B) (hB : B ≤ X.heap.size) {a3 : Option Addr} {n3 c3 : Nat} {now' : List Snd} (hx : Ext X Y) (ho : OwnS X.heap.size 52 Y (.slice a3 n3 c3) now') :
    J u (Y.setCell ⟨B + 1, 0, none⟩ (.slice a3 n3 c3)) ∧ RunS T L a nw cap bl bw bk bm B l (Y.setCell ⟨B + 1, 0, none⟩ (.slice a3 n3 c3)) ∧ RunN T w0 B now' a3 n3 c3 (Y.setCell ⟨B + 1, 0, none⟩ (.slice a3 n3 c3)) ∧ OwnS B 52 (Y.setCell ⟨B + 1, 0, none⟩ (.slice a3 n3 c3)) (.slice a3 n3 c3) now' := by
  obtain ⟨J3, T3⟩ := hH.stab.new _ _ _ h.j hx
  have k6 := h.n.box.ext hx T3
  have b6 : Boxed Y (B + 1) 40 (.slice an nn cn) := k6.at'
  have g3' := grownBy_set Y (B + 1) 0 (.slice a3 n3 c3)
  have hBn : ¬ T Y (B + 1) := k6.no
  have hns : notSnd Y (B + 1) := boxed_notSnd b6 (by decide)
  have ho4 : OwnS B 52 (Y.setCell ⟨B + 1, 0, none⟩ (.slice a3 n3 c3)) (.slice a3 n3 c3) now' := own_setOff (ho.base hB) fun e => by
    obtain ⟨cur, hc⟩ := own_type ho e
    exact hns _ _ _ hc rfl
  have hoT : ∀ g, (Value.slice a3 n3 c3).ownBlock = some g → ¬ T Y g := fun g e h' => by
    have h1 := (own_lt ho e).1
    have h2 := (hH.low _ _ _ h.j ((T3 g).1 h')).2
    omega
  obtain ⟨J4, T4⟩ := hH.stab _ _ _ _ J3 g3' (fun r e => by cases e; exact ⟨hBn, by omega, hns⟩)
  exact ⟨J4, (h.bx.ext hx T3).grown g3' hlt (fun r e => by cases e; omega) T4, ⟨⟨b6.set _, rfl, fun h => hBn ((T4 _).1 h)⟩, .inr ⟨ho4, fun g e h => hoT g e ((T4 g).1 h)⟩⟩, ho4⟩
end
def lenAt (w : World) (b : Nat) : Nat := match w.cell? ⟨b, 0, none⟩ with
  | some (.slice _ n _) => n
  | _ => 0
theorem lenAt_eq {w : World} {b : Nat} {a : Option Addr} {n c : Nat} (h : w.cell? ⟨b, 0, none⟩ = some (.slice a n c)) : lenAt w b = n := by unfold lenAt; rw [h]
theorem right_end {L : HL} {f : Nat} {now : List Snd} {i : Nat} (h : now.length < i + L.ifs.length) : rightGo L f now i = some now := by
  cases f with
  | zero => rfl
  | succ f => rw [rightGo, if_pos h]
theorem right_no {L : HL} {f : Nat} {now : List Snd} {i : Nat} (h : ¬ now.length < i + L.ifs.length) (hh : hitB' L now i = false) : rightGo L (f + 1) now i = rightGo L f now (i + 1) := by
  rw [rightGo, if_neg h, hh]; rfl
theorem right_hit {L : HL} {f : Nat} {now : List Snd} {i : Nat} (h : ¬ now.length < i + L.ifs.length) (hh : hitB' L now i = true) : rightGo L (f + 1) now i = if 32 < (replM L now i).length then none else rightGo L f (replM L now i) (i + L.outs.length + if L.ifs.length = 0 then 1 else 0) := by
  rw [rightGo, if_neg h, hh]; rfl
set_option maxHeartbeats 4000000 in
set_option maxRecDepth 20000 in
theorem run1_right (L : HL) (a : Option Addr) (nw cap : Nat) (ws : List Snd) (hok : lawOkB L = true) (hmode : L.mode = 2) (w0 : World) (hL : RdLw w0 L) (hws : RdS w0 a nw cap ws) (hT0 : Tab64 w0) (hn32 : nw ≤ 32) (T : World → Nat → Prop) (W : World) (J Jx : List (List Snd) → World → Prop) (l bl bw bk bm : Nat)
    (hH : RunH L ws w0 T W.heap.size J Jx l) (h0 : J [] W) (kl : Held T W bl (lawO L)) (kw : Held T W bw (wordO a nw cap)) (kk : Held T W bk (intO L.ifs.length)) (km : Held T W bm (intO L.outs.length)) :
    CallsIn Fence.wide 8 Tryz.prog 65 #[.func (.yield l) #[] #[], .pointer (some ⟨bw, 0, none⟩), .pointer (some ⟨bl, 0, none⟩), .pointer (some ⟨bk, 0, none⟩), .pointer (some ⟨bm, 0, none⟩)] W fun e W' => (∃ v, e = .returned v) ∧ ((∃ s, runM L ws = some (lastW s ws) ∧ J s W') ∨ ∃ pre, Jx pre W') := by
  have hro : Fence.wide.round = none := rfl
  have hrun : runM L ws = rightGo L 70 ws 0 := by unfold runM; rw [if_neg (by omega), if_pos hmode]
  refine callsIn_of_wp Tryz.func65 rfl trivial ?_ hro
  simp only [Tryz.ntmps65, List.size_toArray, List.length_cons, List.length_nil, Nat.reduceAdd, Nat.reduceSub, Array.replicate_succ, Array.replicate_zero, List.push_toArray, List.append_toArray, List.nil_append, List.cons_append]
  have c2 := kw.word
  obtain ⟨l0, l1, l2, l3⟩ := kl.law.c
  rw [hmode] at l3
  replace hmode := Lib.hid hmode
  have e1 := (Array.getElem?_eq_some_iff.1 kl.at').1
  have e2 := (Array.getElem?_eq_some_iff.1 kw.at').1
  clear l0 l1 l2
  have hX4 : Ext W ((W.alloc (.cells #[.func (.yield l) #[] #[]] 134)).alloc (.cells #[.slice a nw cap] 40)) := (by repeat (first | exact Ext.refl _ | refine Ext.drew ?_ | refine Ext.drewN ?_ _ | refine Ext.alloc ?_ _))
  gi_wp2
  obtain ⟨hJ4, hT4⟩ := hH.stab.new _ _ _ h0 hX4
  have hnew : ∀ r, W.heap.size ≤ r → ¬ T ((W.alloc (.cells #[.func (.yield l) #[] #[]] 134)).alloc (.cells #[.slice a nw cap] 40)) r := fun r hr h => by have := (hH.low _ _ _ h0 ((hT4 r).1 h)).2; omega
  have y5 : ((W.alloc (.cells #[.func (.yield l) #[] #[]] 134)).alloc (.cells #[.slice a nw cap] 40)).heap[W.heap.size]? = some (yO l) := (Below.block ((Ext.refl (W.alloc (yO l))).alloc (wordO a nw cap)).bel _ (by simp)).trans (World.alloc_heap_new W _)
  have y6 : ((W.alloc (.cells #[.func (.yield l) #[] #[]] 134)).alloc (.cells #[.slice a nw cap] 40)).heap[W.heap.size + 1]? = some (wordO a nw cap) := by
    have := World.alloc_heap_new (W.alloc (yO l)) (wordO a nw cap); rwa [World.size_alloc] at this
  have hA4 : LoopI L ws w0 T J a nw cap bl bw bk bm W.heap.size l [] ws a nw cap ((W.alloc (.cells #[.func (.yield l) #[] #[]] 134)).alloc (.cells #[.slice a nw cap] 40)) :=
    ⟨hJ4, ⟨kl.ext hX4 hT4, kw.ext hX4 hT4, kk.ext hX4 hT4, km.ext hX4 hT4, ⟨y5, rfl, hnew _ (Nat.le_refl _)⟩⟩, ⟨⟨y6, rfl, hnew _ (by omega)⟩, .inl hws⟩, rfl, by rw [hws.len]; exact hn32⟩
  have hlt4 : Hid (bl < W.heap.size ∧ bw < W.heap.size ∧ bk < W.heap.size ∧ bm < W.heap.size) := Lib.hid ⟨e1, e2, (Array.getElem?_eq_some_iff.1 kk.at').1, (Array.getElem?_eq_some_iff.1 km.at').1⟩
  clear hX4 y5 y6 hnew kl kw kk km c2 l3 e1 e2 hJ4 hT4 h0
  generalize ((W.alloc (.cells #[.func (.yield l) #[] #[]] 134)).alloc (.cells #[.slice a nw cap] 40)) = w4 at *
  generalize hBW : W.heap.size = B at *
  replace hBW := Lib.hid hBW
  have hkk := (lawOk_parts hok).2.2.1
  have hmm := (lawOk_parts hok).2.2.2.1
  replace hrun := Lib.hid hrun
  gi_loopw [10] (fun av wr => ∃ (i f : Nat) (u : List (List Snd)) (now : List Snd) (an : Option Addr) (nn cn : Nat), av = .int .i64 (i : Int) ∧ LoopI L ws w0 T J a nw cap bl bw bk bm B l u now an nn cn wr ∧ Hid (runM L ws = rightGo L f now i) ∧ nn < i + L.ifs.length + f ∧ i ≤ nn + 1 ∧ u.length + f ≤ 70) (fun av wr => lenAt wr (B + 1) + 1 - ((intOf av).toNat + L.ifs.length))
  case atStart => exact ⟨0, 70, [], ws, a, nw, cap, rfl, hA4, hrun, by omega, by omega, by simp⟩
  case round =>
    obtain ⟨i, f, u, now, an, nn, cn, rfl, hI, hgo, hfu, hin, huf⟩ := hrel
    have hxr := hH.ext _ _ hI.j
    have hrd := hI.n.rd.rd hxr
    have hnl := hrd.len
    have hnle := hI.le
    have ck := hI.bx.kk.int
    have c6 := hI.n.box.word
    have hlen0 := lenAt_eq c6
    by_cases hlt : i + L.ifs.length ≤ nn
    · obtain ⟨f', rfl⟩ : ∃ f', f = f' + 1 := ⟨f - 1, by omega⟩
      have hlt' : (i : Int) + (L.ifs.length : Int) ≤ (nn : Int) := by omega
      have hnlt : ¬ now.length < i + L.ifs.length := by omega
      have hlawr := hI.bx.kl.law
      have hhit := hit_any L an nn cn now i hok wr (hL.ext hxr) hrd (hT0.ext hxr) (by omega) (by omega)
      have hn32' : nn ≤ 32 := by omega
      replace hnl := Lib.hid hnl
      replace hlen0 := Lib.hid hlen0
      gi_wp2_with (refine listIn_of rfl (fun c h => by cases h) fun K hK => ?_; refine wp_load_row 58 _ rfl bl rfl 58 _ (0, 0) _ hlawr Tryz.underlying58 rfl (by kernel_rfl) ?_; refine hK _ _ ?_)
      refine ⟨trivial, ?_⟩
      gi_at_call 69
      cases hh : hitB' L now i
      · have hgo2 : Hid (runM L ws = rightGo L f' now (i + 1)) := Lib.hid (by rw [hgo.out, right_no hnlt hh])
        refine (callsIn_wide.2 (cbool hhit hh)).mono ?_
        rintro e w9 ⟨rfl, hx9⟩
        have hI9 := hI.ext hH.stab hx9
        have hlen9 := lenAt_eq hI9.n.box.word
        replace hlen9 := Lib.hid hlen9
        replace hh := Lib.hid hh
        clear hhit hgo
        gi_wp2
        (first | exact ⟨⟨i + 1, f', u, now, an, nn, cn, by go_num, hI9, hgo2, by omega, by omega, by omega⟩, (by rw [hlen9.out, hlen0.out]; simp only [intOf, Int.toNat_natCast]; omega)⟩ | (go_roundw; case rel => exact ⟨i + 1, f', u, now, an, nn, cn, by go_num, hI9, hgo2, by omega, by omega, by omega⟩; case measure => exact (by rw [hlen9.out, hlen0.out]; simp only [intOf, Int.toNat_natCast]; omega)))
      · have hgo2 : Hid (runM L ws = if 32 < (replM L now i).length then none else rightGo L f' (replM L now i) (i + L.outs.length + if L.ifs.length = 0 then 1 else 0)) := Lib.hid (by rw [hgo.out, right_hit hnlt hh])
        refine (callsIn_wide.2 (cbool hhit hh)).mono ?_
        rintro e w9 ⟨rfl, hx9⟩
        have hI9 := hI.ext hH.stab hx9
        have hx09 := hxr.trans hx9
        have hoks : ∀ y ∈ L.outs, OutOk L.ifs.length y := fun y hy => fits_out ((lawOk_parts hok).2.2.2.2.2.2.2 y hy)
        have hrep := replace_any L an nn cn now i w9 (hL.ext hx09) (hrd.ext hx9) hlt (by omega) hoks (by omega)
        have hrl := replM_len L now i (by have := hnl.out; omega)
        have hlaw9 := hI9.bx.kl.law
        have c69 := hI9.n.box.word
        have hB9 : B ≤ w9.heap.size := by have := (Array.getElem?_eq_some_iff.1 hI9.n.box.at').1; omega
        replace hrl := Lib.hid hrl
        replace hh := Lib.hid hh
        clear hhit hgo hoks hI hlawr c6 ck
        gi_wp2_with (refine listIn_of rfl (fun c h => by cases h) fun K hK => ?_; refine wp_load_row 58 _ rfl bl rfl 58 _ (0, 0) _ hlaw9 Tryz.underlying58 rfl (by kernel_rfl) ?_; refine hK _ _ ?_)
        refine ⟨trivial, ?_⟩
        gi_at_call 70
        refine (callsIn_wide.2 hrep).mono ?_
        rintro e w10 ⟨v3, rfl, ho3, hx10⟩
        obtain ⟨a3, n3, c3, hn3, rfl, _⟩ := OwnK.rdn Snd.len ho3
        replace hn3 := Lib.hid hn3
        obtain ⟨J4, S4, N4, ho4⟩ := hI9.set hH hlt4.out hB9 hx10 ho3
        have b6 : Boxed w10 (B + 1) 40 (.slice an nn cn) := (Below.block hx10.bel _ (Array.getElem?_eq_some_iff.1 hI9.n.box.at').1).trans hI9.n.box.at'
        have f6 := b6.frozen
        have c6 := b6.cell
        have cy : (w10.setCell ⟨B + 1, 0, none⟩ (.slice a3 n3 c3)).cell? ⟨B, 0, none⟩ = some (.func (.yield l) #[] #[]) := by simp [World.cell?, S4.ky.at']
        have cy0 : w10.cell? ⟨B, 0, none⟩ = some (.func (.yield l) #[] #[]) := hx10.cellv (by simp [World.cell?, hI9.bx.ky.at'])
        have cb6 := N4.box.word
        obtain ⟨fn, tmps, assign, body, hyl, hR⟩ := YieldAt.wide (m' := 7) (hH.yield u (replM L now i) #[.int .i64 (i : Int), .slice a3 n3 c3] _ J4 (by omega) ⟨i, a3, n3, c3, rfl, ho4⟩ (fun h => by rw [hgo2.out, if_pos h]))
        clear hrep hlaw9 c69
        gi_wp2
        refine RoundIn.mono hR ?_
        rintro e w12 ⟨hkf, (⟨rfl, J7, hk7⟩ | ⟨rfl, hJx7⟩)⟩
        rotate_left
        · gi_wp2
          refine bodyPost_ret (results_none rfl _ _ _) rfl ?_
          exact ⟨⟨_, rfl⟩, .inr ⟨_, hJx7⟩⟩
        have hshort := hH.short _ _ _ J7
        have S7 := S4.keep hk7
        have N7 := N4.keep hk7
        have I7 : LoopI L ws w0 T J a nw cap bl bw bk bm B l (u ++ [replM L now i]) (replM L now i) a3 n3 c3 w12 := ⟨J7, S7, N7, (lastW_snoc _ _ _).symm, hshort⟩
        have hlen7 := lenAt_eq N7.box.word
        have ck7 := S7.kk.int
        have cm7 := S7.km.int
        replace hlen7 := Lib.hid hlen7
        clear hyl hR S4 N4 S7 N7 hk7 J4 J7 cb6 cy cy0 c6 f6 b6 ho4 hI9 ho3
        have hor : L.ifs.length = 0 ∨ 0 < L.ifs.length := Nat.eq_zero_or_pos _
        rcases hor with hz | hz
        · have hz' : (L.ifs.length : Int) = 0 := by omega
          have hgo3 : Hid (runM L ws = rightGo L f' (replM L now i) (i + L.outs.length + 1)) := Lib.hid (by rw [hgo2.out, if_neg (by omega), if_pos hz])
          clear hgo2
          have hsh : n3 = nn + L.outs.length - L.ifs.length := by rw [hn3.out, hrl.out, hnl.out]
          gi_wp2
          (first | exact ⟨⟨i + L.outs.length + 1, f', _, _, _, _, _, by go_num, I7, hgo3, by omega, by omega, by rw [List.length_append, List.length_singleton]; omega⟩, (by rw [hlen7.out, hlen0.out]; simp only [intOf, Int.toNat_natCast]; omega)⟩ | (go_roundw; case rel => exact ⟨i + L.outs.length + 1, f', _, _, _, _, _, by go_num, I7, hgo3, by omega, by omega, by rw [List.length_append, List.length_singleton]; omega⟩; case measure => exact (by rw [hlen7.out, hlen0.out]; simp only [intOf, Int.toNat_natCast]; omega)))
        · have hz' : ¬ (L.ifs.length : Int) = 0 := by omega
          have hgo3 : Hid (runM L ws = rightGo L f' (replM L now i) (i + L.outs.length)) := Lib.hid (by rw [hgo2.out, if_neg (by omega), if_neg (by omega)]; rfl)
          clear hgo2
          have hsh : n3 = nn + L.outs.length - L.ifs.length := by rw [hn3.out, hrl.out, hnl.out]
          gi_wp2
          (first | exact ⟨⟨i + L.outs.length, f', _, _, _, _, _, by go_num, I7, hgo3, by omega, by omega, by rw [List.length_append, List.length_singleton]; omega⟩, (by rw [hlen7.out, hlen0.out]; simp only [intOf, Int.toNat_natCast]; omega)⟩ | (go_roundw; case rel => exact ⟨i + L.outs.length, f', _, _, _, _, _, by go_num, I7, hgo3, by omega, by omega, by rw [List.length_append, List.length_singleton]; omega⟩; case measure => exact (by rw [hlen7.out, hlen0.out]; simp only [intOf, Int.toNat_natCast]; omega)))
    · have hlt' : ¬ (i : Int) + (L.ifs.length : Int) ≤ (nn : Int) := by omega
      have hfin : Hid (runM L ws = some (lastW u ws)) := Lib.hid (by rw [hgo.out, right_end (by omega), ← hI.last])
      gi_wp2
      go_end0
      exact ⟨⟨_, rfl⟩, .inl ⟨u, hfin.out, hI.j⟩⟩
end Go.Proofs.YtadncjpknckaaaaGreatDoor
namespace Go.Proofs.YtadncjpknckaaaaGreatDoor
open Go.RowKit Go.Shelf
attribute [local go_sem] Oper.semAt_some
theorem left_end {L : HL} {f : Nat} {now : List Snd} {x : Int} (h : x < 0) : leftGo L f now x = some now := by
  cases f with
  | zero => rfl
  | succ f => rw [leftGo, if_pos h]
theorem left_no {L : HL} {f i : Nat} {now : List Snd} (hh : hitB' L now i = false) : leftGo L (f + 1) now (i : Int) = leftGo L f now ((i : Int) - 1) := by
  rw [leftGo, if_neg (by omega), Int.toNat_natCast, hh]; rfl
theorem left_hit {L : HL} {f i : Nat} {now : List Snd} (hh : hitB' L now i = true) : leftGo L (f + 1) now (i : Int) = if 32 < (replM L now i).length then none else leftGo L f (replM L now i) ((i : Int) - (max L.ifs.length 1 : Nat)) := by
  rw [leftGo, if_neg (by omega), Int.toNat_natCast, hh, if_pos rfl]
set_option maxHeartbeats 4000000 in
set_option maxRecDepth 20000 in
theorem run1_left (L : HL) (a : Option Addr) (nw cap : Nat) (ws : List Snd) (hok : lawOkB L = true) (hmode : L.mode = 3) (w0 : World) (hL : RdLw w0 L) (hws : RdS w0 a nw cap ws) (hT0 : Tab64 w0) (hn32 : nw ≤ 32) (T : World → Nat → Prop) (W : World) (J Jx : List (List Snd) → World → Prop) (l bl bw bk bm : Nat)
    (hH : RunH L ws w0 T W.heap.size J Jx l) (h0 : J [] W) (kl : Held T W bl (lawO L)) (kw : Held T W bw (wordO a nw cap)) (kk : Held T W bk (intO L.ifs.length)) (km : Held T W bm (intO L.outs.length)) :
    CallsIn Fence.wide 8 Tryz.prog 65 #[.func (.yield l) #[] #[], .pointer (some ⟨bw, 0, none⟩), .pointer (some ⟨bl, 0, none⟩), .pointer (some ⟨bk, 0, none⟩), .pointer (some ⟨bm, 0, none⟩)] W fun e W' => (∃ v, e = .returned v) ∧ ((∃ s, runM L ws = some (lastW s ws) ∧ J s W') ∨ ∃ pre, Jx pre W') := by
  have hro : Fence.wide.round = none := rfl
  have hrun : runM L ws = leftGo L 70 ws ((ws.length : Int) - L.ifs.length) := by unfold runM; rw [if_neg (by omega), if_neg (by omega)]
  refine callsIn_of_wp Tryz.func65 rfl trivial ?_ hro
  simp only [Tryz.ntmps65, List.size_toArray, List.length_cons, List.length_nil, Nat.reduceAdd, Nat.reduceSub, Array.replicate_succ, Array.replicate_zero, List.push_toArray, List.append_toArray, List.nil_append, List.cons_append]
  have c2 := kw.word
  obtain ⟨l0, l1, l2, l3⟩ := kl.law.c
  rw [hmode] at l3
  replace hmode := Lib.hid hmode
  have e1 := (Array.getElem?_eq_some_iff.1 kl.at').1
  have e2 := (Array.getElem?_eq_some_iff.1 kw.at').1
  have e3 := (Array.getElem?_eq_some_iff.1 kk.at').1
  have c3 := kk.int
  have hwl := hws.len
  rw [hwl] at hrun
  have hkk := (lawOk_parts hok).2.2.1
  obtain ⟨x0, hx0⟩ : ∃ x0 : Int, x0 = (nw : Int) - (L.ifs.length : Int) := ⟨_, rfl⟩
  rw [← hx0] at hrun
  have hx1 := hx0.symm
  replace hrun := Lib.hid hrun
  have hxb : -10 ≤ x0 ∧ x0 ≤ 100 := by omega
  replace hx0 := Lib.hid hx0
  clear l0 l1 l2
  have hX4 : Ext W ((W.alloc (.cells #[.func (.yield l) #[] #[]] 134)).alloc (.cells #[.slice a nw cap] 40)) := (by repeat (first | exact Ext.refl _ | refine Ext.drew ?_ | refine Ext.drewN ?_ _ | refine Ext.alloc ?_ _))
  gi_wp2
  obtain ⟨hJ4, hT4⟩ := hH.stab.new _ _ _ h0 hX4
  have hnew : ∀ r, W.heap.size ≤ r → ¬ T ((W.alloc (.cells #[.func (.yield l) #[] #[]] 134)).alloc (.cells #[.slice a nw cap] 40)) r := fun r hr h => by have := (hH.low _ _ _ h0 ((hT4 r).1 h)).2; omega
  have y5 : ((W.alloc (.cells #[.func (.yield l) #[] #[]] 134)).alloc (.cells #[.slice a nw cap] 40)).heap[W.heap.size]? = some (yO l) := (Below.block ((Ext.refl (W.alloc (yO l))).alloc (wordO a nw cap)).bel _ (by simp)).trans (World.alloc_heap_new W _)
  have y6 : ((W.alloc (.cells #[.func (.yield l) #[] #[]] 134)).alloc (.cells #[.slice a nw cap] 40)).heap[W.heap.size + 1]? = some (wordO a nw cap) := by
    have := World.alloc_heap_new (W.alloc (yO l)) (wordO a nw cap); rwa [World.size_alloc] at this
  have hA4 : LoopI L ws w0 T J a nw cap bl bw bk bm W.heap.size l [] ws a nw cap ((W.alloc (.cells #[.func (.yield l) #[] #[]] 134)).alloc (.cells #[.slice a nw cap] 40)) :=
    ⟨hJ4, ⟨kl.ext hX4 hT4, kw.ext hX4 hT4, kk.ext hX4 hT4, km.ext hX4 hT4, ⟨y5, rfl, hnew _ (Nat.le_refl _)⟩⟩, ⟨⟨y6, rfl, hnew _ (by omega)⟩, .inl hws⟩, rfl, by rw [hws.len]; exact hn32⟩
  have hlt4 : Hid (bl < W.heap.size ∧ bw < W.heap.size ∧ bk < W.heap.size ∧ bm < W.heap.size) := Lib.hid ⟨e1, e2, (Array.getElem?_eq_some_iff.1 kk.at').1, (Array.getElem?_eq_some_iff.1 km.at').1⟩
  clear hX4 y5 y6 hnew kl kw kk km c2 c3 e3 l3 e1 e2 hJ4 hT4 h0
  generalize ((W.alloc (.cells #[.func (.yield l) #[] #[]] 134)).alloc (.cells #[.slice a nw cap] 40)) = w4 at *
  generalize hBW : W.heap.size = B at *
  replace hBW := Lib.hid hBW
  have hmm := (lawOk_parts hok).2.2.2.1
  gi_loopw [11] (fun av wr => ∃ (x : Int) (f : Nat) (u : List (List Snd)) (now : List Snd) (an : Option Addr) (nn cn : Nat), av = .int .i64 x ∧ LoopI L ws w0 T J a nw cap bl bw bk bm B l u now an nn cn wr ∧ Hid (runM L ws = leftGo L f now x) ∧ x < f ∧ x + L.ifs.length ≤ nn ∧ -10 ≤ x ∧ u.length + f ≤ 70) (fun av wr => (intOf av + 1).toNat)
  case atStart => exact ⟨x0, 70, [], ws, a, nw, cap, rfl, hA4, hrun, by have := hx0.out; omega, by have := hx0.out; omega, by have := hx0.out; omega, by simp⟩
  case round =>
    obtain ⟨x, f, u, now, an, nn, cn, rfl, hI, hgo, hfu, hin, hlo, huf⟩ := hrel
    have hxr := hH.ext _ _ hI.j
    have hrd := hI.n.rd.rd hxr
    have hnl := hrd.len
    have hnle := hI.le
    have ck := hI.bx.kk.int
    have c6 := hI.n.box.word
    by_cases hlt : 0 ≤ x
    · obtain ⟨i, rfl⟩ : ∃ i : Nat, x = (i : Int) := ⟨x.toNat, by omega⟩
      obtain ⟨f', rfl⟩ : ∃ f', f = f' + 1 := ⟨f - 1, by omega⟩
      have hlawr := hI.bx.kl.law
      have hhit := hit_any L an nn cn now i hok wr (hL.ext hxr) hrd (hT0.ext hxr) (by omega) (by omega)
      have hn32' : nn ≤ 32 := by omega
      replace hnl := Lib.hid hnl
      gi_wp2_with (refine listIn_of rfl (fun c h => by cases h) fun K hK => ?_; refine wp_load_row 58 _ rfl bl rfl 58 _ (0, 0) _ hlawr Tryz.underlying58 rfl (by kernel_rfl) ?_; refine hK _ _ ?_)
      refine ⟨trivial, ?_⟩
      gi_at_call 69
      cases hh : hitB' L now i
      · have hgo2 : Hid (runM L ws = leftGo L f' now ((i : Int) - 1)) := Lib.hid (by rw [hgo.out, left_no hh])
        refine (callsIn_wide.2 (cbool hhit hh)).mono ?_
        rintro e w9 ⟨rfl, hx9⟩
        have hI9 := hI.ext hH.stab hx9
        replace hh := Lib.hid hh
        clear hhit hgo
        gi_wp2
        (first | exact ⟨⟨(i : Int) - 1, f', u, now, an, nn, cn, by go_num, hI9, hgo2, by omega, by omega, by omega, by omega⟩, (by simp only [intOf]; omega)⟩ | (go_roundw; case rel => exact ⟨(i : Int) - 1, f', u, now, an, nn, cn, by go_num, hI9, hgo2, by omega, by omega, by omega, by omega⟩; case measure => exact (by simp only [intOf]; omega)))
      · have hgo2 : Hid (runM L ws = if 32 < (replM L now i).length then none else leftGo L f' (replM L now i) ((i : Int) - (max L.ifs.length 1 : Nat))) := Lib.hid (by rw [hgo.out, left_hit hh])
        refine (callsIn_wide.2 (cbool hhit hh)).mono ?_
        rintro e w9 ⟨rfl, hx9⟩
        have hI9 := hI.ext hH.stab hx9
        have hx09 := hxr.trans hx9
        have hoks : ∀ y ∈ L.outs, OutOk L.ifs.length y := fun y hy => fits_out ((lawOk_parts hok).2.2.2.2.2.2.2 y hy)
        have hrep := replace_any L an nn cn now i w9 (hL.ext hx09) (hrd.ext hx9) (by omega) (by omega) hoks (by omega)
        have hrl := replM_len L now i (by have := hnl.out; omega)
        have hlaw9 := hI9.bx.kl.law
        have c69 := hI9.n.box.word
        have hB9 : B ≤ w9.heap.size := by have := (Array.getElem?_eq_some_iff.1 hI9.n.box.at').1; omega
        replace hrl := Lib.hid hrl
        replace hh := Lib.hid hh
        clear hhit hgo hoks hI hlawr c6 ck
        gi_wp2_with (refine listIn_of rfl (fun c h => by cases h) fun K hK => ?_; refine wp_load_row 58 _ rfl bl rfl 58 _ (0, 0) _ hlaw9 Tryz.underlying58 rfl (by kernel_rfl) ?_; refine hK _ _ ?_)
        refine ⟨trivial, ?_⟩
        gi_at_call 70
        refine (callsIn_wide.2 hrep).mono ?_
        rintro e w10 ⟨v3, rfl, ho3, hx10⟩
        obtain ⟨a3, n3, c3, hn3, rfl, _⟩ := OwnK.rdn Snd.len ho3
        replace hn3 := Lib.hid hn3
        obtain ⟨J4, S4, N4, ho4⟩ := hI9.set hH hlt4.out hB9 hx10 ho3
        have b6 : Boxed w10 (B + 1) 40 (.slice an nn cn) := (Below.block hx10.bel _ (Array.getElem?_eq_some_iff.1 hI9.n.box.at').1).trans hI9.n.box.at'
        have f6 := b6.frozen
        have c6 := b6.cell
        have cy : (w10.setCell ⟨B + 1, 0, none⟩ (.slice a3 n3 c3)).cell? ⟨B, 0, none⟩ = some (.func (.yield l) #[] #[]) := by simp [World.cell?, S4.ky.at']
        have cy0 : w10.cell? ⟨B, 0, none⟩ = some (.func (.yield l) #[] #[]) := hx10.cellv (by simp [World.cell?, hI9.bx.ky.at'])
        have cb6 := N4.box.word
        obtain ⟨fn, tmps, assign, body, hyl, hR⟩ := YieldAt.wide (m' := 7) (hH.yield u (replM L now i) #[.int .i64 (i : Int), .slice a3 n3 c3] _ J4 (by omega) ⟨i, a3, n3, c3, rfl, ho4⟩ (fun h => by rw [hgo2.out, if_pos h]))
        clear hrep hlaw9 c69
        gi_wp2
        refine RoundIn.mono hR ?_
        rintro e w12 ⟨hkf, (⟨rfl, J7, hk7⟩ | ⟨rfl, hJx7⟩)⟩
        rotate_left
        · gi_wp2
          refine bodyPost_ret (results_none rfl _ _ _) rfl ?_
          exact ⟨⟨_, rfl⟩, .inr ⟨_, hJx7⟩⟩
        have hshort := hH.short _ _ _ J7
        have S7 := S4.keep hk7
        have N7 := N4.keep hk7
        have I7 : LoopI L ws w0 T J a nw cap bl bw bk bm B l (u ++ [replM L now i]) (replM L now i) a3 n3 c3 w12 := ⟨J7, S7, N7, (lastW_snoc _ _ _).symm, hshort⟩
        have ck7 := S7.kk.int
        have cm7 := S7.km.int
        clear hyl hR S4 N4 S7 N7 hk7 J4 J7 cb6 cy cy0 c6 f6 b6 ho4 hI9 ho3
        obtain ⟨mk, hmk⟩ : ∃ mk, mk = max L.ifs.length 1 := ⟨_, rfl⟩
        have hmk2 : mk ≤ 4 ∧ 1 ≤ mk ∧ L.ifs.length ≤ mk := by omega
        have hmx1 : max (L.ifs.length : Int) 1 = (mk : Int) := by omega
        rw [← hmk] at hgo2
        replace hmk := Lib.hid hmk
        obtain ⟨z, hz⟩ : ∃ z : Int, z = (i : Int) - (mk : Int) := ⟨_, rfl⟩
        have hz1 := hz.symm
        rw [← hz] at hgo2
        have hgo3 : Hid (runM L ws = leftGo L f' (replM L now i) z) := Lib.hid (by rw [hgo2.out, if_neg (by omega)])
        clear hgo2
        have hsh : n3 = nn + L.outs.length - L.ifs.length := by rw [hn3.out, hrl.out, hnl.out]
        have hzb : z < f' ∧ z + L.ifs.length ≤ n3 ∧ -10 ≤ z ∧ (z + 1).toNat < ((i : Int) + 1).toNat ∧ z ≤ 100 := by omega
        replace hz := Lib.hid hz
        replace hsh := Lib.hid hsh
        gi_wp2
        (first | exact ⟨⟨z, f', _, _, _, _, _, by go_num, I7, hgo3, hzb.1, hzb.2.1, hzb.2.2.1, by rw [List.length_append, List.length_singleton]; omega⟩, (by simp only [intOf]; omega)⟩ | (go_roundw; case rel => exact ⟨z, f', _, _, _, _, _, by go_num, I7, hgo3, hzb.1, hzb.2.1, hzb.2.2.1, by rw [List.length_append, List.length_singleton]; omega⟩; case measure => exact (by simp only [intOf]; omega)))
    · have hfin : Hid (runM L ws = some (lastW u ws)) := Lib.hid (by rw [hgo.out, left_end (by omega), ← hI.last])
      gi_wp2
      go_end0
      exact ⟨⟨_, rfl⟩, .inl ⟨u, hfin.out, hI.j⟩⟩
theorem run1_T (L : HL) (a : Option Addr) (nw cap : Nat) (ws : List Snd) (hok : lawOkB L = true) (w0 : World) (hL : RdLw w0 L) (hws : RdS w0 a nw cap ws) (hT0 : Tab64 w0) (hn32 : nw ≤ 32) (T : World → Nat → Prop) (W : World) (J Jx : List (List Snd) → World → Prop) (l bl bw bk bm : Nat)
    (hH : RunH L ws w0 T W.heap.size J Jx l) (h0 : J [] W) (kl : Held T W bl (lawO L)) (kw : Held T W bw (wordO a nw cap)) (kk : Held T W bk (intO L.ifs.length)) (km : Held T W bm (intO L.outs.length)) :
    CallsIn Fence.wide 8 Tryz.prog 65 #[.func (.yield l) #[] #[], .pointer (some ⟨bw, 0, none⟩), .pointer (some ⟨bl, 0, none⟩), .pointer (some ⟨bk, 0, none⟩), .pointer (some ⟨bm, 0, none⟩)] W fun e W' => (∃ v, e = .returned v) ∧ ((∃ s, runM L ws = some (lastW s ws) ∧ J s W') ∨ ∃ pre, Jx pre W') := by
  obtain ⟨_, _, _, _, _, h5, h6, _⟩ := lawOk_parts hok
  have hm : L.mode = 1 ∨ L.mode = 2 ∨ L.mode = 3 := by omega
  rcases hm with hm | hm | hm
  · exact run1_all L a nw cap ws hok hm w0 hL hws hT0 hn32 T W J Jx l bl bw bk bm hH h0 kl kw kk km
  · exact run1_right L a nw cap ws hok hm w0 hL hws hT0 hn32 T W J Jx l bl bw bk bm hH h0 kl kw kk km
  · exact run1_left L a nw cap ws hok hm w0 hL hws hT0 hn32 T W J Jx l bl bw bk bm hH h0 kl kw kk km
end Go.Proofs.YtadncjpknckaaaaGreatDoor
namespace Go.Proofs.YtadncjpknckaaaaGreatDoor
open Go.RowKit Go.Shelf
attribute [local go_sem] Oper.semAt_some
/-- Two operations may come up: both ways are to be shown. -/
theorem wpH_two {P : Program} {ops : Array Oper} {Q : Exit → Act → World → Prop} {md : Region.Mode} {S : World → Prop} {I : List Nat} {j k : Nat} {oj ok : Oper} {fuel : Nat} {listed : Array Bool} {a : Act} {w : World} (hj : ops[j]? = some oj) (hk : ops[k]? = some ok) (hr : Region.ready md ops listed = [j, k])
    (hwj : Region.wanted oj (yielded ops a.tmps) = true) (hwk : Region.wanted ok (yielded ops a.tmps) = true)
    (h1 : ∀ K : Act → World → Prop, (∀ a w, (needA md ops I j = true → S w) → wpH P md ops Q S I fuel (listed.setIfInBounds j true) a w → K a w) → oj.wp P a w K Q)
    (h2 : ∀ K : Act → World → Prop, (∀ a w, (needA md ops I k = true → S w) → wpH P md ops Q S I fuel (listed.setIfInBounds k true) a w → K a w) → ok.wp P a w K Q) : wpH P md ops Q S I (fuel + 1) listed a w := by
  refine ⟨fun h => (by rw [hr] at h; cases h), fun i hi => ?_⟩
  rw [hr] at hi
  unfold wpOp
  simp only [List.mem_cons, List.not_mem_nil, or_false] at hi
  rcases hi with rfl | rfl
  · simp only [hj]
    rw [if_pos hwj]
    exact .inl (h1 _ fun a w h1 h2 => ⟨h1, h2⟩)
  · simp only [hk]
    rw [if_pos hwk]
    exact .inl (h2 _ fun a w h1 h2 => ⟨h1, h2⟩)
/-- The world has grown; of what was there, S alone may have turned. -/
structure Grw (S : Nat → Prop) (X Y : World) : Prop where
  os : Y.os = X.os
  tape : Y.tape = X.tape
  output : Y.output = X.output
  size : X.heap.size ≤ Y.heap.size
  block : ∀ k, k < X.heap.size → ¬ S k → Y.heap[k]? = X.heap[k]?
section
variable {S : Nat → Prop} {X Y Z : World}
theorem Grw.refl (S : Nat → Prop) (X : World) : Grw S X X := ⟨rfl, rfl, rfl, Nat.le_refl _, fun _ _ _ => rfl⟩
theorem Grw.step (h : Grw S X Y) {row : Option Nat} (hg : Y.grownBy Z row) (hr : ∀ r, row = some r → S r ∨ X.heap.size ≤ r) : Grw S X Z :=
  ⟨hg.os.trans h.os, hg.tape.trans h.tape, hg.output.trans h.output, Nat.le_trans h.size hg.size, fun k h1 h2 => (hg.block k (Nat.lt_of_lt_of_le h1 h.size) fun e => by
    rcases hr k e.symm with h3 | h3
    · exact h2 h3
    · omega).trans (h.block k h1 h2)⟩
theorem Grw.ext' (h : Grw S X Y) (hx : Ext Y Z) : Grw S X Z := h.step (gb_ext hx none) fun r e => by cases e
theorem Grw.up {S' : Nat → Prop} (h : Grw S X Y) (hs : ∀ k, S k → S' k) : Grw S' X Y := ⟨h.os, h.tape, h.output, h.size, fun k h1 h2 => h.block k h1 fun h3 => h2 (hs k h3)⟩
theorem Grw.ext {w : World} (h : Grw S X Y) (hx : Ext w X) (hs : ∀ k, S k → w.heap.size ≤ k) : Ext w Y :=
  ⟨⟨h.os.trans hx.bel.os, h.tape.trans hx.bel.tape, h.output.trans hx.bel.output, Nat.le_trans hx.bel.size h.size, fun k hk => (h.block k (Nat.lt_of_lt_of_le hk hx.le) fun h3 => by have := hs k h3; omega).trans (hx.bel.block k hk)⟩⟩
theorem Grw.boxed {b : Nat} {t : TypeId} {v : Value} (h : Grw S X Y) (hb : Boxed X b t v) (hn : ¬ S b) : Boxed Y b t v := (h.block b hb.lt hn).trans hb
theorem Grw.own {α : Type} {k : Nat} {enc : α → List Value} {B : Nat} {e : TypeId} {v : Value} {xs : List α} (h : Grw S X Y) (ho : OwnK k enc B e X v xs) (hn : ∀ g, v.ownBlock = some g → ¬ S g) : OwnK k enc B e Y v xs := by
  obtain ⟨h1, h2⟩ := ho
  refine ⟨h1, ?_⟩
  rcases h2 with h2 | ⟨g, cap, cur, hv, hg, hh, r⟩
  · exact .inl h2
  · exact .inr ⟨g, cap, cur, hv, hg, (h.block g (Array.getElem?_eq_some_iff.1 hh).1 (hn g (by rw [hv]; rfl))).trans hh, r⟩
theorem Grw.keeps {B : Nat} (h : Grw S X Y) (hs : ∀ k, S k → ∃ o : Obj, X.heap[k]? = some o ∧ o.isCells = true) : KeepsFrom B X Y :=
  ⟨h.size, fun k o _ hk hc => (h.block k (Array.getElem?_eq_some_iff.1 hk).1 fun h3 => by
    obtain ⟨o', h4, h5⟩ := hs k h3
    rw [hk] at h4; cases h4; rw [hc] at h5; cases h5).trans hk⟩
theorem Grw.keepT {T : World → Nat → Prop} (h : Grw S X Y) (hs : ∀ k, S k → T X k) (hn : ∀ r, T Y r → T X r ∨ X.heap.size ≤ r) : KeepT T X Y :=
  ⟨h.size, fun r _ h1 _ h3 => (h.block r (Array.getElem?_eq_some_iff.1 h1).1 fun h4 => h3 (hs r h4)).trans h1, hn⟩
end
theorem rd_lit1 {α : Type} {k : Nat} {enc : α → List Value} (w : World) (y : α) (e : TypeId) : RdK k enc (w.alloc (.cells (enc y).toArray e)) (some ⟨w.heap.size, 0, none⟩) 1 1 [y] :=
  ⟨rfl, Nat.le_refl _, by unfold maxLen; decide, fun h => by (cases h), fun _ => ⟨_, 0, rfl, by simp, fun i x hi j u hu => by
    cases i with
    | zero =>
      simp at hi; subst hi
      have := cell_new_list w (enc y) e j u hu
      unfold Addr.add at this
      split at this
      · rename_i h0; subst h0; simpa using this
      · simpa using this
    | succ i => simp at hi⟩⟩
theorem rd_apart {α : Type} {k : Nat} {enc : α → List Value} {w w' : World} {b n cap : Nat} {xs : List α} (h : RdK k enc w (some ⟨b, 0, none⟩) n cap xs) {row : Option Nat} (hg : w.grownBy w' row) (hr : row ≠ some b) : RdK k enc w' (some ⟨b, 0, none⟩) n cap xs :=
  ⟨h.len, h.le, h.most, h.isnil, fun hn => let ⟨b', off, ha, hb, hc⟩ := h.pos hn; ⟨b', off, ha, Nat.lt_of_lt_of_le hb hg.size, fun i x hi j u hu => by
    cases ha
    rw [World.cell?_of_block (a := ⟨b, 0 + i * k + j, none⟩) (hg.block b hb fun e => hr e.symm)]
    exact hc i x hi j u hu⟩⟩
/-- A header of a word. -/
structure WH where
  a : Option Addr
  n : Nat
  cap : Nat
def WH.enc (h : WH) : List Value := [.slice h.a h.n h.cap]
theorem WH.len (h : WH) : h.enc.length = 1 := rfl
theorem WH.one (h : WH) : ∀ u ∈ h.enc, u.oneCell' = true := by intro u hu; simp [WH.enc] at hu; subst hu; rfl
abbrev WH.v (h : WH) : Value := .slice h.a h.n h.cap
theorem info_wh : (Tryz.prog.info? 40).map (fun i => (i.zero, i.size, i.bytes)) = some (some (.slice none 0 0), 1, 24) := by kernel_rfl
/-- The blocks that Trace may touch while it collects. -/
def TT (b8 b9 : Nat) (X : World) (r : Nat) : Prop := ∃ v8 v9, Boxed X b8 35 v8 ∧ Boxed X b9 99 v9 ∧ (r = b8 ∨ r = b9 ∨ v8.ownBlock = some r ∨ v9.ownBlock = some r)
theorem TT_iff {b8 b9 : Nat} {X : World} {v8 v9 : Value} (h8 : Boxed X b8 35 v8) (h9 : Boxed X b9 99 v9) (r : Nat) : TT b8 b9 X r ↔ (r = b8 ∨ r = b9 ∨ v8.ownBlock = some r ∨ v9.ownBlock = some r) := by
  constructor
  · rintro ⟨u8, u9, k8, k9, h⟩
    have e8 : v8 = u8 := by
      have := h8.symm.trans k8
      injection this with h; injection h with h; simpa using h
    have e9 : v9 = u9 := by
      have := h9.symm.trans k9
      injection this with h; injection h with h; simpa using h
    rw [e8, e9]; exact h
  · exact fun h => ⟨v8, v9, h8, h9, h⟩
/-- What stands while Trace collects. -/
structure TrI (w : World) (B b8 b9 b4 b5 b6 : Nat) (s : List (List Snd)) (v8 v9 : Value) (ps : List Int) (hs : List WH) (X : World) : Prop where
  x8 : Boxed X b8 35 v8
  x9 : Boxed X b9 99 v9
  o8 : OwnI B 3 X v8 ps
  o9 : OwnK 1 WH.enc B 40 X v9 hs
  l8 : ps.length = s.length
  l9 : hs.length = s.length
  last : ∀ s' x, s = s' ++ [x] → ∃ hs' h, hs = hs' ++ [h] ∧ OwnS B 52 X h.v x
  short : ∀ x ∈ s, x.length ≤ 32
  ext : Ext w X
  r4 : Boxed X b4 35 (.slice none 0 0)
  r5 : Boxed X b5 99 (.slice none 0 0)
  r6 : Boxed X b6 32 (.int .i64 0)
section
variable {w : World} {B b8 b9 b4 b5 b6 : Nat} {s : List (List Snd)} {v8 v9 : Value} {ps : List Int} {hs : List WH} {X Y : World}
theorem TrI.grown (h : TrI w B b8 b9 b4 b5 b6 s v8 v9 ps hs X) (hb : b4 < B ∧ b5 < B ∧ b6 < B ∧ w.heap.size ≤ B) {row : Option Nat} (hg : X.grownBy Y row) (hr : ∀ r, row = some r → ¬ TT b8 b9 X r ∧ B ≤ r ∧ notSnd X r) : TrI w B b8 b9 b4 b5 b6 s v8 v9 ps hs Y ∧ ∀ r, TT b8 b9 Y r ↔ TT b8 b9 X r := by
  have hT := TT_iff h.x8 h.x9
  have hnot : ∀ r, row = some r → r ≠ b8 ∧ r ≠ b9 ∧ v8.ownBlock ≠ some r ∧ v9.ownBlock ≠ some r := fun r e => by
    have := (hr r e).1
    rw [hT] at this
    simp only [not_or] at this
    exact this
  have k8 := h.x8.kept hg fun e => (hnot _ e.symm).1 rfl
  have k9 := h.x9.kept hg fun e => (hnot _ e.symm).2.1 rfl
  refine ⟨⟨k8, k9, own_apart h.o8 hg fun g e => (hnot g e).2.2.1, own_apart h.o9 hg fun g e => (hnot g e).2.2.2, h.l8, h.l9, fun s' x e => ?_, h.short, h.ext.grown hg fun r e => by have := (hr r e).2.1; omega,
    h.r4.kept hg fun e => by have := (hr _ e.symm).2.1; omega, h.r5.kept hg fun e => by have := (hr _ e.symm).2.1; omega, h.r6.kept hg fun e => by have := (hr _ e.symm).2.1; omega⟩, fun r => ?_⟩
  · obtain ⟨hs', h', e1, e2⟩ := h.last s' x e
    exact ⟨hs', h', e1, own_apart e2 hg fun g e3 e4 => by
      obtain ⟨cur, hc⟩ := own_type e2 e4
      exact (hr g e3).2.2 _ _ _ hc rfl⟩
  · rw [TT_iff k8 k9, hT]
theorem TrI.ext' (h : TrI w B b8 b9 b4 b5 b6 s v8 v9 ps hs X) (hb : b4 < B ∧ b5 < B ∧ b6 < B ∧ w.heap.size ≤ B) (hx : Ext X Y) : TrI w B b8 b9 b4 b5 b6 s v8 v9 ps hs Y ∧ ∀ r, TT b8 b9 Y r ↔ TT b8 b9 X r := h.grown hb (gb_ext hx none) fun r e => by cases e
end
end Go.Proofs.YtadncjpknckaaaaGreatDoor
