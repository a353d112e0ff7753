/-
  derive.forms: the words of a derivation, one behind another; it panics where a law fails.
  derive.outcome: the last word of a derivation, or the panic of a law that fails.
-/
import Derived.Test.YtadncjpknckaaaaGreatDoorA26
namespace Go.Proofs.YtadncjpknckaaaaGreatDoor
open Go.RowKit Go.Shelf
attribute [local go_sem] Oper.semAt_some
/-- What laws, one after another, make of a word. -/
def derM (Ls : List HL) (ws : List Snd) : Option (List Snd) := Ls.foldlM (fun x L => applyM L x) ws
theorem derM_cons (L : HL) (Ls : List HL) (ws : List Snd) : derM (L :: Ls) ws = (applyM L ws).bind (derM Ls) := by
  unfold derM; rw [List.foldlM_cons]; rfl
theorem derM_step {Ls : List HL} {k : Nat} {L : HL} (h : Ls[k]? = some L) (ws : List Snd) : derM (Ls.drop k) ws = (applyM L ws).bind (derM (Ls.drop (k + 1))) := by
  have hk := (List.getElem?_eq_some_iff.1 h).1
  rw [List.drop_eq_getElem_cons hk, derM_cons, (List.getElem?_eq_some_iff.1 h).2]
abbrev lawsO (a : Option Addr) (n cap : Nat) : Obj := .cells #[.slice a n cap] 23 (0, 0)
theorem forms_any (a : Option Addr) (n cap : Nat) (aw : Option Addr) (nw cw : Nat) (w : World) : Calls Tryz.prog 78 #[.slice a n cap, .slice aw nw cw] w fun e w' =>
    e = .returned (.func (.func 95) #[] #[.pointer (some ⟨w.heap.size + 1, 0, none⟩), .pointer (some ⟨w.heap.size, 0, none⟩)]) ∧ w' = (w.alloc (.cells #[.slice a n cap] 23)).alloc (.cells #[.slice aw nw cw] 40) := by
  go_enter Tryz.func78, Tryz.ntmps78
  go_wp2_with fail
  go_ret
  exact ⟨rfl, rfl⟩
/-- How a law fails. -/
def PanL (Ls : List HL) (ws : List Snd) (ch : List PanicEntry) : Prop := Hid (derM Ls ws = none) ∧ ∃ err : Int, ch = [{ v := .iface 147 (.int .i64 err), recovered := false }] ∧ err ≠ 0
set_option maxHeartbeats 2000000 in
set_option maxRecDepth 20000 in
theorem forms1_T (Ls : List HL) (a : Option Addr) (n cap : Nat) (aw : Option Addr) (nw cw : Nat) (ws : List Snd) (w0 : World) (hLs : RdLws w0 a n cap Ls) (hws : RdS w0 aw nw cw ws) (hT0 : Tab64 w0) (hn : nw ≤ 60000) (T : World → Nat → Prop) (J Jx : List (List Snd) → World → Prop) (hJT : NewT T J) (hJ0 : ∀ s X, J s X → Ext w0 X) (hTl : ∀ s X r, J s X → T X r → r < X.heap.size) (lv l bl bw : Nat) (hlv : 1 ≤ lv) (W : World)
    (hY : ∀ pre x v X, J pre X → OutW W.heap.size x v X → YieldAt Fence.wide (lv - 1) Tryz.prog l v X fun e Y => (e = .returned (.bool true) ∧ J (pre ++ [x]) Y ∧ KeepT T X Y) ∨ (e = .returned (.bool false) ∧ Jx (pre ++ [x]) Y))
    (h0 : J [] W) (kl : Held T W bl (lawsO a n cap)) (kw : Held T W bw (wordO aw nw cw)) :
    CallsIn Fence.wide lv Tryz.prog 95 #[.func (.yield l) #[] #[], .pointer (some ⟨bw, 0, none⟩), .pointer (some ⟨bl, 0, none⟩)] W fun e W' =>
      ((∃ v, e = .returned v) ∧ ((∃ s, Hid (derM Ls ws = some (lastW s ws) ∧ s ≠ []) ∧ J s W') ∨ ∃ pre, Jx pre W')) ∨ ∃ ch s, e = .panicked ch ∧ PanL Ls ws ch ∧ J s W' := by
  have hro : Fence.wide.round = none := rfl
  refine callsIn_of_wp Tryz.func95 rfl trivial ?_ hro
  simp only [Tryz.ntmps95, List.size_toArray, List.length_cons, List.length_nil, Nat.reduceAdd, Nat.reduceSub, Array.replicate_succ, Array.replicate_zero, List.push_toArray, List.append_toArray, List.nil_append, List.cons_append]
  have cw0 := kw.word
  have hx0 := hJ0 _ _ h0
  gi_wp2
  refine ⟨trivial, ?_⟩
  gi_at_call 36
  refine (callsIn_wide.2 (clone_any aw nw cw ws W (hws.ext hx0) hn)).mono ?_
  rintro e w1 ⟨v1, rfl, ho1, hx1⟩
  obtain ⟨a1, n1, c1, hz1, rfl, _⟩ := OwnK.rdn Snd.len ho1
  clear hz1
  obtain ⟨J1, T1⟩ := hJT _ _ _ h0 hx1
  have hno1 : ∀ g, (Value.slice a1 n1 c1).ownBlock = some g → ¬ T w1 g := fun g e h => by
    have h1 := (own_lt ho1 e).1
    have h2 := hTl _ _ g h0 ((T1 g).1 h)
    omega
  have kl1 := kl.ext hx1 T1
  obtain ⟨fn, tmps, assign, body, hyl, hR⟩ := hY [] ws #[.int .i64 ((0 : Nat) : Int), .slice a1 n1 c1] w1 J1 ⟨0, a1, n1, c1, rfl, ho1⟩
  simp only [Int.natCast_zero] at hyl
  gi_wp2
  refine hR.mono ?_
  rintro e w2 (⟨rfl, J2, k2⟩ | ⟨rfl, hJx2⟩)
  rotate_left
  · gi_wp2
    refine bodyPost_ret (results_none rfl _ _ _) rfl ?_
    exact .inl ⟨⟨_, rfl⟩, .inr ⟨_, hJx2⟩⟩
  have ho2 := own_keepT ho1 k2 hno1
  have hno2 : ∀ g, (Value.slice a1 n1 c1).ownBlock = some g → ¬ T w2 g := fun g e h => by
    rcases k2.new g h with h4 | h4
    · exact hno1 g e h4
    · have := (own_lt ho1 e).2; omega
  have kl2 := kl1.keep k2
  have hW2 : W.heap.size ≤ w2.heap.size := Nat.le_trans hx1.le k2.le
  have cl2 : w2.cell? ⟨bl, 0, none⟩ = some (.slice a n cap) := by simp [World.cell?, kl2.at']
  clear hyl hR k2 kl1 J1 T1 hno1 ho1 hx1 cw0 hx0
  gi_wp2
  have hlen := hLs.rd.len
  have hmax : n ≤ 9223372036854775807 := by have := hLs.rd.le; have := hLs.rd.most; unfold maxLen at this; omega
  replace hlen := Lib.hid hlen
  gi_loopw [4, 17] (fun wv iv wr => ∃ (k : Nat) (s : List (List Snd)) (x : List Snd) (a' : Option Addr) (n' c' : Nat), k ≤ n ∧ iv = .int .i64 (k : Int) ∧ wv = .slice a' n' c' ∧ OwnS W.heap.size 52 wr (.slice a' n' c') x ∧ (∀ g, (Value.slice a' n' c').ownBlock = some g → ¬ T wr g) ∧ W.heap.size ≤ wr.heap.size ∧ J s wr ∧ Hid (lastW s ws = x ∧ s ≠ []) ∧ Hid (derM Ls ws = derM (Ls.drop k) x)) (fun _ iv _ => n - (intOf iv).toNat)
  case atStart => exact ⟨0, [ws], ws, a1, n1, c1, Nat.zero_le _, rfl, rfl, ho2, hno2, hW2, J2, Lib.hid ⟨rfl, by simp⟩, Lib.hid rfl⟩
  case round =>
    obtain ⟨k, s, x, a', n', c', hk, rfl, rfl, ho, hno, hWr, hJ, hlast, hder⟩ := hrel
    by_cases hlt : k < n
    · have hxr := hJ0 _ _ hJ
      obtain ⟨b, off, L, hya, hs, hb, hc, hy⟩ := (hLs.ext hxr).at hlt
      subst hya
      have hlt' : (k : Int) < (n : Int) := by omega
      have hstep := derM_step hs.out x
      have hB5 := LawB.new wr L
      obtain ⟨a'', n'', c'', hz2, hv2, hrd⟩ := OwnK.rdn Snd.len ho
      cases hv2
      clear hz2
      replace hstep := Lib.hid hstep
      gi_wp2_with (first
        | (refine listIn_of rfl (fun c h => by cases h) fun K hK => ?_; refine wp_load_law L _ rfl b (off + k * 18) rfl hc ?_; refine hK _ _ ?_)
        | (refine listIn_of rfl (fun c h => by cases h) fun K hK => ?_; refine wp_store_law_new L _ _ rfl rfl rfl _ rfl ?_; refine hK _ _ ?_)
        | (refine listIn_of rfl (fun c h => by cases h) fun K hK => ?_; refine wp_load_row 58 _ rfl wr.heap.size rfl 58 _ (0, 0) _ hB5 Tryz.underlying58 rfl (by kernel_rfl) ?_; refine hK _ _ ?_))
      have hX : Ext wr (wr.alloc (.cells #[.string L.name, .int .i64 L.left.kind, .int .u32 L.left.is.p.toNat, .int .u32 L.left.is.m.toNat, .bool L.left.neg, .int .i64 L.left.mn, .int .i64 L.left.mx, .slice L.left.a L.left.n L.left.cap, .int .i64 L.right.kind, .int .u32 L.right.is.p.toNat, .int .u32 L.right.is.m.toNat, .bool L.right.neg, .int .i64 L.right.mn, .int .i64 L.right.mx, .slice L.right.a L.right.n L.right.cap, .slice L.ia L.ifs.length L.icap, .slice L.oa L.outs.length L.ocap, .int .i64 L.mode] 58)) := Ext.alloc1 _ _
      generalize (wr.alloc (.cells #[.string L.name, .int .i64 L.left.kind, .int .u32 L.left.is.p.toNat, .int .u32 L.left.is.m.toNat, .bool L.left.neg, .int .i64 L.left.mn, .int .i64 L.left.mx, .slice L.left.a L.left.n L.left.cap, .int .i64 L.right.kind, .int .u32 L.right.is.p.toNat, .int .u32 L.right.is.m.toNat, .bool L.right.neg, .int .i64 L.right.mn, .int .i64 L.right.mx, .slice L.right.a L.right.n L.right.cap, .slice L.ia L.ifs.length L.icap, .slice L.oa L.outs.length L.ocap, .int .i64 L.mode] 58)) = w3 at *
      refine ⟨trivial, ?_⟩
      gi_at_call 18
      refine (callsIn_wide.2 (apply_any L a' n' c' x w3 (hy.ext hX) (hrd.ext hX) (hT0.ext (hxr.trans hX)))).mono ?_
      rintro e w4 ⟨a4, n4, c4, err, rfl, hx4, herr, hres⟩
      have hX4 := hX.trans hx4
      obtain ⟨J4, T4⟩ := hJT _ _ _ hJ hX4
      clear hc hB5 hrd
      cases happ : applyM L x with
      | none =>
        have hne : ¬ err = 0 := fun h => by have := herr.out.1 h; rw [happ] at this; cases this
        have hpan : Hid (derM Ls ws = none) := Lib.hid (by rw [hder.out, hstep.out, happ]; rfl)
        clear herr hres happ hstep
        gi_wp2
        exact ⟨rfl, .inr ⟨_, s, rfl, ⟨hpan, err, rfl, hne⟩, J4⟩⟩
      | some x2 =>
        have h00 : err = 0 := herr.out.2 (by rw [happ]; rfl)
        subst h00
        have ho4 := hres.out x2 happ
        have hder2 : Hid (derM Ls ws = derM (Ls.drop (k + 1)) x2) := Lib.hid (by rw [hder.out, hstep.out, happ]; rfl)
        clear herr hres happ hstep hder
        have ho5 : OwnS W.heap.size 52 w4 (.slice a4 n4 c4) x2 := ho4.base (Nat.le_trans hWr hX.le)
        have hno5 : ∀ g, (Value.slice a4 n4 c4).ownBlock = some g → ¬ T w4 g := fun g e h => by
          have h1 := (own_lt ho4 e).1
          have h2 := hTl _ _ g hJ ((T4 g).1 h)
          have := hX.le
          omega
        obtain ⟨j, hj⟩ : ∃ j, j = k + 1 := ⟨_, rfl⟩
        have hj1 : (k : Int) + 1 = (j : Int) := by omega
        have hjn : j ≤ n := by omega
        have hjk : n - j < n - k := by omega
        rw [← hj] at hder2
        replace hj := Lib.hid hj
        obtain ⟨fn, tmps, assign, body, hyl, hR⟩ := hY s x2 #[.int .i64 (j : Int), .slice a4 n4 c4] w4 J4 ⟨j, a4, n4, c4, rfl, ho5⟩
        gi_wp2
        refine hR.mono ?_
        rintro e w5 (⟨rfl, J5, k5⟩ | ⟨rfl, hJx5⟩)
        rotate_left
        · gi_wp2
          refine bodyPost_ret (results_none rfl _ _ _) rfl ?_
          exact .inl ⟨⟨_, rfl⟩, .inr ⟨_, hJx5⟩⟩
        have ho6 := own_keepT ho5 k5 hno5
        have hno6 : ∀ g, (Value.slice a4 n4 c4).ownBlock = some g → ¬ T w5 g := fun g e h => by
          rcases k5.new g h with h4 | h4
          · exact hno5 g e h4
          · have := (own_lt ho5 e).2; omega
        have hW6 : W.heap.size ≤ w5.heap.size := Nat.le_trans hWr (Nat.le_trans hX4.le k5.le)
        have hl6 : Hid (lastW (s ++ [x2]) ws = x2 ∧ s ++ [x2] ≠ []) := Lib.hid ⟨lastW_snoc _ _ _, by simp⟩
        clear hyl hR k5 ho5 hno5 ho4 J4 T4
        gi_wp2
        (first | exact ⟨⟨j, s ++ [x2], x2, a4, n4, c4, hjn, by go_num, rfl, ho6, hno6, hW6, J5, hl6, hder2⟩, (by simp [intOf]; omega)⟩ | (go_roundw; case rel => exact ⟨j, s ++ [x2], x2, a4, n4, c4, hjn, by go_num, rfl, ho6, hno6, hW6, J5, hl6, hder2⟩; case measure => exact (by simp [intOf]; omega)))
    · obtain rfl : k = n := by omega
      have hfin : Hid (derM Ls ws = some (lastW s ws) ∧ s ≠ []) := Lib.hid ⟨by
        rw [hder.out, List.drop_eq_nil_of_le (by rw [hlen.out]; exact Nat.le_refl _), hlast.out.1]; rfl, hlast.out.2⟩
      gi_wp2
      go_end0
      exact .inl ⟨⟨_, rfl⟩, .inl ⟨s, hfin, hJ⟩⟩
end Go.Proofs.YtadncjpknckaaaaGreatDoor
namespace Go.Proofs.YtadncjpknckaaaaGreatDoor
open Go.RowKit Go.Shelf
attribute [local go_sem] Oper.semAt_some
theorem size_two2 {v : Array Value} (h : v.size = 2) : ∃ x y, v = #[x, y] := size_two h
theorem results_word {fn : Func} {p : Tmp} (h : fn.results = #[.cell p 40]) (tmps : Array Value) (w : World) (g : Nat) (v : Value) (hp : tmps.getD p undef = .pointer (some ⟨g, 0, none⟩)) (hc : w.cell? ⟨g, 0, none⟩ = some v) : (results fn tmps).run Tryz.prog w = .ok v w := by
  have hp' : tmps[p]?.getD undef = .pointer (some ⟨g, 0, none⟩) := by simpa using hp
  simp [results, h, hp', asAddr, loadVar, go_sem, hc]
/-- What stands while the outcome is awaited. -/
structure OutI (w : World) (b4 : Nat) (ws : List Snd) (s : List (List Snd)) (a : Option Addr) (n c : Nat) (x : List Snd) (X : World) : Prop where
  ext : Ext w X
  bx : Boxed X b4 40 (.slice a n c)
  own : OwnS (b4 + 1) 52 X (.slice a n c) x
  last : s ≠ [] → x = lastW s ws
theorem OutI.grown {w : World} {b4 : Nat} {ws : List Snd} {s : List (List Snd)} {a : Option Addr} {n c : Nat} {x : List Snd} {X Y : World} (h : OutI w b4 ws s a n c x X) {row : Option Nat} (hg : X.grownBy Y row) (hr : ∀ r, row = some r → r ≠ b4 ∧ w.heap.size ≤ r ∧ notSnd X r) : OutI w b4 ws s a n c x Y :=
  ⟨h.ext.grown hg fun r e => (hr r e).2.1, h.bx.kept hg fun e => (hr _ e.symm).1 rfl, own_apart h.own hg fun g e e2 => by
    obtain ⟨cur, hc⟩ := own_type h.own e2
    exact (hr g e).2.2 _ _ _ hc rfl, h.last⟩
def RetOut (Ls : List HL) (ws : List Snd) (w : World) (e : Ending) (w' : World) : Prop := Ext w w' ∧ ((∃ a n c x, e = .returned (.slice a n c) ∧ Hid (derM Ls ws = some x) ∧ OwnS w.heap.size 52 w' (.slice a n c) x) ∨ ∃ ch, e = .panicked ch ∧ PanL Ls ws ch)
set_option maxHeartbeats 2000000 in
set_option maxRecDepth 20000 in
theorem outcome_any (Ls : List HL) (a : Option Addr) (n cap : Nat) (aw : Option Addr) (nw cw : Nat) (ws : List Snd) (w : World) (hLs : RdLws w a n cap Ls) (hws : RdS w aw nw cw ws) (hT : Tab64 w) (hn : nw ≤ 60000) :
    Calls Tryz.prog 64 #[.slice a n cap, .slice aw nw cw] w (RetOut Ls ws w) := by
  refine (callsIn_wide (n := 9)).1 ?_
  refine callsIn_of_wp_marks Tryz.func64 rfl trivial ?_ rfl
  simp only [Tryz.ntmps64, List.size_toArray, List.length_cons, List.length_nil, Nat.reduceAdd, Nat.reduceSub, Array.replicate_succ, Array.replicate_zero, List.push_toArray, List.append_toArray, List.nil_append, List.cons_append]
  gi_wp2
  have hX := Ext.alloc1 w (.cells #[.slice none 0 0] 40)
  have y4 := World.alloc_heap_new w (.cells #[.slice none 0 0] 40)
  have hz := World.size_alloc w (.cells #[.slice none 0 0] 40)
  generalize w.alloc (.cells #[.slice none 0 0] 40) = w1 at *
  refine ⟨trivial, ?_⟩
  gi_at_call 78
  refine (callsIn_wide.2 (forms_any a n cap aw nw cw w1)).mono ?_
  rintro e w2 ⟨rfl, hw2⟩
  have hx2 : Ext w1 w2 := by rw [hw2]; exact (by repeat (first | exact Ext.refl _ | refine Ext.drew ?_ | refine Ext.drewN ?_ _ | refine Ext.alloc ?_ _))
  have kl : w2.heap[w1.heap.size]? = some (lawsO a n cap) := by rw [hw2]; exact (Below.heap_alloc _ _ _ (by simp)).trans (World.alloc_heap_new _ _)
  have kw : w2.heap[w1.heap.size + 1]? = some (wordO aw nw cw) := by
    rw [hw2]
    have := World.alloc_heap_new (w1.alloc (.cells #[.slice a n cap] 23)) (.cells #[.slice aw nw cw] 40)
    rwa [World.size_alloc] at this
  clear hw2
  have hX2 := hX.trans hx2
  have y42 : Boxed w2 w.heap.size 40 (.slice none 0 0) := (Below.block hx2.bel _ (Array.getElem?_eq_some_iff.1 y4).1).trans y4
  obtain ⟨b4, hb4⟩ : ∃ b, b = w.heap.size := ⟨_, rfl⟩
  have hle := hx2.le
  generalize hbl : w1.heap.size = bl at *
  rw [← hb4] at y42 ⊢
  clear y4 hX hx2
  replace hbl := Lib.hid hbl
  have hI0 : OutI w b4 ws [] none 0 0 [] w2 := ⟨hX2, y42, OwnK.nil _ _ _, fun h => absurd rfl h⟩
  have hbn : Hid (b4 = w.heap.size ∧ bl = b4 + 1 ∧ bl ≤ w2.heap.size) := Lib.hid ⟨hb4, by omega, hle⟩
  replace hb4 := Lib.hid hb4
  replace hz := Lib.hid hz
  gi_wp2
  refine wpIn_range_T4 (α := List Snd) rfl (by decide : 1 ≤ 9) (gf := 95) (lb := #[.pointer (some ⟨bl + 1, 0, none⟩), .pointer (some ⟨bl, 0, none⟩)]) rfl trivial (enters_of Tryz.func95 (by kernel_rfl) rfl)
    (fun _ r => r = b4) (fun s x v X => OutW (b4 + 1) x v X) (fun s X => ∃ a n c x, OutI w b4 ws s a n c x X) (fun _ _ _ => False) (fun s => Hid (derM Ls ws = some (lastW s ws) ∧ s ≠ [])) notSnd (fun ch _ => PanL Ls ws ch) (fun pre x X => ∃ a n c y, OutI w b4 ws (pre ++ [x]) a n c y X)
    (fun X r o h1 h2 => notCells_notSnd ⟨o, h1, h2⟩)
    (fun s X r hi ht => by
      obtain ⟨a, n, c, x, hi⟩ := hi
      subst ht
      exact ⟨_, hi.bx, rfl⟩)
    (fun s X Y row hs hg hr => by
      obtain ⟨a, n, c, x, hi⟩ := hs
      exact ⟨⟨a, n, c, x, hi.grown hg fun r e => ⟨(hr r e).1, by have := (hr r e).2.1; have := hbn.out; omega, (hr r e).2.2⟩⟩, fun r => Iff.rfl⟩)
    (fun _ _ _ _ _ h _ _ _ => h.elim)
    (fun pre x X Y row hs hg hr => by
      obtain ⟨a, n, c, y, hi⟩ := hs
      refine ⟨⟨a, n, c, y, hi.grown hg fun r e => ⟨fun e2 => ?_, ?_, notCells_notSnd (hr r e).1⟩⟩, fun r => Iff.rfl⟩
      · obtain ⟨o, h1, h2⟩ := (hr r e).1
        rw [e2, show X.heap[b4]? = _ from hi.bx] at h1; cases h1; cases h2
      · have := (hr r e).2; have := hbn.out; omega)
    ⟨_, _, _, _, hI0⟩
    (fun l J Jx W hB hJ0 hJI hJg hJx hY => ?iter)
    (fun v t => (t.setIfInBounds 8 (v.getD 0 undef)).setIfInBounds 9 (v.getD 1 undef)) ?assign ?body ?done ?panic ?stop
  case iter =>
    have hxW : Ext w2 W := ⟨hB⟩
    have hne := hbn.out
    refine (forms1_T Ls a n cap aw nw cw ws w hLs hws hT hn (fun _ r => r = b4) J Jx (fun s X Y hs hx => hJg s X Y none hs (gb_ext hx none) (fun r e => by cases e)) (fun s X hs => by obtain ⟨_, _, _, _, h⟩ := hJI s X hs; exact h.ext) (fun s X r hs ht => by
        obtain ⟨_, _, _, _, h⟩ := hJI s X hs
        subst ht; exact h.bx.lt) 8 l bl (bl + 1) (by decide) W
      (fun pre x v X hs ho => by
        obtain ⟨i, a', n', c', h5, h6⟩ := ho
        exact (hY pre x v X hs (by rw [h5]; rfl) ⟨i, a', n', c', h5, h6.base (by have := hxW.le; omega)⟩).mono fun e Y h => h.2) hJ0
      ⟨(Below.block hxW.bel _ (Array.getElem?_eq_some_iff.1 kl).1).trans kl, rfl, fun h => by omega⟩ ⟨(Below.block hxW.bel _ (Array.getElem?_eq_some_iff.1 kw).1).trans kw, rfl, fun h => by omega⟩).mono ?_
    exact fun e Y h => h.imp (fun h => h) fun ⟨ch, s, h1, h2, h3⟩ => ⟨ch, s, h1, h2, h3⟩
  case assign =>
    intro l pre x v X K' hI hv ⟨i, a', n', c', hv2, ho⟩ hK'
    subst hv2
    obtain ⟨a0, n0, c0, x0, hi⟩ := hI
    have d4 := hi.bx.cell
    have f4 := hi.bx.frozen
    gi_wp2
    have g4 := grownBy_set X b4 0 (.slice a' n' c')
    refine hK' _ (keepsFrom_set hi.bx _) (keepT_grown g4 (fun r e => by cases e; rfl) fun r h => .inl h) ⟨a', n', c', x, hi.ext.grown g4 (fun r e => by cases e; exact Nat.le_of_eq hbn.out.1.symm), hi.bx.set _, own_setOff ho fun e => by have := (own_lt ho e).1; omega, fun _ => (lastW_snoc _ _ _).symm⟩
  case body =>
    rintro l pre x v X ⟨a', n', c', y, hi⟩ hv
    gi_wp2
    exact ⟨KeepsFrom.refl _ _, KeepT.refl _ _, a', n', c', y, hi⟩
  case done =>
    rintro D s W hD hfin ⟨a', n', c', y, hi⟩ hDX
    have d4 := hi.bx.cell
    have f4 := hi.bx.frozen
    have hy : Hid (derM Ls ws = some y) := Lib.hid (by rw [hfin.out.1, hi.last hfin.out.2])
    have hDw : w.heap.size ≤ D ∧ D ≠ b4 := ⟨by have := hbn.out; omega, fun e => by subst e; rw [show W.heap[D]? = _ from hi.bx] at hDX; cases hDX⟩
    clear hfin
    gi_wp2
    refine leaves_marksS (fun W => Ext w W ∧ Boxed W b4 40 (.slice a' n' c') ∧ OwnS (b4 + 1) 52 W (.slice a' n' c') y) [D] _ (by simp) (fun E hE => ?_) ⟨hi.ext.setCell (by simp; exact Nat.le_of_eq hbn.out.1.symm) _, hi.bx.set _, own_setOff hi.own fun e => by have := (own_lt hi.own e).1; omega⟩ (fun W E o hs hE hd => ?_) fun w' hs => ?_
    · rw [List.mem_singleton.1 hE]
      exact ((grownBy_set W b4 0 (.slice a' n' c')).block D (Array.getElem?_eq_some_iff.1 hDX).1 fun e => hDw.2 (by cases e; rfl)).trans hDX
    · rw [List.mem_singleton.1 hE] at *
      exact ⟨hs.1.grown (grownBy_putObj' W D o) fun r e => by cases e; exact hDw.1, hs.2.1.kept (grownBy_putObj' W D o) fun e => hDw.2 (by cases e; rfl), own_putObj hs.2.2 hd⟩
    · refine ⟨_, results_word rfl _ _ b4 _ rfl hs.2.1.cell, ?_⟩
      exact ⟨hs.1, .inl ⟨_, _, _, y, rfl, hy, hs.2.2.base (by have := hbn.out; omega)⟩⟩
  case panic =>
    rintro D s ch W hD hp ⟨a', n', c', y, hi⟩ hDX
    have hDw : w.heap.size ≤ D := by have := hbn.out; omega
    refine leaves_marksP (fun W => Ext w W) ch [D] _ (by simp) (fun E hE => by rw [List.mem_singleton.1 hE]; exact hDX) hi.ext (fun W E o hs hE hd => ?_) fun w' hs => ?_
    · rw [List.mem_singleton.1 hE]
      exact hs.grown (grownBy_putObj' W D o) fun r e => by cases e; exact hDw
    · exact ⟨hs, .inr ⟨ch, rfl, hp⟩⟩
  case stop =>
    rintro D c pre W hD h
    exact h.elim
end Go.Proofs.YtadncjpknckaaaaGreatDoor
