/-
  lay: the walk.
  Sets of places as bytes; spread: plain, and the walk.
-/
import Derived.Test.YtilkemdecenibaaU4
namespace Go.Proofs.Ytilkemdecenibaa
open Go.RowKit
set_option maxHeartbeats 4000000 in
set_option maxRecDepth 20000 in
theorem lay_of (h : HP) (hsub : ∀ q ∈ h.l, LayC q) : LayC h := by
  intro w0 w Bg g f hg hr hnb hf hsz
  have hle := hr.rd.le
  have hmost := hr.rd.most
  have hl := hr.rd.len
  have hnl : ∀ q ∈ h.l, q.numB = true := (HP.numB_at hnb).2
  unfold maxLen at hmost
  obtain ⟨kd, is, ng, mn, mx, a, n, cap, l⟩ := h
  change ∀ q ∈ l, LayC q at hsub
  change ∀ q ∈ l, _ at hnl
  change l.length = n at hl
  change n ≤ cap at hle
  change cap ≤ _ at hmost
  have hmax : n ≤ 9223372036854775807 := by omega
  show Calls Try.prog 68 #[.pointer (some ⟨Bg, 0, none⟩), .agg #[.int .i64 kd, .int .u32 is.p.toNat, .int .u32 is.m.toNat, .bool ng, .int .i64 mn, .int .i64 mx, .slice a n cap], .int .i64 (f : Int)] w _
  obtain ⟨R, hR⟩ : ∃ R, R = layM (.mk kd is ng mn mx a n cap l) f g := ⟨_, rfl⟩
  rw [← hR] at hsz ⊢
  have hgl : Grows f g R := by rw [hR]; exact grows_any _ _ _
  simp only [layM] at hR
  have hp0 : PatB (w.alloc (.cells #[.int .i64 kd, .int .u32 is.p.toNat, .int .u32 is.m.toNat, .bool ng, .int .i64 mn, .int .i64 mx, .slice a n cap] 27)) w.heap.size (.mk kd is ng mn mx a n cap l) := PatB.new w (.mk kd is ng mn mx a n cap l)
  have hgB := hg.kept (Ext.alloc1 w (.cells #[.int .i64 kd, .int .u32 is.p.toNat, .int .u32 is.m.toNat, .bool ng, .int .i64 mn, .int .i64 mx, .slice a n cap] 27))
  have hKB : NetK w (w.alloc (.cells #[.int .i64 kd, .int .u32 is.p.toNat, .int .u32 is.m.toNat, .bool ng, .int .i64 mn, .int .i64 mx, .slice a n cap] 27)) := NetK.ext (Ext.alloc1 w _)
  have q0 : (w.alloc (.cells #[.int .i64 kd, .int .u32 is.p.toNat, .int .u32 is.m.toNat, .bool ng, .int .i64 mn, .int .i64 mx, .slice a n cap] 27)).cell? ⟨w.heap.size, 0, none⟩ = some (.int .i64 kd) := hp0.cells.1
  have q6 : (w.alloc (.cells #[.int .i64 kd, .int .u32 is.p.toNat, .int .u32 is.m.toNat, .bool ng, .int .i64 mn, .int .i64 mx, .slice a n cap] 27)).cell? ⟨w.heap.size, 6, none⟩ = some (.slice a n cap) := hp0.cells.2.2.2.2.2.2.1
  have hbg : netSz g ≤ 5000 := Nat.le_trans hgl.1 hsz
  replace hl := Lib.hid hl
  replace hnl := Lib.hid hnl
  replace hsub := Lib.hid hsub
  by_cases k0 : kd = 0
  · rw [if_pos k0] at hR
    subst k0
    replace hR := Lib.hid hR
    go_enter Try.func68, Try.ntmps68
    go_wp2_with fail
    go_ret
    exact ⟨ret_int (by rw [hR.out]), by rw [hR.out]; exact hgB, hKB⟩
  · rw [if_neg k0] at hR
    have d0 : (kd == 0) = false := by simpa using k0
    by_cases k3 : kd = 3
    · rw [if_pos k3] at hR
      subst k3
      have hbs : ∀ i, i ≤ n → netSz (laySeq (l.take i) f g).2 ≤ 5000 := fun i _ => by
        refine Nat.le_trans ?_ hsz
        rw [hR]
        have h1 := laySeq_app (l.take i) (l.drop i) f g
        rw [List.take_append_drop] at h1
        rw [h1]
        exact (grows_seq (l.drop i) (fun q _ => grows_any q) _ _).1
      have hlts : ∀ i, (laySeq (l.take i) f g).1 < (laySeq (l.take i) f g).2.length := fun i => (grows_seq (l.take i) (fun q _ => grows_any q) f g).2.2 hf
      have hst : ∀ i q, l[i]? = some q → laySeq (l.take (i + 1)) f g = layM q (laySeq (l.take i) f g).1 (laySeq (l.take i) f g).2 := fun i q hq => by
        rw [take_succ_at hq, laySeq_app]; simp only [laySeq]
      have hz0 : laySeq (l.take 0) f g = (f, g) := by simp [laySeq]
      obtain ⟨S, hS⟩ : ∃ S : Nat → Nat × Net, S = fun i => laySeq (l.take i) f g := ⟨_, rfl⟩
      have hSn : S n = R := by rw [hS, hR]; show laySeq (l.take n) f g = _; rw [← hl.out, List.take_length]
      have hS0 : S 0 = (f, g) := by rw [hS]; exact hz0
      have hbs' : ∀ i, i ≤ n → netSz (S i).2 ≤ 5000 := by rw [hS]; exact hbs
      have hlts' : ∀ i, (S i).1 < (S i).2.length := by rw [hS]; exact hlts
      have hst' : ∀ i q, l[i]? = some q → S (i + 1) = layM q (S i).1 (S i).2 := by rw [hS]; exact hst
      clear hbs hlts hst hz0
      replace hS := Lib.hid hS
      replace hSn := Lib.hid hSn
      have hS01 : (S 0).1 = f := by rw [hS0]
      have hS02 : (S 0).2 = g := by rw [hS0]
      replace hS0 := Lib.hid hS0
      replace hS01 := Lib.hid hS01
      replace hS02 := Lib.hid hS02
      replace hbs' := Lib.hid hbs'
      replace hlts' := Lib.hid hlts'
      replace hst' := Lib.hid hst'
      replace hR := Lib.hid hR
      go_enter Try.func68, Try.ntmps68
      go_wp2_with fail
      go_loopw [2, 23] (fun fv iv wr => ∃ i : Nat, i ≤ n ∧ iv = .int .i64 i ∧ fv = .int .i64 ((S i).1 : Int) ∧ NetI w0 Bg wr (S i).2 ∧ NetK (w.alloc (.cells #[.int .i64 3, .int .u32 is.p.toNat, .int .u32 is.m.toNat, .bool ng, .int .i64 mn, .int .i64 mx, .slice a n cap] 27)) wr) (fun _ iv _ => n - (intOf iv).toNat)
      case atStart => exact ⟨0, Nat.zero_le _, rfl, by rw [hS01.out], by rw [hS02.out]; exact hgB, NetK.refl _⟩
      case round =>
        clear hgB
        obtain ⟨i, hi, rfl, rfl, hgi, hKi⟩ := hrel
        by_cases hlt : i < n
        · obtain ⟨b, off, x, ha, hxi, hb, hrx, c0, c1, c2, c3, c4, c5, c6⟩ := (hr.ext hgi.1).at (i := i) hlt
          change a = some _ at ha
          subst ha
          have hxi : Hid (l[i]? = some x) := hxi
          have hxm := List.mem_of_getElem? hxi.out
          have hsu := hst'.out i x hxi.out
          have hrx0 := hr.sub (show x ∈ (HP.mk 3 is ng mn mx (some ⟨b, off, none⟩) n cap l).l from hxm)
          have hlay := hsub.out x hxm w0 (wr.alloc (.cells #[.int .i64 x.kind, .int .u32 x.is.p.toNat, .int .u32 x.is.m.toNat, .bool x.neg, .int .i64 x.mn, .int .i64 x.mx, .slice x.a x.n x.cap] 27)) Bg (S i).2 (S i).1 (hgi.kept (Ext.alloc1 _ _)) hrx0 (hnl.out x hxm) (hlts'.out i) (by rw [← hsu]; exact hbs'.out (i + 1) hlt)
          rw [← hsu] at hlay
          have hki : (i : Int) < (n : Int) := by omega
          replace hxi := Lib.hid hxi.out
          replace hsu := Lib.hid hsu
          go_wp2_with fail
          refine hlay.mono ?_
          rintro e w2 ⟨rfl, hg2, hK2⟩
          clear hlay
          go_wp2_with fail
          (first | exact ⟨⟨i + 1, hlt, by go_num, rfl, hg2, (hKi.trans (NetK.ext (Ext.alloc1 _ _))).trans hK2⟩, (by simp [intOf]; omega)⟩ | (go_roundw; case rel => exact ⟨i + 1, hlt, by go_num, rfl, hg2, (hKi.trans (NetK.ext (Ext.alloc1 _ _))).trans hK2⟩; case measure => exact (by simp [intOf]; omega)))
        · obtain rfl : i = n := by omega
          go_wp2_with fail
          go_ret
          exact ⟨ret_int (by rw [hSn.out]), by rw [← hSn.out]; exact hgi, hKB.trans hKi⟩
    · rw [if_neg k3] at hR
      have d3 : (kd == 3) = false := by simpa using k3
      by_cases k4 : kd = 4
      · rw [if_pos k4] at hR
        subst k4
        have hb1 : netSz (g ++ [[]]) ≤ 5000 := by
          refine Nat.le_trans ?_ hsz
          rw [hR]; exact (grows_alt l (fun q _ => grows_any q) f g.length (g ++ [[]])).1
        have hbs : ∀ i, netSz (layAlt (l.take i) f g.length (g ++ [[]])) ≤ 5000 := fun i => by
          refine Nat.le_trans ?_ hsz
          rw [hR]
          have h1 := layAlt_app (l.take i) (l.drop i) f g.length (g ++ [[]])
          rw [List.take_append_drop] at h1
          show _ ≤ netSz (layAlt l f g.length (g ++ [[]]))
          rw [h1]
          exact (grows_alt (l.drop i) (fun q _ => grows_any q) f g.length _).1
        have hlts : ∀ i, g.length + 1 ≤ (layAlt (l.take i) f g.length (g ++ [[]])).length := fun i => by
          have := (grows_alt (l.take i) (fun q _ => grows_any q) f g.length (g ++ [[]])).2
          simpa using this
        have hst : ∀ i q, l[i]? = some q → layAlt (l.take (i + 1)) f g.length (g ++ [[]]) = NetJoin (layM q f (layAlt (l.take i) f g.length (g ++ [[]]))).2 (layM q f (layAlt (l.take i) f g.length (g ++ [[]]))).1 g.length zP := fun i q hq => by
          rw [take_succ_at hq, layAlt_app]; simp only [layAlt]
        obtain ⟨S, hS⟩ : ∃ S : Nat → Net, S = fun i => layAlt (l.take i) f g.length (g ++ [[]]) := ⟨_, rfl⟩
        have hSn : S n = R.2 := by rw [hS, hR]; show layAlt (l.take n) f g.length (g ++ [[]]) = _; rw [← hl.out, List.take_length]
        have hR1 : R.1 = g.length := by rw [hR]
        have hS0 : S 0 = g ++ [[]] := by rw [hS]; show layAlt (l.take 0) f g.length (g ++ [[]]) = _; simp [layAlt]
        have hbs' : ∀ i, netSz (S i) ≤ 5000 := by rw [hS]; exact hbs
        have hlts' : ∀ i, g.length + 1 ≤ (S i).length := by rw [hS]; exact hlts
        have hst' : ∀ i q, l[i]? = some q → S (i + 1) = NetJoin (layM q f (S i)).2 (layM q f (S i)).1 g.length zP := by rw [hS]; exact hst
        clear hbs hlts hst hb1
        replace hS := Lib.hid hS
        replace hSn := Lib.hid hSn
        replace hR1 := Lib.hid hR1
        replace hS0 := Lib.hid hS0
        replace hbs' := Lib.hid hbs'
        replace hlts' := Lib.hid hlts'
        replace hst' := Lib.hid hst'
        replace hR := Lib.hid hR
        go_enter Try.func68, Try.ntmps68
        go_wp2_with fail
        refine (place_sz w0 _ Bg g hgB hbg).mono ?_
        rintro e w2 ⟨rfl, hg3, hK2⟩
        rw [← hS0.out] at hg3
        have hKp := hKB.trans hK2
        have c6' := (hp0.net hK2).cells.2.2.2.2.2.2.1
        change w2.cell? _ = some (.slice a n cap) at c6'
        go_wp2_with fail
        go_loopw [40] (fun iv wr => ∃ i : Nat, i ≤ n ∧ iv = .int .i64 i ∧ NetI w0 Bg wr (S i) ∧ NetK w2 wr) (fun iv _ => n - (intOf iv).toNat)
        case atStart => exact ⟨0, Nat.zero_le _, rfl, hg3, NetK.refl _⟩
        case round =>
          clear hg3 hgB
          obtain ⟨i, hi, rfl, hgi, hKi⟩ := hrel
          by_cases hlt : i < n
          · obtain ⟨b, off, x, ha, hxi, hb, hrx, c0, c1, c2, c3, c4, c5, c6⟩ := (hr.ext hgi.1).at (i := i) hlt
            change a = some _ at ha
            subst ha
            have hxi : Hid (l[i]? = some x) := hxi
            have hxm := List.mem_of_getElem? hxi.out
            have hsu := hst'.out i x hxi.out
            have hrx0 := hr.sub (show x ∈ (HP.mk 4 is ng mn mx (some ⟨b, off, none⟩) n cap l).l from hxm)
            have hfl : f < (S i).length := by have := hlts'.out i; omega
            have hbb : netSz (layM x f (S i)).2 ≤ 5000 := Nat.le_trans (netSz_join _ (layM x f (S i)).1 g.length zP) (by rw [← hsu]; exact hbs'.out (i + 1))
            have hul := (grows_any x f (S i)).2.2 hfl
            have hlay := hsub.out x hxm w0 (wr.alloc (.cells #[.int .i64 x.kind, .int .u32 x.is.p.toNat, .int .u32 x.is.m.toNat, .bool x.neg, .int .i64 x.mn, .int .i64 x.mx, .slice x.a x.n x.cap] 27)) Bg (S i) f (hgi.kept (Ext.alloc1 _ _)) hrx0 (hnl.out x hxm) hfl hbb
            obtain ⟨U, hU⟩ : ∃ U, U = layM x f (S i) := ⟨_, rfl⟩
            rw [← hU] at hlay hul hsu hbb
            have hki : (i : Int) < (n : Int) := by omega
            replace hU := Lib.hid hU
            replace hxi := Lib.hid hxi.out
            replace hsu := Lib.hid hsu
            go_wp2_with fail
            refine hlay.mono ?_
            rintro e w4 ⟨rfl, hg2, hK4⟩
            clear hlay
            go_wp2_with fail
            refine (join_sz w0 _ Bg _ hg2 hbb U.1 g.length hul zP).mono ?_
            rintro e w5 ⟨rfl, hg5, hK5⟩
            rw [← hsu.out] at hg5
            go_wp2_with fail
            (first | exact ⟨⟨i + 1, hlt, by go_num, hg5, ((hKi.trans (NetK.ext (Ext.alloc1 _ _))).trans hK4).trans hK5⟩, (by simp [intOf]; omega)⟩ | (go_roundw; case rel => exact ⟨i + 1, hlt, by go_num, hg5, ((hKi.trans (NetK.ext (Ext.alloc1 _ _))).trans hK4).trans hK5⟩; case measure => exact (by simp [intOf]; omega)))
          · obtain rfl : i = n := by omega
            go_wp2_with fail
            go_ret
            exact ⟨ret_int (by rw [hR1.out]), by rw [← hSn.out]; exact hgi, hKp.trans hKi⟩
      · rw [if_neg k4] at hR
        have d4 : (kd == 4) = false := by simpa using k4
        by_cases k5 : kd = 5
        · rw [if_pos k5] at hR
          subst k5
          have hne := HP.numB_rep hnb rfl
          change l ≠ [] at hne
          obtain ⟨q, l', rfl⟩ : ∃ q l', l = q :: l' := by
            cases l with
            | nil => exact absurd rfl hne
            | cons q l' => exact ⟨q, l', rfl⟩
          simp only [layRep] at hR
          have htm := times_of q l' (hsub.out q List.mem_cons_self) is ng mn mx a n cap w0 (w.alloc (.cells #[.int .i64 5, .int .u32 is.p.toNat, .int .u32 is.m.toNat, .bool ng, .int .i64 mn, .int .i64 mx, .slice a n cap] 27)) Bg g f hgB hr hnb hf (by rw [← hR]; exact hsz)
          rw [← hR] at htm
          obtain ⟨c0, c1, c2, c3, c4, c5, c6, _⟩ := hp0.cells
          replace hR := Lib.hid hR
          replace hne := Lib.hid hne
          go_enter Try.func68, Try.ntmps68
          go_wp2_with fail
          refine htm.mono ?_
          rintro e w1 ⟨rfl, hg1, hK1⟩
          go_wp2_with fail
          go_ret
          exact ⟨rfl, hg1, hKB.trans hK1⟩
        · rw [if_neg k5] at hR
          have d5 : (kd == 5) = false := by simpa using k5
          have hb1 : netSz (g ++ [[]]) ≤ 5000 := by
            refine Nat.le_trans ?_ hsz
            rw [hR]; exact netSz_join _ _ _ _
          have hR1 : R.1 = g.length := by rw [hR]
          have hR2 : R.2 = NetJoin (g ++ [[]]) f g.length (.mk kd is ng mn mx a n cap l) := by rw [hR]
          replace k0 := Lib.hid k0
          replace k3 := Lib.hid k3
          replace k4 := Lib.hid k4
          replace k5 := Lib.hid k5
          replace hR := Lib.hid hR
          replace hR1 := Lib.hid hR1
          replace hR2 := Lib.hid hR2
          go_enter Try.func68, Try.ntmps68
          go_wp2_with fail
          refine (place_sz w0 _ Bg g hgB hbg).mono ?_
          rintro e w2 ⟨rfl, hg3, hK2⟩
          obtain ⟨c0, c1, c2, c3, c4, c5, c6, _⟩ := (hp0.net hK2).cells
          have hjn := join_sz w0 w2 Bg _ hg3 hb1 f g.length (by rw [List.length_append]; omega) (.mk kd is ng mn mx a n cap l)
          go_wp2_with fail
          refine hjn.mono ?_
          rintro e w3 ⟨rfl, hg4, hK4⟩
          go_wp2_with fail
          go_ret
          exact ⟨ret_int (by rw [hR1.out]), by rw [hR2.out]; exact hg4, (hKB.trans hK2).trans hK4⟩
theorem lay_any : ∀ (m : Nat) (h : HP), HP.sz h ≤ m → LayC h := by
  intro m
  induction m with
  | zero => intro h hm; cases h; simp only [HP.sz] at hm; omega
  | succ m ih => intro h hm; exact lay_of h fun q hq => ih q (by have := HP.sz_mem hq; omega)
end Go.Proofs.Ytilkemdecenibaa
namespace Go.Proofs.Ytilkemdecenibaa
open Go.RowKit
/-! ### Bytes that are 0 or 1; places -/
def BB.enc (b : Bool) : List Value := [.int .u8 (if b then 1 else 0)]
theorem BB.len (b : Bool) : (BB.enc b).length = 1 := rfl
theorem BB.one (b : Bool) : ∀ u ∈ BB.enc b, u.oneCell' = true := by intro u hu; simp [BB.enc] at hu; subst hu; rfl
def NN.enc (x : Nat) : List Value := [.int .i64 (x : Int)]
theorem NN.len (x : Nat) : (NN.enc x).length = 1 := rfl
theorem NN.one (x : Nat) : ∀ u ∈ NN.enc x, u.oneCell' = true := by intro u hu; simp [NN.enc] at hu; subst hu; rfl
theorem info_int2 : (Try.prog.info? 3).map (fun i => (i.zero, i.size, i.bytes)) = some (some (.int .i64 0), 1, 8) := by kernel_rfl
/-! ### The net, read -/
structure RdNet (w : World) (a : Option Addr) (n cap : Nat) (g : Net) : Prop where
  rd : ∃ hs : List RW, RdK 1 RW.enc w a n cap hs ∧ (∀ h ∈ hs, RdK 8 Lk.enc w h.a h.n h.cap h.x) ∧ hs.map RW.x = g
theorem RdNet.len {w : World} {a : Option Addr} {n cap : Nat} {g : Net} (h : RdNet w a n cap g) : g.length = n := by
  obtain ⟨hs, h1, _, h3⟩ := h.rd
  rw [← h3, List.length_map]; exact h1.len
theorem RdNet.at {w : World} {a : Option Addr} {n cap : Nat} {g : Net} (h : RdNet w a n cap g) {i : Nat} (hi : i < n) :
    ∃ (b off : Nat) (y : RW), a = some ⟨b, off, none⟩ ∧ w.cell? ⟨b, off + i, none⟩ = some (.slice y.a y.n y.cap) ∧ RdK 8 Lk.enc w y.a y.n y.cap y.x ∧ Hid (g[i]? = some y.x) := by
  obtain ⟨hs, h1, h2, h3⟩ := h.rd
  obtain ⟨b, off, x, ha, hx, hb, hc⟩ := h1.get hi
  exact ⟨b, off, x, ha, by have := hc 0 _ rfl; simpa using this, h2 x (List.mem_of_getElem? hx.out), Lib.hid (by rw [← h3, List.getElem?_map, hx.out]; rfl)⟩
theorem RdNet.ext {w w' : World} {a : Option Addr} {n cap : Nat} {g : Net} (h : RdNet w a n cap g) (hx : Ext w w') : RdNet w' a n cap g := by
  obtain ⟨hs, h1, h2, h3⟩ := h.rd
  exact ⟨hs, h1.ext hx, fun y hy => (h2 y hy).ext hx, h3⟩
/-- What is read lies in no row of bytes. -/
theorem rdk_gb {α : Type} {k : Nat} {enc : α → List Value} {w w' : World} {a : Option Addr} {n cap : Nat} {xs : List α} {S : Nat} (h : RdK k enc w a n cap xs) (hg : w.grownBy w' (some S)) (hS : ∀ b off, 0 < n → a = some ⟨b, off, none⟩ → b ≠ S) : RdK k enc w' a n cap xs :=
  ⟨h.len, h.le, h.most, h.isnil, fun hn => let ⟨b, off, ha, hb, hc⟩ := h.pos hn; ⟨b, off, ha, Nat.lt_of_lt_of_le hb hg.size, fun i x hi j u hu => gb_cell hg (hc i x hi j u hu) (fun e => hS b off hn ha (Option.some.inj e).symm)⟩⟩
theorem byte_cell {B : Nat} {w : World} {S n cap : Nat} {bs : List Bool} (h : OwnK 1 BB.enc B 5 w (.slice (some ⟨S, 0, none⟩) n cap) bs) : ∃ cur, w.heap[S]? = some (.cells cur 5 (0, 0)) := own_type h rfl
/-! ### spread, plain -/
def openB (x : HP) (bg en : Bool) : Bool := (x.kind == 0) || ((x.kind == 2) && bg) || ((x.kind == 6) && en)
def pushL (bg en : Bool) : List Lk → List Nat × List Bool → List Nat × List Bool
  | [], s => s
  | l :: ls, s => pushL bg en ls (if openB l.2 bg en && !(s.2.getD l.1 true) then (s.1 ++ [l.1], s.2.set l.1 true) else s)
def spreadL (g : Net) (bg en : Bool) : Nat → List Nat × List Bool → List Bool
  | 0, s => s.2
  | k + 1, s => match s.1.getLast? with
    | none => s.2
    | some x => spreadL g bg en k (pushL bg en (g.getD x []) (s.1.dropLast, s.2))
def onesTo (bs : List Bool) (k : Nat) : List Nat := (List.range k).filter fun i => bs.getD i false
def spreadM (g : Net) (bs : List Bool) (bg en : Bool) : List Bool := spreadL g bg en bs.length (onesTo bs bs.length, bs)
/-- Each link leads to a place of the net. -/
def netOkB (m : Nat) (g : Net) : Bool := g.all fun r => r.all fun l => decide (l.1 < m)
theorem pushL_app (bg en : Bool) : ∀ (l m : List Lk) (s : List Nat × List Bool), pushL bg en (l ++ m) s = pushL bg en m (pushL bg en l s)
  | [], m, s => rfl
  | x :: l, m, s => by simp only [List.cons_append, pushL]; exact pushL_app bg en l m _
def zeros (bs : List Bool) : Nat := (bs.filter fun b => !b).length
theorem zeros_set : ∀ (bs : List Bool) (i : Nat), bs[i]? = some false → zeros (bs.set i true) + 1 = zeros bs
  | [], i, h => by simp at h
  | b :: bs, 0, h => by simp at h; subst h; simp [zeros]
  | b :: bs, i + 1, h => by
    simp at h
    have ih := zeros_set bs i h
    unfold zeros at ih ⊢
    rw [List.set_cons_succ, List.filter_cons, List.filter_cons]
    cases b
    · simp only [Bool.not_false, if_true, List.length_cons]; omega
    · simpa using ih
/-- What stands while links are looked at. -/
def PushOk (m : Nat) (s : List Nat × List Bool) (fuel : Nat) : Prop := s.2.length = m ∧ (∀ x ∈ s.1, x < m) ∧ s.1.length + zeros s.2 ≤ fuel
theorem pushOk_step {bg en : Bool} {m fuel : Nat} {s : List Nat × List Bool} {l : Lk} (h : PushOk m s fuel) (hl : l.1 < m) : PushOk m (if openB l.2 bg en && !(s.2.getD l.1 true) then (s.1 ++ [l.1], s.2.set l.1 true) else s) fuel := by
  split
  · rename_i hc
    obtain ⟨h1, h2, h3⟩ := h
    simp only [Bool.and_eq_true, Bool.not_eq_true'] at hc
    have hlt : l.1 < s.2.length := by omega
    have hg : s.2[l.1]? = some false := by
      have := hc.2
      rw [List.getD_eq_getElem?_getD, List.getElem?_eq_getElem hlt] at this
      rw [List.getElem?_eq_getElem hlt]
      simpa using this
    have hz := zeros_set s.2 l.1 hg
    refine ⟨by simp [h1], fun x hx => ?_, by simp; omega⟩
    rcases List.mem_append.1 hx with h | h
    · exact h2 x h
    · rw [List.mem_singleton.1 h]; exact hl
  · exact h
theorem pushOk_list {bg en : Bool} {m fuel : Nat} : ∀ (ls : List Lk) (s : List Nat × List Bool), PushOk m s fuel → (∀ l ∈ ls, l.1 < m) → PushOk m (pushL bg en ls s) fuel
  | [], s, h, _ => h
  | l :: ls, s, h, hl => by simp only [pushL]; exact pushOk_list ls _ (pushOk_step h (hl l List.mem_cons_self)) (fun x hx => hl x (List.mem_cons_of_mem _ hx))
theorem onesTo_succ (bs : List Bool) (k : Nat) : onesTo bs (k + 1) = onesTo bs k ++ if bs.getD k false then [k] else [] := by
  unfold onesTo
  rw [List.range_succ, List.filter_append]
  congr 1
  cases h : bs.getD k false
  · simp [List.getD_eq_getElem?_getD] at h ⊢; exact h
  · simp [List.getD_eq_getElem?_getD] at h ⊢; exact h
theorem onesTo_zeros : ∀ (bs : List Bool) (k : Nat), k ≤ bs.length → (onesTo bs k).length + zeros (bs.take k) = k
  | bs, 0, _ => by simp [onesTo, zeros]
  | bs, k + 1, h => by
    have ih := onesTo_zeros bs k (by omega)
    have hk : bs[k]? = some bs[k] := List.getElem?_eq_getElem (by omega)
    have hg : bs.getD k false = bs[k] := by rw [List.getD_eq_getElem?_getD, hk]; rfl
    rw [onesTo_succ, take_succ_at hk, hg]
    unfold zeros at ih ⊢
    rw [List.filter_append, List.length_append, List.length_append]
    cases bs[k] <;> simp <;> omega
theorem onesTo_lt {bs : List Bool} {k x : Nat} (h : x ∈ onesTo bs k) : x < k := by
  unfold onesTo at h; have := (List.mem_filter.1 h).1; simpa using this
end Go.Proofs.Ytilkemdecenibaa
