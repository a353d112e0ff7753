/-
  lay, times: the walks.
-/
import Derived.Test.YtilkemdecenibaaU3
namespace Go.Proofs.Ytilkemdecenibaa
open Go.RowKit
theorem place_sz (w0 w : World) (Bg : Nat) (g : Net) (hg : NetI w0 Bg w g) (hlen : netSz g ≤ 5000) :
    Calls Try.prog 67 #[.pointer (some ⟨Bg, 0, none⟩)] w (NetPost w0 Bg w (.int .i64 (g.length : Int)) (g ++ [[]])) := place_any w0 w Bg g hg (Nat.le_trans (netSz_len g).1 hlen)
theorem join_sz (w0 w : World) (Bg : Nat) (g : Net) (hg : NetI w0 Bg w g) (hlen : netSz g ≤ 5000) (p to : Nat) (hp : p < g.length) (q : HP) :
    Calls Try.prog 107 #[.pointer (some ⟨Bg, 0, none⟩), .int .i64 p, .int .i64 to, patV q] w (NetPost w0 Bg w (.tuple #[]) (NetJoin g p to q)) :=
  join_any w0 w Bg g hg (Nat.le_trans (netSz_len g).1 hlen) p to hp (fun r hr => Nat.le_trans ((netSz_len g).2 r hr) hlen) q
/-- A pattern in a box. -/
def PatB (w : World) (B : Nat) (h : HP) : Prop := w.heap[B]? = some (.cells #[.int .i64 h.kind, .int .u32 h.is.p.toNat, .int .u32 h.is.m.toNat, .bool h.neg, .int .i64 h.mn, .int .i64 h.mx, .slice h.a h.n h.cap] 27 (0, 0))
theorem PatB.new (w : World) (h : HP) : PatB (w.alloc (.cells #[.int .i64 h.kind, .int .u32 h.is.p.toNat, .int .u32 h.is.m.toNat, .bool h.neg, .int .i64 h.mn, .int .i64 h.mx, .slice h.a h.n h.cap] 27)) w.heap.size h := World.alloc_heap_new w _
theorem PatB.net {w w' : World} {B : Nat} {h : HP} (hb : PatB w B h) (hk : NetK w w') : PatB w' B h := hk.blk B _ _ _ hb (by decide) (by decide) (by decide)
theorem PatB.ext {w w' : World} {B : Nat} {h : HP} (hb : PatB w B h) (hx : Ext w w') : PatB w' B h := blk_kept hb hx
theorem PatB.cells {w : World} {B : Nat} {h : HP} (hb : PatB w B h) : w.cell? ⟨B, 0, none⟩ = some (.int .i64 h.kind) ∧ w.cell? ⟨B, 1, none⟩ = some (.int .u32 h.is.p.toNat) ∧ w.cell? ⟨B, 2, none⟩ = some (.int .u32 h.is.m.toNat) ∧ w.cell? ⟨B, 3, none⟩ = some (.bool h.neg) ∧ w.cell? ⟨B, 4, none⟩ = some (.int .i64 h.mn) ∧ w.cell? ⟨B, 5, none⟩ = some (.int .i64 h.mx) ∧ w.cell? ⟨B, 6, none⟩ = some (.slice h.a h.n h.cap) ∧ B < w.heap.size := by
  unfold PatB at hb
  simp [World.cell?, hb]
  exact (Array.getElem?_eq_some_iff.1 hb).1
def LayC (h : HP) : Prop := ∀ (w0 w : World) (Bg : Nat) (g : Net) (f : Nat), NetI w0 Bg w g → RdPt w0 h → h.numB = true → f < g.length → netSz (layM h f g).2 ≤ 5000 →
    Calls Try.prog 68 #[.pointer (some ⟨Bg, 0, none⟩), patV h, .int .i64 (f : Int)] w (NetPost w0 Bg w (.int .i64 ((layM h f g).1 : Int)) (layM h f g).2)
theorem iter_le {F : Nat × Net → Nat × Net} (hF : ∀ f g, Grows f g (F (f, g))) (s : Nat × Net) {i j : Nat} (h : i ≤ j) : netSz (iterN F i s).2 ≤ netSz (iterN F j s).2 := by
  induction j with
  | zero => rw [show i = 0 by omega]; exact Nat.le_refl _
  | succ j ih =>
    rcases Nat.lt_or_ge i (j + 1) with h1 | h1
    · refine Nat.le_trans (ih (by omega)) ?_
      have := (hF (iterN F j s).1 (iterN F j s).2).1
      simpa [iterN] using this
    · rw [show i = j + 1 by omega]; exact Nat.le_refl _
set_option maxHeartbeats 4000000 in
set_option maxRecDepth 20000 in
theorem times_of (q : HP) (l : List HP) (hq : LayC q) (is : Snd) (ng : Bool) (mn mx : Int) (a : Option Addr) (n cap : Nat) (w0 w : World) (Bg : Nat) (g : Net) (f : Nat) (hg : NetI w0 Bg w g) (hr : RdPt w0 (.mk 5 is ng mn mx a n cap (q :: l)))
    (hnb : (HP.mk 5 is ng mn mx a n cap (q :: l)).numB = true) (hf : f < g.length) (hsz : netSz (timesM (layM q) (wid q) mn mx f g).2 ≤ 5000) :
    Calls Try.prog 108 #[.pointer (some ⟨Bg, 0, none⟩), .agg #[.int .i64 5, .int .u32 is.p.toNat, .int .u32 is.m.toNat, .bool ng, .int .i64 mn, .int .i64 mx, .slice a n cap], .int .i64 (f : Int)] w (NetPost w0 Bg w (.int .i64 ((timesM (layM q) (wid q) mn mx f g).1 : Int)) (timesM (layM q) (wid q) mn mx f g).2) := by
  obtain ⟨⟨n1, n2, n3, n4⟩, hsub⟩ := HP.numB_at hnb
  change 0 ≤ mn at n1; change mn ≤ 32 at n2; change -1 ≤ mx at n3; change mx ≤ 32 at n4
  have hqn : q.numB = true := hsub q List.mem_cons_self
  have hrq : RdPt w0 q := hr.sub (List.mem_cons_self (a := q) (l := l))
  have hlen : (q :: l).length = n := hr.rd.len
  have hn0 : 0 < n := by rw [← hlen]; simp
  obtain ⟨b, off, x, ha, hxi, hb, _, c0, c1, c2, c3, c4, c5, c6⟩ := (hr.ext hg.1).at (i := 0) hn0
  change a = some _ at ha
  subst ha
  obtain rfl : x = q := by have := hxi.out; change some q = some x at this; exact (Option.some.inj this).symm
  rw [Nat.zero_mul, Nat.add_zero] at c0 c1 c2 c3 c4 c5 c6
  have hwid := fun W (hW : Ext w0 W) => width_any _ x W (Nat.le_refl _) (hrq.ext hW) hqn
  have hx0 := hg.1
  have hgx := hg
  have hp0 : PatB (w.alloc (.cells #[.int .i64 5, .int .u32 is.p.toNat, .int .u32 is.m.toNat, .bool ng, .int .i64 mn, .int .i64 mx, .slice (some ⟨b, off, none⟩) n cap] 27)) w.heap.size (.mk 5 is ng mn mx (some ⟨b, off, none⟩) n cap (x :: l)) := PatB.new w (.mk 5 is ng mn mx (some ⟨b, off, none⟩) n cap (x :: l))
  have hp1 := PatB.new (w.alloc (.cells #[.int .i64 5, .int .u32 is.p.toNat, .int .u32 is.m.toNat, .bool ng, .int .i64 mn, .int .i64 mx, .slice (some ⟨b, off, none⟩) n cap] 27)) x
  rw [World.size_alloc] at hp1
  have hp0' := hp0.ext (Ext.alloc1 _ (.cells #[.int .i64 x.kind, .int .u32 x.is.p.toNat, .int .u32 x.is.m.toNat, .bool x.neg, .int .i64 x.mn, .int .i64 x.mx, .slice x.a x.n x.cap] 27))
  clear hp0 hxi hlen hr hnb hsub
  obtain ⟨R, hR⟩ : ∃ R, R = timesM (layM x) (wid x) mn mx f g := ⟨_, rfl⟩
  rw [← hR] at hsz ⊢
  go_enter Try.func108, Try.ntmps108
  go_wp2_with fail
  have hgB := (hg.kept (Ext.alloc1 w (.cells #[.int .i64 5, .int .u32 is.p.toNat, .int .u32 is.m.toNat, .bool ng, .int .i64 mn, .int .i64 mx, .slice (some ⟨b, off, none⟩) n cap] 27))).kept (Ext.alloc1 _ (.cells #[.int .i64 x.kind, .int .u32 x.is.p.toNat, .int .u32 x.is.m.toNat, .bool x.neg, .int .i64 x.mn, .int .i64 x.mx, .slice x.a x.n x.cap] 27))
  have hKB : NetK w _ := NetK.ext ((Ext.alloc1 w (.cells #[.int .i64 5, .int .u32 is.p.toNat, .int .u32 is.m.toNat, .bool ng, .int .i64 mn, .int .i64 mx, .slice (some ⟨b, off, none⟩) n cap] 27)).trans (Ext.alloc1 _ (.cells #[.int .i64 x.kind, .int .u32 x.is.p.toNat, .int .u32 x.is.m.toNat, .bool x.neg, .int .i64 x.mn, .int .i64 x.mx, .slice x.a x.n x.cap] 27)))
  refine (hwid _ hgB.1).mono ?_
  rintro e w1 ⟨rfl, hx1⟩
  have hg1 := hgB.kept hx1
  have hK1 := hKB.trans (NetK.ext hx1)
  have hp0 := hp0'.ext hx1
  have hp := hp1.ext hx1
  clear hgB hKB hx1 hp0' hp1 hwid c0 c1 c2 c3 c4 c5 c6 hx0
  generalize w.heap.size + 1 = B1 at *
  generalize w.heap.size = B0 at *
  obtain ⟨_, _, _, _, p4, p5, _, _⟩ := hp0.cells
  change w1.cell? ⟨B0, 4, none⟩ = some (.int .i64 mn) at p4
  change w1.cell? ⟨B0, 5, none⟩ = some (.int .i64 mx) at p5
  obtain ⟨c0, c1, c2, c3, c4, c5, c6, _⟩ := hp.cells
  by_cases hz : wid x = 0
  · have hT : timesM (layM x) (wid x) mn mx f g = if mn = 0 then (f, g) else layM x f g := by unfold timesM; rw [if_pos hz]
    rw [hT] at hR
    rw [hz]
    replace hz := Lib.hid hz
    replace hT := Lib.hid hT
    by_cases hm : mn = 0
    · rw [if_pos hm] at hR
      rw [hm] at p4
      replace hm := Lib.hid hm
      replace hR := Lib.hid hR
      go_wp2_with fail
      go_ret
      exact ⟨ret_int (by rw [hR.out]), by rw [hR.out]; exact hg1, hK1⟩
    · rw [if_neg hm] at hR
      have dm : (mn == 0) = false := by simpa using hm
      replace hm := Lib.hid hm
      have hlay := hq w0 w1 Bg g f hg1 hrq hqn hf (by rw [← hR]; exact hsz)
      replace hR := Lib.hid hR
      go_wp2_with fail
      refine hlay.mono ?_
      rintro e w2 ⟨rfl, hN2, hK2⟩
      go_wp2_with fail
      go_ret
      exact ⟨ret_int (by rw [hR.out]), by rw [hR.out]; exact hN2, hK1.trans hK2⟩
  · have dz : ((wid x : Int) == 0) = false := by simp; omega
    have hL := fun f g => grows_any x f g
    unfold timesM at hR
    rw [if_neg hz] at hR
    simp only at hR
    obtain ⟨s0, hs0⟩ : ∃ s0 : Nat × Net, s0 = (g.length, NetJoin (g ++ [[]]) f g.length zP) := ⟨_, rfl⟩
    rw [← hs0] at hR
    obtain ⟨F, hF⟩ : ∃ F : Nat × Net → Nat × Net, F = fun s => layM x s.1 s.2 := ⟨_, rfl⟩
    rw [← hF] at hR
    have hFg : ∀ f g, Grows f g (F (f, g)) := fun f g => by rw [hF]; exact hL f g
    obtain ⟨r, hr⟩ : ∃ r, r = iterN F mn.toNat s0 := ⟨_, rfl⟩
    rw [← hr] at hR
    obtain ⟨g2, hg2⟩ : ∃ g2, g2 = NetJoin (r.2 ++ [[]]) r.1 r.2.length zP := ⟨_, rfl⟩
    rw [← hg2] at hR
    have hb2 : netSz g2 ≤ 5000 := by
      refine Nat.le_trans ?_ hsz
      rw [hR]
      split
      · exact Nat.le_trans (hL r.2.length g2).1 (netSz_join _ _ _ _)
      · exact (grows_iter (F := fun s : Nat × Net => let u := layM x s.1 s.2; (u.1, NetJoin u.2 u.1 r.2.length zP)) (fun f g => (hL f g).join _ _ _) r.1 g2 (mx - mn).toNat).1
    have hbr : netSz r.2 + 1 ≤ 5000 := by
      refine Nat.le_trans ?_ hb2
      rw [hg2]
      have := netSz_join (r.2 ++ [[]]) r.1 r.2.length zP
      rw [netSz_app] at this
      simpa [netSz] using this
    have hbi : ∀ i, i ≤ mn.toNat → netSz (iterN F i s0).2 ≤ 5000 := fun i hi => Nat.le_trans (iter_le hFg s0 hi) (by rw [← hr]; omega)
    have hlt0 : s0.1 < s0.2.length := by rw [hs0]; simp [netJoin_len]
    have hlti : ∀ i, (iterN F i s0).1 < (iterN F i s0).2.length := fun i => (grows_iter hFg s0.1 s0.2 i).2.2 hlt0
    have hb0 : netSz s0.2 ≤ 5000 := hbi 0 (Nat.zero_le _)
    have hb1 : netSz (g ++ [[]]) ≤ 5000 := by
      rw [hs0] at hb0
      exact Nat.le_trans (netSz_join _ _ _ _) hb0
    have hbg : netSz g ≤ 5000 := by rw [netSz_app] at hb1; omega
    replace hz := Lib.hid hz
    replace hR := Lib.hid hR
    replace hg2 := Lib.hid hg2
    replace hr := Lib.hid hr
    replace hF := Lib.hid hF
    replace hbi := Lib.hid hbi
    replace hlti := Lib.hid hlti
    replace hFg := Lib.hid hFg
    replace hL := Lib.hid hL
    clear hlt0
    go_wp2_with fail
    refine (place_sz w0 _ Bg g hg1 hbg).mono ?_
    rintro e w2 ⟨rfl, hg3, hK2⟩
    have hp2 := hp.net hK2
    have hp02 := hp0.net hK2
    have hK3 := hK1.trans hK2
    go_wp2_with fail
    refine (join_sz w0 _ Bg _ hg3 hb1 f g.length (by rw [List.length_append]; omega) zP).mono ?_
    rintro e w3 ⟨rfl, hg4, hK4⟩
    have hp3 := hp2.net hK4
    have hp03 := hp02.net hK4
    have hK5 := hK3.trans hK4
    have hs2 : s0.2 = NetJoin (g ++ [[]]) f g.length zP := by rw [hs0]
    have hs1 : s0.1 = g.length := by rw [hs0]
    rw [← hs2] at hg4
    rw [← hs1]
    replace hs0 := Lib.hid hs0
    replace hs1 := Lib.hid hs1
    replace hs2 := Lib.hid hs2
    obtain ⟨_, _, _, _, p4, p5, _, _⟩ := hp03.cells
    change w3.cell? ⟨B0, 4, none⟩ = some (.int .i64 mn) at p4
    change w3.cell? ⟨B0, 5, none⟩ = some (.int .i64 mx) at p5
    clear c0 c1 c2 c3 c4 c5 c6 hg3 hg1 hK1 hK2 hK3 hK4 hp hp2 hp0 hp02 hb1 hbg
    go_wp2_with fail
    go_loopw [8, 34] (fun av iv wr => ∃ i : Nat, (i : Int) ≤ mn ∧ iv = .int .i64 i ∧ av = .int .i64 ((iterN F i s0).1 : Int) ∧ NetI w0 Bg wr (iterN F i s0).2 ∧ NetK w3 wr) (fun _ iv _ => (mn - intOf iv).toNat)
    case atStart => exact ⟨0, n1, rfl, rfl, hg4, NetK.refl _⟩
    case round =>
      clear hg4
      obtain ⟨i, hi, rfl, rfl, hgi, hKi⟩ := hrel
      have hpi := hp3.net hKi
      have hp0i := hp03.net hKi
      obtain ⟨c0, c1, c2, c3, c4, c5, c6, _⟩ := hpi.cells
      by_cases hlt : (i : Int) < mn
      · have hsu : iterN F (i + 1) s0 = layM x (iterN F i s0).1 (iterN F i s0).2 := by rw [hF.out]; rfl
        have hbb := hbi.out (i + 1) (by omega)
        rw [hsu] at hbb
        have hlay := hq w0 wr Bg _ _ hgi hrq hqn (hlti.out i) hbb
        replace hsu := Lib.hid hsu
        go_wp2_with fail
        refine hlay.mono ?_
        rintro e w4 ⟨rfl, hg5, hK6⟩
        rw [← hsu.out] at hg5 ⊢
        clear hlay
        go_wp2_with fail
        go_roundw
        case rel => exact ⟨i + 1, by omega, by go_num, rfl, hg5, hKi.trans hK6⟩
        case measure => (simp only [intOf]; omega)
      · have him : mn.toNat = i := by omega
        rw [him] at hr
        rw [← hr.out] at hgi ⊢
        have hK6 := hK5.trans hKi
        have hltr : r.1 < r.2.length := by have := hlti.out i; rw [← hr.out] at this; exact this
        replace hr := Lib.hid hr.out
        replace him := Lib.hid him
        clear hKi hK5 hp3 hp03 c0 c1 c2 c3 c4 c5 c6 p4 p5
        go_wp2_with fail
        refine (place_sz w0 _ Bg r.2 hgi (by omega)).mono ?_
        rintro e w4 ⟨rfl, hg5, hK7⟩
        have hp4 := hpi.net hK7
        have hp04 := hp0i.net hK7
        go_wp2_with fail
        refine (join_sz w0 _ Bg _ hg5 (by rw [netSz_app]; simpa [netSz] using hbr) r.1 r.2.length (by rw [List.length_append]; omega) zP).mono ?_
        rintro e w5 ⟨rfl, hg6, hK8⟩
        have hp5 := hp4.net hK8
        have hp05 := hp04.net hK8
        have hK9 := (hK6.trans hK7).trans hK8
        rw [← hg2.out] at hg6
        clear hgi hK6 hK7 hK8 hg5 hpi hp0i hp4 hp04
        obtain ⟨_, _, _, _, p4, p5, _, _⟩ := hp05.cells
        change w5.cell? ⟨B0, 4, none⟩ = some (.int .i64 mn) at p4
        change w5.cell? ⟨B0, 5, none⟩ = some (.int .i64 mx) at p5
        obtain ⟨c0, c1, c2, c3, c4, c5, c6, _⟩ := hp5.cells
        have hto : r.2.length < g2.length := by rw [hg2.out, netJoin_len]; simp
        by_cases hm1 : mx = -1
        · have hRe : R = (r.2.length, NetJoin (layM x r.2.length g2).2 (layM x r.2.length g2).1 r.2.length zP) := by rw [hR.out, if_pos hm1]
          have hbs : netSz (layM x r.2.length g2).2 ≤ 5000 := by
            refine Nat.le_trans (netSz_join _ (layM x r.2.length g2).1 r.2.length zP) ?_
            rw [hRe] at hsz; exact hsz
          have hlts := (hL.out r.2.length g2).2.2 hto
          rw [hm1] at p5
          replace hm1 := Lib.hid hm1
          replace hRe := Lib.hid hRe
          go_wp2_with fail
          refine (hq w0 _ Bg g2 r.2.length hg6 hrq hqn hto hbs).mono ?_
          rintro e w6 ⟨rfl, hg7, hK10⟩
          go_wp2_with fail
          refine (join_sz w0 _ Bg _ hg7 hbs _ r.2.length hlts zP).mono ?_
          rintro e w7 ⟨rfl, hg8, hK11⟩
          go_wp2_with fail
          go_ret
          exact ⟨ret_int (by rw [hRe.out]), by rw [hRe.out]; exact hg8, (hK9.trans hK10).trans hK11⟩
        · have dm1 : (mx == -1) = false := by simpa using hm1
          obtain ⟨F2, hF2⟩ : ∃ F2 : Nat × Net → Nat × Net, F2 = fun s => let u := layM x s.1 s.2; (u.1, NetJoin u.2 u.1 r.2.length zP) := ⟨_, rfl⟩
          obtain ⟨K, hK⟩ : ∃ K, K = (mx - mn).toNat := ⟨_, rfl⟩
          have hRe : R = (r.2.length, (iterN F2 K (r.1, g2)).2) := by rw [hR.out, if_neg hm1, hF2, hK]
          have hF2g : ∀ f g, Grows f g (F2 (f, g)) := fun f g => by rw [hF2]; exact (hL.out f g).join _ _ _
          have hbj : ∀ j, j ≤ K → netSz (iterN F2 j (r.1, g2)).2 ≤ 5000 := fun j hj => Nat.le_trans (iter_le hF2g _ hj) (by rw [hRe] at hsz; exact hsz)
          have hr2 : r.1 < g2.length := by rw [hg2.out, netJoin_len]; simp; omega
          have hltj : ∀ j, (iterN F2 j (r.1, g2)).1 < (iterN F2 j (r.1, g2)).2.length := fun j => (grows_iter hF2g r.1 g2 j).2.2 hr2
          replace hm1 := Lib.hid hm1
          replace hRe := Lib.hid hRe
          replace hF2 := Lib.hid hF2
          replace hF2g := Lib.hid hF2g
          replace hbj := Lib.hid hbj
          replace hltj := Lib.hid hltj
          have hK1 : (K : Int) = max 0 (mx - mn) := by rw [hK]; omega
          have hKle : mx - mn ≤ (K : Int) := by omega
          have hKor : (K : Int) = mx - mn ∨ K = 0 ∧ mx - mn ≤ 0 := by omega
          replace hK := Lib.hid hK
          replace hK1 := Lib.hid hK1
          replace hKor := Lib.hid hKor
          go_wp2_with fail
          go_loopw [8, 65] (fun av iv wr => ∃ j : Nat, j ≤ K ∧ iv = .int .i64 j ∧ av = .int .i64 ((iterN F2 j (r.1, g2)).1 : Int) ∧ NetI w0 Bg wr (iterN F2 j (r.1, g2)).2 ∧ NetK w5 wr) (fun _ iv _ => (K - intOf iv).toNat)
          case atStart => exact ⟨0, Nat.zero_le _, rfl, rfl, hg6, NetK.refl _⟩
          case round =>
            clear hg6 c0 c1 c2 c3 c4 c5 c6
            obtain ⟨j, hj, rfl, rfl, hgj, hKj⟩ := hrel
            have hpj := hp5.net hKj
            obtain ⟨c0, c1, c2, c3, c4, c5, c6, _⟩ := hpj.cells
            by_cases hlt2 : (j : Int) < mx - mn
            · have hjK : j + 1 ≤ K := by have := hKor.out; omega
              have hsu : iterN F2 (j + 1) (r.1, g2) = ((layM x (iterN F2 j (r.1, g2)).1 (iterN F2 j (r.1, g2)).2).1, NetJoin (layM x (iterN F2 j (r.1, g2)).1 (iterN F2 j (r.1, g2)).2).2 (layM x (iterN F2 j (r.1, g2)).1 (iterN F2 j (r.1, g2)).2).1 r.2.length zP) := by
                conv => lhs; rw [iterN]
                conv => lhs; rw [hF2.out]
                rw [hF2.out]
              have hbb := hbj.out (j + 1) hjK
              rw [hsu] at hbb
              have hbb2 := Nat.le_trans (netSz_join _ _ _ _) hbb
              have hlj := hltj.out j
              have hlu := (hL.out (iterN F2 j (r.1, g2)).1 (iterN F2 j (r.1, g2)).2).2.2 hlj
              have hlay := hq w0 wr Bg _ _ hgj hrq hqn hlj hbb2
              obtain ⟨S, hS⟩ : ∃ S, S = iterN F2 j (r.1, g2) := ⟨_, rfl⟩
              rw [← hS] at hlay hlu hlj hsu hbb2 ⊢
              obtain ⟨U, hU⟩ : ∃ U, U = layM x S.1 S.2 := ⟨_, rfl⟩
              rw [← hU] at hlay hlu hsu hbb2
              replace hS := Lib.hid hS
              replace hU := Lib.hid hU
              replace hsu := Lib.hid hsu
              clear hbb
              go_wp2_with fail
              refine hlay.mono ?_
              rintro e w6 ⟨rfl, hg7, hK10⟩
              go_wp2_with fail
              refine (join_sz w0 _ Bg _ hg7 hbb2 U.1 r.2.length hlu zP).mono ?_
              rintro e w7 ⟨rfl, hg8, hK11⟩
              clear hlay
              go_wp2_with fail
              go_roundw
              case rel => exact ⟨j + 1, hjK, by go_num, by rw [hsu.out], by rw [hsu.out]; exact hg8, (hKj.trans hK10).trans hK11⟩
              case measure => (simp only [intOf]; omega)
            · obtain rfl : j = K := by have := hKor.out; omega
              go_wp2_with fail
              go_ret
              exact ⟨ret_int (by rw [hRe.out]), by rw [hRe.out]; exact hgj, hK9.trans hKj⟩
end Go.Proofs.Ytilkemdecenibaa
