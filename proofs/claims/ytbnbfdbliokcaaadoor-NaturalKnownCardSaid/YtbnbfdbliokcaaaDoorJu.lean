/-
  natural.Count, walked.
-/
import Derived.Test.YtbnbfdbliokcaaaDoorJt
namespace Go.Proofs.YtbnbfdbliokcaaaDoor
open Go.RowKit Go.Maps
/-- The common values of the parts below p, in a block. -/
def CondB (W : World) (g : Nat) (xs : List Snd) (p N : Nat) : Prop :=
  ∃ cur, W.heap[g]? = some (.cells cur 27 (0, 0)) ∧ cur.size = N * 2 ∧ ∀ i, 1 ≤ i → i < p → cur[i * 2]? = some (.int .u32 (condP xs i).p.toNat) ∧ cur[i * 2 + 1]? = some (.int .u32 (condP xs i).m.toNat)
theorem CondB.lt {W : World} {g : Nat} {xs : List Snd} {p N : Nat} (h : CondB W g xs p N) : g < W.heap.size := let ⟨_, h1, _⟩ := h; (Array.getElem?_eq_some_iff.1 h1).1
theorem CondB.ext {W W' : World} {g : Nat} {xs : List Snd} {p N : Nat} (h : CondB W g xs p N) (hx : Ext W W') : CondB W' g xs p N :=
  let ⟨cur, h1, h2⟩ := h; ⟨cur, (Below.block hx.bel g (Array.getElem?_eq_some_iff.1 h1).1).trans h1, h2⟩
theorem CondB.grown {W W' : World} {g : Nat} {xs : List Snd} {p N : Nat} (h : CondB W g xs p N) {row : Option Nat} (hg : W.grownBy W' row) (hr : some g ≠ row) : CondB W' g xs p N :=
  let ⟨cur, h1, h2⟩ := h; ⟨cur, (hg.block g (Array.getElem?_eq_some_iff.1 h1).1 hr).trans h1, h2⟩
theorem CondB.at {W : World} {g : Nat} {xs : List Snd} {p N : Nat} (h : CondB W g xs p N) {i : Nat} (h1 : 1 ≤ i) (h2 : i < p) : W.cell? ⟨g, i * 2, none⟩ = some (.int .u32 (condP xs i).p.toNat) ∧ W.cell? ⟨g, i * 2 + 1, none⟩ = some (.int .u32 (condP xs i).m.toNat) := by
  obtain ⟨cur, h3, _, h4⟩ := h
  obtain ⟨h5, h6⟩ := h4 i h1 h2
  simp only [World.cell?, h3]
  exact ⟨h5, h6⟩
theorem CondB.old {W : World} {g : Nat} {xs : List Snd} {p N : Nat} (h : CondB W g xs p N) {i : Nat} (hi : i < N) : ∃ u v, W.cell? ⟨g, i * 2, none⟩ = some u ∧ W.cell? ⟨g, i * 2 + 1, none⟩ = some v := by
  obtain ⟨cur, h3, h4, _⟩ := h
  simp only [World.cell?, h3]
  exact ⟨cur[i * 2]'(by omega), cur[i * 2 + 1]'(by omega), Array.getElem?_eq_getElem _, Array.getElem?_eq_getElem _⟩
theorem CondB.frz {W : World} {g : Nat} {xs : List Snd} {p N : Nat} (h : CondB W g xs p N) : (∀ i, W.frozen? ⟨g, i, none⟩ = false) ∧ (∀ i (j : Nat) v, (W.setCell ⟨g, j, none⟩ v).frozen? ⟨g, i, none⟩ = false) := by
  obtain ⟨cur, h3, _⟩ := h
  exact ⟨fun i => frozen_of_row W g i _ _ h3, fun i _ v => frozen_of_row _ g i _ _ (heap_set h3 v)⟩
/-- A value is laid at p: of the parts below p nothing turns. -/
theorem CondB.set {W : World} {g : Nat} {xs : List Snd} {p N : Nat} (h : CondB W g xs p N) (s : Snd) : CondB ((W.setCell ⟨g, p * 2, none⟩ (.int .u32 s.p.toNat)).setCell ⟨g, p * 2 + 1, none⟩ (.int .u32 s.m.toNat)) g xs p N := by
  obtain ⟨cur, h3, h4, h5⟩ := h
  refine ⟨_, heap_set (heap_set h3 _) _, by simpa using h4, fun i h6 h7 => ?_⟩
  obtain ⟨h8, h9⟩ := h5 i h6 h7
  rw [Array.getElem?_setIfInBounds_ne (by omega), Array.getElem?_setIfInBounds_ne (by omega), Array.getElem?_setIfInBounds_ne (by omega), Array.getElem?_setIfInBounds_ne (by omega)]
  exact ⟨h8, h9⟩
/-- The right one is laid at p. -/
theorem CondB.put {W : World} {g : Nat} {xs : List Snd} {p N : Nat} (h : CondB W g xs p N) (hp : p < N) : CondB ((W.setCell ⟨g, p * 2, none⟩ (.int .u32 (condP xs p).p.toNat)).setCell ⟨g, p * 2 + 1, none⟩ (.int .u32 (condP xs p).m.toNat)) g xs (p + 1) N := by
  obtain ⟨cur, h3, h4, h5⟩ := h
  refine ⟨_, heap_set (heap_set h3 _) _, by simpa using h4, fun i h6 h7 => ?_⟩
  by_cases e : i = p
  · subst e
    refine ⟨?_, ?_⟩
    · rw [Array.getElem?_setIfInBounds_ne (by omega), Array.getElem?_setIfInBounds_self_of_lt (by omega)]
    · rw [Array.getElem?_setIfInBounds_self_of_lt (by simp; omega)]
  · obtain ⟨h8, h9⟩ := h5 i h6 (by omega)
    rw [Array.getElem?_setIfInBounds_ne (by omega), Array.getElem?_setIfInBounds_ne (by omega), Array.getElem?_setIfInBounds_ne (by omega), Array.getElem?_setIfInBounds_ne (by omega)]
    exact ⟨h8, h9⟩
theorem ext_set2 {w W : World} {g i : Nat} (hx : Ext w W) (hg : w.heap.size ≤ g) (u v : Value) : Ext w ((W.setCell ⟨g, i, none⟩ u).setCell ⟨g, i + 1, none⟩ v) :=
  (hx.setCell (p := ⟨g, i, none⟩) hg _).setCell (p := ⟨g, i + 1, none⟩) hg _
theorem MapC.set {P : Program} {k e : TypeId} {κ : Type} {kl : κ → Lit} {w : World} {b n c : Nat} {f : κ → Option Lit} (h : MapC P k e kl w b n c f) {g i : Nat} (hne : b ≠ g) (u : Value) : MapC P k e kl (w.setCell ⟨g, i, none⟩ u) b n c f :=
  h.agr (by show (w.heap.modify g _)[b]? = _; rw [Array.getElem?_modify, if_neg (fun e => hne e.symm)])
/-! ### Whole numbers below 2^31 -/
theorem wrap_nat (x : Nat) (h : x < 2147483648) : IntKind.i64.wrap (x : Int) = x := IntWalk.i64_in _ (by omega)
theorem ofInt_nat64 (a : Nat) : (BitVec.ofInt 64 (a : Int)) = BitVec.ofNat 64 a := BitVec.ofInt_natCast ..
theorem and_i64 (a b : Nat) (ha : a < 2147483648) (hb : b < 2147483648) : bits .and .i64 (a : Int) (b : Int) = ((a &&& b : Nat) : Int) := by
  show IntKind.i64.wrap ((BitVec.ofInt 64 (a : Int) &&& BitVec.ofInt 64 (b : Int)).toNat : Int) = _
  rw [ofInt_nat64, ofInt_nat64, BitVec.toNat_and, BitVec.toNat_ofNat, BitVec.toNat_ofNat, Nat.mod_eq_of_lt (by omega), Nat.mod_eq_of_lt (by omega)]
  have : a &&& b ≤ a := Nat.and_le_left
  exact wrap_nat _ (by omega)
theorem or_i64 (a b : Nat) (ha : a < 2147483648) (hb : b < 2147483648) : bits .or .i64 (a : Int) (b : Int) = ((a ||| b : Nat) : Int) := by
  show IntKind.i64.wrap ((BitVec.ofInt 64 (a : Int) ||| BitVec.ofInt 64 (b : Int)).toNat : Int) = _
  rw [ofInt_nat64, ofInt_nat64, BitVec.toNat_or, BitVec.toNat_ofNat, BitVec.toNat_ofNat, Nat.mod_eq_of_lt (by omega), Nat.mod_eq_of_lt (by omega)]
  have : a ||| b < 2 ^ 31 := Nat.or_lt_two_pow (by omega) (by omega)
  exact wrap_nat _ (by omega)
set_option maxHeartbeats 1000000 in
set_option maxRecDepth 20000 in
theorem count_any (a : Option Addr) (n cap : Nat) (xs : List Snd) (w : World) (hr : RdS w a n cap xs) (hT : Tab64 w) :
    Calls Tryd.prog 29 #[.slice a n cap] w (RetCn xs w) := by
  have hl := hr.len
  have hck := check_any 12 (by omega) a n cap xs w hr
  by_cases hc : chkI 12 xs = 0
  · obtain ⟨hn, hok, _⟩ := chkI_zero hc
    rw [hl] at hn
    have hV : cntV xs = (countN xs : Nat) := by unfold cntV; rw [if_pos hc]
    rw [hc] at hck
    obtain ⟨N, hN⟩ : ∃ N, N = 2 ^ n := ⟨_, rfl⟩
    have hNi : (2 : Int) ^ n = (N : Int) := by rw [hN]; simp
    have hN1 : 1 ≤ N := by rw [hN]; exact Nat.two_pow_pos n
    have hN2 : N ≤ 4096 := by rw [hN]; exact Nat.le_trans (Nat.pow_le_pow_right (by decide) hn) (by decide)
    have hNw := wrap_nat N (by omega)
    have hmm := @run_makeMap Tryd.prog
    have hmk := fun W => run_mk (P := Tryd.prog) (k := 2) 22 Tryd.underlying22 info_snd N (by omega) (by omega) W
    replace hc := Lib.hid hc
    replace hok := Lib.hid hok
    replace hl := Lib.hid hl
    replace hV := Lib.hid hV
    replace hN := Lib.hid hN
    go_enter Tryd.func29, Tryd.ntmps29
    go_wp2_with fail
    refine hck.mono ?_
    rintro e w1 ⟨rfl, hx1⟩
    clear hck
    go_wp2_with fail
    have hM0 := (MapC.made w1 Tryd.prog 3 3 klI).kept (Ext.alloc1 _ (.cells (madeCells #[.int .u32 0, .int .u32 0] (N * 2)) 27))
    have hC0 : CondB ((w1.alloc (.map #[] 0)).alloc (.cells (madeCells #[.int .u32 0, .int .u32 0] (N * 2)) 27)) (w1.heap.size + 1) xs 1 N := by
      have h := World.alloc_heap_new (w1.alloc (.map #[] 0)) (.cells (madeCells #[.int .u32 0, .int .u32 0] (N * 2)) 27)
      rw [World.size_alloc] at h
      exact ⟨_, h, size_madeCells _ _, fun i h1 h2 => by omega⟩
    have hx0 : Ext w ((w1.alloc (.map #[] 0)).alloc (.cells (madeCells #[.int .u32 0, .int .u32 0] (N * 2)) 27)) := (hx1.alloc _).alloc _
    have hBm : w.heap.size ≤ w1.heap.size := hx1.le
    have hG : w.heap.size ≤ w1.heap.size + 1 := by omega
    have hGB : w1.heap.size ≠ w1.heap.size + 1 := by omega
    generalize ((w1.alloc (.map #[] 0)).alloc (.cells (madeCells #[.int .u32 0, .int .u32 0] (N * 2)) 27)) = w2 at *
    generalize w1.heap.size + 1 = G at *
    generalize w1.heap.size = Bm at *
    clear hx1 hmm hmk
    go_loopw [7] (fun i wr => ∃ p q : Nat, Hid (p = q + 1) ∧ p ≤ N ∧ i = .int .i64 p ∧ Hid (MapC Tryd.prog 3 3 klI wr Bm q (dif (clsM xs) q) (cntM (clsM xs) q)) ∧ CondB wr G xs p N ∧ Ext w wr) (fun i _ => N - (intOf i).toNat)
    case atStart => exact ⟨1, 0, Lib.hid rfl, hN1, rfl, Lib.hid (by have : cntM (clsM xs) 0 = fun _ => none := by funext y; simp [cntM]
                                                                    rw [this]; exact hM0), hC0, hx0⟩
    case round =>
      clear hM0 hC0 hx0
      obtain ⟨p, q, hpq, hq, rfl, hM, hC, hx⟩ := hrel
      by_cases hlt : p < N
      · have hp0 : p ≠ 0 := by have := hpq.out; omega
        have hp2 : p < 2 ^ xs.length := by rw [hl.out, ← hN.out]; exact hlt
        obtain ⟨s, hs, hR0, hR1⟩ := condP_step hp0 hp2 (by rw [hl.out]; omega)
        have htz := tz_wide p hp0 (by omega) wr (hT.ext hx)
        have hso := hok.out s (List.mem_of_getElem? hs)
        have hf0 : Lib.ctz 64 p < n := by have h1 := (List.getElem?_eq_some_iff.1 hs).1; rw [hl.out] at h1; exact h1
        obtain ⟨b, off, s1, rfl, hs1, hb, p0, p1⟩ := (hr.ext hx).snd hf0
        have e1 : s1 = s := by have := hs1.out; rw [hs] at this; exact (Option.some.inj this).symm
        subst e1
        have hcok := condP_ok hok.out hp0 hp2
        have hsub : p - 1 = q := by have := hpq.out; omega
        rw [hsub] at hR0 hR1
        have hsubI : (p : Int) - 1 = (q : Int) := by have := hpq.out; omega
        obtain ⟨R, hR⟩ : ∃ R, R = p &&& q := ⟨_, rfl⟩
        rw [← hR] at hR0 hR1
        have hand : bits .and .i64 (p : Int) (q : Int) = (R : Int) := by rw [hR]; exact and_i64 _ _ (by omega) (by omega)
        have hclm : (clsM xs)[q]? = some (maskN (memL xs (condP xs p))) := by
          have h1 := hpq.out
          rw [h1] at hp2 ⊢
          exact clsM_at hp2
        obtain ⟨u0, v0, k0, k1⟩ := hC.old hlt
        obtain ⟨z0, z1⟩ := hC.frz
        have hfi : ((Lib.ctz 64 p : Nat) : Int) < (n : Int) := by omega
        have hqi : (p : Int) < (N : Int) := by omega
        have hpw : IntKind.u64.wrap (p : Int) = p := by rw [IntKind.wrap_u64]; omega
        generalize Lib.ctz 64 p = f0 at *
        replace hs := Lib.hid hs
        replace hs1 := Lib.hid hs1.out
        replace hp2 := Lib.hid hp2
        replace hp0 := Lib.hid hp0
        replace hclm := Lib.hid hclm
        replace hsub := Lib.hid hsub
        replace hR := Lib.hid hR
        replace hR0 := Lib.hid hR0
        replace hR1 := Lib.hid hR1
        have hCs := hC.set s1
        have hxs := ext_set2 (i := p * 2) hx hG (.int .u32 s1.p.toNat) (.int .u32 s1.m.toNat)
        have hMs : Hid (MapC Tryd.prog 3 3 klI ((wr.setCell ⟨G, p * 2, none⟩ (.int .u32 s1.p.toNat)).setCell ⟨G, p * 2 + 1, none⟩ (.int .u32 s1.m.toNat)) Bm q (dif (clsM xs) q) (cntM (clsM xs) q)) := Lib.hid ((hM.out.set hGB _).set hGB _)
        go_wp2_with fail
        refine htz.mono ?_
        rintro e w3 ⟨rfl, rfl⟩
        clear htz
        by_cases hRz : R = 0
        · have hRd : ((R : Int) != 0) = false := by rw [hRz]; rfl
          have hcd := hR0.out hRz
          have hCx := hC.put hlt
          rw [hcd] at hCx
          replace hRz := Lib.hid hRz
          clear hCs
          have hmem := fun W (h : RdS W (some ⟨b, off, none⟩) n cap xs) => members_any (some ⟨b, off, none⟩) n cap xs (condP xs p) W h (by omega) hok.out hcok
          unfold RetI at hmem
          have hMlt : maskN (memL xs (condP xs p)) < 2 ^ xs.length := maskTo_lt (fun x hx => (memL_lt x hx).2) _
          have hLlt := fun x hx => memL_lt (xs := xs) (c := condP xs p) x hx
          rw [hl.out, ← hN.out] at hMlt
          rw [hl.out] at hLlt
          have hKdef : Hid (maskN (memL xs (condP xs p)) = maskTo (memL xs (condP xs p)) (memL xs (condP xs p)).length) := Lib.hid rfl
          generalize maskN (memL xs (condP xs p)) = K at *
          generalize memL xs (condP xs p) = L at *
          replace hLlt := Lib.hid hLlt
          rw [hcd] at hmem
          replace hcd := Lib.hid hcd
          go_wp2_with fail
          generalize ((w3.setCell ⟨G, p * 2, none⟩ (.int .u32 s1.p.toNat)).setCell ⟨G, p * 2 + 1, none⟩ (.int .u32 s1.m.toNat)) = wX at *
          have hMx := hMs
          have hxx := hxs
          refine (hmem _ (hr.ext hxx)).mono ?_
          rintro e w4 ⟨v4, rfl, hown, hx4⟩
          clear hmem
          obtain ⟨a4, n4, c4, hn4, rfl, hr4⟩ := OwnK.rdn I64.len hown
          have hmax4 : n4 ≤ 9223372036854775807 := by have := hr4.le; have := hr4.most; unfold maxLen at this; omega
          replace hn4 := Lib.hid hn4
          clear hown
          have hCx := hCx.ext hx4
          have hMx := Lib.hid (hMx.out.kept hx4)
          have hxx := hxx.trans hx4
          go_wp2_with fail
          go_loopw [10, 64] (fun sv i wr => ∃ j : Nat, j ≤ n4 ∧ i = .int .i64 j ∧ sv = .int .i64 (maskTo L j : Nat) ∧ wr = w4) (fun _ i _ => n4 - (intOf i).toNat)
          case atStart => exact ⟨0, Nat.zero_le _, rfl, rfl, rfl⟩
          case round =>
            obtain ⟨j, hj, rfl, rfl, rfl⟩ := hrel
            by_cases hlj : j < n4
            · have hji : (j : Int) < (n4 : Int) := by omega
              obtain ⟨b5, o5, x, rfl, hxj, hb5, p5⟩ := hr4.i64 hlj
              have hxl := hLlt.out x (List.mem_of_getElem? hxj.out)
              obtain ⟨y, hy⟩ : ∃ y : Nat, x = (y : Int) := ⟨x.toNat, by omega⟩
              subst hy
              have hms := maskTo_succ hxj.out
              have hmlt := maskTo_lt (L := L) (n := n) (fun x hx => (hLlt.out x hx).2) j
              rw [← hN.out] at hmlt
              have hyn : y < n := by have := hxl.2; omega
              have hyt : ((y : Int)).toNat = y := by omega
              rw [hyt] at hms
              obtain ⟨T, hTd⟩ : ∃ T, T = 2 ^ y := ⟨_, rfl⟩
              have hTi : (2 : Int) ^ y = (T : Int) := by rw [hTd]; simp
              have hTl : T ≤ 4096 := by rw [hTd]; exact Nat.le_trans (Nat.pow_le_pow_right (by decide) (by omega : y ≤ 12)) (by decide)
              rw [← hTd] at hms
              have hTw := wrap_nat T (by omega)
              have hor : bits .or .i64 ((maskTo L j : Nat) : Int) (T : Int) = ((maskTo L j ||| T : Nat) : Int) := or_i64 _ _ (by omega) (by omega)
              replace hms := Lib.hid hms
              replace hxj := Lib.hid hxj.out
              replace hTd := Lib.hid hTd
              replace hxl := Lib.hid hxl
              generalize maskTo L j = S at *
              go_wp2_with fail
              (first | exact ⟨⟨j + 1, by omega, by go_num, by rw [hms.out], (by first | rfl | trivial)⟩, (by simp [intOf]; omega)⟩ | (go_roundw; case rel => exact ⟨j + 1, by omega, by go_num, by rw [hms.out], (by first | rfl | trivial)⟩; case measure => exact (by simp [intOf]; omega)))
            · have hjn : j = n4 := by omega
              have hK : maskTo L j = K := by rw [hKdef.out, hjn, hn4.out]
              rw [hK]
              have hle := List.count_le_length (a := K) (l := (clsM xs).take q)
              rw [List.length_take] at hle
              obtain ⟨v, hv⟩ : ∃ v : Int, v = ((((clsM xs).take q).count K : Nat) : Int) := ⟨_, rfl⟩
              have hvb : 0 ≤ v ∧ v < 4096 := by have := hpq.out; omega
              have hget := cntM_get (clsM xs) q K
              rw [← hv] at hget
              have hval : ((cntM (clsM xs) q K).getD (.int .i64 0)).value = .int .i64 v := by rw [hget]; rfl
              have hwv : IntKind.i64.wrap (v + 1) = v + 1 := IntWalk.i64_in _ (by omega)
              have hkey := keyI K (by omega)
              have hMx := hMx.out
              have hsuc := cntM_succ hclm.out
              rw [← hv] at hsuc
              have hdif := dif_succ hclm.out
              have hisS : (cntM (clsM xs) q K).isSome = decide (K ∈ (clsM xs).take q) := by unfold cntM; split <;> simp [*]
              have hdif2 : Hid ((if (cntM (clsM xs) q K).isSome = true then dif (clsM xs) q else dif (clsM xs) q + 1) = dif (clsM xs) (q + 1)) := Lib.hid (by rw [hdif, hisS]; simp)
              replace hK := Lib.hid hK
              replace hv := Lib.hid hv
              replace hget := Lib.hid hget
              replace hdif := Lib.hid hdif
              replace hisS := Lib.hid hisS
              replace hsuc := Lib.hid hsuc
              replace hjn := Lib.hid hjn
              replace hle := Lib.hid hle
              have hqm : q < maxLen := by have := hpq.out; unfold maxLen; omega
              go_wp2_with (first
                | (at_lookup; refine wp_mapLook rfl _ _ 88 rfl 3 3 keyed_int Tryd.underlying88 (zero_int _) (plainElem_int (H := Unit) Tryd.underlying3 (by decide)) rfl hMx.toK _ _ rfl hkey _ hval ?_)
                | (at_mapUpdate; refine wp_mapStoreC rfl _ _ _ 88 rfl 3 3 keyed_int Tryd.underlying88 klI_inj klI_lit rfl hMx hqm _ _ _ rfl rfl hkey (plainElem_int (H := Unit) Tryd.underlying3 (wf_i64 (v + 1) (by omega) (by omega))) ?_; intro w6 hM6 hg6))
              have hCx := hCx.grown hg6 (by intro e; injection e with e; exact hGB e.symm)
              have hxx := hxx.grown hg6 (fun r e => by injection e with e; omega)
              have hM6 : Hid (MapC Tryd.prog 3 3 klI w6 Bm (q + 1) (dif (clsM xs) (q + 1)) (cntM (clsM xs) (q + 1))) := Lib.hid (by rw [← hsuc.out, ← hdif2.out]; exact hM6)
              (first | exact ⟨⟨p + 1, q + 1, Lib.hid (by have := hpq.out; omega), by omega, by go_num, hM6, hCx, hxx⟩, (by simp [intOf]; omega)⟩ | (go_roundw; case rel => exact ⟨p + 1, q + 1, Lib.hid (by have := hpq.out; omega), by omega, by go_num, hM6, hCx, hxx⟩; case measure => exact (by simp [intOf]; omega)))
        · have hRd : ((R : Int) != 0) = true := by simpa using hRz
          obtain ⟨hcd, hRp, hRne⟩ := hR1.out hRz
          have hRcok := condP_ok (xs := xs) hok.out hRz (by have := hp2.out; omega)
          have hmt := fun W => meet_any s1 (condP xs R) W hso hRcok
          rw [← hcd] at hmt
          have hRi : (R : Int) < (N : Int) := by omega
          obtain ⟨c4, c5⟩ := hCs.at (i := R) (by omega) hRp
          obtain ⟨b7, o7, s7, heq7, hs7, _, p2, p3⟩ := (hr.ext hxs).snd hf0
          cases heq7
          have e7 : s7 = s1 := by have h1 := hs7.out; have h2 := hs1.out; rw [h2] at h1; exact (Option.some.inj h1).symm
          subst e7
          replace hRz := Lib.hid hRz
          replace hcd := Lib.hid hcd
          replace hRne := Lib.hid hRne
          replace hs7 := Lib.hid hs7.out
          have hmem := fun W (h : RdS W (some ⟨b, off, none⟩) n cap xs) => members_any (some ⟨b, off, none⟩) n cap xs (condP xs p) W h (by omega) hok.out hcok
          unfold RetI at hmem
          have hMlt : maskN (memL xs (condP xs p)) < 2 ^ xs.length := maskTo_lt (fun x hx => (memL_lt x hx).2) _
          have hLlt := fun x hx => memL_lt (xs := xs) (c := condP xs p) x hx
          rw [hl.out, ← hN.out] at hMlt
          rw [hl.out] at hLlt
          have hKdef : Hid (maskN (memL xs (condP xs p)) = maskTo (memL xs (condP xs p)) (memL xs (condP xs p)).length) := Lib.hid rfl
          generalize maskN (memL xs (condP xs p)) = K at *
          generalize memL xs (condP xs p) = L at *
          replace hLlt := Lib.hid hLlt
          generalize hCPd : condP xs p = CP at *
          replace hCPd := Lib.hid hCPd
          generalize condP xs R = CR at *
          go_wp2_with fail
          generalize ((w3.setCell ⟨G, p * 2, none⟩ (.int .u32 s7.p.toNat)).setCell ⟨G, p * 2 + 1, none⟩ (.int .u32 s7.m.toNat)) = wX at *
          clear k0 k1 z0 z1 p0 p1
          have r0 := fun z : ExtOf wX => z.cell p2
          have r1 := fun z : ExtOf wX => z.cell p3
          have r2 := fun z : ExtOf wX => z.cell c4
          have r3 := fun z : ExtOf wX => z.cell c5
          (refine wp_region_qxt 11 (by kernel_rfl) (by kernel_rfl) ?_
           simp only [List.take_succ_cons, List.take_zero, List.drop_succ_cons, List.drop_zero]
           repeat (go_big_quiet_step ((go_at_call 48; exact calls_ext (hmt _))))
           refine wpQuiet_nil ?_
           intro wq hw'
           have hxq := ext_of_ex hw'
           clear hw')
          clear r0 r1 r2 r3 hmt c4 c5 p2 p3
          have hCq := hCs.ext hxq
          have hMq := hMs.out.kept hxq
          have hxq2 := hxs.trans hxq
          obtain ⟨u2, v2, k2, k3⟩ := hCq.old hlt
          obtain ⟨z2, z3⟩ := hCq.frz
          have hCx := hCq.put hlt
          rw [hCPd.out] at hCx
          have hxx := ext_set2 (i := p * 2) hxq2 hG (.int .u32 CP.p.toNat) (.int .u32 CP.m.toNat)
          have hMx : Hid (MapC Tryd.prog 3 3 klI ((wq.setCell ⟨G, p * 2, none⟩ (.int .u32 CP.p.toNat)).setCell ⟨G, p * 2 + 1, none⟩ (.int .u32 CP.m.toNat)) Bm q (dif (clsM xs) q) (cntM (clsM xs) q)) := Lib.hid ((hMq.set hGB _).set hGB _)
          clear hCs hMs hxs hxq hxq2 hMq hCq
          go_wp2_with fail
          generalize ((wq.setCell ⟨G, p * 2, none⟩ (.int .u32 CP.p.toNat)).setCell ⟨G, p * 2 + 1, none⟩ (.int .u32 CP.m.toNat)) = wY at *
          refine (hmem _ (hr.ext hxx)).mono ?_
          rintro e w4 ⟨v4, rfl, hown, hx4⟩
          clear hmem
          obtain ⟨a4, n4, c4, hn4, rfl, hr4⟩ := OwnK.rdn I64.len hown
          have hmax4 : n4 ≤ 9223372036854775807 := by have := hr4.le; have := hr4.most; unfold maxLen at this; omega
          replace hn4 := Lib.hid hn4
          clear hown
          have hCx := hCx.ext hx4
          have hMx := Lib.hid (hMx.out.kept hx4)
          have hxx := hxx.trans hx4
          go_wp2_with fail
          go_loopw [10, 64] (fun sv i wr => ∃ j : Nat, j ≤ n4 ∧ i = .int .i64 j ∧ sv = .int .i64 (maskTo L j : Nat) ∧ wr = w4) (fun _ i _ => n4 - (intOf i).toNat)
          case atStart => exact ⟨0, Nat.zero_le _, rfl, rfl, rfl⟩
          case round =>
            obtain ⟨j, hj, rfl, rfl, rfl⟩ := hrel
            by_cases hlj : j < n4
            · have hji : (j : Int) < (n4 : Int) := by omega
              obtain ⟨b5, o5, x, rfl, hxj, hb5, p5⟩ := hr4.i64 hlj
              have hxl := hLlt.out x (List.mem_of_getElem? hxj.out)
              obtain ⟨y, hy⟩ : ∃ y : Nat, x = (y : Int) := ⟨x.toNat, by omega⟩
              subst hy
              have hms := maskTo_succ hxj.out
              have hmlt := maskTo_lt (L := L) (n := n) (fun x hx => (hLlt.out x hx).2) j
              rw [← hN.out] at hmlt
              have hyn : y < n := by have := hxl.2; omega
              have hyt : ((y : Int)).toNat = y := by omega
              rw [hyt] at hms
              obtain ⟨T, hTd⟩ : ∃ T, T = 2 ^ y := ⟨_, rfl⟩
              have hTi : (2 : Int) ^ y = (T : Int) := by rw [hTd]; simp
              have hTl : T ≤ 4096 := by rw [hTd]; exact Nat.le_trans (Nat.pow_le_pow_right (by decide) (by omega : y ≤ 12)) (by decide)
              rw [← hTd] at hms
              have hTw := wrap_nat T (by omega)
              have hor : bits .or .i64 ((maskTo L j : Nat) : Int) (T : Int) = ((maskTo L j ||| T : Nat) : Int) := or_i64 _ _ (by omega) (by omega)
              replace hms := Lib.hid hms
              replace hxj := Lib.hid hxj.out
              replace hTd := Lib.hid hTd
              replace hxl := Lib.hid hxl
              generalize maskTo L j = S at *
              go_wp2_with fail
              (first | exact ⟨⟨j + 1, by omega, by go_num, by rw [hms.out], (by first | rfl | trivial)⟩, (by simp [intOf]; omega)⟩ | (go_roundw; case rel => exact ⟨j + 1, by omega, by go_num, by rw [hms.out], (by first | rfl | trivial)⟩; case measure => exact (by simp [intOf]; omega)))
            · have hjn : j = n4 := by omega
              have hK : maskTo L j = K := by rw [hKdef.out, hjn, hn4.out]
              rw [hK]
              have hle := List.count_le_length (a := K) (l := (clsM xs).take q)
              rw [List.length_take] at hle
              obtain ⟨v, hv⟩ : ∃ v : Int, v = ((((clsM xs).take q).count K : Nat) : Int) := ⟨_, rfl⟩
              have hvb : 0 ≤ v ∧ v < 4096 := by have := hpq.out; omega
              have hget := cntM_get (clsM xs) q K
              rw [← hv] at hget
              have hval : ((cntM (clsM xs) q K).getD (.int .i64 0)).value = .int .i64 v := by rw [hget]; rfl
              have hwv : IntKind.i64.wrap (v + 1) = v + 1 := IntWalk.i64_in _ (by omega)
              have hkey := keyI K (by omega)
              have hMx := hMx.out
              have hsuc := cntM_succ hclm.out
              rw [← hv] at hsuc
              have hdif := dif_succ hclm.out
              have hisS : (cntM (clsM xs) q K).isSome = decide (K ∈ (clsM xs).take q) := by unfold cntM; split <;> simp [*]
              have hdif2 : Hid ((if (cntM (clsM xs) q K).isSome = true then dif (clsM xs) q else dif (clsM xs) q + 1) = dif (clsM xs) (q + 1)) := Lib.hid (by rw [hdif, hisS]; simp)
              replace hK := Lib.hid hK
              replace hv := Lib.hid hv
              replace hget := Lib.hid hget
              replace hdif := Lib.hid hdif
              replace hisS := Lib.hid hisS
              replace hsuc := Lib.hid hsuc
              replace hjn := Lib.hid hjn
              replace hle := Lib.hid hle
              have hqm : q < maxLen := by have := hpq.out; unfold maxLen; omega
              go_wp2_with (first
                | (at_lookup; refine wp_mapLook rfl _ _ 88 rfl 3 3 keyed_int Tryd.underlying88 (zero_int _) (plainElem_int (H := Unit) Tryd.underlying3 (by decide)) rfl hMx.toK _ _ rfl hkey _ hval ?_)
                | (at_mapUpdate; refine wp_mapStoreC rfl _ _ _ 88 rfl 3 3 keyed_int Tryd.underlying88 klI_inj klI_lit rfl hMx hqm _ _ _ rfl rfl hkey (plainElem_int (H := Unit) Tryd.underlying3 (wf_i64 (v + 1) (by omega) (by omega))) ?_; intro w6 hM6 hg6))
              have hCx := hCx.grown hg6 (by intro e; injection e with e; exact hGB e.symm)
              have hxx := hxx.grown hg6 (fun r e => by injection e with e; omega)
              have hM6 : Hid (MapC Tryd.prog 3 3 klI w6 Bm (q + 1) (dif (clsM xs) (q + 1)) (cntM (clsM xs) (q + 1))) := Lib.hid (by rw [← hsuc.out, ← hdif2.out]; exact hM6)
              (first | exact ⟨⟨p + 1, q + 1, Lib.hid (by have := hpq.out; omega), by omega, by go_num, hM6, hCx, hxx⟩, (by simp [intOf]; omega)⟩ | (go_roundw; case rel => exact ⟨p + 1, q + 1, Lib.hid (by have := hpq.out; omega), by omega, by go_num, hM6, hCx, hxx⟩; case measure => exact (by simp [intOf]; omega)))
      · have hpN : p = N := by omega
        have hml := fun ty => hM.out.len (t := 88) Tryd.underlying88 ty
        have hfin : Hid (cntV xs = (dif (clsM xs) q : Nat)) := Lib.hid (by
          rw [hV.out]; unfold countN
          rw [← dif_cls, hl.out, ← hN.out, show N - 1 = q by have := hpq.out; omega])
        generalize dif (clsM xs) q = D at *
        replace hpN := Lib.hid hpN
        go_wp2_with fail
        go_ret2
        exact ⟨by rw [hfin.out, hc.out]; rfl, hx⟩
  · have hV : cntV xs = 0 := by unfold cntV; rw [if_neg hc]
    have hd : (chkI 12 xs != 0) = true := by simpa using hc
    unfold RetCn
    rw [hV]
    generalize chkI 12 xs = E at *
    replace hc := Lib.hid hc
    replace hV := Lib.hid hV
    go_enter Tryd.func29, Tryd.ntmps29
    go_wp2_with fail
    refine hck.mono ?_
    rintro e w1 ⟨rfl, hx1⟩
    clear hck
    go_wp2_with fail
    go_ret2
    exact ⟨rfl, hx1⟩
end Go.Proofs.YtbnbfdbliokcaaaDoor
