/-
  The reference of chapter 20: gcd, Share.
-/
import Derived.Test.YtkdancoffmhjhaaKr
import Derived.Test.YtkdancoffmhjhaaHs
namespace Go.Proofs.Ytkdancoffmhjhaa
open Go.RowKit
set_option maxHeartbeats 1000000 in
theorem rgcd_any (a b : Nat) (w : World) (ha : a ≤ 9223372036854775807) (hb : b ≤ 9223372036854775807) :
    Calls Try.prog 56 #[.int .i64 (a : Int), .int .i64 (b : Int)] w fun e w' => e = .returned (.int .i64 ((Nat.gcd a b : Nat) : Int)) ∧ Ext w w' := by
  go_enter Try.func56, Try.ntmps56
  go_wp2_with fail
  go_loopw [0, 1] (fun u v wr => ∃ x y : Nat, x ≤ 9223372036854775807 ∧ y ≤ 9223372036854775807 ∧ u = .int .i64 x ∧ v = .int .i64 y ∧ Hid (Nat.gcd x y = Nat.gcd a b) ∧ Ext w wr) (fun _ v _ => (intOf v).toNat)
  case atStart => exact ⟨a, b, ha, hb, rfl, rfl, Lib.hid rfl, Ext.refl _⟩
  case round =>
    obtain ⟨x, y, hx, hy, rfl, rfl, hg, hxr⟩ := hrel
    by_cases h0 : y = 0
    · have hd : ((y : Int) != 0) = false := by simp [h0]
      have hfin : Hid ((x : Int) = ((Nat.gcd a b : Nat) : Int)) := Lib.hid (by rw [← hg.out, h0, Nat.gcd_zero_right])
      replace h0 := Lib.hid h0
      go_wp2_with fail
      go_ret
      exact ⟨ret_int hfin.out, hxr⟩
    · have hd : ((y : Int) != 0) = true := by simp [h0]
      have hd2 : ((y : Int) == 0) = false := by simp [h0]
      obtain ⟨r, hr⟩ : ∃ r, r = x % y := ⟨_, rfl⟩
      have hlt : r < y := by rw [hr]; exact Nat.mod_lt _ (by omega)
      have hmod : (x : Int).tmod (y : Int) = (r : Int) := by rw [hr]; rfl
      have hmod2 : (x : Int) % (y : Int) = (r : Int) := by rw [hr]; rfl
      have hg2 : Hid (Nat.gcd y r = Nat.gcd a b) := Lib.hid (by rw [← hg.out, Nat.gcd_comm x y, Nat.gcd_rec y x, ← hr, Nat.gcd_comm])
      replace hr := Lib.hid hr
      replace h0 := Lib.hid h0
      go_wp2_with fail
      (refine wp_region_qx (by kernel_rfl) (by kernel_rfl) ?_
       repeat (go_big_quiet_step (fail))
       refine wpQuiet_nil ?_
       intro wq hw'
       have hxq := ext_of_ex hw'
       clear hw')
      clear hmod hmod2
      go_wp2_with fail
      (first | exact ⟨⟨y, r, by omega, by omega, rfl, rfl, hg2, hxr.trans hxq⟩, (by simp [intOf]; omega)⟩ | (go_roundw; case rel => exact ⟨y, r, by omega, by omega, rfl, rfl, hg2, hxr.trans hxq⟩; case measure => exact (by simp [intOf]; omega)))
def nulC : Cl := ⟨0, nulS⟩
def selB (f t : Nat) (x : Cl) (h : HCo) : Bool := decide (h.x.getD f nulC = x) && decide (¬ (h.x.getD t nulC).kind = 0)
def cntSel (p : HCo → Bool) (l : List HCo) : Int := ((l.filter p).map HCo.cnt).sum
theorem cntSel_succ {p : HCo → Bool} {l : List HCo} {j : Nat} {y : HCo} (h : l[j]? = some y) : cntSel p (l.take (j + 1)) = cntSel p (l.take j) + if p y = true then y.cnt else 0 := by
  unfold cntSel
  rw [take_succ_at h, List.filter_append, List.map_append, List.sum_append]
  by_cases hp : p y = true
  · rw [if_pos hp, List.filter_cons, if_pos hp]; simp
  · rw [if_neg hp, List.filter_cons, if_neg hp]; simp
theorem cntSel_bd {p : HCo → Bool} : ∀ {l : List HCo}, (∀ y ∈ l, 0 ≤ y.cnt ∧ y.cnt ≤ 2147483647) → 0 ≤ cntSel p l ∧ cntSel p l ≤ 2147483647 * l.length
  | [], _ => by simp [cntSel]
  | y :: l, h => by
    have ih := cntSel_bd (p := p) (l := l) (fun z hz => h z (List.mem_cons_of_mem _ hz))
    have hy := h y (List.mem_cons_self ..)
    have e : cntSel p (y :: l) = (if p y = true then y.cnt else 0) + cntSel p l := by
      unfold cntSel
      by_cases hp : p y = true
      · rw [if_pos hp, List.filter_cons, if_pos hp]; rfl
      · rw [if_neg hp, List.filter_cons, if_neg hp]; simp
    rw [e, List.length_cons]
    have : (2147483647 : Int) * ((l.length + 1 : Nat) : Int) = 2147483647 * l.length + 2147483647 := by omega
    split <;> omega
def dS (l : List HCo) (f t : Nat) (x : Cl) : Int := cntSel (selB f t x) l
def nS (l : List HCo) (f t : Nat) (x y : Cl) : Int := cntSel (fun h => selB f t x h && decide (h.x.getD t nulC = y)) l
/-- The share, as a fraction. -/
def shF (n d : Int) : Int × Int := if d = 0 then (0, 1) else (n / (Nat.gcd n.toNat d.toNat : Nat), d / (Nat.gcd n.toNat d.toNat : Nat))
def shareV (l : List HCo) (f t : Int) (x y : Cl) : Int × Int := if askE l f t x y = 0 then shF (nS l f.toNat t.toNat x y) (dS l f.toNat t.toNat x) else (0, 0)
theorem askE_zero {l : List HCo} {f t : Int} {x y : Cl} (h : askE l f t x y = 0) : chkE [l] = 0 ∧ 0 ≤ f ∧ f < widH l ∧ 0 ≤ t ∧ t < widH l ∧ x.ok = true ∧ ¬ x.kind = 0 ∧ y.ok = true ∧ ¬ y.kind = 0 := by
  unfold askE at h
  split at h
  · rename_i h1; exact absurd h h1
  · rename_i h1
    split at h
    · cases h
    · rename_i h2
      split at h
      · cases h
      · rename_i h3
        simp only [not_or] at h2 h3
        refine ⟨Decidable.of_not_not h1, by omega, by omega, by omega, by omega, by simpa using h3.1, h3.2.1, by simpa using h3.2.2.1, h3.2.2.2⟩
set_option maxHeartbeats 4000000 in
set_option maxRecDepth 20000 in
theorem rshare_any (a : Option Addr) (n cap : Nat) (l : List HCo) (f t : Int) (x y : Cl) (w : World) (hr : RdH w a n cap l) :
    Calls Try.prog 27 #[.slice a n cap, .int .i64 f, .int .i64 t, clV x, clV y] w fun e w' => e = .returned (.tuple #[.agg #[.int .i64 (shareV l f t x y).1, .int .i64 (shareV l f t x y).2], .int .i64 (askE l f t x y)]) ∧ Ext w w' := by
  have hask := fun W (z : Ext w W) => rasked_any a n cap l f t x y W (hr.ext z)
  have hl := hr.rd.len
  by_cases h0 : askE l f t x y = 0
  · obtain ⟨hE, hf1, hf2, ht1, ht2, _⟩ := askE_zero h0
    obtain ⟨fn, rfl⟩ : ∃ fn : Nat, f = fn := ⟨f.toNat, by omega⟩
    obtain ⟨tn, rfl⟩ : ∃ tn : Nat, t = tn := ⟨t.toNat, by omega⟩
    have hS : shareV l fn tn x y = shF (nS l fn tn x y) (dS l fn tn x) := by unfold shareV; rw [if_pos h0, Int.toNat_natCast, Int.toNat_natCast]
    rw [hS, h0]
    rw [h0] at hask
    obtain ⟨hlim, hcor⟩ := chkE_all hE
    have hfl : [l].flatten = l := by simp
    rw [hfl] at hcor
    have hlen := (hlim l (by simp)).1
    rw [hl] at hlen
    have hbN := fun j => cntSel_bd (p := fun h => selB fn tn x h && decide (h.x.getD tn nulC = y)) (l := l.take j) (fun z hz => ⟨by have := (hcor z (List.mem_of_mem_take hz)).2.1; omega, (hcor z (List.mem_of_mem_take hz)).2.2.1⟩)
    have hbD := fun j => cntSel_bd (p := selB fn tn x) (l := l.take j) (fun z hz => ⟨by have := (hcor z (List.mem_of_mem_take hz)).2.1; omega, (hcor z (List.mem_of_mem_take hz)).2.2.1⟩)
    have hlt2 := fun j : Nat => (show (l.take j).length ≤ 4096 by rw [List.length_take]; omega)
    obtain ⟨pN, hpN⟩ : ∃ p : HCo → Bool, p = fun h => selB fn tn x h && decide (h.x.getD tn nulC = y) := ⟨_, rfl⟩
    obtain ⟨pD, hpD⟩ : ∃ p : HCo → Bool, p = selB fn tn x := ⟨_, rfl⟩
    unfold nS dS
    rw [← hpN, ← hpD]
    rw [← hpN] at hbN
    rw [← hpD] at hbD
    have hwid : ∀ z ∈ l, z.n = widH l := fun z hz => (hcor z hz).1
    have hf3 : fn < widH l := by omega
    have ht3 : tn < widH l := by omega
    obtain ⟨V, hV⟩ : ∃ V, V = shF (cntSel pN l) (cntSel pD l) := ⟨_, rfl⟩
    rw [← hV]
    replace hV := Lib.hid hV
    generalize widH l = W at *
    have hecl := eql_cl
    replace hpN := Lib.hid hpN
    replace hpD := Lib.hid hpD
    replace hbN := Lib.hid hbN
    replace hbD := Lib.hid hbD
    replace hlt2 := Lib.hid hlt2
    replace hwid := Lib.hid hwid
    replace h0 := Lib.hid h0
    replace hl := Lib.hid hl
    clear hS hE hcor hlim hfl hf1 hf2 ht1 ht2
    go_enter Try.func27, Try.ntmps27
    go_wp2_with fail
    have bx0 : ((((w.alloc (.cells #[.int .i64 x.kind, .int .u32 x.s.p.toNat, .int .u32 x.s.m.toNat] 39)).alloc (.cells #[.int .i64 y.kind, .int .u32 y.s.p.toNat, .int .u32 y.s.m.toNat] 39)).alloc (.cells #[.int .i64 0, .int .i64 0] 44))).cell? ⟨w.heap.size, 0, none⟩ = some (.int .i64 x.kind) := by go_simp
    have bx1 : ((((w.alloc (.cells #[.int .i64 x.kind, .int .u32 x.s.p.toNat, .int .u32 x.s.m.toNat] 39)).alloc (.cells #[.int .i64 y.kind, .int .u32 y.s.p.toNat, .int .u32 y.s.m.toNat] 39)).alloc (.cells #[.int .i64 0, .int .i64 0] 44))).cell? ⟨w.heap.size, 1, none⟩ = some (.int .u32 x.s.p.toNat) := by go_simp
    have bx2 : ((((w.alloc (.cells #[.int .i64 x.kind, .int .u32 x.s.p.toNat, .int .u32 x.s.m.toNat] 39)).alloc (.cells #[.int .i64 y.kind, .int .u32 y.s.p.toNat, .int .u32 y.s.m.toNat] 39)).alloc (.cells #[.int .i64 0, .int .i64 0] 44))).cell? ⟨w.heap.size, 2, none⟩ = some (.int .u32 x.s.m.toNat) := by go_simp
    have by0 : ((((w.alloc (.cells #[.int .i64 x.kind, .int .u32 x.s.p.toNat, .int .u32 x.s.m.toNat] 39)).alloc (.cells #[.int .i64 y.kind, .int .u32 y.s.p.toNat, .int .u32 y.s.m.toNat] 39)).alloc (.cells #[.int .i64 0, .int .i64 0] 44))).cell? ⟨w.heap.size + 1, 0, none⟩ = some (.int .i64 y.kind) := by go_simp
    have by1 : ((((w.alloc (.cells #[.int .i64 x.kind, .int .u32 x.s.p.toNat, .int .u32 x.s.m.toNat] 39)).alloc (.cells #[.int .i64 y.kind, .int .u32 y.s.p.toNat, .int .u32 y.s.m.toNat] 39)).alloc (.cells #[.int .i64 0, .int .i64 0] 44))).cell? ⟨w.heap.size + 1, 1, none⟩ = some (.int .u32 y.s.p.toNat) := by go_simp
    have by2 : ((((w.alloc (.cells #[.int .i64 x.kind, .int .u32 x.s.p.toNat, .int .u32 x.s.m.toNat] 39)).alloc (.cells #[.int .i64 y.kind, .int .u32 y.s.p.toNat, .int .u32 y.s.m.toNat] 39)).alloc (.cells #[.int .i64 0, .int .i64 0] 44))).cell? ⟨w.heap.size + 1, 2, none⟩ = some (.int .u32 y.s.m.toNat) := by go_simp
    have hq : ((((w.alloc (.cells #[.int .i64 x.kind, .int .u32 x.s.p.toNat, .int .u32 x.s.m.toNat] 39)).alloc (.cells #[.int .i64 y.kind, .int .u32 y.s.p.toNat, .int .u32 y.s.m.toNat] 39)).alloc (.cells #[.int .i64 0, .int .i64 0] 44))).heap[w.heap.size + 1 + 1]? = some (.cells #[.int .i64 0, .int .i64 0] 44 (0, 0)) := by
      have := World.alloc_heap_new ((w.alloc (.cells #[.int .i64 x.kind, .int .u32 x.s.p.toNat, .int .u32 x.s.m.toNat] 39)).alloc (.cells #[.int .i64 y.kind, .int .u32 y.s.p.toNat, .int .u32 y.s.m.toNat] 39)) (.cells #[.int .i64 0, .int .i64 0] 44)
      rwa [World.size_alloc, World.size_alloc] at this
    have hxB : Ext w ((((w.alloc (.cells #[.int .i64 x.kind, .int .u32 x.s.p.toNat, .int .u32 x.s.m.toNat] 39)).alloc (.cells #[.int .i64 y.kind, .int .u32 y.s.p.toNat, .int .u32 y.s.m.toNat] 39)).alloc (.cells #[.int .i64 0, .int .i64 0] 44))) := (by repeat (first | exact Ext.refl _ | refine Ext.drew ?_ | refine Ext.drewN ?_ _ | refine Ext.alloc ?_ _))
    have hwQ : w.heap.size ≤ w.heap.size + 1 + 1 := by omega
    generalize hQ : w.heap.size + 1 + 1 = Q at *
    generalize ((((w.alloc (.cells #[.int .i64 x.kind, .int .u32 x.s.p.toNat, .int .u32 x.s.m.toNat] 39)).alloc (.cells #[.int .i64 y.kind, .int .u32 y.s.p.toNat, .int .u32 y.s.m.toNat] 39)).alloc (.cells #[.int .i64 0, .int .i64 0] 44))) = wB at *
    generalize hBy : w.heap.size + 1 = By at *
    generalize hBx : w.heap.size = Bx at *
    have hQn : Bx ≠ Q ∧ By ≠ Q := by omega
    obtain ⟨hQx, hQy⟩ := hQn
    replace hQ := Lib.hid hQ
    replace hBy := Lib.hid hBy
    replace hBx := Lib.hid hBx
    refine (hask _ hxB).mono ?_
    rintro e w1 ⟨rfl, hx1⟩
    have hxw1 : Ext w w1 := hxB.trans hx1
    have hq1 := (Below.block hx1.bel Q (Array.getElem?_eq_some_iff.1 hq).1).trans hq
    have cx0 := (hx1).cellv bx0
    have cx1 := (hx1).cellv bx1
    have cx2 := (hx1).cellv bx2
    have cy0 := (hx1).cellv by0
    have cy1 := (hx1).cellv by1
    have cy2 := (hx1).cellv by2
    have clx := cell_lt cx0
    have cly := cell_lt cy0
    simp only at clx cly
    clear bx0 bx1 bx2 by0 by1 by2
    clear hx1 hxB hq
    go_wp2_with fail
    go_loopw [13, 14, 15] (fun s d i wr => ∃ (j : Nat) (zn zd : Int), j ≤ n ∧ i = .int .i64 j ∧ s = .int .i64 zn ∧ d = .int .i64 zd ∧ Hid (zn = cntSel pN (l.take j)) ∧ Hid (zd = cntSel pD (l.take j)) ∧ Ext w1 wr) (fun _ _ i _ => n - (intOf i).toNat)
    case atStart => exact ⟨0, 0, 0, Nat.zero_le _, rfl, rfl, rfl, Lib.hid rfl, Lib.hid rfl, Ext.refl _⟩
    case round =>
      obtain ⟨j, zn, zd, hj, rfl, rfl, rfl, hzn, hzd, hxr⟩ := hrel
      by_cases hlt : j < n
      · obtain ⟨b, off, ⟨ya, yn, yc, ycnt, yx⟩, rfl, hy, hb, hc0, hc1, hcy⟩ := (hr.ext (hxw1.trans hxr)).at hlt
        simp only at hc0 hc1 hcy
        have hyn : yn = W := hwid.out _ (List.mem_of_getElem? hy.out)
        subst hyn
        obtain ⟨bc, oc, cf, rfl, hcf, hbc, p0, p1, p2⟩ := hcy.cl hf3
        obtain ⟨_, _, ct, he, hct, _, q0, q1, q2⟩ := hcy.cl ht3
        cases he
        have hji : (j : Int) < (n : Int) := by omega
        have hfi : (fn : Int) < (yn : Int) := by omega
        have hti : (tn : Int) < (yn : Int) := by omega
        have hsN := Lib.hid (cntSel_succ (p := pN) hy.out)
        have hsD := Lib.hid (cntSel_succ (p := pD) hy.out)
        have hgf : yx.getD fn nulC = cf := by rw [List.getD_eq_getElem?_getD, hcf.out]; rfl
        have hgt : yx.getD tn nulC = ct := by rw [List.getD_eq_getElem?_getD, hct.out]; rfl
        have hvD : Hid (pD ⟨some ⟨bc, oc, none⟩, yn, yc, ycnt, yx⟩ = (decide (cf = x) && decide (¬ ct.kind = 0))) := Lib.hid (by rw [hpD.out]; unfold selB; simp only; rw [hgf, hgt])
        have hvN : Hid (pN ⟨some ⟨bc, oc, none⟩, yn, yc, ycnt, yx⟩ = (decide (cf = x) && decide (¬ ct.kind = 0) && decide (ct = y))) := Lib.hid (by rw [hpN.out]; unfold selB; simp only; rw [hgf, hgt])
        clear hgf hgt
        have dx0 := (hxr).cellv cx0
        have dx1 := (hxr).cellv cx1
        have dx2 := (hxr).cellv cx2
        have dy0 := (hxr).cellv cy0
        have dy1 := (hxr).cellv cy1
        have dy2 := (hxr).cellv cy2
        have dlx := cell_lt dx0
        have dly := cell_lt dy0
        simp only at dlx dly
        have r0 := fun z : ExtOf wr => z.cell hc0
        have r1 := fun z : ExtOf wr => z.cell p0
        have r2 := fun z : ExtOf wr => z.cell p1
        have r3 := fun z : ExtOf wr => z.cell p2
        have r4 := fun z : ExtOf wr => z.cell dx0
        have r5 := fun z : ExtOf wr => z.cell dx1
        have r6 := fun z : ExtOf wr => z.cell dx2
        have r7 := fun z : ExtOf wr => z.cell q0
        by_cases e1 : cf = x
        · have d1 : decide (cf = x) = true := by simpa using e1
          by_cases e2 : ct.kind = 0
          · have d2 : (ct.kind != 0) = false := by simpa using e2
            have hnN : Hid (zn = cntSel pN (l.take (j + 1))) := Lib.hid (by rw [hsN.out, hvN.out, ← hzn.out]; simp [e2])
            have hnD : Hid (zd = cntSel pD (l.take (j + 1))) := Lib.hid (by rw [hsD.out, hvD.out, ← hzd.out]; simp [e2])
            replace e1 := Lib.hid e1
            replace e2 := Lib.hid e2
            go_wp2_with fail
            (refine wp_region_qx (by kernel_rfl) (by kernel_rfl) ?_
             repeat (go_big_quiet_step (fail))
             refine wpQuiet_nil ?_
             intro wq hw'
             have hxq := ext_of_ex hw'
             clear hw')
            clear r0 r1 r2 r3 r4 r5 r6 r7
            go_wp2_with fail
            (first | exact ⟨⟨j + 1, zn, zd, by omega, by go_num, rfl, rfl, hnN, hnD, hxr.trans hxq⟩, (by simp [intOf]; omega)⟩ | (go_roundw; case rel => exact ⟨j + 1, zn, zd, by omega, by go_num, rfl, rfl, hnN, hnD, hxr.trans hxq⟩; case measure => exact (by simp [intOf]; omega)))
          · have d2 : (ct.kind != 0) = true := by simpa using e2
            have hnD : Hid (zd + ycnt = cntSel pD (l.take (j + 1))) := Lib.hid (by rw [hsD.out, hvD.out, ← hzd.out]; simp [e1, e2])
            have hb1 := hbD.out (j + 1)
            have hb2 := hbN.out (j + 1)
            have hl1 := hlt2.out (j + 1)
            rw [← hnD.out] at hb1
            have hwD : IntKind.i64.wrap (zd + ycnt) = zd + ycnt := IntWalk.i64_in _ (by omega)
            have hwD2 : -9223372036854775808 ≤ zd + ycnt ∧ zd + ycnt ≤ 9223372036854775807 := by omega
            by_cases e3 : ct = y
            · have d3 : decide (ct = y) = true := by simpa using e3
              have hnN : Hid (zn + ycnt = cntSel pN (l.take (j + 1))) := Lib.hid (by rw [hsN.out, hvN.out, ← hzn.out]; simp [e1, e3, show ¬ y.kind = 0 by rw [← e3]; exact e2])
              rw [← hnN.out] at hb2
              have hwN : IntKind.i64.wrap (zn + ycnt) = zn + ycnt := IntWalk.i64_in _ (by omega)
              have hwN2 : -9223372036854775808 ≤ zn + ycnt ∧ zn + ycnt ≤ 9223372036854775807 := by omega
              replace e1 := Lib.hid e1
              replace e2 := Lib.hid e2
              replace e3 := Lib.hid e3
              clear hb1 hb2 hl1
              go_wp2_with fail
              (refine wp_region_qx (by kernel_rfl) (by kernel_rfl) ?_
               repeat (go_big_quiet_step (fail))
               refine wpQuiet_nil ?_
               intro wq hw'
               have hxq := ext_of_ex hw'
               clear hw')
              have hxr2 := hxr.trans hxq
              have f0 := hxq.cellv hc0
              have f1 := hxq.cellv hc1
              have f2 := hxq.cellv q0
              have f3 := hxq.cellv q1
              have f4 := hxq.cellv q2
              have f5 := hxq.cellv dy0
              have f6 := hxq.cellv dy1
              have f7 := hxq.cellv dy2
              clear r0 r1 r2 r3 r4 r5 r6 r7 hxq
              have t0 := fun z : ExtOf wq => z.cell f0
              have t1 := fun z : ExtOf wq => z.cell f2
              have t2 := fun z : ExtOf wq => z.cell f3
              have t3 := fun z : ExtOf wq => z.cell f4
              have t4 := fun z : ExtOf wq => z.cell f5
              have t5 := fun z : ExtOf wq => z.cell f6
              have t6 := fun z : ExtOf wq => z.cell f7
              go_wp2_with fail
              (refine wp_region_qx (by kernel_rfl) (by kernel_rfl) ?_
               repeat (go_big_quiet_step (fail))
               refine wpQuiet_nil ?_
               intro wq hw'
               have hxq := ext_of_ex hw'
               clear hw')
              have g1 := hxq.cellv f1
              clear t0 t1 t2 t3 t4 t5 t6
              go_wp2_with fail
              (first | exact ⟨⟨j + 1, zn + ycnt, zd + ycnt, by omega, by go_num, rfl, rfl, hnN, hnD, hxr2.trans hxq⟩, (by simp [intOf]; omega)⟩ | (go_roundw; case rel => exact ⟨j + 1, zn + ycnt, zd + ycnt, by omega, by go_num, rfl, rfl, hnN, hnD, hxr2.trans hxq⟩; case measure => exact (by simp [intOf]; omega)))
            · have d3 : decide (ct = y) = false := by simpa using e3
              have hnN : Hid (zn = cntSel pN (l.take (j + 1))) := Lib.hid (by rw [hsN.out, hvN.out, ← hzn.out]; simp [e3])
              replace e1 := Lib.hid e1
              replace e2 := Lib.hid e2
              replace e3 := Lib.hid e3
              clear hb1 hb2 hl1
              go_wp2_with fail
              (refine wp_region_qx (by kernel_rfl) (by kernel_rfl) ?_
               repeat (go_big_quiet_step (fail))
               refine wpQuiet_nil ?_
               intro wq hw'
               have hxq := ext_of_ex hw'
               clear hw')
              have hxr2 := hxr.trans hxq
              have f0 := hxq.cellv hc0
              have f1 := hxq.cellv hc1
              have f2 := hxq.cellv q0
              have f3 := hxq.cellv q1
              have f4 := hxq.cellv q2
              have f5 := hxq.cellv dy0
              have f6 := hxq.cellv dy1
              have f7 := hxq.cellv dy2
              clear r0 r1 r2 r3 r4 r5 r6 r7 hxq
              have t0 := fun z : ExtOf wq => z.cell f0
              have t1 := fun z : ExtOf wq => z.cell f2
              have t2 := fun z : ExtOf wq => z.cell f3
              have t3 := fun z : ExtOf wq => z.cell f4
              have t4 := fun z : ExtOf wq => z.cell f5
              have t5 := fun z : ExtOf wq => z.cell f6
              have t6 := fun z : ExtOf wq => z.cell f7
              go_wp2_with fail
              (refine wp_region_qx (by kernel_rfl) (by kernel_rfl) ?_
               repeat (go_big_quiet_step (fail))
               refine wpQuiet_nil ?_
               intro wq hw'
               have hxq := ext_of_ex hw'
               clear hw')
              clear t0 t1 t2 t3 t4 t5 t6
              go_wp2_with fail
              (first | exact ⟨⟨j + 1, zn, zd + ycnt, by omega, by go_num, rfl, rfl, hnN, hnD, hxr2.trans hxq⟩, (by simp [intOf]; omega)⟩ | (go_roundw; case rel => exact ⟨j + 1, zn, zd + ycnt, by omega, by go_num, rfl, rfl, hnN, hnD, hxr2.trans hxq⟩; case measure => exact (by simp [intOf]; omega)))
        · have d1 : decide (cf = x) = false := by simpa using e1
          have hnN : Hid (zn = cntSel pN (l.take (j + 1))) := Lib.hid (by rw [hsN.out, hvN.out, ← hzn.out]; simp [e1])
          have hnD : Hid (zd = cntSel pD (l.take (j + 1))) := Lib.hid (by rw [hsD.out, hvD.out, ← hzd.out]; simp [e1])
          replace e1 := Lib.hid e1
          go_wp2_with fail
          (refine wp_region_qx (by kernel_rfl) (by kernel_rfl) ?_
           repeat (go_big_quiet_step (fail))
           refine wpQuiet_nil ?_
           intro wq hw'
           have hxq := ext_of_ex hw'
           clear hw')
          clear r0 r1 r2 r3 r4 r5 r6 r7
          go_wp2_with fail
          (first | exact ⟨⟨j + 1, zn, zd, by omega, by go_num, rfl, rfl, hnN, hnD, hxr.trans hxq⟩, (by simp [intOf]; omega)⟩ | (go_roundw; case rel => exact ⟨j + 1, zn, zd, by omega, by go_num, rfl, rfl, hnN, hnD, hxr.trans hxq⟩; case measure => exact (by simp [intOf]; omega)))
      · have hfN : zn = cntSel pN l := by
          have := hzn.out
          rwa [List.take_of_length_le (by rw [hl.out]; omega)] at this
        have hfD : zd = cntSel pD l := by
          have := hzd.out
          rwa [List.take_of_length_le (by rw [hl.out]; omega)] at this
        have hbn := hbN.out n
        have hbd := hbD.out n
        rw [List.take_of_length_le (by rw [hl.out]; omega)] at hbn hbd
        rw [← hfN] at hbn
        rw [← hfD] at hbd
        have hll : l.length ≤ 4096 := by rw [hl.out]; exact hlen
        obtain ⟨nn, rfl⟩ : ∃ nn : Nat, zn = nn := ⟨zn.toNat, by omega⟩
        obtain ⟨dn, rfl⟩ : ∃ dn : Nat, zd = dn := ⟨zd.toNat, by omega⟩
        have hV2 : V = shF nn dn := by rw [hV.out, ← hfN, ← hfD]
        have hnb : nn ≤ 9223372036854775807 := by omega
        have hdb : dn ≤ 9223372036854775807 := by omega
        have hqr := (Below.block hxr.bel Q (Array.getElem?_eq_some_iff.1 hq1).1).trans hq1
        have hxwr := hxw1.trans hxr
        replace hfN := Lib.hid hfN
        replace hfD := Lib.hid hfD
        clear hbn hbd hll hzn hzd hq1 hxw1 hxr cx0 cx1 cx2 cy0 cy1 cy2 clx cly
        by_cases hd0 : dn = 0
        · have hd : ((dn : Int) == 0) = true := by simp [hd0]
          have hV3 : V = (0, 1) := by rw [hV2]; unfold shF; rw [if_pos (by simp [hd0])]
          replace hd0 := Lib.hid hd0
          replace hV2 := Lib.hid hV2
          replace hV3 := Lib.hid hV3
          obtain ⟨z0, z1, z2⟩ := frz3 hqr
          have k0 : wr.cell? ⟨Q, 0, none⟩ = some (.int .i64 0) := by simp only [World.cell?]; rw [hqr]; rfl
          have k1 : wr.cell? ⟨Q, 1, none⟩ = some (.int .i64 0) := by simp only [World.cell?]; rw [hqr]; rfl
          go_wp2_with fail
          refine bodyPost_ret (res_cell rfl _ _ Q _ _ (0, 0) _ rfl (heap_set (heap_set hqr _) _) Try.underlying44 rfl (by kernel_rfl)) rfl ⟨?_, (hxwr.setCell (p := ⟨Q, 0, none⟩) (by rw [hBx.out]; exact hwQ) _).setCell (p := ⟨Q, 1, none⟩) (by rw [hBx.out]; exact hwQ) _⟩
          rw [hV3.out]; rfl
        · have hd : ((dn : Int) == 0) = false := by simp [hd0]
          obtain ⟨gg, hgg⟩ : ∃ gg, gg = Nat.gcd nn dn := ⟨_, rfl⟩
          have hgp : 0 < gg := by rw [hgg]; exact Nat.gcd_pos_of_pos_right _ (by omega)
          have hcg := fun W => rgcd_any nn dn W hnb hdb
          rw [← hgg] at hcg
          have hV3 : V = (((nn / gg : Nat) : Int), ((dn / gg : Nat) : Int)) := by rw [hV2]; unfold shF; rw [if_neg (by simp [hd0]), Int.toNat_natCast, Int.toNat_natCast, ← hgg]; rfl
          have hq1 : (nn : Int).tdiv (gg : Int) = ((nn / gg : Nat) : Int) := rfl
          have hq2 : (dn : Int).tdiv (gg : Int) = ((dn / gg : Nat) : Int) := rfl
          have hg0 : ((gg : Int) == 0) = false := by simp; omega
          have hdn1 : nn / gg ≤ 9223372036854775807 := Nat.le_trans (Nat.div_le_self _ _) hnb
          have hdn2 : dn / gg ≤ 9223372036854775807 := Nat.le_trans (Nat.div_le_self _ _) hdb
          generalize nn / gg = u1 at *
          generalize dn / gg = u2 at *
          have hw1 : IntKind.i64.wrap (u1 : Int) = u1 := IntWalk.i64_in _ (by omega)
          have hw2 : IntKind.i64.wrap (u2 : Int) = u2 := IntWalk.i64_in _ (by omega)
          replace hd0 := Lib.hid hd0
          replace hgg := Lib.hid hgg
          replace hV2 := Lib.hid hV2
          replace hV3 := Lib.hid hV3
          go_wp2_with fail
          refine (hcg _).mono ?_
          rintro e w5 ⟨rfl, hx5⟩
          have hxw5 := hxwr.trans hx5
          have hq5 := (Below.block hx5.bel Q (Array.getElem?_eq_some_iff.1 hqr).1).trans hqr
          clear hcg hxwr hx5 hqr
          go_wp2_with fail
          (refine wp_region_qxt 7 (by kernel_rfl) (by kernel_rfl) ?_
           simp only [List.take_succ_cons, List.take_zero, List.drop_succ_cons, List.drop_zero]
           repeat (go_big_quiet_step (fail))
           refine wpQuiet_nil ?_
           intro wq hw'
           have hxq := ext_of_ex hw'
           clear hw')
          have hqq := (Below.block hxq.bel Q (Array.getElem?_eq_some_iff.1 hq5).1).trans hq5
          have hxwq := hxw5.trans hxq
          obtain ⟨z0, z1, z2⟩ := frz3 hqq
          have k0 : wq.cell? ⟨Q, 0, none⟩ = some (.int .i64 0) := by simp only [World.cell?]; rw [hqq]; rfl
          have k1 : wq.cell? ⟨Q, 1, none⟩ = some (.int .i64 0) := by simp only [World.cell?]; rw [hqq]; rfl
          clear hq5 hxw5 hxq hq1 hq2
          go_wp2_with fail
          refine bodyPost_ret (res_cell rfl _ _ Q _ _ (0, 0) _ rfl (heap_set (heap_set hqq _) _) Try.underlying44 rfl (by kernel_rfl)) rfl ⟨?_, (hxwq.setCell (p := ⟨Q, 0, none⟩) (by rw [hBx.out]; exact hwQ) _).setCell (p := ⟨Q, 1, none⟩) (by rw [hBx.out]; exact hwQ) _⟩
          rw [hV3.out]; rfl
  · have hS : shareV l f t x y = (0, 0) := by unfold shareV; rw [if_neg h0]
    rw [hS]
    generalize askE l f t x y = er at *
    have hd : (er != 0) = true := by simpa using h0
    replace h0 := Lib.hid h0
    replace hl := Lib.hid hl
    clear hS
    go_enter Try.func27, Try.ntmps27
    go_wp2_with fail
    have bx0 : ((((w.alloc (.cells #[.int .i64 x.kind, .int .u32 x.s.p.toNat, .int .u32 x.s.m.toNat] 39)).alloc (.cells #[.int .i64 y.kind, .int .u32 y.s.p.toNat, .int .u32 y.s.m.toNat] 39)).alloc (.cells #[.int .i64 0, .int .i64 0] 44))).cell? ⟨w.heap.size, 0, none⟩ = some (.int .i64 x.kind) := by go_simp
    have bx1 : ((((w.alloc (.cells #[.int .i64 x.kind, .int .u32 x.s.p.toNat, .int .u32 x.s.m.toNat] 39)).alloc (.cells #[.int .i64 y.kind, .int .u32 y.s.p.toNat, .int .u32 y.s.m.toNat] 39)).alloc (.cells #[.int .i64 0, .int .i64 0] 44))).cell? ⟨w.heap.size, 1, none⟩ = some (.int .u32 x.s.p.toNat) := by go_simp
    have bx2 : ((((w.alloc (.cells #[.int .i64 x.kind, .int .u32 x.s.p.toNat, .int .u32 x.s.m.toNat] 39)).alloc (.cells #[.int .i64 y.kind, .int .u32 y.s.p.toNat, .int .u32 y.s.m.toNat] 39)).alloc (.cells #[.int .i64 0, .int .i64 0] 44))).cell? ⟨w.heap.size, 2, none⟩ = some (.int .u32 x.s.m.toNat) := by go_simp
    have by0 : ((((w.alloc (.cells #[.int .i64 x.kind, .int .u32 x.s.p.toNat, .int .u32 x.s.m.toNat] 39)).alloc (.cells #[.int .i64 y.kind, .int .u32 y.s.p.toNat, .int .u32 y.s.m.toNat] 39)).alloc (.cells #[.int .i64 0, .int .i64 0] 44))).cell? ⟨w.heap.size + 1, 0, none⟩ = some (.int .i64 y.kind) := by go_simp
    have by1 : ((((w.alloc (.cells #[.int .i64 x.kind, .int .u32 x.s.p.toNat, .int .u32 x.s.m.toNat] 39)).alloc (.cells #[.int .i64 y.kind, .int .u32 y.s.p.toNat, .int .u32 y.s.m.toNat] 39)).alloc (.cells #[.int .i64 0, .int .i64 0] 44))).cell? ⟨w.heap.size + 1, 1, none⟩ = some (.int .u32 y.s.p.toNat) := by go_simp
    have by2 : ((((w.alloc (.cells #[.int .i64 x.kind, .int .u32 x.s.p.toNat, .int .u32 x.s.m.toNat] 39)).alloc (.cells #[.int .i64 y.kind, .int .u32 y.s.p.toNat, .int .u32 y.s.m.toNat] 39)).alloc (.cells #[.int .i64 0, .int .i64 0] 44))).cell? ⟨w.heap.size + 1, 2, none⟩ = some (.int .u32 y.s.m.toNat) := by go_simp
    have hq : ((((w.alloc (.cells #[.int .i64 x.kind, .int .u32 x.s.p.toNat, .int .u32 x.s.m.toNat] 39)).alloc (.cells #[.int .i64 y.kind, .int .u32 y.s.p.toNat, .int .u32 y.s.m.toNat] 39)).alloc (.cells #[.int .i64 0, .int .i64 0] 44))).heap[w.heap.size + 1 + 1]? = some (.cells #[.int .i64 0, .int .i64 0] 44 (0, 0)) := by
      have := World.alloc_heap_new ((w.alloc (.cells #[.int .i64 x.kind, .int .u32 x.s.p.toNat, .int .u32 x.s.m.toNat] 39)).alloc (.cells #[.int .i64 y.kind, .int .u32 y.s.p.toNat, .int .u32 y.s.m.toNat] 39)) (.cells #[.int .i64 0, .int .i64 0] 44)
      rwa [World.size_alloc, World.size_alloc] at this
    have hxB : Ext w ((((w.alloc (.cells #[.int .i64 x.kind, .int .u32 x.s.p.toNat, .int .u32 x.s.m.toNat] 39)).alloc (.cells #[.int .i64 y.kind, .int .u32 y.s.p.toNat, .int .u32 y.s.m.toNat] 39)).alloc (.cells #[.int .i64 0, .int .i64 0] 44))) := (by repeat (first | exact Ext.refl _ | refine Ext.drew ?_ | refine Ext.drewN ?_ _ | refine Ext.alloc ?_ _))
    have hwQ : w.heap.size ≤ w.heap.size + 1 + 1 := by omega
    generalize hQ : w.heap.size + 1 + 1 = Q at *
    generalize ((((w.alloc (.cells #[.int .i64 x.kind, .int .u32 x.s.p.toNat, .int .u32 x.s.m.toNat] 39)).alloc (.cells #[.int .i64 y.kind, .int .u32 y.s.p.toNat, .int .u32 y.s.m.toNat] 39)).alloc (.cells #[.int .i64 0, .int .i64 0] 44))) = wB at *
    generalize hBy : w.heap.size + 1 = By at *
    generalize hBx : w.heap.size = Bx at *
    have hQn : Bx ≠ Q ∧ By ≠ Q := by omega
    obtain ⟨hQx, hQy⟩ := hQn
    replace hQ := Lib.hid hQ
    replace hBy := Lib.hid hBy
    replace hBx := Lib.hid hBx
    refine (hask _ hxB).mono ?_
    rintro e w1 ⟨rfl, hx1⟩
    have hxw1 : Ext w w1 := hxB.trans hx1
    have hq1 := (Below.block hx1.bel Q (Array.getElem?_eq_some_iff.1 hq).1).trans hq
    have cx0 := (hx1).cellv bx0
    have cx1 := (hx1).cellv bx1
    have cx2 := (hx1).cellv bx2
    have cy0 := (hx1).cellv by0
    have cy1 := (hx1).cellv by1
    have cy2 := (hx1).cellv by2
    have clx := cell_lt cx0
    have cly := cell_lt cy0
    simp only at clx cly
    clear bx0 bx1 bx2 by0 by1 by2
    clear hx1 hxB hq
    obtain ⟨z0, z1, z2⟩ := frz3 hq1
    have k0 : w1.cell? ⟨Q, 0, none⟩ = some (.int .i64 0) := by simp only [World.cell?]; rw [hq1]; rfl
    have k1 : w1.cell? ⟨Q, 1, none⟩ = some (.int .i64 0) := by simp only [World.cell?]; rw [hq1]; rfl
    go_wp2_with fail
    refine bodyPost_ret (res_cell rfl _ _ Q _ _ (0, 0) _ rfl (heap_set (heap_set hq1 _) _) Try.underlying44 rfl (by kernel_rfl)) rfl ⟨?_, (hxw1.setCell (p := ⟨Q, 0, none⟩) (by rw [hBx.out]; exact hwQ) _).setCell (p := ⟨Q, 1, none⟩) (by rw [hBx.out]; exact hwQ) _⟩
    rfl
end Go.Proofs.Ytkdancoffmhjhaa
