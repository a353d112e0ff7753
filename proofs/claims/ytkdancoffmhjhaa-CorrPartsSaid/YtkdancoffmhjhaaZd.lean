/-
  The reference's Reflexes.
-/
import Derived.Test.YtkdancoffmhjhaaKx
import Derived.Test.YtkdancoffmhjhaaKh
import Derived.Test.YtkdancoffmhjhaaKs
namespace Go.Proofs.Ytkdancoffmhjhaa
open Go.RowKit Go.Shelf
/-- The rows that have been chosen, and those that have not. -/
def Sel (L : List (List Cl × Int)) (os rs : List HCo) : Prop :=
  ((os ++ rs).map kp).Perm L ∧ (rs.map kp).Pairwise (fun p q => cmpCs p.1 q.1 < 0) ∧ (os.map kp).Pairwise (fun p q => cmpT p q < 0) ∧ ∀ o ∈ os, ∀ r ∈ rs, cmpT (kp o) (kp r) < 0
theorem cmpT_of {p q : List Cl × Int} (h : q.2 ≤ p.2) (h2 : q.2 = p.2 → cmpCs p.1 q.1 < 0) : cmpT p q < 0 := by
  unfold cmpT cmpI
  by_cases e : q.2 = p.2
  · rw [e]; simpa using h2 e
  · have : q.2 < p.2 := by omega
    simp [this]
theorem Sel.step {L : List (List Cl × Int)} {os rs : List HCo} {b : Nat} {z : HCo} (h : Sel L os rs) (hz : rs[b]? = some z) (h1 : ∀ (p : Nat) (y : HCo), p < b → rs[p]? = some y → y.cnt < z.cnt) (h2 : ∀ (p : Nat) (y : HCo), rs[p]? = some y → y.cnt ≤ z.cnt) :
    Sel L (os ++ [z]) (rs.take b ++ rs.drop (b + 1)) := by
  obtain ⟨q1, q2, q3, q4⟩ := h
  have hb := (List.getElem?_eq_some_iff.1 hz).1
  have hsp : rs = rs.take b ++ z :: rs.drop (b + 1) := by rw [← drop_cons hz, List.take_append_drop]
  have hmem : ∀ r ∈ rs.take b ++ rs.drop (b + 1), r ∈ rs := fun r hr => by
    rcases List.mem_append.1 hr with h | h
    · exact List.mem_of_mem_take h
    · exact List.mem_of_mem_drop h
  have hzr : ∀ r ∈ rs.take b ++ rs.drop (b + 1), cmpT (kp z) (kp r) < 0 := fun r hr => by
    rcases List.mem_append.1 hr with h | h
    · obtain ⟨i, hi⟩ := List.getElem?_of_mem h
      have hib : i < b := by have := (List.getElem?_eq_some_iff.1 hi).1; rw [List.length_take] at this; omega
      rw [List.getElem?_take, if_pos hib] at hi
      have := h1 i r hib hi
      exact cmpT_of (by show r.cnt ≤ z.cnt; omega) (fun e => by have e : r.cnt = z.cnt := e; omega)
    · obtain ⟨i, hi⟩ := List.getElem?_of_mem h
      rw [List.getElem?_drop] at hi
      refine cmpT_of (h2 _ r hi) fun _ => ?_
      rw [hsp, List.map_append, List.map_cons] at q2
      exact (List.pairwise_cons.1 (List.pairwise_append.1 q2).2.1).1 (kp r) (List.mem_map.2 ⟨r, h, rfl⟩)
  refine ⟨?_, ?_, ?_, ?_⟩
  · refine List.Perm.trans (List.Perm.map _ ?_) q1
    rw [List.append_assoc]
    refine List.Perm.append_left os ?_
    conv => rhs; rw [hsp]
    exact (List.perm_middle (l₁ := rs.take b)).symm
  · rw [hsp, List.map_append, List.map_cons] at q2
    rw [List.map_append]
    obtain ⟨a1, a2, a3⟩ := List.pairwise_append.1 q2
    exact List.pairwise_append.2 ⟨a1, (List.pairwise_cons.1 a2).2, fun x hx y hy => a3 x hx y (List.mem_cons_of_mem _ hy)⟩
  · rw [List.map_append]
    refine List.pairwise_append.2 ⟨q3, List.pairwise_singleton _ _, fun x hx y hy => ?_⟩
    obtain ⟨o, ho, rfl⟩ := List.mem_map.1 hx
    obtain rfl : y = kp z := by simpa using hy
    exact q4 o ho z (List.mem_of_getElem? hz)
  · intro o ho r hr
    rcases List.mem_append.1 ho with h | h
    · exact q4 o h r (hmem r hr)
    · obtain rfl : o = z := by simpa using h
      exact hzr r hr
theorem Sel.done {L : List (List Cl × Int)} {os : List HCo} (h : Sel L os []) : ByCnt L (os.map kp) := ⟨by have := h.1; rwa [List.append_nil] at this, h.2.2.1⟩
theorem OwnK.aside {α : Type} {k : Nat} {enc : α → List Value} {B : Nat} {e : TypeId} {w w' : World} {v : Value} {xs : List α} {row : Option Nat} (h : OwnK k enc B e w v xs) (hg : w.grownBy w' row) (hr : ∀ g, row = some g → v.ownBlock ≠ some g) : OwnK k enc B e w' v xs := by
  obtain ⟨h1, h2⟩ := h
  refine ⟨h1, ?_⟩
  rcases h2 with h2 | ⟨g', cap', cur, hv, hB, hh, r⟩
  · exact .inl h2
  · refine .inr ⟨g', cap', cur, hv, hB, (hg.block g' (Array.getElem?_eq_some_iff.1 hh).1 fun e1 => ?_).trans hh, r⟩
    exact hr g' e1.symm (by rw [hv]; rfl)
theorem OwnK.lt {α : Type} {k : Nat} {enc : α → List Value} {B : Nat} {e : TypeId} {w : World} {v : Value} {xs : List α} (h : OwnK k enc B e w v xs) {g : Nat} (hg : v.ownBlock = some g) : B ≤ g ∧ g < w.heap.size := by
  obtain ⟨h1, h2⟩ := h
  rcases h2 with ⟨rfl, _⟩ | ⟨g', cap', cur, rfl, hB, hh, _⟩
  · cases hg
  · obtain rfl : g' = g := by simpa [Value.ownBlock] using hg
    exact ⟨hB, (Array.getElem?_eq_some_iff.1 hh).1⟩
/-- What stands while the greatest are chosen. -/
structure SelW (w3 : World) (L : List (List Cl × Int)) (N : Nat) (vr vo : Value) (rs os : List HCo) (W : World) : Prop where
  own : OwnK 2 HCo.enc 0 49 W vr rs
  ownO : OwnK 2 HCo.enc w3.heap.size 49 W vo os
  ok : ∀ y ∈ rs, RdC w3 y.a y.n y.cap y.x
  okO : ∀ y ∈ os, RdC w3 y.a y.n y.cap y.x
  apart : ∀ g, vo.ownBlock = some g → vr.ownBlock ≠ some g
  sel : Sel L os rs
  len : os.length + rs.length = N
  ext : Ext w3 W
theorem SelW.kept {w3 : World} {L : List (List Cl × Int)} {N : Nat} {vr vo : Value} {rs os : List HCo} {W W' : World} (h : SelW w3 L N vr vo rs os W) (hx : Ext W W') : SelW w3 L N vr vo rs os W' :=
  ⟨h.own.kept hx, h.ownO.kept hx, h.ok, h.okO, h.apart, h.sel, h.len, h.ext.trans hx⟩
def slen : Value → Nat
  | .slice _ n _ => n
  | _ => 0
set_option maxHeartbeats 4000000 in
set_option maxRecDepth 20000 in
theorem rreflexes_any (a : Option Addr) (n cap : Nat) (l : List HCo) (f t : Int) (x : Cl) (w : World) (hr : RdH w a n cap l) :
    Calls Try.prog 25 #[.slice a n cap, .int .i64 f, .int .i64 t, clV x] w (ReflRet l f t x w) := by
  unfold ReflRet
  have hask := fun W (z : Ext w W) => rasked_any a n cap l f t x x W (hr.ext z)
  have hl := hr.rd.len
  have hxC : Ext w (w.alloc (.cells #[.int .i64 x.kind, .int .u32 x.s.p.toNat, .int .u32 x.s.m.toNat] 39)) := (by repeat (first | exact Ext.refl _ | refine Ext.drew ?_ | refine Ext.drewN ?_ _ | refine Ext.alloc ?_ _))
  by_cases h0 : askE l f t x x = 0
  · obtain ⟨hE, hf1, hf2, ht1, ht2, _⟩ := askE_zero h0
    obtain ⟨fn, rfl⟩ : ∃ fn : Nat, f = fn := ⟨f.toNat, by omega⟩
    obtain ⟨tn, rfl⟩ : ∃ tn : Nat, t = tn := ⟨t.toNat, by omega⟩
    obtain ⟨hlim, hcor⟩ := chkE_all hE
    have hfl : [l].flatten = l := by simp
    rw [hfl] at hcor
    have hlen := (hlim l (by simp)).1
    rw [hl] at hlen
    have hwid : ∀ z ∈ l, z.n = widH l ∧ z.n ≤ 64 := fun z hz => by have := (hcor z hz).1; have h2 := (hlim l (by simp)).2 z hz; omega
    have hf3 : fn < widH l := by omega
    have ht3 : tn < widH l := by omega
    have hcnt : ∀ z ∈ l, 0 ≤ z.cnt ∧ z.cnt ≤ 2147483647 := fun z hz => by have := hcor z hz; omega
    have hyy : ∀ W, Ext w W → ∀ z ∈ facL fn tn x l, RdC W z.a z.n z.cap z.x ∧ z.n ≤ 64 ∧ 0 ≤ z.cnt ∧ z.cnt ≤ 2147483647 := fun W hW z hz => by
      obtain ⟨r1, r2, y, hy, r3, r4, r5⟩ := facL_rd (hr.ext hW) (fun y hy => by have := (hwid y hy).1; omega) z hz
      exact ⟨r1, by omega, by rw [r3]; exact (hcnt y hy).1, by rw [r3]; exact (hcnt y hy).2⟩
    have hfl2 : ∀ j, (facL fn tn x (l.take j)).length ≤ j := fun j => by unfold facL; rw [List.length_map]; exact Nat.le_trans (List.length_filter_le _ _) (by rw [List.length_take]; omega)
    rw [h0] at hask
    rw [h0, Int.toNat_natCast, Int.toNat_natCast]
    replace h0 := Lib.hid h0
    replace hwid := Lib.hid hwid
    replace hyy := Lib.hid hyy
    replace hfl2 := Lib.hid hfl2
    replace hl := Lib.hid hl
    generalize widH l = Wd at *
    have hecl := eql_cl
    clear hE hlim hcor hfl hcnt hf1 hf2 ht1 ht2
    go_enter Try.func25, Try.ntmps25
    go_wp2_with fail
    have bx0 : (w.alloc (.cells #[.int .i64 x.kind, .int .u32 x.s.p.toNat, .int .u32 x.s.m.toNat] 39)).cell? ⟨w.heap.size, 0, none⟩ = some (.int .i64 x.kind) := by go_simp
    have bx1 : (w.alloc (.cells #[.int .i64 x.kind, .int .u32 x.s.p.toNat, .int .u32 x.s.m.toNat] 39)).cell? ⟨w.heap.size, 1, none⟩ = some (.int .u32 x.s.p.toNat) := by go_simp
    have bx2 : (w.alloc (.cells #[.int .i64 x.kind, .int .u32 x.s.p.toNat, .int .u32 x.s.m.toNat] 39)).cell? ⟨w.heap.size, 2, none⟩ = some (.int .u32 x.s.m.toNat) := by go_simp
    refine (hask _ hxC).mono ?_
    rintro e w1 ⟨rfl, hx1⟩
    have hxw1 : Ext w w1 := hxC.trans hx1
    have dx0 := hx1.cellv bx0
    have dx1 := hx1.cellv bx1
    have dx2 := hx1.cellv bx2
    have lx := cell_lt dx0
    simp only at lx
    clear hask bx0 bx1 bx2 hxC hx1
    generalize hBx : w.heap.size = Bx at *
    replace hBx := Lib.hid hBx
    go_wp2_with fail
    go_loopw [11, 12] (fun v i wr => ∃ j : Nat, j ≤ n ∧ i = .int .i64 j ∧ OwnK 2 HCo.enc w1.heap.size 49 wr v (facL fn tn x (l.take j)) ∧ Ext w1 wr) (fun _ i _ => n - (intOf i).toNat)
    case atStart => exact ⟨0, Nat.zero_le _, rfl, by rw [List.take_zero]; exact OwnK.nil _ _ _, Ext.refl _⟩
    case round =>
      obtain ⟨j, hj, rfl, hown, hxr⟩ := hrel
      by_cases hlt : j < n
      · obtain ⟨b, off, ⟨ya, yn, yc, ycnt, yx⟩, rfl, hy, hb, hc0, hc1, hcy⟩ := (hr.ext (hxw1.trans hxr)).at hlt
        simp only at hc0 hc1 hcy
        obtain ⟨hyn, hy64⟩ := hwid.out _ (List.mem_of_getElem? hy.out)
        simp only at hyn hy64
        subst hyn
        obtain ⟨bc, oc, cf, rfl, hcf, hbc, p0, p1, p2⟩ := hcy.cl hf3
        obtain ⟨_, _, ct, he, hct, _, q0, q1, q2⟩ := hcy.cl ht3
        cases he
        have hji : (j : Int) < (n : Int) := by omega
        have hfi : (fn : Int) < (yn : Int) := by omega
        have hti : (tn : Int) < (yn : Int) := by omega
        have hgf : yx.getD fn nulC = cf := by rw [List.getD_eq_getElem?_getD, hcf.out]; rfl
        have hgt : yx.getD tn nulC = ct := by rw [List.getD_eq_getElem?_getD, hct.out]; rfl
        have hsB : selB fn tn x ⟨some ⟨bc, oc, none⟩, yn, yc, ycnt, yx⟩ = (decide (cf = x) && decide (¬ ct.kind = 0)) := by unfold selB; simp only; rw [hgf, hgt]
        have hsu := facL_succ (f := fn) (t := tn) (x := x) hy.out
        rw [hsB] at hsu
        replace hsu := Lib.hid hsu
        clear hgf hgt hsB
        have ex0 := hxr.cellv dx0
        have ex1 := hxr.cellv dx1
        have ex2 := hxr.cellv dx2
        have elx := cell_lt ex0
        simp only at elx
        have r0 := fun z : ExtOf wr => z.cell hc0
        have r1 := fun z : ExtOf wr => z.cell p0
        have r2 := fun z : ExtOf wr => z.cell p1
        have r3 := fun z : ExtOf wr => z.cell p2
        have r4 := fun z : ExtOf wr => z.cell ex0
        have r5 := fun z : ExtOf wr => z.cell ex1
        have r6 := fun z : ExtOf wr => z.cell ex2
        have r7 := fun z : ExtOf wr => z.cell q0
        by_cases e1 : cf = x
        · have d1 : decide (cf = x) = true := by simpa using e1
          by_cases e2 : ct.kind = 0
          · have d2 : (ct.kind != 0) = false := by simpa using e2
            have hnew : Hid (facL fn tn x (l.take (j + 1)) = facL fn tn x (l.take j)) := Lib.hid (by rw [hsu.out]; simp [e2])
            replace e1 := Lib.hid e1
            replace e2 := Lib.hid e2
            go_wp2_with fail
            (refine wp_region_qx (by kernel_rfl) (by kernel_rfl) ?_
             repeat (go_big_quiet_step (fail))
             refine wpQuiet_nil ?_
             intro wq hw'
             have hxq := ext_of_ex hw'
             clear hw')
            clear r0 r1 r2 r3 r4 r5 r6 r7
            go_wp2_with fail
            (first | exact ⟨⟨j + 1, by omega, by go_num, by rw [hnew.out]; exact hown.kept hxq, hxr.trans hxq⟩, (by simp [intOf]; omega)⟩ | (go_roundw; case rel => exact ⟨j + 1, by omega, by go_num, by rw [hnew.out]; exact hown.kept hxq, hxr.trans hxq⟩; case measure => exact (by simp [intOf]; omega)))
          · have d2 : (ct.kind != 0) = true := by simpa using e2
            have hnew : Hid (facL fn tn x (l.take (j + 1)) = facL fn tn x (l.take j) ++ [faceH tn ⟨some ⟨bc, oc, none⟩, yn, yc, ycnt, yx⟩]) := Lib.hid (by rw [hsu.out]; simp [e1, e2])
            replace e1 := Lib.hid e1
            replace e2 := Lib.hid e2
            go_wp2_with fail
            (refine wp_region_qx (by kernel_rfl) (by kernel_rfl) ?_
             repeat (go_big_quiet_step (fail))
             refine wpQuiet_nil ?_
             intro wq hw'
             have hxq := ext_of_ex hw'
             clear hw')
            clear r0 r1 r2 r3 r4 r5 r6 r7
            have hxr2 := hxr.trans hxq
            have hownq := hown.kept hxq
            have hycl := hcy.le
            obtain ⟨_, _, y', he, hy', _, g0, g1, _⟩ := (hr.ext hxw1).at hlt
            cases he
            obtain rfl : _ = y' := Option.some.inj (hy.out.symm.trans hy'.out)
            simp only at g0 g1
            obtain ⟨T1, hT1⟩ : ∃ T1, T1 = tn + 1 := ⟨_, rfl⟩
            have eT1 : T1 - tn = 1 := by omega
            have eT2 : (tn : Int) + 1 = (T1 : Int) := by omega
            have hwT : IntKind.i64.wrap (T1 : Int) = (T1 : Int) := IntWalk.i64_in _ (by omega)
            have hsl := fun w => run_sub_lh (P := Try.prog) elem_cls size_cls (some ⟨bc, oc, none⟩) yn yc tn T1 (by omega) (by omega) w
            obtain ⟨ao, no, co, hno, rfl, hro⟩ := OwnK.rdn HCo.len hownq
            have hno2 : no ≤ 60000 := by have := hfl2.out j; omega
            replace hno := Lib.hid hno
            replace hT1 := Lib.hid hT1
            rw [eT1] at hsl
            have hS0 : (fun w' : World => Ext w1 w') wq.drew := hxr2.drew
            clear hro hxq hcy p0 p1 p2 q0 q1 q2 ex0 ex1 ex2
            go_wp2_with fail
            refine wp_region_F (fun w' => Ext w1 w') [0, 1, 2, 3, 4, 5, 6, 7, 8, 9, 10, 11, 12, 13, 14] (by kernel_rfl) ?_
            show wpF _ _ _ _ _ _ 19 _ _ _
            refine wpF_take (i := 0) (v := (.slice ao no co)) rfl (by kernel_rfl) (by kernel_rfl) (by kernel_rfl) (by kernel_rfl) (fun _ _ _ h => h) (.inl ⟨rfl, fun W' hW' => ?_⟩) hS0 ?_
            · (have s1 := Ext.cellv hW' g0
               have s2 := Ext.cellv hW' g1
               go_simp)
            refine wpF_take (i := 1) (v := (.slice (some ⟨b, off, none⟩) n cap)) rfl (by kernel_rfl) (by kernel_rfl) (by kernel_rfl) (by kernel_rfl) (fun _ _ _ h => h) (.inl ⟨rfl, fun W' hW' => ?_⟩) hS0 ?_
            · (have s1 := Ext.cellv hW' g0
               have s2 := Ext.cellv hW' g1
               go_simp)
            refine wpF_take (i := 2) (v := (.int .i64 j)) rfl (by kernel_rfl) (by kernel_rfl) (by kernel_rfl) (by kernel_rfl) (fun _ _ _ h => h) (.inl ⟨rfl, fun W' hW' => ?_⟩) hS0 ?_
            · (have s1 := Ext.cellv hW' g0
               have s2 := Ext.cellv hW' g1
               go_simp)
            refine wpF_take (i := 3) (v := (.pointer (some ⟨b, off + j * 2, none⟩))) rfl (by kernel_rfl) (by kernel_rfl) (by kernel_rfl) (by kernel_rfl) (fun _ _ _ h => h) (.inl ⟨rfl, fun W' hW' => ?_⟩) hS0 ?_
            · (have s1 := Ext.cellv hW' g0
               have s2 := Ext.cellv hW' g1
               go_simp)
            refine wpF_take (i := 4) (v := (.pointer (some ⟨b, off + j * 2, none⟩))) rfl (by kernel_rfl) (by kernel_rfl) (by kernel_rfl) (by kernel_rfl) (fun _ _ _ h => h) (.inl ⟨rfl, fun W' hW' => ?_⟩) hS0 ?_
            · (have s1 := Ext.cellv hW' g0
               have s2 := Ext.cellv hW' g1
               go_simp)
            refine wpF_take (i := 5) (v := (.slice (some ⟨bc, oc, none⟩) yn yc)) rfl (by kernel_rfl) (by kernel_rfl) (by kernel_rfl) (by kernel_rfl) (fun _ _ _ h => h) (.inl ⟨rfl, fun W' hW' => ?_⟩) hS0 ?_
            · (have s1 := Ext.cellv hW' g0
               have s2 := Ext.cellv hW' g1
               go_simp)
            refine wpF_take (i := 6) (v := (.int .i64 tn)) rfl (by kernel_rfl) (by kernel_rfl) (by kernel_rfl) (by kernel_rfl) (fun _ _ _ h => h) (.inl ⟨rfl, fun W' hW' => ?_⟩) hS0 ?_
            · (have s1 := Ext.cellv hW' g0
               have s2 := Ext.cellv hW' g1
               go_simp)
            refine wpF_take (i := 7) (v := (.int .i64 tn)) rfl (by kernel_rfl) (by kernel_rfl) (by kernel_rfl) (by kernel_rfl) (fun _ _ _ h => h) (.inl ⟨rfl, fun W' hW' => ?_⟩) hS0 ?_
            · (have s1 := Ext.cellv hW' g0
               have s2 := Ext.cellv hW' g1
               go_simp)
            refine wpF_take (i := 8) (v := (.int .i64 (T1 : Int))) rfl (by kernel_rfl) (by kernel_rfl) (by kernel_rfl) (by kernel_rfl) (fun _ _ _ h => h) (.inl ⟨rfl, fun W' hW' => ?_⟩) hS0 ?_
            · (have s1 := Ext.cellv hW' g0
               have s2 := Ext.cellv hW' g1
               go_simp)
            refine wpF_take (i := 9) (v := (.slice (subA 3 (some ⟨bc, oc, none⟩) yc tn) 1 (yc - tn))) rfl (by kernel_rfl) (by kernel_rfl) (by kernel_rfl) (by kernel_rfl) (fun _ _ _ h => h) (.inl ⟨rfl, fun W' hW' => ?_⟩) hS0 ?_
            · (have s1 := Ext.cellv hW' g0
               have s2 := Ext.cellv hW' g1
               go_simp)
            refine wpF_take (i := 10) (v := (.slice (some ⟨b, off, none⟩) n cap)) rfl (by kernel_rfl) (by kernel_rfl) (by kernel_rfl) (by kernel_rfl) (fun _ _ _ h => h) (.inl ⟨rfl, fun W' hW' => ?_⟩) hS0 ?_
            · (have s1 := Ext.cellv hW' g0
               have s2 := Ext.cellv hW' g1
               go_simp)
            refine wpF_take (i := 11) (v := (.int .i64 j)) rfl (by kernel_rfl) (by kernel_rfl) (by kernel_rfl) (by kernel_rfl) (fun _ _ _ h => h) (.inl ⟨rfl, fun W' hW' => ?_⟩) hS0 ?_
            · (have s1 := Ext.cellv hW' g0
               have s2 := Ext.cellv hW' g1
               go_simp)
            refine wpF_take (i := 12) (v := (.pointer (some ⟨b, off + j * 2, none⟩))) rfl (by kernel_rfl) (by kernel_rfl) (by kernel_rfl) (by kernel_rfl) (fun _ _ _ h => h) (.inl ⟨rfl, fun W' hW' => ?_⟩) hS0 ?_
            · (have s1 := Ext.cellv hW' g0
               have s2 := Ext.cellv hW' g1
               go_simp)
            refine wpF_take (i := 13) (v := (.pointer (some ⟨b, off + j * 2 + 1, none⟩))) rfl (by kernel_rfl) (by kernel_rfl) (by kernel_rfl) (by kernel_rfl) (fun _ _ _ h => h) (.inl ⟨rfl, fun W' hW' => ?_⟩) hS0 ?_
            · (have s1 := Ext.cellv hW' g0
               have s2 := Ext.cellv hW' g1
               go_simp)
            refine wpF_take (i := 14) (v := (.int .i64 ycnt)) rfl (by kernel_rfl) (by kernel_rfl) (by kernel_rfl) (by kernel_rfl) (fun _ _ _ h => h) (.inl ⟨rfl, fun W' hW' => ?_⟩) hS0 ?_
            · (have s1 := Ext.cellv hW' g0
               have s2 := Ext.cellv hW' g1
               go_simp)
            refine wpF_step (k := 15) rfl (by kernel_rfl) rfl fun K15 hK15 => ?_
            go_simp
            refine hK15 _ _ hS0 ?_
            refine wpF_step (k := 16) rfl (by kernel_rfl) rfl fun K16 hK16 => ?_
            go_simp
            have hsA := Ext.alloc1 wq.drew (.cells #[.slice (subA 3 (some ⟨bc, oc, none⟩) yc tn) 1 (yc - tn), .int .i64 ycnt] 49)
            refine hK16 _ _ (hS0.trans hsA) ?_
            refine wpF_step (k := 17) rfl (by kernel_rfl) rfl fun K17 hK17 => ?_
            refine step_of_list2 rfl ?_
            refine wp_app1 w1 wq.drew (faceH tn ⟨some ⟨bc, oc, none⟩, yn, yc, ycnt, yx⟩) rfl _ _ 24 rfl 49 Try.underlying24 info_corr rfl (by decide) _ _ rfl (hownq.kept ((Ext.refl _).drew)) hxr2.drew rfl rfl (HCo.one _) (by rw [← hno.out]; omega) (by rw [← hno.out]; unfold maxLen; omega) ?_
            intro v9 w9 ho9 hx9 _
            refine hK17 _ _ hx9 ?_
            refine wpF_step (k := 18) rfl (by kernel_rfl) rfl fun K18 hK18 => ?_
            go_simp
            refine hK18 _ _ hx9 ?_
            refine ⟨by kernel_rfl, ?_⟩
            go_wp2_with fail
            (first | exact ⟨⟨j + 1, by omega, by go_num, by rw [hnew.out]; exact ho9, hx9⟩, (by simp [intOf]; omega)⟩ | (go_roundw; case rel => exact ⟨j + 1, by omega, by go_num, by rw [hnew.out]; exact ho9, hx9⟩; case measure => exact (by simp [intOf]; omega)))
        · have d1 : decide (cf = x) = false := by simpa using e1
          have hnew : Hid (facL fn tn x (l.take (j + 1)) = facL fn tn x (l.take j)) := Lib.hid (by rw [hsu.out]; simp [e1])
          replace e1 := Lib.hid e1
          go_wp2_with fail
          (refine wp_region_qx (by kernel_rfl) (by kernel_rfl) ?_
           repeat (go_big_quiet_step (fail))
           refine wpQuiet_nil ?_
           intro wq hw'
           have hxq := ext_of_ex hw'
           clear hw')
          clear r0 r1 r2 r3 r4 r5 r6 r7
          go_wp2_with fail
          (first | exact ⟨⟨j + 1, by omega, by go_num, by rw [hnew.out]; exact hown.kept hxq, hxr.trans hxq⟩, (by simp [intOf]; omega)⟩ | (go_roundw; case rel => exact ⟨j + 1, by omega, by go_num, by rw [hnew.out]; exact hown.kept hxq, hxr.trans hxq⟩; case measure => exact (by simp [intOf]; omega)))
      · obtain rfl : j = n := by omega
        rw [List.take_of_length_le (by rw [hl.out]; exact Nat.le_refl _)] at hown
        have hlenF : (facL fn tn x l).length ≤ 4096 := by have := hfl2.out j; rw [List.take_of_length_le (by rw [hl.out]; exact Nat.le_refl _)] at this; omega
        obtain ⟨af, nf, cf, hnf, rfl, hrf⟩ := OwnK.rdn HCo.len hown
        have hRf : RdH wr af nf cf (facL fn tn x l) := ⟨hrf, fun y hy => (hyy.out _ (hxw1.trans hxr) y hy).1⟩
        have hsm := rsum_any af nf cf (facL fn tn x l) wr hRf (by omega) (fun y hy => (hyy.out _ (hxw1.trans hxr) y hy).2.1) (fun y hy => (hyy.out _ (hxw1.trans hxr) y hy).2.2)
        have hxwr := hxw1.trans hxr
        unfold SumRet at hsm
        replace hnf := Lib.hid hnf
        replace hlenF := Lib.hid hlenF
        clear hRf hrf hown dx0 dx1 dx2 hecl lx
        go_wp2_with fail
        refine hsm.mono ?_
        rintro e w3 ⟨L, hL, v, hs, rfl, hown3, hk, hx3⟩
        have hxw3 := hxwr.trans hx3
        clear hsm hx3 hxwr hxr
        by_cases h7 : sumE L = 0
        · rw [if_pos h7] at hk
          rw [h7]
          obtain ⟨N, hN⟩ : ∃ N, N = hs.length := ⟨_, rfl⟩
          have hN4 : N ≤ 4096 := by
            have h1 := SumK.len_le hL
            rw [← hk, List.length_map, List.length_map] at h1
            have := hlenF.out; omega
          have hsel0 : Sel L [] hs := ⟨by rw [List.nil_append, hk], by rw [hk]; exact hL.1, List.Pairwise.nil, fun o ho => (by cases ho)⟩
          have hS0 : SelW w3 L N v (.slice none 0 0) hs [] w3 := ⟨OwnK.base hown3.own (Nat.zero_le _), OwnK.nil _ _ _, hown3.ok, fun y hy => (by cases hy), fun g hg => (by cases hg), hsel0, by rw [hN]; simp, Ext.refl _⟩
          replace hN := Lib.hid hN
          replace h7 := Lib.hid h7
          replace hL := Lib.hid hL
          clear hsel0 hk hown3
          go_wp2_with fail
          go_loopw [11, 13] (fun vr vo wr => ∃ rs os, SelW w3 L N vr vo rs os wr) (fun vr _ _ => slen vr)
          case atStart => exact ⟨hs, [], hS0⟩
          case round =>
            obtain ⟨rs, os, hS⟩ := hrel
            obtain ⟨ar, nr, cr, hnr, rfl, hrr⟩ := OwnK.rdn HCo.len hS.own
            have hlenS := hS.len
            have hnN : nr ≤ N ∧ os.length + nr = N := by omega
            by_cases hpos : 0 < nr
            · obtain ⟨g, rfl⟩ : ∃ g, ar = some ⟨g, 0, none⟩ := by
                obtain ⟨g, c', he⟩ := OwnK.hdr hS.own (by omega)
                cases he; exact ⟨g, rfl⟩
              have hrH : RdH wr (some ⟨g, 0, none⟩) nr cr rs := ⟨hrr, fun y hy => (hS.ok y hy).ext hS.ext⟩
              obtain ⟨z0, hz0⟩ : ∃ z0, rs[0]? = some z0 := ⟨rs[0]'(by omega), List.getElem?_eq_getElem (by omega)⟩
              have hcr := hrr.le
              have hposi : (0 : Int) < (nr : Int) := by omega
              replace hz0 := Lib.hid hz0
              replace hnr := Lib.hid hnr
              replace hlenS := Lib.hid hlenS
              clear hrr hS0
              obtain ⟨wo, rfl⟩ : ∃ wo : World, wo = wr := ⟨_, rfl⟩
              go_wp2_with fail
              go_loopw [14, 15] (fun bv iv wr => ∃ (b j : Nat) (z : HCo), b < nr ∧ 1 ≤ j ∧ j ≤ nr ∧ bv = .int .i64 b ∧ iv = .int .i64 j ∧ Hid (rs[b]? = some z) ∧ Hid (∀ (p : Nat) (y : HCo), p < b → rs[p]? = some y → y.cnt < z.cnt) ∧ Hid (∀ (p : Nat) (y : HCo), p < j → rs[p]? = some y → y.cnt ≤ z.cnt) ∧ Ext wo wr) (fun _ iv _ => nr - (intOf iv).toNat)
              case atStart => exact ⟨0, 1, z0, hpos, Nat.le_refl _, hpos, rfl, rfl, hz0, Lib.hid (fun p y h => absurd h (Nat.not_lt_zero _)), Lib.hid (fun p y h hy => by obtain rfl : p = 0 := (by omega); rw [hz0.out] at hy; cases hy; exact Int.le_refl _), Ext.refl _⟩
              case round =>
                obtain ⟨b, j, z, hb, hj1, hj, rfl, rfl, hz, hlo, hle, hxq0⟩ := hrel
                have hbi : (b : Int) < (nr : Int) := by omega
                by_cases hlt2 : j < nr
                · have hji : (j : Int) < (nr : Int) := by omega
                  obtain ⟨_, _, y, he, hy, _, y0, y1, _⟩ := (hrH.ext hxq0).at hlt2
                  cases he
                  obtain ⟨_, _, z', he, hz', _, z0', z1, _⟩ := (hrH.ext hxq0).at hb
                  cases he
                  obtain rfl : z = z' := Option.some.inj (hz.out.symm.trans hz'.out)
                  simp only [Nat.zero_add] at y1 z1
                  have r0 := fun z : ExtOf wr => z.cell y1
                  have r1 := fun z : ExtOf wr => z.cell z1
                  clear hz' y0 z0'
                  by_cases hg : z.cnt < y.cnt
                  · have hd : decide (z.cnt < y.cnt) = true := by simpa using hg
                    have h1 : Hid (∀ (p : Nat) (u : HCo), p < j → rs[p]? = some u → u.cnt < y.cnt) := Lib.hid fun p u hp hu => by have := hle.out p u hp hu; omega
                    have h2 : Hid (∀ (p : Nat) (u : HCo), p < j + 1 → rs[p]? = some u → u.cnt ≤ y.cnt) := Lib.hid fun p u hp hu => by
                      by_cases e : p = j
                      · subst e; rw [hy.out] at hu; cases hu; exact Int.le_refl _
                      · have := hle.out p u (by omega) hu; omega
                    replace hg := Lib.hid hg
                    go_wp2_with fail
                    refine wp_region_qx (by kernel_rfl) (by kernel_rfl) ?_
                    repeat (go_big_quiet_step (fail))
                    refine wpQuiet_nil ?_
                    intro wk hw'
                    have hxq := ext_of_ex hw'
                    clear hw' r0 r1
                    go_wp2_with fail
                    (first | exact ⟨⟨j, j + 1, y, hlt2, by omega, by omega, rfl, by go_num, hy, h1, h2, hxq0.trans hxq⟩, (by simp [intOf]; omega)⟩ | (go_roundw; case rel => exact ⟨j, j + 1, y, hlt2, by omega, by omega, rfl, by go_num, hy, h1, h2, hxq0.trans hxq⟩; case measure => exact (by simp [intOf]; omega)))
                  · have hd : decide (z.cnt < y.cnt) = false := by simpa using hg
                    have h2 : Hid (∀ (p : Nat) (u : HCo), p < j + 1 → rs[p]? = some u → u.cnt ≤ z.cnt) := Lib.hid fun p u hp hu => by
                      by_cases e : p = j
                      · subst e; rw [hy.out] at hu; cases hu; omega
                      · exact hle.out p u (by omega) hu
                    replace hg := Lib.hid hg
                    go_wp2_with fail
                    refine wp_region_qx (by kernel_rfl) (by kernel_rfl) ?_
                    repeat (go_big_quiet_step (fail))
                    refine wpQuiet_nil ?_
                    intro wk hw'
                    have hxq := ext_of_ex hw'
                    clear hw' r0 r1
                    go_wp2_with fail
                    (first | exact ⟨⟨b, j + 1, z, hb, by omega, by omega, rfl, by go_num, hz, hlo, h2, hxq0.trans hxq⟩, (by simp [intOf]; omega)⟩ | (go_roundw; case rel => exact ⟨b, j + 1, z, hb, by omega, by omega, rfl, by go_num, hz, hlo, h2, hxq0.trans hxq⟩; case measure => exact (by simp [intOf]; omega)))
                · have hSq := hS.kept hxq0
                  have hSel := hS.sel.step hz.out hlo.out (fun p y hy => hle.out p y (by have := (List.getElem?_eq_some_iff.1 hy).1; have := hnr.out; omega) hy)
                  obtain ⟨_, _, z', he, hz', _, z0', z1, _⟩ := (hrH.ext hxq0).at hb
                  cases he
                  obtain rfl : z = z' := Option.some.inj (hz.out.symm.trans hz'.out)
                  simp only [Nat.zero_add] at z0' z1
                  obtain ⟨B1, hB1⟩ : ∃ B1, B1 = b + 1 := ⟨_, rfl⟩
                  have eB1 : (b : Int) + 1 = (B1 : Int) := by omega
                  have hwB1 : IntKind.i64.wrap (B1 : Int) = B1 := IntWalk.i64_in _ (by omega)
                  have hB1n : B1 ≤ nr := by omega
                  rw [← hB1] at hSel
                  have hlen2 : (rs.take b ++ rs.drop B1).length + 1 = nr := by rw [List.length_append, List.length_take, List.length_drop]; have := hnr.out; omega
                  replace hSel := Lib.hid hSel
                  replace hB1 := Lib.hid hB1
                  replace hlen2 := Lib.hid hlen2
                  clear hz'
                  have hol := hnN.2
                  go_wp2_with (at_builtin; refine wp_app1 w3 wr z rfl _ _ 24 rfl 49 Try.underlying24 info_corr rfl (by decide) _ _ rfl hSq.ownO hSq.ext rfl rfl (HCo.one z) (by omega) (by unfold maxLen; omega) ?_; intro v9 w9 ho9 hx9 hg9)
                  have hr9 : OwnK 2 HCo.enc 0 49 w9 (.slice (some ⟨g, 0, none⟩) nr cr) rs := (hSq.own.kept (Ext.alloc1 _ _)).aside hg9 (fun g' e => hS.apart g' e)
                  have hrd9 := OwnK.rdv HCo.len hr9
                  have hrd1 : ∀ W, Ext w9 W → RdK 2 HCo.enc W (subA 2 (some ⟨g, 0, none⟩) cr 0) b cr (rs.take b) := fun W z => by
                    have := (hrd9.ext z).sub (l := 0) (m := b) (Nat.zero_le _) (Nat.le_of_lt hb)
                    rwa [List.drop_zero, Nat.sub_zero, Nat.sub_zero] at this
                  have hrd2 : ∀ W, Ext w9 W → RdK 2 HCo.enc W (subA 2 (some ⟨g, 0, none⟩) cr B1) (nr - B1) (cr - B1) (rs.drop B1) := fun W z => by
                    have := (hrd9.ext z).sub (l := B1) (m := nr) hB1n (Nat.le_refl _)
                    rwa [List.take_of_length_le (by rw [hnr.out]; exact Nat.le_refl _)] at this
                  have hsl1 := fun w => run_sub_h (P := Try.prog) elem_corrs size_corrs (some ⟨g, 0, none⟩) nr cr b (by omega) w
                  have hsl2 := fun w => run_sub_l (P := Try.prog) elem_corrs size_corrs (some ⟨g, 0, none⟩) nr cr B1 hB1n w
                  have hownR : OwnK 2 HCo.enc w9.drew.heap.size 49 (w9.drew.alloc (.cells #[] 49)) (.slice (some ⟨w9.drew.heap.size, 0, none⟩) 0 0) [] := OwnK.base (World.ownsRow_lit w9.drew #[] 0 (Nat.le_refl _) (Nat.zero_le _) rfl) (Nat.le_refl _)
                  have hS9 : Ext w9 w9.drew := (Ext.refl _).drew
                  have hA1 : Ext w9 (w9.drew.alloc (.cells #[] 49)) := hS9.trans (Ext.alloc1 _ _)
                  clear z0' z1 hr9 hrd9 hg9
                  go_wp2_with fail
                  refine wp_region_F (fun w' => Ext w9 w') [1, 2, 3, 5, 6, 7, 8] (by kernel_rfl) ?_
                  show wpF _ _ _ _ _ _ 11 _ _ _
                  refine wpF_take (i := 1) (v := (.slice (some ⟨g, 0, none⟩) nr cr)) rfl (by kernel_rfl) (by kernel_rfl) (by kernel_rfl) (by kernel_rfl) (fun _ _ _ h => h) (.inl ⟨rfl, fun W' hW' => ?_⟩) hS9 ?_
                  · go_simp
                  refine wpF_take (i := 2) (v := (.int .i64 b)) rfl (by kernel_rfl) (by kernel_rfl) (by kernel_rfl) (by kernel_rfl) (fun _ _ _ h => h) (.inl ⟨rfl, fun W' hW' => ?_⟩) hS9 ?_
                  · go_simp
                  refine wpF_take (i := 3) (v := (.slice (subA 2 (some ⟨g, 0, none⟩) cr 0) b cr)) rfl (by kernel_rfl) (by kernel_rfl) (by kernel_rfl) (by kernel_rfl) (fun _ _ _ h => h) (.inl ⟨rfl, fun W' hW' => ?_⟩) hS9 ?_
                  · go_simp
                  refine wpF_take (i := 5) (v := (.slice (some ⟨g, 0, none⟩) nr cr)) rfl (by kernel_rfl) (by kernel_rfl) (by kernel_rfl) (by kernel_rfl) (fun _ _ _ h => h) (.inl ⟨rfl, fun W' hW' => ?_⟩) hS9 ?_
                  · go_simp
                  refine wpF_take (i := 6) (v := (.int .i64 b)) rfl (by kernel_rfl) (by kernel_rfl) (by kernel_rfl) (by kernel_rfl) (fun _ _ _ h => h) (.inl ⟨rfl, fun W' hW' => ?_⟩) hS9 ?_
                  · go_simp
                  refine wpF_take (i := 7) (v := (.int .i64 B1)) rfl (by kernel_rfl) (by kernel_rfl) (by kernel_rfl) (by kernel_rfl) (fun _ _ _ h => h) (.inl ⟨rfl, fun W' hW' => ?_⟩) hS9 ?_
                  · go_simp
                  refine wpF_take (i := 8) (v := (.slice (subA 2 (some ⟨g, 0, none⟩) cr B1) (nr - B1) (cr - B1))) rfl (by kernel_rfl) (by kernel_rfl) (by kernel_rfl) (by kernel_rfl) (fun _ _ _ h => h) (.inl ⟨rfl, fun W' hW' => ?_⟩) hS9 ?_
                  · go_simp
                  refine wpF_step (k := 0) rfl (by kernel_rfl) rfl fun K0 hK0 => ?_
                  go_simp
                  refine hK0 _ _ hA1 ?_
                  refine wpF_step (k := 4) rfl (by kernel_rfl) rfl fun K4 hK4 => ?_
                  refine step_of_list2 rfl ?_
                  refine wp_appN w9.drew _ (rs.take b) rfl _ _ 24 rfl 49 Try.underlying24 info_corr rfl (by decide) _ _ rfl hownR (Ext.alloc1 _ _) _ b cr rfl (hrd1 _ hA1) HCo.len HCo.one (by simp; omega) (by unfold maxLen; simp; omega) ?_
                  intro v4 w4 ho4 hx4 _
                  rw [List.nil_append] at ho4
                  have hx94 := hS9.trans hx4
                  refine hK4 _ _ hx94 ?_
                  refine wpF_step (k := 9) rfl (by kernel_rfl) rfl fun K9 hK9 => ?_
                  refine step_of_list2 rfl ?_
                  have hlt4 : Hid ((rs.take b).length = b) := Lib.hid (by rw [List.length_take]; have := hnr.out; omega)
                  refine wp_appN w9.drew _ (rs.drop B1) rfl _ _ 24 rfl 49 Try.underlying24 info_corr rfl (by decide) _ _ rfl ho4 hx4 _ (nr - B1) (cr - B1) rfl (hrd2 _ hx94) HCo.len HCo.one (by rw [hlt4.out]; omega) (by rw [hlt4.out]; unfold maxLen; omega) ?_
                  intro v10 w10 ho10 hx10 _
                  have hx910 := hS9.trans hx10
                  refine hK9 _ _ hx910 ?_
                  refine wpF_step (k := 10) rfl (by kernel_rfl) rfl fun K10 hK10 => ?_
                  go_simp
                  refine hK10 _ _ hx910 ?_
                  refine ⟨by kernel_rfl, ?_⟩
                  obtain ⟨a10, n10, c10, hn10, rfl, _⟩ := OwnK.rdn HCo.len ho10
                  have hn10 : n10 < nr := by rw [hn10]; have := hlen2.out; omega
                  have hmem : ∀ y ∈ rs.take b ++ rs.drop B1, y ∈ rs := fun y hy => by
                    rcases List.mem_append.1 hy with h | h
                    · exact List.mem_of_mem_take h
                    · exact List.mem_of_mem_drop h
                  have hnewS : SelW w3 L N (.slice a10 n10 c10) v9 (rs.take b ++ rs.drop B1) (os ++ [z]) w10 := ⟨OwnK.base ho10 (Nat.zero_le _), ho9.kept hx910, fun y hy => hS.ok y (hmem y hy), fun y hy => by
                    rcases List.mem_append.1 hy with h | h
                    · exact hS.okO y h
                    · rw [List.mem_singleton.1 h]; exact hS.ok z (List.mem_of_getElem? hz.out), fun g' e e' => by
                    have h1 := (ho9.lt e).2
                    have h2 := (ho10.lt e').1
                    have h3 : w9.drew.heap.size = w9.heap.size := rfl
                    omega, hSel.out, by
                    have h1 := hlen2.out
                    have h4 : (os ++ [z]).length = os.length + 1 := by simp
                    rw [h4]; omega, hx9.trans hx910⟩
                  clear hmem
                  replace hnewS := Lib.hid hnewS
                  go_wp2_with fail
                  refine ⟨⟨_, _, hnewS.out⟩, ?_⟩
                  show n10 < nr
                  exact hn10
            · have hrs : rs = [] := List.eq_nil_of_length_eq_zero (by omega)
              subst hrs
              have hd0 : decide ((0 : Int) < (nr : Int)) = false := by simp; omega
              have hpos0 : nr = 0 := by omega
              have hDone := hS.sel.done
              have hext := hS.ext
              have hfo : OwnL w.heap.size wr u13 os := ⟨OwnK.base hS.ownO hxw3.le, fun y hy => (hS.okO y hy).ext hS.ext⟩
              subst hpos0
              replace hDone := Lib.hid hDone
              replace hnr := Lib.hid hnr
              clear hnN hlenS
              go_wp2_with fail
              go_ret2
              exact .inr ⟨trivial, L, hL.out, u13, os, by rw [h7.out]; rfl, hfo, fun _ => hDone.out, fun h => absurd h7.out h, hxw3.trans hext⟩
        · have hd7 : (sumE L != 0) = true := by simpa using h7
          rw [if_neg h7] at hk
          replace h7 := Lib.hid h7
          replace hL := Lib.hid hL
          go_wp2_with fail
          go_ret2
          exact .inr ⟨trivial, L, hL.out, _, [], rfl, OwnL.nil _ _, fun h => absurd h h7.out, fun _ => rfl, hxw3⟩
  · generalize askE l f t x x = er at *
    have hd : (er != 0) = true := by simpa using h0
    replace h0 := Lib.hid h0
    go_enter Try.func25, Try.ntmps25
    go_wp2_with fail
    have bx0 : (w.alloc (.cells #[.int .i64 x.kind, .int .u32 x.s.p.toNat, .int .u32 x.s.m.toNat] 39)).cell? ⟨w.heap.size, 0, none⟩ = some (.int .i64 x.kind) := by go_simp
    have bx1 : (w.alloc (.cells #[.int .i64 x.kind, .int .u32 x.s.p.toNat, .int .u32 x.s.m.toNat] 39)).cell? ⟨w.heap.size, 1, none⟩ = some (.int .u32 x.s.p.toNat) := by go_simp
    have bx2 : (w.alloc (.cells #[.int .i64 x.kind, .int .u32 x.s.p.toNat, .int .u32 x.s.m.toNat] 39)).cell? ⟨w.heap.size, 2, none⟩ = some (.int .u32 x.s.m.toNat) := by go_simp
    refine (hask _ hxC).mono ?_
    rintro e w1 ⟨rfl, hx1⟩
    have hxw1 : Ext w w1 := hxC.trans hx1
    have dx0 := hx1.cellv bx0
    have dx1 := hx1.cellv bx1
    have dx2 := hx1.cellv bx2
    have lx := cell_lt dx0
    simp only at lx
    clear hask bx0 bx1 bx2 hxC hx1
    generalize hBx : w.heap.size = Bx at *
    replace hBx := Lib.hid hBx
    go_wp2_with fail
    go_ret2
    exact .inl ⟨h0.out, rfl, hxw1⟩
end Go.Proofs.Ytkdancoffmhjhaa
