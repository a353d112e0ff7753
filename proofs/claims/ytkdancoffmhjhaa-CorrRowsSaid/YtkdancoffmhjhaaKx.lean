/-
  corr.Reflexes.
-/
import Derived.Test.YtkdancoffmhjhaaKu
import Derived.Test.YtkdancoffmhjhaaKw
namespace Go.Proofs.Ytkdancoffmhjhaa
open Go.RowKit Go.Shelf
/-- The list by count, the greatest first; of equal counts, the lesser cells. -/
def ByCnt (L L' : List (List Cl × Int)) : Prop := L'.Perm L ∧ L'.Pairwise (fun p q => cmpT p q < 0)
theorem byCnt_uniq {L A B : List (List Cl × Int)} (h : ByCnt L A) (h' : ByCnt L B) : A = B := by
  have hnd : ∀ {A : List (List Cl × Int)}, A.Pairwise (fun p q => cmpT p q < 0) → A.Pairwise (fun p q => cmpT p q < 0) := id
  have : ∀ {A B : List (List Cl × Int)}, A.Pairwise (fun p q => cmpT p q < 0) → B.Pairwise (fun p q => cmpT p q < 0) → (∀ x, x ∈ A ↔ x ∈ B) → A = B := by
    intro A
    induction A with
    | nil => intro B _ _ h; cases B with
      | nil => rfl
      | cons y B => exact absurd ((h y).2 List.mem_cons_self) (by simp)
    | cons x A ih =>
      intro B h1 h2 h
      cases B with
      | nil => exact absurd ((h x).1 List.mem_cons_self) (by simp)
      | cons y B =>
        obtain ⟨h3, h4⟩ := List.pairwise_cons.1 h1
        obtain ⟨h5, h6⟩ := List.pairwise_cons.1 h2
        have hxy : x = y := by
          rcases List.mem_cons.1 ((h x).1 List.mem_cons_self) with e | e
          · exact e
          · rcases List.mem_cons.1 ((h y).2 List.mem_cons_self) with e' | e'
            · exact e'.symm
            · have a := h3 y e'
              have b := h5 x e
              rw [cmpT_tot.anti x y] at b; omega
        subst hxy
        have hn : ∀ z ∈ A, z ≠ x := fun z hz e => by have := h3 z hz; rw [e, cmpT_tot.self] at this; omega
        have hn' : ∀ z ∈ B, z ≠ x := fun z hz e => by have := h5 z hz; rw [e, cmpT_tot.self] at this; omega
        rw [ih h4 h6 fun z => ⟨fun hz => (List.mem_cons.1 ((h z).1 (List.mem_cons_of_mem _ hz))).resolve_left (hn z hz), fun hz => (List.mem_cons.1 ((h z).2 (List.mem_cons_of_mem _ hz))).resolve_left (hn' z hz)⟩]
  exact this h.2 h'.2 fun x => h.1.mem_iff.trans h'.1.mem_iff.symm
theorem byCnt_of {L : List (List Cl × Int)} (hL : L.Pairwise (fun x y => cmpCs x.1 y.1 < 0)) {hs ts : List HCo} (hk : hs.map kp = L) (hp : ts.Perm hs) (hs2 : ts.Pairwise (fun x y => ¬ cmpT (kp y) (kp x) < 0)) : ByCnt L (ts.map kp) := by
  have hp2 : (ts.map kp).Perm L := hk ▸ hp.map _
  refine ⟨hp2, ?_⟩
  have hnd : (ts.map kp).Nodup := hp2.nodup_iff.2 (hL.imp fun {a b} h e => by rw [e, cmpCs_tot.self] at h; omega)
  have h2 : (ts.map kp).Pairwise (fun p q => ¬ cmpT q p < 0) := List.pairwise_map.2 hs2
  refine (h2.and hnd).imp fun {a b} ⟨h3, h4⟩ => ?_
  have := cmpT_tot.anti a b
  have : cmpT a b ≠ 0 := fun e => h4 (cmpT_tot.zero e)
  omega
theorem len_le {β : Type} [DecidableEq β] : ∀ (A B : List β), A.Nodup → (∀ x ∈ A, x ∈ B) → A.length ≤ B.length
  | [], _, _, _ => Nat.zero_le _
  | x :: A, B, hn, hs => by
    obtain ⟨h1, h2⟩ := List.nodup_cons.1 hn
    have hx := hs x List.mem_cons_self
    have := len_le A (B.erase x) h2 fun y hy => (List.mem_erase_of_ne (by rintro rfl; exact h1 hy)).2 (hs y (List.mem_cons_of_mem _ hy))
    rw [List.length_erase_of_mem hx] at this
    have := List.length_pos_of_mem hx
    simp only [List.length_cons]; omega
theorem SumK.len_le {l L : List (List Cl × Int)} (h : SumK cmpCs l L) : L.length ≤ l.length := by
  have := Go.Proofs.Ytkdancoffmhjhaa.len_le (L.map (·.1)) (l.map (·.1)) (List.pairwise_map.2 (h.1.imp fun {a b} h e => by rw [e, cmpCs_tot.self] at h; omega)) (fun x hx => by
    obtain ⟨y, hy, rfl⟩ := List.mem_map.1 hx
    obtain ⟨_, z, hz, e⟩ := h.2.1 y hy
    exact List.mem_map.2 ⟨z, hz, e⟩)
  simpa using this
/-- What Reflexes hands back. -/
def ReflRet (l : List HCo) (f t : Int) (x : Cl) (w : World) (e : Ending) (w' : World) : Prop :=
  (askE l f t x x ≠ 0 ∧ e = .returned (.tuple #[.slice none 0 0, .int .i64 (askE l f t x x)]) ∧ Ext w w') ∨
  (askE l f t x x = 0 ∧ ∃ L, SumK cmpCs ((facL f.toNat t.toNat x l).map kp) L ∧ ∃ v hs, e = .returned (.tuple #[v, .int .i64 (sumE L)]) ∧ OwnL w.heap.size w' v hs ∧ (sumE L = 0 → ByCnt L (hs.map kp)) ∧ (sumE L ≠ 0 → hs = []) ∧ Ext w w')
set_option maxHeartbeats 400000 in
set_option maxRecDepth 20000 in
theorem reflexes_of {N : Nat} (hst : StabC N) (a : Option Addr) (n cap : Nat) (l : List HCo) (f t : Int) (x : Cl) (w : World) (hr : RdH w a n cap l) (hN : askE l f t x x = 0 → l.length ≤ N) :
    Calls Try.prog 24 #[.slice a n cap, .int .i64 f, .int .i64 t, clV x] w (ReflRet l f t x w) := by
  unfold ReflRet
  have hC := OwnK.rdc (k := 3) Cl.len (lit_own Cl.len (w.alloc (.cells #[.int .i64 x.kind, .int .u32 x.s.p.toNat, .int .u32 x.s.m.toNat] 39)) 39 [x] #[.int .i64 x.kind, .int .u32 x.s.p.toNat, .int .u32 x.s.m.toNat] rfl (n := 1) rfl (by decide))
  rw [World.size_alloc] at hC
  have hxC : Ext w ((w.alloc (.cells #[.int .i64 x.kind, .int .u32 x.s.p.toNat, .int .u32 x.s.m.toNat] 39)).alloc (.cells #[.int .i64 x.kind, .int .u32 x.s.p.toNat, .int .u32 x.s.m.toNat] 39)) := (by repeat (first | exact Ext.refl _ | refine Ext.drew ?_ | refine Ext.drewN ?_ _ | refine Ext.alloc ?_ _))
  have hask := ask_any a n cap l f t (some ⟨w.heap.size + 1, 0, none⟩) 1 1 [x] _ (hr.ext hxC) hC
  rw [askC_one] at hask
  by_cases h0 : askE l f t x x = 0
  · obtain ⟨hE, hf1, hf2, ht1, ht2, _⟩ := askE_zero h0
    obtain ⟨fn, rfl⟩ : ∃ fn : Nat, f = fn := ⟨f.toNat, by omega⟩
    obtain ⟨tn, rfl⟩ : ∃ tn : Nat, t = tn := ⟨t.toNat, by omega⟩
    obtain ⟨hlim, hcor⟩ := chkE_all hE
    have hfl : [l].flatten = l := by simp
    rw [hfl] at hcor
    have hlen := (hlim l (by simp)).1
    have hwid : ∀ z ∈ l, fn < z.n ∧ tn < z.n := fun z hz => by have := (hcor z hz).1; omega
    have hcnt : ∀ z ∈ l, 0 ≤ z.cnt ∧ z.cnt ≤ 2147483647 := fun z hz => by have := hcor z hz; omega
    have hkin : ∀ z ∈ l, ∀ c ∈ z.x, c.ok = true := fun z hz c hc => List.all_eq_true.1 (hcor z hz).2.2.2 c hc
    have hNl := hN h0
    have hfl2 : (facL fn tn x l).length ≤ l.length := by unfold facL; rw [List.length_map]; exact List.length_filter_le _ _
    have hyy : ∀ W, Ext w W → ∀ z ∈ facL fn tn x l, RdC W z.a z.n z.cap z.x ∧ z.n ≤ 64 ∧ (∀ c ∈ z.x, 0 ≤ c.kind ∧ c.kind < 256) ∧ 0 ≤ z.cnt ∧ z.cnt ≤ 2147483647 := fun W hW z hz => by
      obtain ⟨r1, r2, y, hy, r3, r4, r5⟩ := facL_rd (hr.ext hW) (fun y hy => (hwid y hy).2) z hz
      refine ⟨r1, by omega, fun c hc => ?_, by rw [r3]; exact (hcnt y hy).1, by rw [r3]; exact (hcnt y hy).2⟩
      rw [r5] at hc
      rw [List.mem_singleton.1 hc]
      exact cl_kind (hkin y hy _ (List.mem_of_getElem? r4))
    replace hask := cint hask h0
    rw [h0, Int.toNat_natCast, Int.toNat_natCast]
    replace h0 := Lib.hid h0
    replace hwid := Lib.hid hwid
    replace hyy := Lib.hid hyy
    replace hNl := Lib.hid hNl
    replace hfl2 := Lib.hid hfl2
    replace hlen := Lib.hid hlen
    clear hN hE hlim hcor hfl hcnt hkin hf1 hf2 ht1 ht2
    go_enter Try.func24, Try.ntmps24
    go_wp2_with fail
    have bx0 : ((w.alloc (.cells #[.int .i64 x.kind, .int .u32 x.s.p.toNat, .int .u32 x.s.m.toNat] 39)).alloc (.cells #[.int .i64 x.kind, .int .u32 x.s.p.toNat, .int .u32 x.s.m.toNat] 39)).cell? ⟨w.heap.size, 0, none⟩ = some (.int .i64 x.kind) := by go_simp
    have bx1 : ((w.alloc (.cells #[.int .i64 x.kind, .int .u32 x.s.p.toNat, .int .u32 x.s.m.toNat] 39)).alloc (.cells #[.int .i64 x.kind, .int .u32 x.s.p.toNat, .int .u32 x.s.m.toNat] 39)).cell? ⟨w.heap.size, 1, none⟩ = some (.int .u32 x.s.p.toNat) := by go_simp
    have bx2 : ((w.alloc (.cells #[.int .i64 x.kind, .int .u32 x.s.p.toNat, .int .u32 x.s.m.toNat] 39)).alloc (.cells #[.int .i64 x.kind, .int .u32 x.s.p.toNat, .int .u32 x.s.m.toNat] 39)).cell? ⟨w.heap.size, 2, none⟩ = some (.int .u32 x.s.m.toNat) := by go_simp
    refine hask.mono ?_
    rintro e w1 ⟨rfl, hx1⟩
    have hxw1 : Ext w w1 := hxC.trans hx1
    have dx0 := hx1.cellv bx0
    have dx1 := hx1.cellv bx1
    have dx2 := hx1.cellv bx2
    have lx := cell_lt dx0
    simp only at lx
    clear hask hC bx0 bx1 bx2 hxC hx1
    have hfi := callsIn_wide.1 (facing_in 9 a n cap l fn tn x w1 (hr.ext hxw1))
    go_wp2_with fail
    refine hfi.mono ?_
    rintro e w3 ⟨rfl, hF3, hx3, hz3⟩
    have hit := iter_facing hF3 hwid.out
    have hxw3 := hxw1.trans hx3
    have hcs := csum_any _ _ (enters_of Try.func81 (by kernel_rfl) rfl) (facL fn tn x l) w3 (by have := hfl2.out; have := hlen.out; omega) (hyy.out w3 hxw3) hit
    clear hfi hit hF3 hx3 hz3
    unfold SumG at hcs
    go_wp2_with fail
    refine hcs.mono ?_
    rintro e w4 ⟨L, hL, v, hs', rfl, hown', hk', hx4⟩
    obtain ⟨ao, no, co, hno, rfl, hro⟩ := OwnK.rdn HCo.len hown'.own
    have hxw4 := hxw3.trans hx4
    have hfin : Calls Try.prog 53 #[.slice ao no co, .func (.func 54) #[] #[]] w4 fun en w' => en = .returned (.tuple #[]) ∧ ∃ ts : List HCo, OwnL w.heap.size w' (.slice ao no co) ts ∧ (sumE L = 0 → ByCnt L (ts.map kp)) ∧ (sumE L ≠ 0 → ts = []) ∧ Ext w w' := by
      by_cases hz : no = 0
      · subst hz
        have hh : hs' = [] := List.eq_nil_of_length_eq_zero hno.symm
        subst hh
        refine (stab_none ao co _ w4).mono ?_
        rintro e w' ⟨rfl, rfl⟩
        refine ⟨rfl, [], OwnL.base hown'.to hxw3.le, fun h => ?_, fun _ => rfl, hxw4⟩
        rw [if_pos h] at hk'
        rw [← hk']; exact ⟨List.Perm.refl _, List.Pairwise.nil⟩
      · have h7 : sumE L = 0 := by
          refine Decidable.byContradiction fun h => hz ?_
          rw [if_neg h] at hk'
          rw [hno, List.map_eq_nil_iff.1 hk']; rfl
        rw [if_pos h7] at hk'
        obtain ⟨g, cp, he⟩ := OwnK.hdr hown'.own (by omega)
        cases he
        have hln : hs'.length ≤ N := by
          have h1 := SumK.len_le hL
          rw [← hk', List.length_map, List.length_map] at h1
          have := hfl2.out; have := hNl.out; omega
        refine (hst hx4 hown' (by have := hL.1; rw [← hk'] at this; exact List.pairwise_map.1 this) hln).mono ?_
        rintro e w' ⟨rfl, hx', hO, ts, r1, r2, r3⟩
        exact ⟨rfl, ts, OwnL.base r3.to hxw3.le, fun _ => byCnt_of hL.1 hk' r1 r2, fun h => absurd h7 h, hxw3.trans hx'⟩
    clear hro hno hown' hk'
    go_wp2_with fail
    refine hfin.mono ?_
    rintro e w5 ⟨rfl, ts, r1, r2, r3, hx5⟩
    replace r2 := Lib.hid r2
    replace r3 := Lib.hid r3
    go_wp2_with fail
    go_ret2
    exact .inr ⟨trivial, L, hL, _, ts, rfl, r1, r2.out, r3.out, hx5⟩
  · generalize askE l f t x x = er at *
    clear hN
    have hd : (er != 0) = true := by simpa using h0
    replace h0 := Lib.hid h0
    go_enter Try.func24, Try.ntmps24
    go_wp2_with fail
    have bx0 : ((w.alloc (.cells #[.int .i64 x.kind, .int .u32 x.s.p.toNat, .int .u32 x.s.m.toNat] 39)).alloc (.cells #[.int .i64 x.kind, .int .u32 x.s.p.toNat, .int .u32 x.s.m.toNat] 39)).cell? ⟨w.heap.size, 0, none⟩ = some (.int .i64 x.kind) := by go_simp
    have bx1 : ((w.alloc (.cells #[.int .i64 x.kind, .int .u32 x.s.p.toNat, .int .u32 x.s.m.toNat] 39)).alloc (.cells #[.int .i64 x.kind, .int .u32 x.s.p.toNat, .int .u32 x.s.m.toNat] 39)).cell? ⟨w.heap.size, 1, none⟩ = some (.int .u32 x.s.p.toNat) := by go_simp
    have bx2 : ((w.alloc (.cells #[.int .i64 x.kind, .int .u32 x.s.p.toNat, .int .u32 x.s.m.toNat] 39)).alloc (.cells #[.int .i64 x.kind, .int .u32 x.s.p.toNat, .int .u32 x.s.m.toNat] 39)).cell? ⟨w.heap.size, 2, none⟩ = some (.int .u32 x.s.m.toNat) := by go_simp
    refine hask.mono ?_
    rintro e w1 ⟨rfl, hx1⟩
    have hxw1 : Ext w w1 := hxC.trans hx1
    have dx0 := hx1.cellv bx0
    have dx1 := hx1.cellv bx1
    have dx2 := hx1.cellv bx2
    have lx := cell_lt dx0
    simp only at lx
    clear hask hC bx0 bx1 bx2 hxC hx1
    go_wp2_with fail
    go_ret2
    exact .inl ⟨h0.out, rfl, hxw1⟩
end Go.Proofs.Ytkdancoffmhjhaa
