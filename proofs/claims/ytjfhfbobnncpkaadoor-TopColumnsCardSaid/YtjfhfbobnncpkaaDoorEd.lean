/-
  multi.cell, multi.Cells: the cells of an alignment.
-/
import Derived.Test.YtjfhfbobnncpkaaDoorEb
import Derived.Test.YtjfhfbobnncpkaaDoorKc2
import Derived.Test.YtjfhfbobnncpkaaDoorOh
namespace Go.Proofs.YtjfhfbobnncpkaaDoor
open Go.RowKit
/-! ### How many columns there are -/
def sumF (f : Nat → Nat) : Nat → Nat
  | 0 => 0
  | n + 1 => sumF f n + f n
theorem sumF_le {f g : Nat → Nat} : ∀ {n : Nat}, (∀ k, k < n → f k ≤ g k) → sumF f n ≤ sumF g n
  | 0, _ => Nat.le_refl _
  | n + 1, h => Nat.add_le_add (sumF_le fun k hk => h k (by omega)) (h n (by omega))
theorem sumF_add {f g : Nat → Nat} : ∀ {n : Nat}, sumF (fun k => f k + g k) n = sumF f n + sumF g n
  | 0 => rfl
  | n + 1 => by simp only [sumF]; rw [sumF_add]; omega
theorem sumF_one {f : Nat → Nat} : ∀ {n k : Nat}, k < n → 1 ≤ f k → 1 ≤ sumF f n
  | n + 1, k, h, h1 => by
    simp only [sumF]
    by_cases e : k = n
    · subst e; omega
    · have := sumF_one (f := f) (n := n) (k := k) (by omega) h1; omega
theorem sumF_const (c : Nat) : ∀ n, sumF (fun _ => c) n = n * c
  | 0 => by simp [sumF]
  | n + 1 => by simp only [sumF]; rw [sumF_const c n, Nat.succ_mul]
theorem cntG_cons (c : List Int) (C : List (List Int)) (k : Nat) : cntG (c :: C) k = (if c.getD k (-1) = -1 then 0 else 1) + cntG C k := by
  unfold cntG
  by_cases e : c.getD k (-1) = -1
  · rw [if_pos e, List.filter_cons_of_neg (by simpa using e), Nat.zero_add]
  · rw [if_neg e, List.filter_cons_of_pos (by simpa using e), List.length_cons, Nat.add_comm]
theorem cols_le (n : Nat) : ∀ C : List (List Int), (∀ c ∈ C, ∃ k, k < n ∧ c.getD k (-1) ≠ -1) → C.length ≤ sumF (fun k => cntG C k) n
  | [], _ => Nat.zero_le _
  | c :: C, h => by
    obtain ⟨k, hk, hc⟩ := h c List.mem_cons_self
    have h1 := cols_le n C fun d hd => h d (List.mem_cons_of_mem _ hd)
    have h2 : sumF (fun k => cntG (c :: C) k) n = sumF (fun k => if c.getD k (-1) = -1 then 0 else 1) n + sumF (fun k => cntG C k) n := by
      rw [← sumF_add]; congr 1; funext k; exact cntG_cons c C k
    have h3 := sumF_one (f := fun k => if c.getD k (-1) = -1 then 0 else 1) hk (by rw [if_neg hc]; exact Nat.le_refl _)
    rw [h2, List.length_cons]; omega
theorem al_cols {ns : List Nat} {C : List (List Int)} (h : AlP ns C) (hn : ns.length ≤ 8) (h32 : ∀ (k v : Nat), ns[k]? = some v → v ≤ 32) : C.length ≤ 256 := by
  have h1 := cols_le ns.length C fun c hc => by
    obtain ⟨i, hi⟩ := List.getElem?_of_mem hc
    exact (h.1 i c hi).2.1
  have h2 := sumF_le (f := fun k => cntG C k) (g := fun _ => 32) (n := ns.length) fun k hk => by
    have := h.2 k ns[k] (List.getElem?_eq_getElem hk)
    have := h32 k ns[k] (List.getElem?_eq_getElem hk)
    show cntG C k ≤ 32
    omega
  rw [sumF_const] at h2
  omega
/-- What an alignment that is in order has. -/
theorem chkM_zero {l : List HS} {cs : List HI} (hx : ∀ y ∈ l, y.x.length = y.n) (h : chkM l cs = 0) : AlP (l.map HS.n) (cs.map HI.x) ∧ l.length ≤ 8 ∧ (∀ y ∈ l, y.n ≤ 32) ∧ cs.length ≤ 256 := by
  unfold chkM at h
  split at h
  · rename_i h1; exact absurd h h1
  · rename_i h1
    split at h
    · rename_i h2
      have h3 := alB_iff.1 h2
      obtain ⟨h4, h5⟩ := wordsE_len (Decidable.byContradiction h1)
      have h6 : ∀ y ∈ l, y.n ≤ 32 := fun y hy => by rw [← hx y hy]; exact (checkS_zero (firstE_zero h5 y hy)).1
      have h7 := al_cols h3 (by rw [List.length_map]; exact h4) fun k v hv => by
        rw [List.getElem?_map] at hv
        cases hy : l[k]? with
        | none => rw [hy] at hv; cases hv
        | some y => rw [hy] at hv; cases hv; exact h6 y (List.mem_of_getElem? hy)
      rw [List.length_map] at h7
      exact ⟨h3, h4, h6, h7⟩
    · cases h
/-- An entry of a column is a gap or the place of a sound. -/
theorem al_at {l : List HS} {C : List (List Int)} (h : AlP (l.map HS.n) C) {j k : Nat} {c : List Int} {y : HS} (hc : C[j]? = some c) (hy : l[k]? = some y) : c.length = l.length ∧ (c.getD k (-1) = -1 ∨ (c.getD k (-1) = (cntG (C.take j) k : Int) ∧ cntG (C.take j) k < y.n)) := by
  obtain ⟨h1, h2, h3⟩ := h.1 j c hc
  rw [List.length_map] at h1 h3
  refine ⟨h1, ?_⟩
  have hk := (List.getElem?_eq_some_iff.1 hy).1
  by_cases e : c.getD k (-1) = -1
  · exact .inl e
  · have h4 := (h3 k hk).resolve_left e
    refine .inr ⟨h4, ?_⟩
    have h5 := cntG_succ hc k
    rw [if_neg e] at h5
    have h6 := cntG_mono (cols := C) k (show j + 1 ≤ C.length from (List.getElem?_eq_some_iff.1 hc).1)
    rw [List.take_length] at h6
    have h7 := h.2 k y.n (by rw [List.getElem?_map, hy]; rfl)
    omega
/-! ### multi.cell -/
def nulSnd : Snd := ⟨0#32, 0#32⟩
/-- The cell of a word in a column. -/
def cellOf (xs : List Snd) (x : Int) : Cl := if x = -1 then ⟨1, ⟨0#32, 0#32⟩⟩ else ⟨2, xs.getD x.toNat nulSnd⟩
theorem cell_any (a : Option Addr) (n cap : Nat) (xs : List Snd) (x : Int) (w : World) (hr : RdS w a n cap xs) (hx : x = -1 ∨ (0 ≤ x ∧ x < n)) :
    Calls Tryd.prog 34 #[.slice a n cap, .int .i64 x] w fun e w' => e = .returned (clV (cellOf xs x)) ∧ Ext w w' := by
  by_cases h1 : x = -1
  · have hv : cellOf xs x = ⟨1, ⟨0#32, 0#32⟩⟩ := by unfold cellOf; rw [if_pos h1]
    rw [hv]
    have d1 : (x == -1) = true := by simpa using h1
    replace h1 := Lib.hid h1
    replace hv := Lib.hid hv
    replace hx := Lib.hid hx
    go_enter Tryd.func34, Tryd.ntmps34
    go_wp2_with fail
    exact bodyPost_ret (results_cell_row rfl _ _ w.heap.size _ _ (0, 0) _ rfl (World.alloc_heap_new w _) Tryd.underlying50 rfl (by kernel_rfl)) rfl ⟨rfl, (by repeat (first | exact Ext.refl _ | assumption | refine Ext.drew ?_ | refine Ext.drewN ?_ _ | refine Ext.alloc ?_ _ | refine Ext.trans ?_ (by assumption)))⟩
  · obtain ⟨h2, h3⟩ := hx.resolve_left h1
    obtain ⟨i, rfl⟩ : ∃ i : Nat, x = i := ⟨x.toNat, by omega⟩
    have hin : i < n := by omega
    obtain ⟨b, off, s, rfl, hs, hb, hc0, hc1⟩ := hr.snd hin
    have hv : cellOf xs i = ⟨2, s⟩ := by unfold cellOf; rw [if_neg h1, Int.toNat_natCast, List.getD_eq_getElem?_getD, hs]; rfl
    rw [hv]
    have d1 : ((i : Int) == -1) = false := by simp
    replace h1 := Lib.hid h1
    replace hv := Lib.hid hv
    go_enter Tryd.func34, Tryd.ntmps34
    go_wp2_with fail
    exact bodyPost_ret (results_cell_row rfl _ _ w.heap.size _ _ (0, 0) _ rfl (World.alloc_heap_new w _) Tryd.underlying50 rfl (by kernel_rfl)) rfl ⟨rfl, (by repeat (first | exact Ext.refl _ | assumption | refine Ext.drew ?_ | refine Ext.drewN ?_ _ | refine Ext.alloc ?_ _ | refine Ext.trans ?_ (by assumption)))⟩
/-! ### multi.Cells -/
/-- The cells of a column. -/
def rowM (l : List HS) (c : List Int) : List Cl := (l.zip c).map fun p => cellOf p.1.x p.2
theorem rowM_succ {l : List HS} {c : List Int} {k : Nat} {y : HS} {x : Int} (hy : l[k]? = some y) (hx : c[k]? = some x) : (rowM l c).take (k + 1) = (rowM l c).take k ++ [cellOf y.x x] :=
  take_succ_at (by unfold rowM; rw [List.getElem?_map, (List.getElem?_zip_eq_some (z := (y, x))).2 ⟨hy, hx⟩]; rfl)
theorem HW.len (h : HW) : (HW.enc h).length = 1 := rfl
theorem HW.one (h : HW) : ∀ u ∈ HW.enc h, u.oneCell' = true := by intro u hu; simp [HW.enc] at hu; subst hu; rfl
theorem info_hw : (Tryd.prog.info? 43).map (fun i => (i.zero, i.size, i.bytes)) = some (some (.slice none 0 0), 1, 24) := by kernel_rfl
/-- A list of rows of cells that the call owns, rows and all. -/
structure OwnHW (B : Nat) (w : World) (v : Value) (hs : List HW) : Prop where
  own : OwnK 1 HW.enc B 43 w v hs
  ok : ∀ h ∈ hs, OwnC B 50 w (.slice h.a h.n h.cap) h.x
theorem OwnHW.kept {B : Nat} {w w' : World} {v : Value} {hs : List HW} (h : OwnHW B w v hs) (hx : Ext w w') : OwnHW B w' v hs := ⟨h.own.kept hx, fun y hy => (h.ok y hy).kept hx⟩
theorem OwnHW.base {B B' : Nat} {w : World} {v : Value} {hs : List HW} (h : OwnHW B w v hs) (hB : B' ≤ B) : OwnHW B' w v hs := ⟨OwnK.base h.own hB, fun y hy => OwnK.base (h.ok y hy) hB⟩
theorem OwnHW.nil (B : Nat) (w : World) : OwnHW B w (.slice none 0 0) [] := ⟨OwnK.nil _ _ _, fun y hy => by cases hy⟩
/-- What multi.Cells hands back. -/
def MCRet (l : List HS) (cs : List HI) (w : World) (e : Ending) (w' : World) : Prop :=
  ∃ v hs, e = .returned (.tuple #[v, .int .i64 (chkM l cs)]) ∧ OwnHW w.heap.size w' v hs ∧ hs.map HW.x = (if chkM l cs = 0 then cs.map (fun c => rowM l c.x) else []) ∧ Ext w w'
set_option maxHeartbeats 4000000 in
set_option maxRecDepth 20000 in
theorem mcells_any (a : Option Addr) (n cap : Nat) (l : List HS) (b : Option Addr) (m cap2 : Nat) (cs : List HI) (w : World) (hr : RdW w a n cap l) (hs : RdN2 w b m cap2 cs) :
    Calls Tryd.prog 22 #[.slice a n cap, .slice b m cap2] w (MCRet l cs w) := by
  have hck := mcheck_any a n cap l b m cap2 cs w hr hs
  have hl := hr.rd.len
  have hl2 := hs.rd.len
  unfold MCRet
  by_cases h0 : chkM l cs = 0
  · obtain ⟨hal, hn8, h32, hm⟩ := chkM_zero (fun y hy => (hr.ok y hy).len) h0
    rw [hl] at hn8
    rw [hl2] at hm
    rw [if_pos h0]
    have hb0 : (chkM l cs != 0) = false := by simpa using h0
    rw [h0] at hck ⊢
    replace h0 := Lib.hid h0
    have hat := fun (j k : Nat) (c : List Int) (y : HS) (h1 : (cs.map HI.x)[j]? = some c) (h2 : l[k]? = some y) => al_at hal h1 h2
    replace hat := Lib.hid hat
    have hlenc : Hid (∀ (j : Nat) (c : List Int), (cs.map HI.x)[j]? = some c → c.length = n) := Lib.hid fun j c h => by
      have := (hal.1 j c h).1
      rwa [List.length_map, hl] at this
    replace hl := Lib.hid hl
    replace hl2 := Lib.hid hl2
    clear hal hb0
    go_enter Tryd.func22, Tryd.ntmps22
    go_wp2_with fail
    refine hck.mono ?_
    rintro e w1 ⟨rfl, hx1⟩
    clear hck
    go_wp2_with fail
    go_loopw [7, 21] (fun v i wr => ∃ (j : Nat) (hs' : List HW), j ≤ m ∧ i = .int .i64 j ∧ OwnHW w.heap.size wr v hs' ∧ Hid (hs'.map HW.x = (cs.take j).map (fun c => rowM l c.x)) ∧ Hid (hs'.length = j) ∧ Ext w wr) (fun _ i _ => m - (intOf i).toNat)
    case atStart => exact ⟨0, [], Nat.zero_le _, rfl, OwnHW.nil _ _, Lib.hid rfl, Lib.hid rfl, hx1⟩
    case round =>
      obtain ⟨j, hs', hj, rfl, hown, hk', hln, hx⟩ := hrel
      by_cases hlt : j < m
      · have hji : (j : Int) < (m : Int) := by omega
        obtain ⟨b1, o1, ⟨ya, yn, yc, yx⟩, rfl, hy, hb1, hc0, hcy⟩ := (hs.ext hx).at hlt
        simp only at hc0 hcy
        have hcj : Hid ((cs.map HI.x)[j]? = some yx) := Lib.hid (by rw [List.getElem?_map, hy.out]; rfl)
        have hsu := Lib.hid (take_succ_at hy.out)
        have hyl := hcy.len
        have hyn : yn = n := by
          have := hlenc.out j yx hcj.out
          omega
        subst hyn
        replace hyl := Lib.hid hyl
        obtain ⟨wo, rfl⟩ : ∃ wo : World, wo = wr := ⟨_, rfl⟩
        go_wp2_with fail
        go_loopw [10, 27] (fun v q wr => ∃ q' : Nat, q' ≤ yn ∧ q = .int .i64 q' ∧ OwnC wo.heap.size 50 wr v ((rowM l yx).take q') ∧ Ext wo wr) (fun _ q _ => yn - (intOf q).toNat)
        case atStart => exact ⟨0, Nat.zero_le _, rfl, by rw [List.take_zero]; exact OwnK.nil _ _ _, Ext.refl _⟩
        case round =>
          obtain ⟨q, hq, rfl, hrow, hxq⟩ := hrel
          by_cases hqn : q < yn
          · have hqi : (q : Int) < (yn : Int) := by omega
            obtain ⟨b2, o2, x, rfl, hxx, hb2, p0⟩ := (hcy.ext hxq).i64 hqn
            obtain ⟨b3, o3, ⟨za, zn, zc, zx⟩, rfl, hz, hb3, p1, hcz⟩ := (hr.ext (hx.trans hxq)).at hqn
            simp only at p1 hcz
            have hxg : yx.getD q (-1) = x := by rw [List.getD_eq_getElem?_getD, hxx.out]; rfl
            have hxr : x = -1 ∨ (0 ≤ x ∧ x < zn) := by
              have h5 := (hat.out j q yx _ hcj.out hz.out).2
              rw [hxg] at h5
              rcases h5 with h | ⟨h, h'⟩
              · exact .inl h
              · exact .inr ⟨by omega, by simp only at h'; omega⟩
            have hcell := cell_any za zn zc zx x wr hcz hxr
            have hnew := Lib.hid (rowM_succ hz.out hxx.out)
            have hql : Hid (((rowM l yx).take q).length = q) := Lib.hid (by
              have h1 : (rowM l yx).length = min l.length yx.length := by unfold rowM; rw [List.length_map, List.length_zip]
              rw [List.length_take, h1, hl.out, hyl.out]; omega)
            replace hxr := Lib.hid hxr
            replace hxg := Lib.hid hxg
            generalize hK : cellOf zx x = kc at *
            replace hK := Lib.hid hK
            go_wp2_with fail
            refine hcell.mono ?_
            rintro e w2 ⟨rfl, hx2⟩
            clear hcell
            go_wp2_with (at_builtin; refine wp_app1 wo w2 kc rfl _ _ 43 rfl 50 Tryd.underlying43 info_cl rfl (by decide) _ _ rfl (hrow.kept hx2) (hxq.trans hx2) rfl (Cl.len kc) (Cl.one kc) (by rw [hql.out]; omega) (by rw [hql.out]; unfold maxLen; omega) ?_; intro v3 w3 ho3 hx3 _)
            (first | exact ⟨⟨q + 1, by omega, by go_num, by rw [hnew.out]; simpa only [hK.out] using ho3, hx3⟩, (by simp [intOf]; omega)⟩ | (go_roundw; case rel => exact ⟨q + 1, by omega, by go_num, by rw [hnew.out]; simpa only [hK.out] using ho3, hx3⟩; case measure => exact (by simp [intOf]; omega)))
          · obtain rfl : q = yn := by omega
            have hfull : (rowM l yx).take q = rowM l yx := List.take_of_length_le (by unfold rowM; rw [List.length_map, List.length_zip, hl.out, hyl.out]; omega)
            rw [hfull] at hrow
            obtain ⟨a3, n3, c3, hn3, rfl, hr3⟩ := OwnK.rdn Cl.len hrow
            have hownw := hown.kept hxq
            have hxw := hx.trans hxq
            replace hn3 := Lib.hid hn3
            replace hfull := Lib.hid hfull
            clear hr3
            go_wp2_with (at_builtin; refine wp_app1 w wr (⟨a3, n3, c3, rowM l yx⟩ : HW) rfl _ _ 27 rfl 43 Tryd.underlying27 info_hw rfl (by decide) _ _ rfl hownw.own hxw rfl (HW.len _) (HW.one _) (by rw [hln.out]; omega) (by rw [hln.out]; unfold maxLen; omega) ?_; intro v4 w4 ho4 hx4 hg4)
            have hsA := Ext.alloc1 wr (.cells #[.slice a3 n3 c3] 43)
            have hb4 := OwnK.blk' (hownw.own.kept hsA)
            have hnew : OwnHW w.heap.size w4 v4 (hs' ++ [⟨a3, n3, c3, rowM l yx⟩]) := ⟨ho4, fun u hu => by
              rcases List.mem_append.1 hu with h | h
              · exact ((hownw.ok u h).kept hsA).other hg4 hb4 (by decide)
              · rw [List.mem_singleton.1 h]; exact (OwnK.base (hrow.kept hsA) hx.le).other hg4 hb4 (by decide)⟩
            have hk2 : Hid ((hs' ++ [(⟨a3, n3, c3, rowM l yx⟩ : HW)]).map HW.x = (cs.take (j + 1)).map (fun c => rowM l c.x)) := Lib.hid (by rw [hsu.out, List.map_append, List.map_append, hk'.out]; rfl)
            have hln2 : Hid ((hs' ++ [(⟨a3, n3, c3, rowM l yx⟩ : HW)]).length = j + 1) := Lib.hid (by rw [List.length_append, hln.out]; rfl)
            (first | exact ⟨⟨j + 1, _, by omega, by go_num, hnew, hk2, hln2, hx4⟩, (by simp [intOf]; omega)⟩ | (go_roundw; case rel => exact ⟨j + 1, _, by omega, by go_num, hnew, hk2, hln2, hx4⟩; case measure => exact (by simp [intOf]; omega)))
      · obtain rfl : j = m := by omega
        have hfin : hs'.map HW.x = cs.map (fun c => rowM l c.x) := by
          have := hk'.out
          rwa [List.take_of_length_le (by rw [hl2.out]; exact Nat.le_refl _)] at this
        replace hfin := Lib.hid hfin
        go_wp2_with fail
        go_ret2
        exact ⟨_, hs', rfl, hown, hfin.out, hx⟩
  · have hb0 : (chkM l cs != 0) = true := by simpa using h0
    rw [if_neg h0]
    generalize chkM l cs = E at *
    replace h0 := Lib.hid h0
    replace hl := Lib.hid hl
    replace hl2 := Lib.hid hl2
    go_enter Tryd.func22, Tryd.ntmps22
    go_wp2_with fail
    refine hck.mono ?_
    rintro e w1 ⟨rfl, hx1⟩
    clear hck
    go_wp2_with fail
    go_ret2
    exact ⟨_, [], rfl, OwnHW.nil _ _, rfl, hx1⟩
end Go.Proofs.YtjfhfbobnncpkaaDoor
