/-
  corr.Cells: the columns of an entry's alignment.
  corr.Cells: the walk.
-/
import Derived.Test.YtjfhfbobnncpkaaDoorEd
namespace Go.Proofs.YtjfhfbobnncpkaaDoor
open Go.RowKit
/-! ### Forms and their places -/
def HF.hs (f : HF) : HS := ⟨f.a, f.n, f.cap, f.x⟩
/-- The words of the forms that are known. -/
def wordsOf (fs : List HF) : List HS := (fs.filter HF.has).map HF.hs
/-- How many forms before i are known. -/
def rk (fs : List HF) (i : Nat) : Nat := (wordsOf (fs.take i)).length
theorem wordsOf_succ {fs : List HF} {j : Nat} {f : HF} (h : fs[j]? = some f) : wordsOf (fs.take (j + 1)) = wordsOf (fs.take j) ++ if f.has = true then [f.hs] else [] := by
  unfold wordsOf
  rw [take_succ_at h, List.filter_append, List.map_append]
  by_cases e : f.has = true
  · rw [if_pos e, List.filter_cons_of_pos e]; rfl
  · rw [if_neg e, List.filter_cons_of_neg e]; rfl
theorem rk_succ {fs : List HF} {j : Nat} {f : HF} (h : fs[j]? = some f) : rk fs (j + 1) = rk fs j + if f.has = true then 1 else 0 := by
  unfold rk
  rw [wordsOf_succ h, List.length_append]
  split <;> rfl
theorem rk_le (fs : List HF) (i : Nat) : rk fs i ≤ i := by
  unfold rk wordsOf
  rw [List.length_map]
  exact Nat.le_trans (List.length_filter_le _ _) (by rw [List.length_take]; omega)
theorem rk_mono {fs : List HF} {i j : Nat} (h : i ≤ j) : rk fs i ≤ rk fs j := by
  unfold rk wordsOf
  rw [List.length_map, List.length_map]
  exact List.Sublist.length_le (List.Sublist.filter _ (List.take_sublist_take_left h))
theorem rk_full (fs : List HF) : rk fs fs.length = (wordsOf fs).length := by unfold rk; rw [List.take_length]
theorem rk_lt {fs : List HF} {i : Nat} {f : HF} (h : fs[i]? = some f) (hf : f.has = true) : rk fs i < (wordsOf fs).length := by
  have h1 := rk_succ h
  rw [if_pos hf] at h1
  have h2 := rk_mono (fs := fs) (show i + 1 ≤ fs.length from (List.getElem?_eq_some_iff.1 h).1)
  rw [rk_full] at h2; omega
theorem rk_inj {fs : List HF} {i j : Nat} {f g : HF} (h : fs[i]? = some f) (hf : f.has = true) (h' : fs[j]? = some g) (hg : g.has = true) (e : rk fs i = rk fs j) : i = j := by
  have h1 := rk_succ h
  have h2 := rk_succ h'
  rw [if_pos hf] at h1
  rw [if_pos hg] at h2
  rcases Nat.lt_trichotomy i j with hl | hl | hl
  · have := rk_mono (fs := fs) (show i + 1 ≤ j by omega); omega
  · exact hl
  · have := rk_mono (fs := fs) (show j + 1 ≤ i by omega); omega
theorem wordsOf_at {fs : List HF} {i : Nat} {f : HF} (h : fs[i]? = some f) (hf : f.has = true) : (wordsOf fs)[rk fs i]? = some f.hs := by
  have h1 : wordsOf fs = wordsOf (fs.take (i + 1)) ++ wordsOf (fs.drop (i + 1)) := by
    unfold wordsOf; rw [← List.map_append, ← List.filter_append, List.take_append_drop]
  rw [h1, wordsOf_succ h, if_pos hf, List.append_assoc]
  unfold rk
  rw [List.getElem?_append_right (Nat.le_refl _), Nat.sub_self]; rfl
/-- No cell. -/
def noC : Cl := ⟨0, ⟨0#32, 0#32⟩⟩
/-- The cells of all forms, of those of the words. -/
def rowF (fs : List HF) (row : List Cl) : List Cl := fs.mapIdx fun i f => if f.has = true then row.getD (rk fs i) noC else noC
theorem rowF_at (fs : List HF) (row : List Cl) (i : Nat) : (rowF fs row)[i]? = (fs[i]?).map fun f => if f.has = true then row.getD (rk fs i) noC else noC := by
  unfold rowF; rw [List.getElem?_mapIdx]
theorem rowF_len (fs : List HF) (row : List Cl) : (rowF fs row).length = fs.length := by unfold rowF; rw [List.length_mapIdx]
/-- What is asked of an entry's forms. -/
def formE (fs : List HF) : Int := if 64 < fs.length then 12 else if fs.any (fun f => !f.has && decide (0 < f.n)) = true then 2 else 0
noncomputable def cellsE (fs : List HF) (cs : List HI) : Int := if formE fs ≠ 0 then formE fs else chkM (wordsOf fs) cs
noncomputable def cellsL (fs : List HF) (cs : List HI) : List (List Cl) := if cellsE fs cs = 0 then cs.map (fun c => rowF fs (rowM (wordsOf fs) c.x)) else []
/-- What Cells hands back. -/
def CellsRet (fs : List HF) (cs : List HI) (w : World) (e : Ending) (w' : World) : Prop :=
  ∃ v hs, e = .returned (.tuple #[v, .int .i64 (cellsE fs cs)]) ∧ OwnHW w.heap.size w' v hs ∧ hs.map HW.x = cellsL fs cs ∧ Ext w w'
/-! ### An own row of cells, set -/
theorem set_three {β : Type} (l : List β) (j : Nat) (a b c : β) (h : j + 2 < l.length) : ((l.set j a).set (j + 1) b).set (j + 2) c = l.take j ++ [a, b, c] ++ l.drop (j + 3) := by
  rw [set_two l j a b (by omega)]
  have e : l.drop (j + 2) = l[j + 2] :: l.drop (j + 3) := List.drop_eq_getElem_cons h
  rw [e, List.append_assoc, List.append_assoc, List.set_append_right _ _ (by rw [List.length_take]; omega), List.length_take]
  have e2 : j + 2 - min j l.length = 2 := by omega
  rw [e2]; rfl
theorem OwnC.set {B g n cap : Nat} {e : TypeId} {w : World} {xs : List Cl} (h : OwnC B e w (.slice (some ⟨g, 0, none⟩) n cap) xs) {i : Nat} (hi : i < n) (y : Cl) :
    OwnC B e (((w.setCell ⟨g, i * 3, none⟩ (.int .i64 y.kind)).setCell ⟨g, i * 3 + 1, none⟩ (.int .u32 y.s.p.toNat)).setCell ⟨g, i * 3 + 2, none⟩ (.int .u32 y.s.m.toNat)) (.slice (some ⟨g, 0, none⟩) n cap) (xs.set i y) := by
  have hl := (OwnK.ge h).2.2.1
  subst hl
  have h1 := (World.ownsRow.stored h (i * 3) (.int .i64 y.kind)).1
  have h2 := (World.ownsRow.stored h1 (i * 3 + 1) (.int .u32 y.s.p.toNat)).1
  have h3 := (World.ownsRow.stored h2 (i * 3 + 2) (.int .u32 y.s.m.toNat)).1
  rw [set_three _ _ _ _ _ (by rw [length_flatMap_enc Cl.len]; omega)] at h3
  unfold OwnC OwnK
  rw [List.length_set, flat_set Cl.len xs i y hi]
  exact h3
theorem OwnC.frz {B g n cap : Nat} {e : TypeId} {w : World} {xs : List Cl} (h : OwnC B e w (.slice (some ⟨g, 0, none⟩) n cap) xs) :
    (∀ i, w.frozen? ⟨g, i, none⟩ = false) ∧ (∀ i (j : Nat) v, (w.setCell ⟨g, j, none⟩ v).frozen? ⟨g, i, none⟩ = false) ∧ (∀ i (j j' : Nat) v v', ((w.setCell ⟨g, j, none⟩ v).setCell ⟨g, j', none⟩ v').frozen? ⟨g, i, none⟩ = false) := by
  obtain ⟨cur, hg⟩ := OwnK.blk h (g := g) rfl
  exact frz3 hg
theorem info_hs : (Tryd.prog.info? 34).map (fun i => (i.zero, i.size, i.bytes)) = some (some (.slice none 0 0), 1, 24) := by kernel_rfl
end Go.Proofs.YtjfhfbobnncpkaaDoor
namespace Go.Proofs.YtjfhfbobnncpkaaDoor
open Go.RowKit
/-- The places of the known forms. -/
def KnP (fs : List HF) (j : Nat) (kn : List Int) : Prop := kn.length = rk fs j ∧ ∀ (k : Nat) (v : Int), kn[k]? = some v → ∃ (i : Nat) (f : HF), v = i ∧ i < j ∧ fs[i]? = some f ∧ f.has = true ∧ rk fs i = k
theorem KnP.skip {fs : List HF} {j : Nat} {kn : List Int} {f : HF} (h : KnP fs j kn) (hf : fs[j]? = some f) (hh : f.has = false) : KnP fs (j + 1) kn := by
  refine ⟨by rw [rk_succ hf, if_neg (by rw [hh]; simp), h.1]; rfl, fun k v hk => ?_⟩
  obtain ⟨i, g, h1, h2, h3⟩ := h.2 k v hk
  exact ⟨i, g, h1, by omega, h3⟩
theorem KnP.more {fs : List HF} {j : Nat} {kn : List Int} {f : HF} (h : KnP fs j kn) (hf : fs[j]? = some f) (hh : f.has = true) : KnP fs (j + 1) (kn ++ [(j : Int)]) := by
  refine ⟨by rw [rk_succ hf, if_pos hh, List.length_append, h.1]; rfl, fun k v hk => ?_⟩
  by_cases e : k < kn.length
  · rw [List.getElem?_append_left e] at hk
    obtain ⟨i, g, h1, h2, h3⟩ := h.2 k v hk
    exact ⟨i, g, h1, by omega, h3⟩
  · have hl := (List.getElem?_eq_some_iff.1 hk).1
    rw [List.length_append, List.length_singleton] at hl
    have hk2 : k = kn.length := by omega
    subst hk2
    rw [List.getElem?_append_right (Nat.le_refl _), Nat.sub_self] at hk
    cases hk
    exact ⟨j, f, rfl, by omega, hf, hh, h.1.symm⟩
/-- What stands in a row while it is filled. -/
def RowP (fs : List HF) (row : List Cl) (k : Nat) (cl : List Cl) : Prop := cl.length = fs.length ∧ ∀ (i : Nat) (f : HF), fs[i]? = some f → cl[i]? = some (if f.has = true ∧ rk fs i < k then row.getD (rk fs i) noC else noC)
theorem RowP.start (fs : List HF) (row : List Cl) {n : Nat} (hn : fs.length = n) : RowP fs row 0 (List.replicate n noC) := ⟨by rw [List.length_replicate, hn], fun i f hf => by
  rw [List.getElem?_replicate, if_pos (by have := (List.getElem?_eq_some_iff.1 hf).1; omega), if_neg (fun h => absurd h.2 (Nat.not_lt_zero _))]⟩
theorem RowP.set {fs : List HF} {row cl : List Cl} {k i : Nat} {f : HF} {c : Cl} (h : RowP fs row k cl) (hf : fs[i]? = some f) (hh : f.has = true) (hk : rk fs i = k) (hc : row[k]? = some c) : RowP fs row (k + 1) (cl.set i c) := by
  refine ⟨by rw [List.length_set, h.1], fun j g hg => ?_⟩
  rw [List.getElem?_set]
  by_cases e : i = j
  · subst e
    have hgf : g = f := Option.some.inj (hg.symm.trans hf)
    subst hgf
    rw [if_pos rfl, if_pos (by rw [h.1]; exact (List.getElem?_eq_some_iff.1 hf).1), if_pos ⟨hh, by omega⟩, hk, List.getD_eq_getElem?_getD, hc]; rfl
  · rw [if_neg e, h.2 j g hg]
    by_cases hj : g.has = true ∧ rk fs j < k
    · rw [if_pos hj, if_pos ⟨hj.1, by omega⟩]
    · rw [if_neg hj, if_neg]
      rintro ⟨h1, h2⟩
      have h3 : rk fs j = k := by
        refine Decidable.byContradiction fun h4 => hj ⟨h1, ?_⟩
        omega
      exact e (rk_inj hf hh hg h1 (by omega))
theorem RowP.done {fs : List HF} {row cl : List Cl} {k : Nat} (h : RowP fs row k cl) (hk : k = (wordsOf fs).length) : cl = rowF fs row := by
  apply List.ext_getElem?
  intro i
  rw [rowF_at]
  cases hf : fs[i]? with
  | none => rw [Option.map_none, List.getElem?_eq_none]; rw [h.1]; exact List.getElem?_eq_none_iff.1 hf
  | some f =>
    rw [h.2 i f hf, Option.map_some]
    by_cases hh : f.has = true
    · rw [if_pos hh, if_pos ⟨hh, by rw [hk]; exact rk_lt hf hh⟩]
    · rw [if_neg hh, if_neg (fun h => hh h.1)]
theorem formE_bad {fs : List HF} {i : Nat} {f : HF} (h64 : ¬ 64 < fs.length) (hf : fs[i]? = some f) (hh : f.has = false) (hn : 0 < f.n) : formE fs = 2 := by
  unfold formE
  rw [if_neg h64, if_pos]
  exact List.any_eq_true.2 ⟨f, List.mem_of_getElem? hf, by rw [hh]; simpa using hn⟩
theorem formE_ok {fs : List HF} (h64 : ¬ 64 < fs.length) (h : ∀ (i : Nat) (f : HF), fs[i]? = some f → f.has = true ∨ f.n = 0) : formE fs = 0 := by
  unfold formE
  rw [if_neg h64, if_neg]
  rw [Bool.not_eq_true, List.any_eq_false]
  intro f hf
  obtain ⟨i, hi⟩ := List.getElem?_of_mem hf
  rcases h i f hi with h1 | h1
  · rw [h1]; simp
  · rw [h1]; simp
def F0 (fs : List HF) (j : Nat) : Prop := ∀ (i : Nat) (f : HF), i < j → fs[i]? = some f → f.has = true ∨ f.n = 0
theorem F0.succ {fs : List HF} {j : Nat} {f : HF} (h : F0 fs j) (hf : fs[j]? = some f) (h2 : f.has = true ∨ f.n = 0) : F0 fs (j + 1) := fun i g hi hg => by
  by_cases e : i = j
  · subst e; rw [hf] at hg; cases hg; exact h2
  · exact h i g (by omega) hg
theorem cellsRet_err {fs : List HF} {cs : List HI} {w w' : World} {E : Int} (hE : cellsE fs cs = E) (hL : cellsL fs cs = []) (hx : Ext w w') : CellsRet fs cs w (.returned (.tuple #[.slice none 0 0, .int .i64 E])) w' := ⟨_, [], by rw [hE], OwnHW.nil _ _, hL.symm, hx⟩
set_option maxHeartbeats 4000000 in
set_option maxRecDepth 20000 in
theorem cells_any (g : ByteArray) (a : Option Addr) (n cap : Nat) (fs : List HF) (b : Option Addr) (m cap2 : Nat) (cs : List HI) (w : World) (hr : RdF w a n cap fs) (hs : RdN2 w b m cap2 cs) :
    Calls Tryd.prog 11 #[.agg #[.string g, .slice a n cap], .slice b m cap2] w (CellsRet fs cs w) := by
  have hl := hr.rd.len
  have hmax : n ≤ 9223372036854775807 := by have := hr.rd.le; have := hr.rd.most; unfold maxLen at this; omega
  have q1 : (w.alloc (.cells #[.string g, .slice a n cap] 31)).cell? ⟨w.heap.size, 1, none⟩ = some (.slice a n cap) := by go_simp
  have hxB : Ext w (w.alloc (.cells #[.string g, .slice a n cap] 31)) := (by repeat (first | exact Ext.refl _ | refine Ext.drew ?_ | refine Ext.drewN ?_ _ | refine Ext.alloc ?_ _))
  by_cases h64 : n ≤ 64
  · have d64 : decide ((64 : Int) < (n : Int)) = false := by simp; omega
    have hmk : ∀ W : World, (Instr.makeSlice 43 (.int .i64 (n : Int)) (.int .i64 (n : Int))).run Tryd.prog W = .ok (.slice (some ⟨W.heap.size, 0, none⟩) n n) (W.alloc (.cells (madeCells #[.int .i64 0, .int .u32 0, .int .u32 0] (n * 3)) 50)) := fun W => run_mk (P := Tryd.prog) 43 Tryd.underlying43 info_cl n (by omega) (by decide) W
    have hown0 : ∀ W : World, OwnC W.heap.size 50 (W.alloc (.cells (madeCells #[.int .i64 0, .int .u32 0, .int .u32 0] (n * 3)) 50)) (.slice (some ⟨W.heap.size, 0, none⟩) n n) (List.replicate n noC) := fun W => made_own Cl.len (by decide) W 50 #[.int .i64 0, .int .u32 0, .int .u32 0] noC rfl n (by omega)
    replace hown0 := Lib.hid hown0
    replace hl := Lib.hid hl
    go_enter Tryd.func11, Tryd.ntmps11
    go_wp2_with fail
    generalize (w.alloc (.cells #[.string g, .slice a n cap] 31)) = wB at *
    go_loopw [6, 7, 25] (fun vl vk i wr => ∃ (j : Nat) (ls : List HS) (kn : List Int), j ≤ n ∧ i = .int .i64 j ∧ OwnK 1 HS.enc wB.heap.size 34 wr vl ls ∧ OwnI wB.heap.size 3 wr vk kn ∧ Hid (ls = wordsOf (fs.take j)) ∧ Hid (ls.length ≤ j) ∧ Hid (kn.length ≤ j) ∧ Hid (KnP fs j kn) ∧ Hid (F0 fs j) ∧ Ext wB wr) (fun _ _ i _ => n - (intOf i).toNat)
    case atStart => exact ⟨0, [], [], Nat.zero_le _, rfl, OwnK.nil _ _ _, OwnK.nil _ _ _, Lib.hid rfl, Lib.hid (Nat.le_refl _), Lib.hid (Nat.le_refl _), Lib.hid ⟨rfl, fun k v h => by simp at h⟩, Lib.hid (fun i f hi => absurd hi (Nat.not_lt_zero _)), Ext.refl _⟩
    case round =>
      obtain ⟨j, ls, kn, hj, rfl, hol, hok, hls, hll, hkl, hkn, hf0, hx⟩ := hrel
      by_cases hlt : j < n
      · have hji : (j : Int) < (n : Int) := by omega
        obtain ⟨b1, o1, ⟨fh, fa, fn, fc, fx⟩, rfl, hf, hb1, hc0, hc1, hcf⟩ := (hr.ext (hxB.trans hx)).at hlt
        simp only at hc0 hc1 hcf
        have hfmax : fn ≤ 9223372036854775807 := by have := hcf.le; have := hcf.most; unfold maxLen at this; omega
        have hsu := wordsOf_succ hf.out
        cases fh
        · by_cases hfn : 0 < fn
          · have d1 : decide ((0 : Int) < (fn : Int)) = true := by simp; omega
            have hE : cellsE fs cs = 2 := by
              have := formE_bad (by rw [hl.out]; omega) hf.out rfl hfn
              unfold cellsE; rw [this, if_pos (by decide)]
            have hL : cellsL fs cs = [] := by unfold cellsL; rw [hE, if_neg (by decide)]
            replace hE := Lib.hid hE
            replace hL := Lib.hid hL
            replace hsu := Lib.hid hsu
            go_wp2_with fail
            go_ret2
            exact cellsRet_err hE.out hL.out ((by repeat (first | exact Ext.refl _ | assumption | refine Ext.drew ?_ | refine Ext.drewN ?_ _ | refine Ext.alloc ?_ _ | refine Ext.trans ?_ (by assumption))))
          · have hfn0 : fn = 0 := by omega
            subst hfn0
            rw [if_neg (by simp)] at hsu
            have hls2 : Hid (ls = wordsOf (fs.take (j + 1))) := Lib.hid (by rw [hsu, List.append_nil]; exact hls.out)
            have hkn2 := Lib.hid (hkn.out.skip hf.out rfl)
            have hf2 := Lib.hid (hf0.out.succ hf.out (.inr rfl))
            replace hsu := Lib.hid hsu
            go_wp2_with fail
            (first | exact ⟨⟨j + 1, ls, kn, by omega, by go_num, hol.kept (by repeat (first | exact Ext.refl _ | assumption | refine Ext.drew ?_ | refine Ext.drewN ?_ _ | refine Ext.alloc ?_ _ | refine Ext.trans ?_ (by assumption))), hok.kept (by repeat (first | exact Ext.refl _ | assumption | refine Ext.drew ?_ | refine Ext.drewN ?_ _ | refine Ext.alloc ?_ _ | refine Ext.trans ?_ (by assumption))), hls2, Lib.hid (by have := hll.out; omega), Lib.hid (by have := hkl.out; omega), hkn2, hf2, (by repeat (first | exact Ext.refl _ | assumption | refine Ext.drew ?_ | refine Ext.drewN ?_ _ | refine Ext.alloc ?_ _ | refine Ext.trans ?_ (by assumption)))⟩, (by simp [intOf]; omega)⟩ | (go_roundw; case rel => exact ⟨j + 1, ls, kn, by omega, by go_num, hol.kept (by repeat (first | exact Ext.refl _ | assumption | refine Ext.drew ?_ | refine Ext.drewN ?_ _ | refine Ext.alloc ?_ _ | refine Ext.trans ?_ (by assumption))), hok.kept (by repeat (first | exact Ext.refl _ | assumption | refine Ext.drew ?_ | refine Ext.drewN ?_ _ | refine Ext.alloc ?_ _ | refine Ext.trans ?_ (by assumption))), hls2, Lib.hid (by have := hll.out; omega), Lib.hid (by have := hkl.out; omega), hkn2, hf2, (by repeat (first | exact Ext.refl _ | assumption | refine Ext.drew ?_ | refine Ext.drewN ?_ _ | refine Ext.alloc ?_ _ | refine Ext.trans ?_ (by assumption)))⟩; case measure => exact (by simp [intOf]; omega)))
        · rw [if_pos rfl] at hsu
          have hls2 : Hid (ls ++ [(⟨fa, fn, fc, fx⟩ : HS)] = wordsOf (fs.take (j + 1))) := Lib.hid (by rw [hsu, ← hls.out]; rfl)
          have hkn2 := Lib.hid (hkn.out.more hf.out rfl)
          have hf2 := Lib.hid (hf0.out.succ hf.out (.inl rfl))
          have hl1 := hll.out
          have hl2 := hkl.out
          replace hsu := Lib.hid hsu
          have hxF : Ext wr (wr.alloc (.cells #[.bool true, .slice fa fn fc] 36)) := Ext.alloc1 _ _
          go_wp2_with (first
            | (at_builtin; refine wp_app1 wB (wr.alloc (.cells #[.bool true, .slice fa fn fc] 36)) (⟨fa, fn, fc, fx⟩ : HS) rfl _ _ 53 rfl 34 Tryd.underlying53 info_hs rfl (by decide) _ _ rfl (hol.kept hxF) (hx.trans hxF) (by rw [World.size_alloc]; rfl) (HS.len _) (HS.one _) (by omega) (by unfold maxLen; omega) ?_; intro v4 w4 ho4 hx4 hg4; have hok4 := (((hok.kept hxF).kept (Ext.alloc1 _ _)).other hg4 (OwnK.blk' ((hol.kept hxF).kept (Ext.alloc1 _ _))) (by decide)))
            | (at_builtin; refine wp_app1 wB w4 (j : Int) rfl _ _ 28 rfl 3 Tryd.underlying28 info_int1 rfl (by decide) _ _ rfl hok4 hx4 rfl (I64.len _) (I64.one _) (by omega) (by unfold maxLen; omega) ?_; intro v5 w5 ho5 hx5 hg5; have ho45 := (ho4.kept (Ext.alloc1 _ _)).other hg5 (OwnK.blk' (hok4.kept (Ext.alloc1 _ _))) (by decide)))
          (first | exact ⟨⟨j + 1, _, _, by omega, by go_num, ho45, ho5, hls2, Lib.hid (by rw [List.length_append]; simp; omega), Lib.hid (by rw [List.length_append]; simp; omega), hkn2, hf2, hx5⟩, (by simp [intOf]; omega)⟩ | (go_roundw; case rel => exact ⟨j + 1, _, _, by omega, by go_num, ho45, ho5, hls2, Lib.hid (by rw [List.length_append]; simp; omega), Lib.hid (by rw [List.length_append]; simp; omega), hkn2, hf2, hx5⟩; case measure => exact (by simp [intOf]; omega)))
      · obtain rfl : j = n := by omega
        have hls2 : ls = wordsOf fs := by rw [hls.out, List.take_of_length_le (by rw [hl.out]; exact Nat.le_refl _)]
        subst hls2
        have hF0 : formE fs = 0 := formE_ok (by rw [hl.out]; omega) fun i f hi => hf0.out i f (by have := (List.getElem?_eq_some_iff.1 hi).1; rw [hl.out] at this; exact this) hi
        have hE : cellsE fs cs = chkM (wordsOf fs) cs := by unfold cellsE; rw [hF0, if_neg (by decide)]
        obtain ⟨al, nl, cl0, hnl, rfl, hrl⟩ := OwnK.rdn HS.len hol
        obtain ⟨ak, nk, ck, hnk, rfl, hrk⟩ := OwnK.rdn I64.len hok
        have hRW : RdW wr al nl cl0 (wordsOf fs) := ⟨hrl, fun h hh => by
          obtain ⟨f, hf, rfl⟩ := List.mem_map.1 hh
          exact (hr.ok f (List.mem_filter.1 hf).1).ext (hxB.trans hx)⟩
        have hmc := mcells_any al nl cl0 (wordsOf fs) b m cap2 cs wr hRW (hs.ext (hxB.trans hx))
        have hlen8 : ∀ y ∈ wordsOf fs, y.x.length = y.n := fun y hy => (hRW.ok y hy).len
        unfold MCRet at hmc
        have hnk2 : nk = (wordsOf fs).length := by
          rw [hnk, hkn.out.1]
          have := rk_full fs
          rwa [hl.out] at this
        replace hnl := Lib.hid hnl
        replace hnk := Lib.hid hnk
        replace hF0 := Lib.hid hF0
        by_cases h0 : chkM (wordsOf fs) cs = 0
        · obtain ⟨hal, hn8, h32, hm⟩ := chkM_zero hlen8 h0
          rw [if_pos h0, h0] at hmc
          have hL : cellsL fs cs = cs.map (fun c => rowF fs (rowM (wordsOf fs) c.x)) := by unfold cellsL; rw [hE, if_pos h0]
          have hrowl : ∀ c ∈ cs, (rowM (wordsOf fs) c.x).length = nk := fun c hc => by
            obtain ⟨i, hi⟩ := List.getElem?_of_mem hc
            have := (hal.1 i c.x (by rw [List.getElem?_map, hi]; rfl)).1
            rw [List.length_map] at this
            unfold rowM; rw [List.length_map, List.length_zip, this]; omega
          rw [← hnk2] at hn8
          replace hE := Lib.hid (hE.trans h0)
          replace h0 := Lib.hid h0
          replace hL := Lib.hid hL
          replace hrowl := Lib.hid hrowl
          replace hnk2 := Lib.hid hnk2
          clear hal h32 hlen8 hRW hrl hol hok hls hll hkl
          go_wp2_with fail
          refine hmc.mono ?_
          rintro e w2 ⟨v, hs', rfl, hown', hk', hx2⟩
          obtain ⟨a3, n3, c3, hn3, rfl, hr3⟩ := OwnK.rdn HW.len hown'.own
          have hn3m : n3 ≤ 256 := by
            have := congrArg List.length hk'
            rw [List.length_map, List.length_map] at this
            omega
          have hRH : RdHW w2 a3 n3 c3 hs' := ⟨hr3, fun h hh => OwnK.rdv Cl.len (hown'.ok h hh)⟩
          have hxw2 := (hxB.trans hx).trans hx2
          have hq2 := (hx.trans hx2).cellv q1
          have hrk2 := hrk.ext hx2
          have hrow' : ∀ (i : Nat) (y : HW), hs'[i]? = some y → y.n = nk := fun i y hy => by
            have h1 := hown'.ok y (List.mem_of_getElem? hy)
            have h2 : (hs'.map HW.x)[i]? = some y.x := by rw [List.getElem?_map, hy]; rfl
            rw [hk', List.getElem?_map] at h2
            cases hc : cs[i]? with
            | none => rw [hc] at h2; cases h2
            | some c =>
              rw [hc] at h2
              have h3 : rowM (wordsOf fs) c.x = y.x := Option.some.inj h2
              have h4 := hrowl.out c (List.mem_of_getElem? hc)
              rw [h3] at h4
              rw [← (OwnK.rdv Cl.len h1).len]; exact h4
          replace hrow' := Lib.hid hrow'
          replace hk' := Lib.hid hk'
          replace hn3 := Lib.hid hn3
          clear hmc hr3 hown' hrk q1
          go_wp2_with fail
          go_loopw [12, 59] (fun v i wr => ∃ (q : Nat) (hh : List HW), q ≤ n3 ∧ i = .int .i64 q ∧ OwnHW w2.heap.size wr v hh ∧ Hid (hh.map HW.x = (hs'.take q).map (fun h => rowF fs h.x)) ∧ Hid (hh.length = q) ∧ Ext w2 wr) (fun _ i _ => n3 - (intOf i).toNat)
          case atStart => exact ⟨0, [], Nat.zero_le _, rfl, OwnHW.nil _ _, Lib.hid rfl, Lib.hid rfl, Ext.refl _⟩
          case round =>
            obtain ⟨q, hh, hq, rfl, howh, hkh, hlh, hx3⟩ := hrel
            by_cases hqn : q < n3
            · have hqi : (q : Int) < (n3 : Int) := by omega
              obtain ⟨b3, o3, ⟨ya, yn, yc, yx⟩, rfl, hy, hb3, p0, hcy⟩ := (hRH.ext hx3).at hqn
              simp only at p0 hcy
              have hyn : yn = nk := hrow'.out q _ hy.out
              subst hyn
              have hsu := Lib.hid (take_succ_at hy.out)
              have hq3 := hx3.cellv hq2
              have hownc := hown0.out wr
              have hxC : Ext wr (wr.alloc (.cells (madeCells #[.int .i64 0, .int .u32 0, .int .u32 0] (j * 3)) 50)) := Ext.alloc1 _ _
              obtain ⟨wo, rfl⟩ : ∃ wo : World, wo = wr := ⟨_, rfl⟩
              have hGe : wo.heap.size ≤ wo.heap.size := Nat.le_refl _
              go_wp2_with fail
              generalize (wo.alloc (.cells (madeCells #[.int .i64 0, .int .u32 0, .int .u32 0] (j * 3)) 50)) = wC at *
              go_loopw [69] (fun i wr => ∃ (k : Nat) (cl : List Cl), k ≤ yn ∧ i = .int .i64 k ∧ OwnC wo.heap.size 50 wr (.slice (some ⟨wo.heap.size, 0, none⟩) j j) cl ∧ Hid (RowP fs yx k cl) ∧ Ext wo wr) (fun i _ => yn - (intOf i).toNat)
              case atStart => exact ⟨0, _, Nat.zero_le _, rfl, hownc, Lib.hid (RowP.start fs yx hl.out), hxC⟩
              case round =>
                obtain ⟨k, cl, hk, rfl, howc, hrp, hx4⟩ := hrel
                by_cases hkn2 : k < yn
                · have hki : (k : Int) < (yn : Int) := by omega
                  obtain ⟨b4, o4, v, rfl, hv, hb4, p1⟩ := (hrk2.ext (hx3.trans hx4)).i64 hkn2
                  obtain ⟨i, f, rfl, hij, hf, hfh, hrki⟩ := hkn.out.2 k v hv.out
                  obtain ⟨b5, o5, c, rfl, hc, hb5, r0, r1, r2⟩ := (hcy.ext hx4).cl hkn2
                  have hii : (i : Int) < (j : Int) := by omega
                  have hset := OwnC.set howc hij c
                  obtain ⟨f0, f1, f2⟩ := OwnC.frz howc
                  have hrp2 := Lib.hid (hrp.out.set hf hfh hrki hc.out)
                  have hx5 : Ext wo (((wr.setCell ⟨wo.heap.size, i * 3, none⟩ (.int .i64 c.kind)).setCell ⟨wo.heap.size, i * 3 + 1, none⟩ (.int .u32 c.s.p.toNat)).setCell ⟨wo.heap.size, i * 3 + 2, none⟩ (.int .u32 c.s.m.toNat)) := ((hx4.setCell (p := ⟨wo.heap.size, i * 3, none⟩) hGe _).setCell (p := ⟨wo.heap.size, i * 3 + 1, none⟩) hGe _).setCell (p := ⟨wo.heap.size, i * 3 + 2, none⟩) hGe _
                  obtain ⟨_, _, _, he, _, _, z0, z1, z2⟩ := (OwnK.rdc Cl.len howc).cl hij
                  cases he
                  simp only [Nat.zero_add] at z0 z1 z2
                  replace hf := Lib.hid hf
                  replace hfh := Lib.hid hfh
                  replace hrki := Lib.hid hrki
                  go_wp2_with fail
                  (first | exact ⟨⟨k + 1, _, by omega, by go_num, hset, hrp2, hx5⟩, (by simp [intOf]; omega)⟩ | (go_roundw; case rel => exact ⟨k + 1, _, by omega, by go_num, hset, hrp2, hx5⟩; case measure => exact (by simp [intOf]; omega)))
                · obtain rfl : k = yn := by omega
                  have hdone := hrp.out.done hnk2.out
                  subst hdone
                  have howw := howh.kept hx4
                  have hxw := hx3.trans hx4
                  go_wp2_with (at_builtin; refine wp_app1 w2 wr (⟨some ⟨wo.heap.size, 0, none⟩, j, j, rowF fs yx⟩ : HW) rfl _ _ 27 rfl 43 Tryd.underlying27 info_hw rfl (by decide) _ _ rfl howw.own hxw rfl (HW.len _) (HW.one _) (by rw [hlh.out]; omega) (by rw [hlh.out]; unfold maxLen; omega) ?_; intro v6 w6 ho6 hx6 hg6)
                  have hsA := Ext.alloc1 wr (.cells #[.slice (some ⟨wo.heap.size, 0, none⟩) j j] 43)
                  have hb6 := OwnK.blk' (howw.own.kept hsA)
                  have hnew : OwnHW w2.heap.size w6 v6 (hh ++ [⟨some ⟨wo.heap.size, 0, none⟩, j, j, rowF fs yx⟩]) := ⟨ho6, fun u hu => by
                    rcases List.mem_append.1 hu with h | h
                    · exact ((howw.ok u h).kept hsA).other hg6 hb6 (by decide)
                    · rw [List.mem_singleton.1 h]; exact (OwnK.base (howc.kept hsA) hx3.le).other hg6 hb6 (by decide)⟩
                  have hk2 : Hid ((hh ++ [(⟨some ⟨wo.heap.size, 0, none⟩, j, j, rowF fs yx⟩ : HW)]).map HW.x = (hs'.take (q + 1)).map (fun h => rowF fs h.x)) := Lib.hid (by rw [hsu.out, List.map_append, List.map_append, hkh.out]; rfl)
                  have hln2 : Hid ((hh ++ [(⟨some ⟨wo.heap.size, 0, none⟩, j, j, rowF fs yx⟩ : HW)]).length = q + 1) := Lib.hid (by rw [List.length_append, hlh.out]; rfl)
                  (first | exact ⟨⟨q + 1, _, by omega, by go_num, hnew, hk2, hln2, hx6⟩, (by simp [intOf]; omega)⟩ | (go_roundw; case rel => exact ⟨q + 1, _, by omega, by go_num, hnew, hk2, hln2, hx6⟩; case measure => exact (by simp [intOf]; omega)))
            · obtain rfl : q = n3 := by omega
              have hfin : hh.map HW.x = cellsL fs cs := by
                rw [hkh.out, List.take_of_length_le (by rw [hn3.out]; exact Nat.le_refl _), hL.out, show hs'.map (fun h => rowF fs h.x) = (hs'.map HW.x).map (rowF fs) by rw [List.map_map]; rfl, hk'.out, List.map_map]; rfl
              replace hfin := Lib.hid hfin
              go_wp2_with fail
              go_ret2
              exact ⟨_, hh, by rw [hE.out]; rfl, OwnHW.base howh hxw2.le, hfin.out, hxw2.trans hx3⟩
        · have hb0 : (chkM (wordsOf fs) cs != 0) = true := by simpa using h0
          have hL : cellsL fs cs = [] := by unfold cellsL; rw [hE, if_neg h0]
          rw [if_neg h0] at hmc
          generalize chkM (wordsOf fs) cs = E at *
          replace hE := Lib.hid hE
          replace hL := Lib.hid hL
          replace h0 := Lib.hid h0
          replace hnk2 := Lib.hid hnk2
          clear hlen8 hRW hrl hrk hol hok hls hll hkl
          go_wp2_with fail
          refine hmc.mono ?_
          rintro e w2 ⟨v, hs', rfl, hown', hk', hx2⟩
          clear hmc
          go_wp2_with fail
          go_ret2
          exact cellsRet_err hE.out hL.out ((hxB.trans hx).trans hx2)
  · have d64 : decide ((64 : Int) < (n : Int)) = true := by simp; omega
    have hE : cellsE fs cs = 12 := by
      have : formE fs = 12 := by unfold formE; rw [if_pos (by rw [hl]; omega)]
      unfold cellsE; rw [this, if_pos (by decide)]
    have hL : cellsL fs cs = [] := by unfold cellsL; rw [hE, if_neg (by decide)]
    replace hE := Lib.hid hE
    replace hL := Lib.hid hL
    replace h64 := Lib.hid h64
    replace hl := Lib.hid hl
    go_enter Tryd.func11, Tryd.ntmps11
    go_wp2_with fail
    go_ret2
    exact cellsRet_err hE.out hL.out hxB
end Go.Proofs.YtjfhfbobnncpkaaDoor
